/- The reference's Four and BytesOf. -/
import Derived.Test.YtimdnfakgobadaaDoorWireO
import Derived.Test.YtimdnfakgobadaaDoorNetR
namespace Go.Proofs.YtimdnfakgobadaaDoor
open Go.ChangeShapes Go.WideShapes Go.ChangeAt Go.RowKit
set_option linter.unusedVariables false
set_option linter.unusedSimpArgs false

theorem be4_cells (n : Int) (h0 : 0 ≤ n) (h1 : n ≤ 4294967295) :
    (#[.int .u8 (n / 16777216), .int .u8 (n / 65536 % 256), .int .u8 (n / 256 % 256), .int .u8 (n % 256)] : Array Value).toList = (be4 n).map (Value.int .u8) := by
  have e : n / 16777216 % 256 = n / 16777216 := by omega
  simp [be4, e]
set_option maxHeartbeats 400000 in
theorem Four_any (n : Int) (w : World) (h0 : 0 ≤ n) (h1 : n ≤ 4294967295) :
    Calls Tryd.prog 25 #[.int .u32 n] w fun e w' => ∃ A, e = .returned (.slice A 4 4) ∧ R1 rdBytes w' (.slice A 4 4) (be4 n) ∧ Below w.heap.size w w' := by
  go_enter Tryd.func25, Tryd.ntmps25
  go_wp2
  go_ret
  exact ⟨_, rfl, new_ints (k := .u8) rfl rfl (be4_cells n h0 h1) (by decide) (fun x hx => WalkArith.wf_u8 (byte_be4 n x hx)), (Below.refl _ _).alloc (Nat.le_refl _) _⟩
end Go.Proofs.YtimdnfakgobadaaDoor
