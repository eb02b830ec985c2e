/- Decode whole; wired. -/
import Derived.Test.YtimdnfakgobadaaDoorWireD
import Derived.Test.YtimdnfakgobadaaDoorWireH
import Derived.Test.YtimdnfakgobadaaDoorWireJ
import Derived.Test.YtimdnfakgobadaaDoorWireK
namespace Go.Proofs.YtimdnfakgobadaaDoor
open Go.ChangeShapes Go.WideShapes Go.ChangeAt Go.RowKit
set_option linter.unusedVariables false
set_option linter.unusedSimpArgs false

theorem Decode_any {w : World} {A : Option Addr} {n c : Nat} {l : List Int} (hr : R1 rdBytes w (.slice A n c) l) :
    Calls Tryd.prog 18 #[.slice A n c] w (DecPost l w) := by
  rcases Nat.lt_or_ge n 4 with h | h
  · exact Decode_short hr h
  · exact Decode_long hr h
/-- Decode, where it tells a message -/
theorem Decode_ok {w : World} {v : Value} {l : List Int} {m : Bool × List Entry} (hr : R1 rdBytes w v l) (hm : decM l = (m, 0)) :
    Calls Tryd.prog 18 #[v] w fun e w' => ∃ ve, e = .returned (.tuple #[.agg #[.bool m.1, ve], .nilIface]) ∧ R1 rdEntries w' ve m.2 ∧ Below w.heap.size w w' := by
  obtain ⟨A, c, rfl⟩ := R1.form hr
  refine (Decode_any hr).mono ?_
  rintro e w' ⟨q, ve, rfl, rfl, h1, h2⟩
  rw [hm] at h1
  exact ⟨ve, by rw [hm]; rfl, h1, h2⟩
/-- Decode, where it tells an error -/
theorem Decode_err {w : World} {v : Value} {l : List Int} {k : Int} (hr : R1 rdBytes w v l) (hm : decM l = ((false, []), k)) :
    Calls Tryd.prog 18 #[v] w fun e w' => ∃ ve, e = .returned (.tuple #[.agg #[.bool false, ve], errV k]) ∧ R1 rdEntries w' ve [] ∧ Below w.heap.size w w' := by
  obtain ⟨A, c, rfl⟩ := R1.form hr
  refine (Decode_any hr).mono ?_
  rintro e w' ⟨q, ve, rfl, rfl, h1, h2⟩
  rw [hm] at h1
  exact ⟨ve, by rw [hm], h1, h2⟩
set_option maxHeartbeats 400000 in
theorem wired_any (w : World) : Calls Tryd.prog 11 #[] w fun e w' => e = .returned (.bool true) ∧ Below w.heap.size w w' := by
  go_enter Tryd.func11, Tryd.ntmps11
  go_wp2_with (first
    | (go_at_call 15; refine (Encode_ok (q := true) (es := []) RdSlice.nil_ rfl).mono ?_; rintro e w1 ⟨v1, rfl, hr1, hb1⟩; obtain ⟨A1, c1, rfl⟩ := R1.form hr1; have hl1 : (msgB (true, [])).length = 4 := rfl; rw [hl1] at hr1 ⊢; have HB1 := Lib.hid hb1; clear hb1)
    | (go_at_call 16; refine (Bytes_eq (R1.alloc hr1 _) (new_ints (k := .u8) (n := 4) (xs := msgB (true, [])) rfl rfl rfl (by decide) (by decide))).mono ?_; rintro e w2 ⟨rfl, k2, rfl⟩)
    | fail)
  go_ret
  exact ⟨rfl, below_drewN (HB1.out.alloc HB1.out.size _) _⟩
end Go.Proofs.YtimdnfakgobadaaDoor
