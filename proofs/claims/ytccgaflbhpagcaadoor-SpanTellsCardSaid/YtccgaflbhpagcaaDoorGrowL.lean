/- slices.Grow of no links. -/
import Derived.Test.YtccgaflbhpagcaaDoorLinkRow
import Derived.Lib.AppendZeros
namespace Go.Proofs.YtccgaflbhpagcaaDoor
open Go.ChangeShapes Go.WideShapes Go.ChangeAt Go.RowKit Sp
set_option linter.unusedVariables false
theorem own_zeros (w : World) (n : Nat) (hn : n ≤ maxLen) (e : TypeId) (z : Array Value) (hz : z.size = 3) (W : World) (hW : W.heap = w.heap) :
    OwnT e (w.drew.alloc (.cells (Builtin.zeroCells z n ++ Builtin.zeroCells z (grownCap W n 0 e - n)) e)) w.heap.size (.slice (some ⟨w.heap.size, 0, none⟩) 0 (grownCap W n 0 e)) [] := by
  have h1 := grownCap_ge W n 0 e
  have h2 := grownCap_le_maxLen W n 0 e hn
  refine ⟨⟨rfl, .inr ⟨w.heap.size, _, _, rfl, Nat.le_refl _, heap_alloc_new w.drew _, Nat.zero_le _, h2, ?_, by simp⟩⟩, by simp⟩
  rw [Array.size_append, size_zeroCells, size_zeroCells, hz, ← Nat.add_mul, Nat.add_sub_cancel' h1]
set_option maxRecDepth 100000 in
theorem Grow0_any (n : Nat) (hn : n ≤ 5864062014000) (w : World) :
    Calls Tryd.prog 28 #[.slice none 0 0, .int .i64 n] w fun e w' => ∃ v, e = .returned v ∧ OwnT 29 w' w.heap.size v [] ∧ Below w.heap.size w w' := by
  obtain ⟨i0, hi, hz0, hz1, hz2⟩ := info_parts link_info
  have hnil := fun W => run_eq_nil (P := Tryd.prog) W none 0 0 Tryd.underlying22
  have hlt : ¬ ((n : Int) < 0) := by omega
  by_cases h0 : n = 0
  · subst h0
    go_enter Tryd.func28, Tryd.ntmps28
    go_wp2
    go_ret
    exact ⟨_, rfl, OwnT.nil_ _ _ _, Below.refl _ _⟩
  · have hp : 0 < n := by omega
    have hcap1 := grownCap_ge w n 0 29
    have hcap2 := grownCap_le_maxLen w n 0 29 (by unfold maxLen; omega)
    have hown := Lib.hid (own_zeros w n (by unfold maxLen; omega) 29 _ (by rfl) w rfl : OwnT _ (w.drew.alloc (.cells (Builtin.zeroCells (Value.agg #[.int .i64 0, .int .i64 0, .int .i64 0]).cells n ++ Builtin.zeroCells (Value.agg #[.int .i64 0, .int .i64 0, .int .i64 0]).cells (grownCap w n 0 29 - n)) 29)) _ _ _)
    have hrun := Go.Lib.run_append_nil_zeros (P := Tryd.prog) w 22 3 22 29 i0 _ .i64 .i64 Tryd.underlying22 Tryd.underlying3 hi hz0 n hp (by omega) (by omega) (by rw [hz2]; omega)
    obtain ⟨cap, hcap⟩ : ∃ cap, grownCap w n 0 29 = cap := ⟨_, rfl⟩
    rw [hcap] at hown hrun hcap1 hcap2
    have HRUN := Lib.hid hrun
    clear hrun hcap
    go_enter Tryd.func28, Tryd.ntmps28
    go_wp2_with (first
      | (at_builtin; go_loud (refine Go.Lib.wpList_append_run w rfl _ _ _ _ rfl _ _ rfl rfl _ _ HRUN.out ?_))
      | go_in)
    go_ret
    exact ⟨_, rfl, hown.out, ((Below.refl _ _).drew).alloc (Nat.le_refl _) _⟩
end Go.Proofs.YtccgaflbhpagcaaDoor
