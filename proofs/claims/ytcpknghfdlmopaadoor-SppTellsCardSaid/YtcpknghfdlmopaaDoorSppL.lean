/- waywardenlaw5.liked; the walk of the law SppNever. -/
import Derived.Test.YtcpknghfdlmopaaDoorSppH
namespace Go.Proofs.YtcpknghfdlmopaaDoor
open Go.ChangeShapes Go.WideShapes Go.ChangeAt Go.RowKit
set_option linter.unusedVariables false
set_option maxHeartbeats 400000 in
theorem liked_any (w : World) :
    Calls Tryd.prog 4 #[] w fun e w' => e = .returned (.bool true) ∧ Below w.heap.size w w' := by
  go_enter Tryd.func4, Tryd.ntmps4
  go_wp2_with fail
  refine (Run_any (likes := [[], [[1, 0]]]) (order := [1]) (by
    refine R1.alloc ?_ _
    refine R1.new (by simp) rfl (by decide) (all2 ⟨RdSlice.nil_, ?_, trivial⟩)
    refine R1.new (by simp) rfl (by decide) (all2 ⟨?_, trivial⟩)
    exact new_ints rfl rfl rfl (by decide) (by decide)) (by exact new_ints (by simp) rfl rfl (by decide) (by decide))).mono ?_
  rintro e w1 ⟨r, rfl, hr, hb1⟩
  have e1 : runF [[], [[1, 0]]] [1] = 0 := by decide
  have e2 : runV [[], [[1, 0]]] [1] = [[0], [1, 0]] := by decide
  rw [e1, errV_zero]
  rw [e2] at hr
  have hbw : Below w.heap.size w w1 := (((((Below.refl _ _).alloc (Nat.le_refl _) _).alloc (by simp) _).alloc (by simp; omega) _).alloc (by simp; omega) _).trans (hb1.mono (by simp; omega))
  have hz := hbw.size
  clear e1 e2 hb1
  go_wp2_with fail
  refine (Rows_v (m := [[0], [1, 0]]) (by exact R1.alloc (R1.alloc (R1.alloc hr _) _) _) (by
    refine R1.new (by simp) rfl (by decide) (all2 ⟨?_, ?_, trivial⟩)
    · refine R1.alloc ?_ _
      exact new_ints (by simp) rfl rfl (by decide) (by decide)
    · exact new_ints (by simp) rfl rfl (by decide) (by decide))).mono ?_
  rintro e w2 ⟨rfl, k, rfl⟩
  go_wp2
  go_ret
  exact ⟨rfl, below_drewN (((hbw.alloc hz _).alloc (by simp; omega) _).alloc (by simp; omega) _) _⟩
end Go.Proofs.YtcpknghfdlmopaaDoor
