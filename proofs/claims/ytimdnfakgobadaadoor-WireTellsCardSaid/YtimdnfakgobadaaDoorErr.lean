/- plain.Told and waywardensame.Error. -/
import Derived.Test.YtimdnfakgobadaaDoorTold
import Derived.Test.YtimdnfakgobadaaDoorTypes
namespace Go.Proofs.YtimdnfakgobadaaDoor
open Go.ChangeShapes Go.WideShapes Go.ChangeAt Go.RowKit
set_option linter.unusedVariables false

set_option maxHeartbeats 400000 in
theorem Told_any (k : Int) (w : World) (hg : HErr w) :
    Calls Tryd.prog 21 #[errV k] w fun e w' => e = .returned (.int .i64 k) ∧ Below w.heap.size w w' := by
  by_cases h0 : k = 0
  · subst h0
    rw [errV_zero]
    go_enter Tryd.func21, Tryd.ntmps21
    go_wp2
    go_ret
    exact ⟨rfl, Below.refl _ _⟩
  · rw [errV_ne h0]
    have HG := Lib.hid (hg.below ((Below.refl _ _).alloc (Nat.le_refl _) (.cells #[.int .i64 0] 23)))
    clear h0 hg
    go_enter Tryd.func21, Tryd.ntmps21
    go_wp2_with fail
    refine (as_hit k ⟨w.heap.size, 0, none⟩ (.int .i64 0) _ HG.out (by simp) (by simp)).mono ?_
    rintro e w1 ⟨rfl, hw⟩
    have hb1 : Below w.heap.size w w1 := by
      rw [hw]
      exact ((((((Below.refl _ _).alloc (Nat.le_refl _) _).alloc (by simp) _).alloc (by simp; omega) _).alloc (by simp; omega) _).alloc (by simp; omega) _).setCell (by simp) _
    have hc : w1.cell? ⟨w.heap.size, 0, none⟩ = some (.int .i64 k) := by
      rw [hw]
      exact World.cell?_setCell_same _ _ _ (u := .int .i64 0) (by
        rw [World.cell?_alloc_lt _ _ _ (by simp; omega), World.cell?_alloc_lt _ _ _ (by simp; omega), World.cell?_alloc_lt _ _ _ (by simp; omega), World.cell?_alloc_lt _ _ _ (by simp)]
        simp)
    clear hw
    go_wp2
    go_ret
    exact ⟨rfl, hb1⟩

set_option maxHeartbeats 400000 in
theorem Error_any (k e : Int) (w : World) (hg : HErr w) :
    Calls Tryd.prog 9 #[errV k, .int .i64 e] w fun v w' => v = .returned (.bool (k == e)) ∧ Below w.heap.size w w' := by
  go_enter Tryd.func9, Tryd.ntmps9
  go_wp2_with fail
  refine (Told_any k _ hg).mono ?_
  rintro v w1 ⟨rfl, hb1⟩
  go_wp2
  go_ret
  exact ⟨rfl, hb1⟩
theorem error_is {k e : Int} {v : Value} {r : Bool} (hv : errV k = v) (h : (k == e) = r) (w : World) (hg : HErr w) :
    Calls Tryd.prog 9 #[v, .int .i64 e] w fun v w' => v = .returned (.bool r) ∧ Below w.heap.size w w' := by
  subst hv; subst h; exact Error_any k e w hg
end Go.Proofs.YtimdnfakgobadaaDoor
