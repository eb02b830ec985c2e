/- span: better. -/
import Derived.Test.YtccgaflbhpagcaaDoorSpanB
namespace Go.Proofs.YtccgaflbhpagcaaDoor
open Go.ChangeShapes Go.WideShapes Go.ChangeAt Go.RowKit Sp
set_option linter.unusedVariables false
abbrev bV (a b c : Int) : Value := .agg #[.int .i64 a, .int .i64 b, .int .i64 c]
def wf3 (a b c : Int) : Prop := (Lit.int .i64 a).wf = true ∧ (Lit.int .i64 b).wf = true ∧ (Lit.int .i64 c).wf = true
theorem ints3 {a b c : Int} (h : wf3 a b c) {w : World} {g : Nat} (hg : w.heap.size = g) {t : TypeId} :
    R1 (RdSlice 1 (rdInt .i64)) (w.alloc (.cells #[.int .i64 a, .int .i64 b, .int .i64 c] t)) (.slice (some ⟨g, 0, none⟩) 3 3) [a, b, c] := by
  refine new_ints hg rfl rfl (by unfold maxLen; omega) ?_
  intro q hq
  simp only [List.mem_cons, List.not_mem_nil, or_false] at hq
  rcases hq with rfl | rfl | rfl
  · exact h.1
  · exact h.2.1
  · exact h.2.2
set_option maxRecDepth 100000 in
theorem better_is {a b c x y z : Int} {r : Bool} (hr : lexB (a, b, c) (x, y, z) = r) (h1 : wf3 a b c) (h2 : wf3 x y z) (w : World) :
    Calls Tryd.prog 25 #[bV a b c, bV x y z] w fun e w' => e = .returned (.bool r) ∧ Below w.heap.size w w' := by
  have HR := Lib.hid ((cmpL_lex (a, b, c) (x, y, z)).trans hr)
  have H1 := Lib.hid h1
  have H2 := Lib.hid h2
  clear h1 h2 hr
  go_enter Tryd.func25, Tryd.ntmps25
  go_wp2_with (first
    | (go_at_call 29
       refine (Compare_any (l := [a, b, c]) (m := [x, y, z]) ((ints3 H1.out (by simp)).alloc _) (ints3 H2.out (by simp))).mono ?_
       rintro e w1 ⟨rfl, rfl⟩)
    | fail)
  go_ret
  exact ⟨by rw [← HR.out]; rfl, ((((Below.refl _ _).alloc (Nat.le_refl _) _).alloc (by simp) _).alloc (by simp; omega) _).alloc (by simp; omega) _⟩
end Go.Proofs.YtccgaflbhpagcaaDoor
