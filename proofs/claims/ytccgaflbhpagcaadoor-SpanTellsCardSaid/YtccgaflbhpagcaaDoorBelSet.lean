/- A three stored in a row of the call's own. -/
import Derived.Test.YtccgaflbhpagcaaDoorAppL
namespace Go.Proofs.YtccgaflbhpagcaaDoor
open Go.ChangeShapes Go.WideShapes Go.ChangeAt Go.RowKit Sp
set_option linter.unusedVariables false
theorem flat_set : ∀ (xs : List (Int × Int × Int)) (k : Nat) (y : Int × Int × Int), k < xs.length →
    (((xs.flatMap tC).set (k * 3) (.int .i64 y.1)).set (k * 3 + 1) (.int .i64 y.2.1)).set (k * 3 + 2) (.int .i64 y.2.2) = (xs.set k y).flatMap tC
  | [], k, y, h => by simp at h
  | x :: r, 0, y, h => by simp [tC]
  | x :: r, k + 1, y, h => by
    have ih := flat_set r k y (by simpa using h)
    rw [List.set_cons_succ, List.flatMap_cons, List.flatMap_cons, ← ih, show (k + 1) * 3 = k * 3 + 3 by omega]
    simp [tC]
theorem OwnT.set3 {e : TypeId} {w : World} {base g c : Nat} {xs : List (Int × Int × Int)} (h : OwnT e w base (.slice (some ⟨g, 0, none⟩) xs.length c) xs) {k : Nat} (hk : k < xs.length) {y : Int × Int × Int} (hy : wf3 y.1 y.2.1 y.2.2) :
    OwnT e (((w.setCell ⟨g, k * 3, none⟩ (.int .i64 y.1)).setCell ⟨g, k * 3 + 1, none⟩ (.int .i64 y.2.1)).setCell ⟨g, k * 3 + 2, none⟩ (.int .i64 y.2.2)) base (.slice (some ⟨g, 0, none⟩) xs.length c) (xs.set k y) := by
  obtain ⟨⟨h1, h2⟩, h3⟩ := h
  rcases h2 with ⟨e1, _⟩ | ⟨g', cap, cur, e1, hb, hg, hn, hc, hs, ht⟩
  · cases e1
  · simp only [Value.slice.injEq, Option.some.injEq, Addr.mk.injEq, and_true] at e1
    obtain ⟨rfl, _, rfl⟩ := e1
    have a1 := heap_setCell_same w g (k * 3) _ _ (.int .i64 y.1) hg
    have a2 := heap_setCell_same _ g (k * 3 + 1) _ _ (.int .i64 y.2.1) a1
    have a3 := heap_setCell_same _ g (k * 3 + 2) _ _ (.int .i64 y.2.2) a2
    refine ⟨⟨by rw [tC_len], .inr ⟨g, c, _, by rw [List.length_set], hb, a3, by rw [List.length_set]; exact hn, hc, by simpa using hs, ?_⟩⟩, fun q hq => ?_⟩
    · rw [← flat_set xs k y hk, ← ht]
      simp [List.take_set]
    · rcases List.mem_or_eq_of_mem_set hq with hq | rfl
      · exact h3 q hq
      · exact hy
end Go.Proofs.YtccgaflbhpagcaaDoor
