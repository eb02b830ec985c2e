/- Rows of the own of threes: where they lie, what their cells hold. -/
import Derived.Test.YtccgaflbhpagcaaDoorBelSet
namespace Go.Proofs.YtccgaflbhpagcaaDoor
open Go.ChangeShapes Go.WideShapes Go.ChangeAt Go.RowKit Sp
set_option linter.unusedVariables false
theorem OwnT.some_ {e : TypeId} {w : World} {base : Nat} {v : Value} {xs : List (Int × Int × Int)} (h : OwnT e w base v xs) (h0 : 0 < xs.length) :
    ∃ g c, v = .slice (some ⟨g, 0, none⟩) xs.length c ∧ base ≤ g ∧ g < w.heap.size := by
  rcases h.1.2 with ⟨_, e1⟩ | ⟨g, cap, cur, e1, hb, hg, _⟩
  · omega
  · exact ⟨g, cap, e1, hb, size_of_block hg⟩
theorem OwnT.at_ {e : TypeId} {w : World} {base g n c : Nat} {xs : List (Int × Int × Int)} (h : OwnT e w base (.slice (some ⟨g, 0, none⟩) n c) xs) {k : Nat} {x : Int × Int × Int} (hx : xs[k]? = some x) :
    wf3 x.1 x.2.1 x.2.2 ∧ w.cell? ⟨g, k * 3, none⟩ = some (.int .i64 x.1) ∧ w.cell? ⟨g, k * 3 + 1, none⟩ = some (.int .i64 x.2.1) ∧ w.cell? ⟨g, k * 3 + 2, none⟩ = some (.int .i64 x.2.2) ∧
      w.frozen? ⟨g, k * 3, none⟩ = false ∧ w.frozen? ⟨g, k * 3 + 1, none⟩ = false ∧ w.frozen? ⟨g, k * 3 + 2, none⟩ = false := by
  have hk := (List.getElem?_eq_some_iff.1 hx).1
  refine ⟨h.2 x (List.mem_of_getElem? hx), ?_⟩
  rcases h.1.2 with ⟨e1, _⟩ | ⟨g', cap, cur, e1, hb, hg, hn, hc, hs, ht⟩
  · cases e1
  simp only [Value.slice.injEq, Option.some.injEq, Addr.mk.injEq, and_true] at e1
  obtain ⟨rfl, _, rfl⟩ := e1
  have hcell : ∀ j, j < 3 → w.cell? ⟨g, k * 3 + j, none⟩ = (tC x)[j]? := fun j hj => by
    rw [cell_of_row _ g _ _ _ (0, 0) hg, ← tC_at xs k j x hx hj, ← ht, List.getElem?_take_of_lt (by omega)]
    simp
  have hfr : ∀ j, j < 3 → w.frozen? ⟨g, k * 3 + j, none⟩ = false := fun j hj => frozen_of_row _ g _ _ _ hg
  exact ⟨hcell 0 (by omega), hcell 1 (by omega), hcell 2 (by omega), hfr 0 (by omega), hfr 1 (by omega), hfr 2 (by omega)⟩
theorem tC_inj : ∀ {xs ys : List (Int × Int × Int)}, xs.flatMap tC = ys.flatMap tC → xs = ys
  | [], [], _ => rfl
  | [], y :: r, h => by simp [tC] at h
  | x :: r, [], h => by simp [tC] at h
  | x :: r, y :: s, h => by
    rw [List.flatMap_cons, List.flatMap_cons] at h
    simp only [tC, List.cons_append, List.nil_append, List.cons.injEq, Value.int.injEq, true_and] at h
    obtain ⟨h1, h2, h3, h4⟩ := h
    rw [tC_inj h4]
    congr 1
    exact Prod.ext h1 (Prod.ext h2 h3)
theorem OwnT.inj {e : TypeId} {w : World} {base : Nat} {v : Value} {xs ys : List (Int × Int × Int)} (h : OwnT e w base v xs) (h' : OwnT e w base v ys) : xs = ys := by
  obtain ⟨A, c, rfl⟩ := own_form h.1
  obtain ⟨A', c', e1⟩ := own_form h'.1
  simp only [Value.slice.injEq] at e1
  obtain ⟨_, hlen, _⟩ := e1
  rcases h.1.2 with ⟨e1, e2⟩ | ⟨g, cap, cur, e1, _, hg, _, _, _, ht⟩
  · rw [List.length_eq_zero_iff.1 e2, List.length_eq_zero_iff.1 (hlen.symm.trans e2)]
  · rcases h'.1.2 with ⟨e3, e4⟩ | ⟨g', cap', cur', e3, _, hg', _, _, _, ht'⟩
    · rw [List.length_eq_zero_iff.1 e4, List.length_eq_zero_iff.1 (hlen.trans e4)]
    · simp only [Value.slice.injEq] at e1 e3
      have hgg : g' = g := by
        have := e1.1.symm.trans e3.1
        simp only [Option.some.injEq, Addr.mk.injEq] at this
        exact this.1.symm
      subst hgg
      rw [hg] at hg'
      injection hg' with hg'
      injection hg' with hg'
      subst hg'
      refine tC_inj ?_
      rw [← ht, ← ht', hlen]
theorem OwnT.setBelow {e : TypeId} {w : World} {base : Nat} {v : Value} {xs : List (Int × Int × Int)} (h : OwnT e w base v xs) {a : Addr} (ha : a.block < base) (u : Value) : OwnT e (w.setCell a u) base v xs := ⟨ownsRow_setCell_below h.1 ha u, h.2⟩
end Go.Proofs.YtccgaflbhpagcaaDoor
