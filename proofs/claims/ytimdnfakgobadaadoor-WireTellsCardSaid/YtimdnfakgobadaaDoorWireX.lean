/- MessageOf, plain: what is kept while its entries are read; its head. -/
import Derived.Test.YtimdnfakgobadaaDoorWireI
import Derived.Test.YtimdnfakgobadaaDoorWireW
namespace Go.Proofs.YtimdnfakgobadaaDoor
open Go.ChangeShapes Go.WideShapes Go.ChangeAt Go.RowKit
set_option linter.unusedVariables false
set_option linter.unusedSimpArgs false
def okH (b : List Int) (j : Nat) : Prop := g b j = g [2, 2, 0, 0] j ∨ (j = 0 ∧ g b 0 = 1)
theorem g_hd4 {b : List Int} {j : Nat} (hj : j < 4) : g (hd4 b) j = if j < b.length then g b j else g [2, 2, 0, 0] j := by
  unfold hd4
  by_cases h : j < b.length
  · rw [if_pos h, g_append_left (by rw [List.length_take]; omega)]
    unfold g
    rw [List.getD_eq_getElem?_getD, List.getD_eq_getElem?_getD, List.getElem?_take_of_lt hj]
  · rw [if_neg h, g_append_right (by rw [List.length_take]; omega)]
    unfold g
    rw [List.getD_eq_getElem?_getD, List.getD_eq_getElem?_getD, List.getElem?_drop, List.length_take, show b.length + (j - min 4 b.length) = j from by omega]
theorem hd_iff {b : List Int} : hdOk b ↔ ∀ j, j < 4 → j < b.length → okH b j := by
  have h0 := g_hd4 (b := b) (show 0 < 4 by omega)
  have h1 := g_hd4 (b := b) (show 1 < 4 by omega)
  have h2 := g_hd4 (b := b) (show 2 < 4 by omega)
  have h3 := g_hd4 (b := b) (show 3 < 4 by omega)
  have k0 : g [2, 2, 0, 0] 0 = 2 := rfl
  have k1 : g [2, 2, 0, 0] 1 = 2 := rfl
  have k2 : g [2, 2, 0, 0] 2 = 0 := rfl
  have k3 : g [2, 2, 0, 0] 3 = 0 := rfl
  rw [k0] at h0
  rw [k1] at h1
  rw [k2] at h2
  rw [k3] at h3
  unfold hdOk okH
  rw [h0, h1, h2, h3]
  constructor
  · rintro ⟨e0, e1, e2, e3⟩ j hj hl
    have : j = 0 ∨ j = 1 ∨ j = 2 ∨ j = 3 := by omega
    rcases this with rfl | rfl | rfl | rfl
    · rw [if_pos hl] at e0
      rw [k0]
      rcases e0 with e | e
      · exact .inr ⟨rfl, e⟩
      · exact .inl e
    · rw [if_pos hl] at e1; rw [k1]; exact .inl e1
    · rw [if_pos hl] at e2; rw [k2]; exact .inl e2
    · rw [if_pos hl] at e3; rw [k3]; exact .inl e3
  · intro h
    refine ⟨?_, ?_, ?_, ?_⟩
    · by_cases hl : 0 < b.length
      · rw [if_pos hl]
        rcases h 0 (by omega) hl with e | ⟨_, e⟩
        · right; rw [k0] at e; exact e
        · left; exact e
      · rw [if_neg hl]; right; rfl
    · by_cases hl : 1 < b.length
      · rw [if_pos hl]
        rcases h 1 (by omega) hl with e | ⟨e, _⟩
        · rw [k1] at e; exact e
        · cases e
      · rw [if_neg hl]
    · by_cases hl : 2 < b.length
      · rw [if_pos hl]
        rcases h 2 (by omega) hl with e | ⟨e, _⟩
        · rw [k2] at e; exact e
        · cases e
      · rw [if_neg hl]
    · by_cases hl : 3 < b.length
      · rw [if_pos hl]
        rcases h 3 (by omega) hl with e | ⟨e, _⟩
        · rw [k3] at e; exact e
        · cases e
      · rw [if_neg hl]
/-- what is kept: the entries so far, and where they end -/
structure stM (b : List Int) (es : List Entry) (k : Nat) : Prop where
  le : es.length ≤ 25
  at4 : 4 ≤ k
  eq : decE 25 (b.drop 4) = (decE (25 - es.length) (b.drop k)).map fun y => (es ++ y.1, y.2)
theorem stM.zero (b : List Int) : stM b [] 4 := ⟨by simp, by omega, by simp⟩
section
variable {b : List Int} {es : List Entry} {k : Nat}
theorem drop_ne (h : k < b.length) : b.drop k ≠ [] := by
  intro e
  have := congrArg List.length e
  rw [List.length_drop] at this
  simp at this; omega
theorem stM.next (h : stM b es k) (hl : k + 20 ≤ b.length) (h25 : es.length < 25) (hok : entOk ((b.drop k).take 20)) : stM b (es ++ [entOf ((b.drop k).take 20)]) (k + 20) := by
  have hlen : ((b.drop k).take 20).length = 20 := by rw [List.length_take, List.length_drop]; omega
  refine ⟨by simp; omega, by have := h.at4; omega, ?_⟩
  rw [h.eq]
  obtain ⟨r, hr⟩ : ∃ r, 25 - es.length = r + 1 := ⟨24 - es.length, by omega⟩
  have hr2 : 25 - (es ++ [entOf ((b.drop k).take 20)]).length = r := by simp; omega
  rw [hr, hr2]
  have hne := drop_ne (show k < b.length by omega)
  cases hd : b.drop k with
  | nil => exact absurd hd hne
  | cons x l =>
    rw [hd] at hok hlen
    have hxl : ¬ (x :: l).length < 20 := by
      have := congrArg List.length hd
      rw [List.length_drop] at this
      omega
    rw [decE, filled_20 hlen, if_pos hok, if_neg hxl]
    rw [← hd, List.drop_drop]
    cases decE r (b.drop (k + 20)) with
    | none => rfl
    | some y => simp
theorem stM.done (h : stM b es k) (hh : hdOk b) (h4 : ¬ b.length < 4) (hk : b.length ≤ k) : decM b = ((decide (g b 0 = 1), es), 0) := by
  have e : decE 25 (b.drop 4) = some (es, false) := by
    rw [h.eq, List.drop_eq_nil_of_le hk]
    cases 25 - es.length <;> simp [decE]
  unfold decM
  rw [if_pos hh, if_neg h4, e]
theorem dec_none3 (hh : hdOk b) (h4 : ¬ b.length < 4) (e : decE 25 (b.drop 4) = none) : decM b = ((false, []), 3) := by
  unfold decM
  rw [if_pos hh, if_neg h4, e]
theorem stM.full (h : stM b es k) (hh : hdOk b) (h4 : ¬ b.length < 4) (hk : k < b.length) (h25 : es.length = 25) : decM b = ((false, []), 3) := by
  refine dec_none3 hh h4 ?_
  rw [h.eq, h25]
  cases hd : b.drop k with
  | nil => exact absurd hd (drop_ne hk)
  | cons x l => rfl
theorem stM.bad (h : stM b es k) (hh : hdOk b) (h4 : ¬ b.length < 4) (hk : k < b.length) (h25 : es.length < 25) (hno : ¬ entOk (filled ((b.drop k).take 20))) : decM b = ((false, []), 3) := by
  refine dec_none3 hh h4 ?_
  obtain ⟨r, hr⟩ : ∃ r, 25 - es.length = r + 1 := ⟨24 - es.length, by omega⟩
  rw [h.eq, hr]
  cases hd : b.drop k with
  | nil => exact absurd hd (drop_ne hk)
  | cons x l =>
    rw [hd] at hno
    rw [decE, if_neg hno]; rfl
theorem stM.short (h : stM b es k) (hh : hdOk b) (h4 : ¬ b.length < 4) (hk : k < b.length) (h20 : b.length < k + 20) (h25 : es.length < 25) (hok : entOk (filled (b.drop k))) : decM b = ((false, []), 6) := by
  have ht : (b.drop k).take 20 = b.drop k := List.take_of_length_le (by rw [List.length_drop]; omega)
  obtain ⟨r, hr⟩ : ∃ r, 25 - es.length = r + 1 := ⟨24 - es.length, by omega⟩
  have e : ∃ y, decE 25 (b.drop 4) = some (y, true) := by
    rw [h.eq, hr]
    cases hd : b.drop k with
    | nil => exact absurd hd (drop_ne hk)
    | cons x l =>
      rw [hd] at hok ht
      have hxl : (x :: l).length < 20 := by
        have := congrArg List.length hd
        rw [List.length_drop] at this
        omega
      rw [decE, ht, if_pos hok, if_pos hxl]
      exact ⟨_, rfl⟩
  obtain ⟨y, e⟩ := e
  unfold decM
  rw [if_pos hh, if_neg h4, e]
end
end Go.Proofs.YtimdnfakgobadaaDoor
