/- The sorted order of a plan, length by length, index by index: what is left of it at (k, i). -/
import Derived.Test.YtplojnlmofbneaaDoorPlanP
namespace Go.Proofs.YtplojnlmofbneaaDoor
open Go.ChangeShapes Go.WideShapes Go.ChangeAt Go.RowKit
set_option linter.unusedVariables false
/-- what is left at length k, index i -/
def restW (L W : List Int) (k i : Nat) : List Int := W.filter fun x => decide ((k : Int) < keyL L x ∨ keyL L x = k ∧ (i : Int) ≤ x)
theorem restW_skip (L W : List Int) (k i : Nat) (hW : ∀ x ∈ W, 0 ≤ x) (h : keyL L (i : Int) ≠ k) : restW L W k (i + 1) = restW L W k i := by
  unfold restW
  refine List.filter_congr fun x hx => ?_
  have : x = (i : Int) ∨ x ≠ (i : Int) := by omega
  rcases this with e | e
  · subst e; simp only [decide_eq_decide]; omega
  · simp only [decide_eq_decide]; omega
theorem restW_next (L W : List Int) (k m : Nat) (hW : ∀ x ∈ W, 0 ≤ x ∧ x < m) : restW L W k m = restW L W (k + 1) 0 := by
  unfold restW
  refine List.filter_congr fun x hx => ?_
  have := hW x hx
  simp only [decide_eq_decide]; omega
theorem restW_all (L W : List Int) (hW : ∀ x ∈ W, 0 ≤ x ∧ 0 ≤ keyL L x) : restW L W 0 0 = W := by
  unfold restW
  refine List.filter_eq_self.2 fun x hx => ?_
  have := hW x hx
  simp only [decide_eq_true_eq]; omega
theorem restW_none (L W : List Int) (hW : ∀ x ∈ W, keyL L x ≤ 32) : restW L W 33 0 = [] := by
  unfold restW
  refine List.filter_eq_nil_iff.2 fun x hx => ?_
  have := hW x hx
  simp only [decide_eq_true_eq]; omega
theorem restW_take {L W V V' : List Int} {k i : Nat} (e : W = V ++ (i : Int) :: V') (h1 : ∀ x ∈ V, Rl (keyL L) x i) (h2 : ∀ x ∈ V', Rl (keyL L) i x) (hk : keyL L (i : Int) = k) : restW L W k i = (i : Int) :: restW L W k (i + 1) := by
  subst e
  have f1 : ∀ j : Nat, i ≤ j → V.filter (fun x => decide ((k : Int) < keyL L x ∨ keyL L x = k ∧ (j : Int) ≤ x)) = [] := fun j hj =>
    List.filter_eq_nil_iff.2 fun x hx => by
      have := h1 x hx
      unfold Rl at this
      simp only [decide_eq_true_eq]; omega
  have f2 : ∀ j : Nat, j ≤ i + 1 → V'.filter (fun x => decide ((k : Int) < keyL L x ∨ keyL L x = k ∧ (j : Int) ≤ x)) = V' := fun j hj =>
    List.filter_eq_self.2 fun x hx => by
      have := h2 x hx
      unfold Rl at this
      simp only [decide_eq_true_eq]; omega
  unfold restW
  rw [List.filter_append, List.filter_append, f1 i (Nat.le_refl _), f1 (i + 1) (by omega), List.filter_cons, List.filter_cons, f2 i (by omega), f2 (i + 1) (by omega)]
  rw [if_pos (by simp only [decide_eq_true_eq]; omega), if_neg (by simp only [decide_eq_true_eq]; omega)]
  rfl
theorem sort_ex (K : Int → Int) (U : List Int) (hn : U.Nodup) : ∃ W, W.Perm U ∧ Srtd K W := by
  have h1 := List.mergeSort_perm U (fun x y => decide (K x < K y ∨ K x = K y ∧ x ≤ y))
  have h2 := List.pairwise_mergeSort (le := fun x y => decide (K x < K y ∨ K x = K y ∧ x ≤ y)) (by intro a b c; simp only [decide_eq_true_eq]; omega) (by intro a b; simp only [Bool.or_eq_true, decide_eq_true_eq]; omega) U
  have h3 : (U.mergeSort fun x y => decide (K x < K y ∨ K x = K y ∧ x ≤ y)).Pairwise (· ≠ ·) := (h1.nodup_iff).2 hn
  refine ⟨_, h1, (h2.and h3).imp fun {x y} hh => ?_⟩
  obtain ⟨a, b⟩ := hh
  simp only [decide_eq_true_eq] at a
  unfold Rl; omega
theorem sort_one {K : Int → Int} : ∀ {l l' : List Int}, Srtd K l → Srtd K l' → (∀ x, x ∈ l ↔ x ∈ l') → l = l'
  | [], [], _, _, _ => rfl
  | [], y :: r, _, _, h => by have := (h y).2 (by simp); cases this
  | x :: r, [], _, _, h => by have := (h x).1 (by simp); cases this
  | x :: r, y :: s, h1, h2, h => by
    have h1' := List.pairwise_cons.1 h1
    have h2' := List.pairwise_cons.1 h2
    have e : x = y := by
      rcases List.mem_cons.1 ((h x).1 (by simp)) with e | hx
      · exact e
      · rcases List.mem_cons.1 ((h y).2 (by simp)) with e | hy
        · exact e.symm
        · exact absurd ((h2'.1 x hx).trans (h1'.1 y hy)) Rl.irr
    subst e
    congr 1
    refine sort_one h1'.2 h2'.2 fun z => ?_
    have hz := h z
    simp only [List.mem_cons] at hz
    constructor
    · intro h3
      rcases hz.1 (.inr h3) with e | h4
      · subst e; exact absurd (h1'.1 _ h3) Rl.irr
      · exact h4
    · intro h3
      rcases hz.2 (.inr h3) with e | h4
      · subst e; exact absurd (h2'.1 _ h3) Rl.irr
      · exact h4
end Go.Proofs.YtplojnlmofbneaaDoor
