/- Blocks of a list that are sorted each, in plain lists. -/
import Derived.Test.YtplojnlmofbneaaDoorStabP
namespace Go.Proofs.YtplojnlmofbneaaDoor
set_option linter.unusedVariables false
def Seg (X : List Int) (a s : Nat) : List Int := (X.drop a).take s
/-- a block is sorted, and has what the numbers as they were have there -/
def Gd (K : Int → Int) (U X : List Int) (a s : Nat) : Prop := Srtd K (Seg X a s) ∧ (Seg X a s).Perm (Seg U a s)
theorem seg_len (X : List Int) (a s : Nat) : (Seg X a s).length = min s (X.length - a) := by unfold Seg; rw [List.length_take, List.length_drop]
theorem seg_nil {X : List Int} {a s : Nat} (h : X.length ≤ a) : Seg X a s = [] := by unfold Seg; rw [List.drop_eq_nil_of_le h]; simp
theorem seg_all {X : List Int} {a s : Nat} (h : X.length ≤ a + s) : Seg X a s = X.drop a := by unfold Seg; exact List.take_of_length_le (by rw [List.length_drop]; omega)
theorem seg_left {P R : List Int} {a s : Nat} (h : a + s ≤ P.length) : Seg (P ++ R) a s = Seg P a s := by
  unfold Seg
  rw [List.drop_append_of_le_length (by omega), List.take_append_of_le_length (by rw [List.length_drop]; omega)]
theorem seg_take {X : List Int} {a a' s : Nat} (h : a' + s ≤ a) : Seg (X.take a) a' s = Seg X a' s := by
  unfold Seg
  rw [List.drop_take, List.take_take, Nat.min_eq_left (by omega)]
theorem seg_mid {P L R : List Int} {a s : Nat} (ha : a = P.length) (h : L.length = s ∨ R = [] ∧ L.length ≤ s) : Seg (P ++ (L ++ R)) a s = L := by
  unfold Seg
  subst ha
  rw [List.drop_left]
  rcases h with h | ⟨h1, h2⟩
  · rw [List.take_append_of_le_length (by omega), List.take_of_length_le (by omega)]
  · subst h1; rw [List.append_nil, List.take_of_length_le h2]
theorem seg_right {P L L' R : List Int} {a s : Nat} (hl : L.length = L'.length) (h : P.length + L.length ≤ a) : Seg (P ++ (L ++ R)) a s = Seg (P ++ (L' ++ R)) a s := by
  unfold Seg
  rw [List.drop_append, List.drop_append, List.drop_append, List.drop_append, List.drop_eq_nil_of_le (show P.length ≤ a by omega), List.drop_eq_nil_of_le (show L.length ≤ a - P.length by omega), List.drop_eq_nil_of_le (show L'.length ≤ a - P.length by omega), hl]
theorem seg_add (X : List Int) (a s t : Nat) : Seg X a (s + t) = Seg X a s ++ Seg X (a + s) t := by
  unfold Seg
  rw [List.take_add, List.drop_drop]
theorem seg_split (X : List Int) (a s : Nat) : X = X.take a ++ (Seg X a s ++ X.drop (a + s)) := by
  unfold Seg
  rw [← List.drop_drop, List.take_append_drop, List.take_append_drop]
theorem Gd.empty {K : Int → Int} {U X : List Int} {a s : Nat} (hl : X.length = U.length) (h : U.length ≤ a) : Gd K U X a s := by
  unfold Gd
  rw [seg_nil (by omega), seg_nil h]
  exact ⟨srtd_nil, List.Perm.refl _⟩
/-- pieces of an ascending list stand one below the other -/
theorem seg_fb {U : List Int} (h : U.Pairwise (· < ·)) {a s t : Nat} : FB (Seg U a s) (Seg U (a + s) t) := by
  have h1 : U = U.take a ++ (Seg U a s ++ U.drop (a + s)) := seg_split U a s
  rw [h1] at h
  have h2 := (List.pairwise_append.1 h).2.1
  have h3 := (List.pairwise_append.1 h2).2.2
  intro x hx y hy
  exact h3 x hx y (List.mem_of_mem_take hy)
theorem seg_sub {X : List Int} {a s : Nat} {x : Int} (h : x ∈ Seg X a s) : x ∈ X := List.mem_of_mem_drop (List.mem_of_mem_take h)
/-- two blocks merged -/
theorem merged {K : Int → Int} {U X W : List Int} {a s t : Nat} (hl : X.length = U.length) (g1 : Gd K U X a s) (g2 : Gd K U X (a + s) t) (hW : W.Perm (Seg X a s ++ Seg X (a + s) t)) (hS : Srtd K W) :
    W.Perm (Seg U a (s + t)) ∧ W.length = (Seg X a (s + t)).length := by
  refine ⟨?_, by rw [hW.length_eq, seg_add, List.length_append]⟩
  rw [seg_add]
  exact hW.trans (g1.2.append g2.2)
/-- what a piece that is put anew does to the blocks -/
theorem put_seg {K : Int → Int} {U X W : List Int} {a s : Nat} (hl : X.length = U.length) (hp : W.Perm (Seg U a s)) (hS : Srtd K W) (ha : a ≤ X.length) :
    (X.take a ++ (W ++ X.drop (a + s))).length = U.length ∧ Gd K U (X.take a ++ (W ++ X.drop (a + s))) a s ∧
    (∀ a' s', a' + s' ≤ a → Gd K U X a' s' → Gd K U (X.take a ++ (W ++ X.drop (a + s))) a' s') ∧ (∀ a' s', a + s ≤ a' → Gd K U X a' s' → Gd K U (X.take a ++ (W ++ X.drop (a + s))) a' s') ∧ (X.take a ++ (W ++ X.drop (a + s))).drop (a + s) = X.drop (a + s) := by
  have hWl : W.length = min s (X.length - a) := by rw [hp.length_eq, seg_len, hl]
  have hta : (X.take a).length = a := by rw [List.length_take]; omega
  have hd : (X.take a ++ (W ++ X.drop (a + s))).drop (a + s) = X.drop (a + s) := by
    rcases Nat.le_total s (X.length - a) with h | h
    · rw [List.drop_append, List.drop_eq_nil_of_le (by omega), hta, List.nil_append, show a + s - a = s from by omega, List.drop_append, List.drop_eq_nil_of_le (by omega), List.nil_append, show s - W.length = 0 from by omega, List.drop_zero]
    · have e : X.drop (a + s) = [] := List.drop_eq_nil_of_le (by omega)
      rw [e, List.append_nil]
      exact List.drop_eq_nil_of_le (by rw [List.length_append, hta]; omega)
  have hsm : Seg (X.take a ++ (W ++ X.drop (a + s))) a s = W := by
    refine seg_mid hta.symm ?_
    rcases Nat.le_total s (X.length - a) with h | h
    · left; omega
    · right; exact ⟨List.drop_eq_nil_of_le (by omega), by omega⟩
  refine ⟨by simp only [List.length_append, hta, List.length_drop]; omega, ⟨by rw [hsm]; exact hS, by rw [hsm]; exact hp⟩, fun a' s' h g => ?_, fun a' s' h g => ?_, hd⟩
  · unfold Gd
    rw [seg_left (by rw [hta]; exact h), seg_take h]
    exact g
  · unfold Gd
    have : Seg (X.take a ++ (W ++ X.drop (a + s))) a' s' = Seg X a' s' := by
      unfold Seg
      rw [show a' = (a + s) + (a' - (a + s)) from by omega, ← List.drop_drop, hd, List.drop_drop]
    rw [this]
    exact g
end Go.Proofs.YtplojnlmofbneaaDoor
