/- Trees of bridges: what is wrong with nodes and links; no program in sight. -/
import Derived.Test.YtccgaflbhpagcaaDoorSpanQ
namespace Go.Proofs.YtccgaflbhpagcaaDoor
set_option linter.unusedVariables false
set_option linter.unusedSimpArgs false
namespace Sp
def badB (n : Int) (x : Lnk) : Bool := decide (x.1 < 0 ∨ n ≤ x.1 ∨ x.2.1 < 0 ∨ n ≤ x.2.1 ∨ x.2.2 < 1 ∨ 15 < x.2.2)
/-- the fault of what is left, behind what was seen -/
def linkE (n : Int) : List Lnk → List Lnk → Int
  | _, [] => 0
  | seen, x :: r => if badB n x = true then 1 else if x.1 = x.2.1 then 3 else if seen.any (pairB x) = true then 5 else linkE n (seen ++ [x]) r
def graphE (n : Int) (l : List Lnk) : Int := if n < 1 ∨ 8 < n then 1 else linkE n [] l
theorem linkE_ok {n : Nat} : ∀ (l seen : List Lnk), linkE n seen l = 0 → (∀ x ∈ l, 0 ≤ x.1 ∧ x.1 < n ∧ 0 ≤ x.2.1 ∧ x.2.1 < n ∧ 1 ≤ x.2.2 ∧ x.2.2 ≤ 15 ∧ x.1 ≠ x.2.1) ∧ (∀ x ∈ l, ∀ y ∈ seen, pairB x y = false) ∧ l.Pairwise fun x y => pairB y x = false
  | [], seen, _ => ⟨by simp, by simp, List.Pairwise.nil⟩
  | x :: r, seen, h => by
    unfold linkE at h
    by_cases h1 : badB n x = true
    · rw [if_pos h1] at h; cases h
    rw [if_neg h1] at h
    by_cases h2 : x.1 = x.2.1
    · rw [if_pos h2] at h; cases h
    rw [if_neg h2] at h
    by_cases h3 : seen.any (pairB x) = true
    · rw [if_pos h3] at h; cases h
    rw [if_neg h3] at h
    obtain ⟨i1, i2, i3⟩ := linkE_ok r _ h
    have hb : ¬ (x.1 < 0 ∨ (n : Int) ≤ x.1 ∨ x.2.1 < 0 ∨ (n : Int) ≤ x.2.1 ∨ x.2.2 < 1 ∨ 15 < x.2.2) := fun hc => h1 (by unfold badB; exact decide_eq_true hc)
    have hs : ∀ y ∈ seen, pairB x y = false := fun y hy => by
      cases e : pairB x y with
      | false => rfl
      | true => exact absurd (List.any_eq_true.2 ⟨y, hy, e⟩) h3
    refine ⟨fun y hy => ?_, fun y hy z hz => ?_, ?_⟩
    · rcases List.mem_cons.1 hy with rfl | hy
      · exact ⟨by omega, by omega, by omega, by omega, by omega, by omega, h2⟩
      · exact i1 y hy
    · rcases List.mem_cons.1 hy with rfl | hy
      · exact hs z hz
      · exact i2 y hy z (by simp [hz])
    · exact List.pairwise_cons.2 ⟨fun y hy => i2 y hy x (by simp), i3⟩
theorem graphE_ok {n : Int} {l : List Lnk} (h : graphE n l = 0) : ∃ m : Nat, n = (m : Int) ∧ 1 ≤ m ∧ m ≤ 8 ∧ OkL m l := by
  unfold graphE at h
  by_cases h1 : n < 1 ∨ 8 < n
  · rw [if_pos h1] at h; cases h
  rw [if_neg h1] at h
  obtain ⟨m, rfl⟩ := Int.eq_ofNat_of_zero_le (show 0 ≤ n by omega)
  obtain ⟨i1, _, i3⟩ := linkE_ok l [] h
  exact ⟨m, rfl, by omega, by omega, i1, i3⟩
theorem linkE_of {n : Nat} : ∀ (l seen : List Lnk), (∀ x ∈ l, 0 ≤ x.1 ∧ x.1 < n ∧ 0 ≤ x.2.1 ∧ x.2.1 < n ∧ 1 ≤ x.2.2 ∧ x.2.2 ≤ 15 ∧ x.1 ≠ x.2.1) → (∀ x ∈ l, ∀ y ∈ seen, pairB x y = false) → (l.Pairwise fun x y => pairB y x = false) → linkE n seen l = 0
  | [], seen, _, _, _ => rfl
  | x :: r, seen, h1, h2, h3 => by
    obtain ⟨g1, g2⟩ := List.pairwise_cons.1 h3
    have hx := h1 x (by simp)
    have hb : badB n x = false := by unfold badB; exact decide_eq_false (by omega)
    have ha : seen.any (pairB x) = false := List.any_eq_false.2 (fun y hy => by rw [h2 x (by simp) y hy]; simp)
    unfold linkE
    rw [if_neg (by rw [hb]; simp), if_neg hx.2.2.2.2.2.2, if_neg (by rw [ha]; simp)]
    refine linkE_of r _ (fun y hy => h1 y (by simp [hy])) (fun y hy z hz => ?_) g2
    rcases List.mem_append.1 hz with hz | hz
    · exact h2 y (by simp [hy]) z hz
    · simp at hz; subst hz; exact g1 y hy
/-- part of right links is right -/
theorem graphE_sub {n : Nat} {l m : List Lnk} (h : OkL n l) (h1 : 1 ≤ n) (h8 : n ≤ 8) (hs : m.Sublist l) : graphE n m = 0 := by
  have hm := h.sub hs
  unfold graphE
  rw [if_neg (by omega)]
  exact linkE_of m [] hm.rng (by simp) hm.twice
end Sp
end Go.Proofs.YtccgaflbhpagcaaDoor
