/- cover.order: which net is first, as a number; it only makes new blocks. -/
import Derived.Test.YtplojnlmofbneaaDoorPrefW
import Derived.Test.YtplojnlmofbneaaDoorCovQ
import Derived.Shelf.SlSortCmp.Insertion
import Derived.Lib.QuietBelow
namespace Go.Proofs.YtplojnlmofbneaaDoor
open Go.ChangeShapes Go.WideShapes Go.ChangeAt Go.RowKit
set_option linter.unusedVariables false
set_option linter.unusedSimpArgs false

theorem grow_2 (w : World) (o1 o2 : Obj) : ∃ os, (w.alloc o1).alloc o2 = Sort.grow w os := ⟨_, by rw [Sort.alloc_eq_grow, Sort.alloc_eq_grow, Sort.grow_grow]⟩
theorem grow_t {w w1 w2 : World} (h1 : ∃ os, w1 = Sort.grow w os) (h2 : ∃ os, w2 = Sort.grow w1 os) : ∃ os, w2 = Sort.grow w os := by
  obtain ⟨a, rfl⟩ := h1
  obtain ⟨b, rfl⟩ := h2
  exact ⟨_, Sort.grow_grow _ _ _⟩
theorem grow_b {w w1 : World} (h : ∃ os, w1 = Sort.grow w os) : Below w.heap.size w w1 := by
  obtain ⟨os, rfl⟩ := h
  exact below_regrown w w.drawn os
set_option maxHeartbeats 400000 in
theorem Less_g (a n b m : Int) (w : World) :
    Calls Tryd.prog 57 #[.agg #[.int .u32 a, .int .i64 n], .agg #[.int .u32 b, .int .i64 m]] w fun e w' => e = .returned (.bool (lessB (a, n) (b, m))) ∧ ∃ os, w' = Sort.grow w os := by
  by_cases h1 : a < b
  · have hL : lessB (a, n) (b, m) = true := lessB_iff.2 (.inl h1)
    rw [hL]
    clear hL
    go_enter Tryd.func57, Tryd.ntmps57
    go_wp2
    go_ret
    exact ⟨rfl, grow_2 _ _ _⟩
  · by_cases h2 : a = b
    · subst h2
      have hL : lessB (a, n) (a, m) = decide (n < m) := by unfold lessB; simp
      rw [hL]
      clear hL
      go_enter Tryd.func57, Tryd.ntmps57
      go_wp2
      go_ret
      exact ⟨rfl, grow_2 _ _ _⟩
    · have hL : lessB (a, n) (b, m) = false := by unfold lessB; simp; omega
      have t1 : (a == b) = false := by simpa using h2
      rw [hL]
      clear hL h2
      go_enter Tryd.func57, Tryd.ntmps57
      go_wp2
      go_ret
      exact ⟨rfl, grow_2 _ _ _⟩
def cmpN (x y : Nn) : Int := if lessB x y = true then -1 else if lessB y x = true then 1 else 0
set_option maxHeartbeats 400000 in
theorem Order_g (a n b m : Int) (w : World) :
    Calls Tryd.prog 33 #[.agg #[.int .u32 a, .int .i64 n], .agg #[.int .u32 b, .int .i64 m]] w fun e w' => e = .returned (.int .i64 (cmpN (a, n) (b, m))) ∧ ∃ os, w' = Sort.grow w os := by
  obtain ⟨r, hr⟩ : ∃ r, lessB (a, n) (b, m) = r := ⟨_, rfl⟩
  obtain ⟨q, hq⟩ : ∃ q, lessB (b, m) (a, n) = q := ⟨_, rfl⟩
  have HC : Hid (cmpN (a, n) (b, m) = if r = true then -1 else if q = true then 1 else 0) := Lib.hid (by unfold cmpN; rw [hr, hq])
  have HR := Lib.hid hr
  have HQ := Lib.hid hq
  obtain ⟨C, hC⟩ : ∃ C, cmpN (a, n) (b, m) = C := ⟨_, rfl⟩
  rw [hC] at HC ⊢
  clear hr hq hC
  cases r with
  | true =>
    have HC' : Hid (C = -1) := HC
    clear HC
    go_enter Tryd.func33, Tryd.ntmps33
    go_wp2_with fail
    (with_reducible refine (Less_g a n b m _).mono ?_)
    rw [HR.out]
    rintro e w1 ⟨rfl, hg1⟩
    have HG1 := Lib.hid (grow_t (grow_2 _ _ _) hg1)
    clear hg1
    go_wp2
    go_ret
    exact ⟨by rw [HC'.out]; rfl, HG1.out⟩
  | false =>
    cases q with
    | true =>
      have HC' : Hid (C = 1) := HC
      clear HC
      go_enter Tryd.func33, Tryd.ntmps33
      go_wp2_with fail
      (with_reducible refine (Less_g a n b m _).mono ?_)
      rw [HR.out]
      rintro e w1 ⟨rfl, hg1⟩
      obtain ⟨b0, b1⟩ := box2 (grow_b hg1)
      obtain ⟨c0, c1, _, _⟩ := row2 b0
      obtain ⟨d0, d1, _, _⟩ := row2 b1
      have HG1 := Lib.hid (grow_t (grow_2 _ _ _) hg1)
      clear hg1 b0 b1
      go_wp2_with fail
      (with_reducible refine (Less_g b m a n _).mono ?_)
      rw [HQ.out]
      rintro e w2 ⟨rfl, hg2⟩
      have HG2 := Lib.hid (grow_t HG1.out hg2)
      clear hg2
      go_wp2
      go_ret
      exact ⟨by rw [HC'.out]; rfl, HG2.out⟩
    | false =>
      have HC' : Hid (C = 0) := HC
      clear HC
      go_enter Tryd.func33, Tryd.ntmps33
      go_wp2_with fail
      (with_reducible refine (Less_g a n b m _).mono ?_)
      rw [HR.out]
      rintro e w1 ⟨rfl, hg1⟩
      obtain ⟨b0, b1⟩ := box2 (grow_b hg1)
      obtain ⟨c0, c1, _, _⟩ := row2 b0
      obtain ⟨d0, d1, _, _⟩ := row2 b1
      have HG1 := Lib.hid (grow_t (grow_2 _ _ _) hg1)
      clear hg1 b0 b1
      go_wp2_with fail
      (with_reducible refine (Less_g b m a n _).mono ?_)
      rw [HQ.out]
      rintro e w2 ⟨rfl, hg2⟩
      have HG2 := Lib.hid (grow_t HG1.out hg2)
      clear hg2
      go_wp2
      go_ret
      exact ⟨by rw [HC'.out]; rfl, HG2.out⟩
theorem cmp_lt (x y : Nn) : ltOf cmpN x y = lessB x y := by
  unfold ltOf cmpN
  cases h : lessB x y
  · cases h2 : lessB y x <;> simp
  · simp
theorem cmp_swo : Sort.SWO (ltOf cmpN) where
  irrefl x := by rw [cmp_lt]; exact less_irr x
  trans x y z h1 h2 := by rw [cmp_lt] at *; exact less_trans h1 h2
  ntrans x y z h1 h2 := by
    rw [cmp_lt] at *
    have n1 : ¬ (x.1 < y.1 ∨ x.1 = y.1 ∧ x.2 < y.2) := fun e => by rw [lessB_iff.2 e] at h1; cases h1
    have n2 : ¬ (y.1 < z.1 ∨ y.1 = z.1 ∧ y.2 < z.2) := fun e => by rw [lessB_iff.2 e] at h2; cases h2
    cases h : lessB x z
    · rfl
    · have := lessB_iff.1 h; omega
end Go.Proofs.YtplojnlmofbneaaDoor
