/- The general contracts of LikedBest and Best. -/
import Derived.Test.YtcpknghfdlmopaaDoorSppM
namespace Go.Proofs.YtcpknghfdlmopaaDoor
open Go.ChangeShapes Go.WideShapes Go.ChangeAt Go.RowKit
set_option linter.unusedVariables false

set_option maxHeartbeats 400000 in
theorem LikedBest_zero {w : World} {u v : Value} :
    Calls Tryd.prog 9 #[u, v, .int .i64 0] w fun e w' => e = .returned (.slice (some ⟨w.heap.size, 0, none⟩) 1 1) ∧ w' = w.alloc (.cells #[.int .i64 0] 3) := by
  go_enter Tryd.func9, Tryd.ntmps9
  go_wp2
  go_ret
  exact ⟨rfl, rfl⟩
theorem LikedBest_all {w : World} {v u : Value} {likes : List (List (List Int))} {ways : List (List Int)} {i : Nat} (hlk : R1 rdInts3 w v likes) (hw : R1 rdInts2 w u ways) (hi : i < likes.length) :
    Calls Tryd.prog 9 #[v, u, .int .i64 i] w fun e w' => ∃ r, e = .returned r ∧ R1 rdInts w' r (bestP likes ways i) ∧ Below w.heap.size w w' := by
  by_cases h0 : i = 0
  · subst h0
    refine (LikedBest_zero (u := v) (v := u)).mono ?_
    rintro e w' ⟨rfl, rfl⟩
    exact ⟨_, rfl, by unfold bestP; rw [if_pos rfl]; exact new_ints rfl rfl rfl (by decide) (by decide), (Below.refl _ _).alloc (Nat.le_refl _) _⟩
  · obtain ⟨A1, c1, rfl⟩ := hlk.form
    obtain ⟨A2, c2, rfl⟩ := hw.form
    refine (LikedBest_any hlk hw (by omega) hi).mono ?_
    rintro e w' ⟨r, rfl, hr, k, rfl⟩
    exact ⟨r, rfl, hr, below_drewN (Below.refl _ _) _⟩
def bestR (likes : List (List (List Int))) (ways : List (List Int)) (i : Int) : List Int := if bestF likes ways i = 0 then bestP likes ways i.toNat else []
set_option maxHeartbeats 400000 in
theorem Best_all {w : World} {v u : Value} {likes : List (List (List Int))} {ways : List (List Int)} {i : Int} (hlk : R1 rdInts3 w v likes) (hw : R1 rdInts2 w u ways) (hi : -9223372036854775808 ≤ i ∧ i ≤ 9223372036854775807) :
    Calls Tryd.prog 11 #[v, u, .int .i64 i] w fun e w' => ∃ r, e = .returned (.tuple #[r, errV (bestF likes ways i)]) ∧ R1 rdInts w' r (bestR likes ways i) ∧ Below w.heap.size w w' := by
  by_cases hF : stF likes ways = 0
  · by_cases hr : i < 0 ∨ (likes.length : Int) ≤ i
    · have hb : bestF likes ways i = 1 := by unfold bestF; rw [if_neg (by simp [hF]), if_pos hr]
      have hbr : bestR likes ways i = [] := by unfold bestR; rw [if_neg (by rw [hb]; decide)]
      rw [hb, hbr]
      have hS : sppF likes = 0 := by unfold stF at hF; split at hF <;> simp_all
      have hL : ways.length = likes.length := by unfold stF at hF; rw [if_neg (by simp [hS])] at hF; split at hF <;> simp_all
      have hlm : likes.length ≤ 9223372036854775807 := by obtain ⟨A, c, rfl⟩ := hlk.form; obtain ⟨_, _, h⟩ := RdSlice.len hlk; unfold maxLen at h; omega
      obtain ⟨A, c, rfl⟩ := hlk.form
      obtain ⟨A2, c2, rfl⟩ := hw.form
      rw [hL] at hw ⊢
      have HS := Lib.hid hS
      clear hS hL hb hbr hF
      rcases hr with hr | hr
      · go_enter Tryd.func11, Tryd.ntmps11
        go_wp2_with (go_at_call 7; with_reducible refine (Check_any hlk).mono ?_; rintro e w' ⟨rfl, rfl⟩; rw [HS.out, errV_zero])
        go_ret2
        exact ⟨_, rfl, RdSlice.nil_, Below.refl _ _⟩
      · have hr0 : ¬ i < 0 := by omega
        go_enter Tryd.func11, Tryd.ntmps11
        go_wp2_with (go_at_call 7; with_reducible refine (Check_any hlk).mono ?_; rintro e w' ⟨rfl, rfl⟩; rw [HS.out, errV_zero])
        go_ret2
        exact ⟨_, rfl, RdSlice.nil_, Below.refl _ _⟩
    · obtain ⟨k, rfl⟩ := Int.eq_ofNat_of_zero_le (show 0 ≤ i by omega)
      have hb : bestF likes ways k = 0 := by unfold bestF; rw [if_neg (by simp [hF]), if_neg hr]
      have hbr : bestR likes ways k = bestP likes ways k := by unfold bestR; rw [if_pos hb]; rfl
      rw [hb, hbr]
      exact Best_any hlk hw hF (by omega)
  · have hb : bestF likes ways i = stF likes ways := by unfold bestF; rw [if_pos hF]
    have hbr : bestR likes ways i = [] := by unfold bestR; rw [if_neg (by rw [hb]; exact hF)]
    rw [hb, hbr]
    by_cases hS : sppF likes = 0
    · have hst : stF likes ways = 3 := by unfold stF at *; rw [if_neg (by simp [hS])] at *; split at hF <;> simp_all
      have hL : ways.length ≠ likes.length := by intro h; unfold stF at hF; rw [if_neg (by simp [hS]), if_neg (by simp [h])] at hF; exact hF rfl
      rw [hst]
      obtain ⟨A, c, rfl⟩ := hlk.form
      obtain ⟨A2, c2, rfl⟩ := hw.form
      have HS := Lib.hid hS
      have tn : ((ways.length : Int) != (likes.length : Int)) = true := by simp; omega
      clear hS hst hb hbr hF hL
      go_enter Tryd.func11, Tryd.ntmps11
      go_wp2_with (go_at_call 7; with_reducible refine (Check_any hlk).mono ?_; rintro e w' ⟨rfl, rfl⟩; rw [HS.out, errV_zero])
      go_ret2
      exact ⟨_, rfl, RdSlice.nil_, Below.refl _ _⟩
    · have hst : stF likes ways = sppF likes := by unfold stF; rw [if_pos hS]
      rw [hst, errV_ne hS]
      have HE := Lib.hid (errV_ne hS)
      clear hst hS hb hbr hF
      go_enter Tryd.func11, Tryd.ntmps11
      go_wp2_with (go_at_call 7; with_reducible refine (Check_any hlk).mono ?_; rintro e w' ⟨rfl, rfl⟩; rw [HE.out])
      go_ret2
      exact ⟨_, rfl, RdSlice.nil_, Below.refl _ _⟩
end Go.Proofs.YtcpknghfdlmopaaDoor
