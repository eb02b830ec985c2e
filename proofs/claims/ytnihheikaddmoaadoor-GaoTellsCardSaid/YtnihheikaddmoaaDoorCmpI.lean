/- slices.Compare of two lists of integers of one length. -/
import Derived.Test.YtnihheikaddmoaaDoorTypes
import Derived.Test.YtnihheikaddmoaaDoorInts
namespace Go.Proofs.YtnihheikaddmoaaDoor
open Go.ChangeShapes Go.WideShapes Go.ChangeAt Go.RowKit
set_option linter.unusedVariables false
theorem isNaN_is (a : Int) (w : World) : Calls Tryd.prog 44 #[.int .i64 a] w fun e w' => e = .returned (.bool false) ∧ w' = w := by
  have h : (a != a) = false := by simp
  go_enter Tryd.func44, Tryd.ntmps44
  go_wp2
  go_ret
  first | exact ⟨rfl, rfl⟩ | simp
def cmpI (a b : Int) : Int := if a < b then -1 else if b < a then 1 else 0
theorem cmp_is (a b : Int) (w : World) : Calls Tryd.prog 37 #[.int .i64 a, .int .i64 b] w fun e w' => e = .returned (.int .i64 (cmpI a b)) ∧ w' = w := by
  rcases Int.lt_trichotomy a b with h | h | h
  · have hc := Lib.hid (show cmpI a b = -1 by unfold cmpI; rw [if_pos h])
    go_enter Tryd.func37, Tryd.ntmps37
    go_wp2_with (first | (go_at_call 44; refine (isNaN_is _ _).mono ?_; rintro e w1 ⟨rfl, rfl⟩) | fail)
    all_goals (go_ret; exact ⟨by rw [hc.out]; rfl, rfl⟩)
  · have hc := Lib.hid (show cmpI a b = 0 by unfold cmpI; rw [if_neg (by omega), if_neg (by omega)])
    have h1 : ¬ a < b := by omega
    have h2 : ¬ b < a := by omega
    clear h
    go_enter Tryd.func37, Tryd.ntmps37
    go_wp2_with (first | (go_at_call 44; refine (isNaN_is _ _).mono ?_; rintro e w1 ⟨rfl, rfl⟩) | fail)
    all_goals (go_ret; exact ⟨by rw [hc.out]; rfl, rfl⟩)
  · have hc := Lib.hid (show cmpI a b = 1 by unfold cmpI; rw [if_neg (by omega), if_pos h])
    have h1 : ¬ a < b := by omega
    go_enter Tryd.func37, Tryd.ntmps37
    go_wp2_with (first | (go_at_call 44; refine (isNaN_is _ _).mono ?_; rintro e w1 ⟨rfl, rfl⟩) | fail)
    all_goals (go_ret; exact ⟨by rw [hc.out]; rfl, rfl⟩)
def cmpL : List Int → List Int → Int
  | a :: r, b :: s => if cmpI a b = 0 then cmpL r s else cmpI a b
  | _, _ => 0
theorem cmpI_val (a b : Int) : cmpI a b = -1 ∨ cmpI a b = 0 ∨ cmpI a b = 1 := by unfold cmpI; split; simp; split <;> simp
set_option maxRecDepth 100000 in
theorem Compare_any {w : World} {ok ok' : Nat → Prop} {A A' : Option Addr} {n c c' : Nat} {l m : List Int} (hr : RdSlice 1 (rdInt .i64) w ok [.slice A n c] l) (hr' : RdSlice 1 (rdInt .i64) w ok' [.slice A' n c'] m) :
    Calls Tryd.prog 28 #[.slice A n c, .slice A' n c'] w fun e w' => e = .returned (.int .i64 (cmpL l m)) ∧ w' = w := by
  obtain ⟨hn, hle, hcm⟩ := RdSlice.len hr
  obtain ⟨hn', _, _⟩ := RdSlice.len hr'
  have hm0 : n ≤ 9223372036854775807 := by unfold maxLen at hcm; omega
  have HR := Lib.hid hr
  have HR' := Lib.hid hr'
  have HN := Lib.hid hn
  have HN' := Lib.hid hn'
  clear hr hr' hn hn' hcm hle
  go_enter Tryd.func28, Tryd.ntmps28
  go_wp2
  go_loopw [11] (fun t wr => ∃ k : Nat, k ≤ n ∧ t = .int .i64 k ∧ cmpL (l.drop k) (m.drop k) = cmpL l m ∧ wr = w) (fun t _ => n - (intOf t).toNat)
  case atStart => exact ⟨0, Nat.zero_le _, rfl, rfl, rfl⟩
  case round =>
    obtain ⟨k, hk, rfl, he, rfl⟩ := hrel
    have HE := Lib.hid he
    clear he
    by_cases hlt : k < n
    · obtain ⟨b, o, x, rfl, hb, HX, hwx, hc⟩ := HR.out.atI hlt
      obtain ⟨b', o', y, rfl, hb', HY, hwy, hc'⟩ := HR'.out.atI hlt
      have hd : Hid ((if cmpI x y = 0 then cmpL (l.drop (k + 1)) (m.drop (k + 1)) else cmpI x y) = cmpL l m) := Lib.hid (by
        obtain ⟨h1, e1⟩ := List.getElem?_eq_some_iff.1 HX.out
        obtain ⟨h2, e2⟩ := List.getElem?_eq_some_iff.1 HY.out
        have := HE.out
        rw [List.drop_eq_getElem_cons h1, List.drop_eq_getElem_cons h2, e1, e2] at this
        exact this)
      obtain ⟨z, hz⟩ : ∃ z, cmpI x y = z := ⟨_, rfl⟩
      have HZ := Lib.hid hz
      have hv := cmpI_val x y
      rw [hz] at hv
      clear hz hwx hwy
      by_cases h0 : z = 0
      · subst h0
        go_wp2_with (first | (go_at_call 37; refine (cmp_is _ _ _).mono ?_; rintro e w1 ⟨rfl, rfl⟩; rw [HZ.out]) | fail)
        go_roundw
        case rel =>
          refine ⟨k + 1, by omega, by go_num, ?_, by trivial⟩
          have := hd.out
          rw [if_pos HZ.out] at this
          exact this
        case measure => simp [intOf]; omega
      · have t0 : (z != 0) = true := by simpa using h0
        have hd2 := Lib.hid ((if_neg (by rw [HZ.out]; exact h0)).symm.trans hd.out)
        go_wp2_with (first | (go_at_call 37; refine (cmp_is _ _ _).mono ?_; rintro e w1 ⟨rfl, rfl⟩; rw [HZ.out]) | fail)
        go_ret
        exact ⟨by rw [← hd2.out, HZ.out]; rfl, rfl⟩
    · have ek : k = n := by omega
      subst ek
      have HE2 : Hid (cmpL l m = 0) := Lib.hid (by rw [← HE.out, List.drop_of_length_le (by rw [HN.out]; exact Nat.le_refl _), List.drop_of_length_le (by rw [← HN'.out]; exact Nat.le_refl _)]; rfl)
      go_wp2
      go_ret
      exact ⟨by rw [HE2.out]; rfl, rfl⟩
end Go.Proofs.YtnihheikaddmoaaDoor
