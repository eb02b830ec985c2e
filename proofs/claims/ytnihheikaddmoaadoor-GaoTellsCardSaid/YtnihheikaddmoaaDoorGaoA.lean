/- gao.Better; reading ways. -/
import Derived.Test.YtnihheikaddmoaaDoorGaoR
import Derived.Test.YtnihheikaddmoaaDoorCmpI
import Derived.Test.YtnihheikaddmoaaDoorAppI
namespace Go.Proofs.YtnihheikaddmoaaDoor
open Go.ChangeShapes Go.WideShapes Go.ChangeAt Go.RowKit Ga
set_option linter.unusedVariables false
set_option linter.unusedSimpArgs false
theorem cmpL_N : ∀ (a b : List Int), a.length = b.length → cmpL a b = cmpN a b
  | [], [], _ => rfl
  | [], _ :: _, h => by simp at h
  | _ :: _, [], h => by simp at h
  | x :: a, y :: b, h => by
    unfold cmpL cmpN
    have ih := cmpL_N a b (by simpa using h)
    by_cases h1 : x < y
    · have : cmpI x y = -1 := by unfold cmpI; rw [if_pos h1]
      rw [this, if_neg (by decide), if_pos h1]
    · by_cases h2 : y < x
      · have : cmpI x y = 1 := by unfold cmpI; rw [if_neg h1, if_pos h2]
        rw [this, if_neg (by decide), if_neg h1, if_pos h2]
      · have : cmpI x y = 0 := by unfold cmpI; rw [if_neg h1, if_neg h2]
        rw [this, if_pos rfl, if_neg h1, if_neg h2, ih]
theorem Compare_N {w : World} {ok ok' : Nat → Prop} {A A' : Option Addr} {n c c' : Nat} {l m : List Int} {r : Int} (hr : RdSlice 1 (rdInt .i64) w ok [.slice A n c] l) (hr' : RdSlice 1 (rdInt .i64) w ok' [.slice A' n c'] m) (he : cmpN l m = r) :
    Calls Tryd.prog 28 #[.slice A n c, .slice A' n c'] w fun e w' => e = .returned (.int .i64 r) ∧ w' = w := by
  have h := Compare_any hr hr'
  rw [cmpL_N l m (by rw [← hr.len.1, ← hr'.len.1]), he] at h
  exact h
theorem below_box2 (w : World) (o1 o2 : Obj) : Below w.heap.size w ((w.alloc o1).alloc o2) := ((Below.refl _ _).alloc (Nat.le_refl _) _).alloc (by simp) _
set_option maxRecDepth 100000 in
set_option maxHeartbeats 2000000 in
theorem Better_any {w : World} {ok ok' : Nat → Prop} {A A' : Option Addr} {n n' c c' : Nat} {t u : Int} {p q : List Int} {r : Bool} (hp : RdSlice 1 (rdInt .i64) w ok [.slice A n c] p) (hq : RdSlice 1 (rdInt .i64) w ok' [.slice A' n' c'] q) (hok : ∀ b, ok b → b < w.heap.size) (hok' : ∀ b, ok' b → b < w.heap.size) (hr : betterB (t, p) (u, q) = r) :
    Calls Tryd.prog 12 #[.agg #[.int .i64 t, .slice A n c], .agg #[.int .i64 u, .slice A' n' c']] w fun e w' => e = .returned (.bool r) ∧ Below w.heap.size w w' := by
  obtain ⟨hn, hle, hcm⟩ := hp.len
  obtain ⟨hn', hle', hcm'⟩ := hq.len
  have hm : n ≤ 9223372036854775807 := by unfold maxLen at hcm; omega
  have hm' : n' ≤ 9223372036854775807 := by unfold maxLen at hcm'; omega
  have HN := Lib.hid hn
  have HN' := Lib.hid hn'
  unfold betterB at hr
  simp only at hr
  by_cases h1 : p = []
  · have hz : n = 0 := by rw [hn, h1]; rfl
    have hr0 : r = false := by rw [← hr, if_pos (.inl h1), h1]; rfl
    subst hr0 hz
    clear hr h1 hn hn' hp hq hle hle' hcm hcm'
    go_enter Tryd.func12, Tryd.ntmps12
    go_wp2
    go_ret
    exact ⟨rfl, below_box2 _ _ _⟩
  have hn0 : n ≠ 0 := fun e => h1 (List.length_eq_zero_iff.1 (by omega))
  have t1 : ((n : Int) == 0) = false := by simp; omega
  by_cases h2 : q = []
  · have hz : n' = 0 := by rw [hn', h2]; rfl
    have hr0 : r = true := by
      rw [← hr, if_pos (.inr h2)]
      cases p with
      | nil => exact absurd rfl h1
      | cons a b => rfl
    have hpos : 0 < n := by omega
    subst hr0 hz
    clear hr h1 h2 hn hn' hp hq hle hle' hcm hcm'
    go_enter Tryd.func12, Tryd.ntmps12
    go_wp2
    go_ret
    exact ⟨rfl, below_box2 _ _ _⟩
  have hn0' : n' ≠ 0 := fun e => h2 (List.length_eq_zero_iff.1 (by omega))
  have t2 : ((n' : Int) == 0) = false := by simp; omega
  rw [if_neg (by intro h; rcases h with h | h <;> contradiction)] at hr
  by_cases h3 : t = u
  · have t3 : (t != u) = false := by simpa using h3
    rw [if_neg (by simpa using h3)] at hr
    by_cases h4 : n = n'
    · have t4 : ((n : Int) != (n' : Int)) = false := by simp; omega
      rw [if_neg (by rw [← hn, ← hn']; simpa using h4)] at hr
      obtain ⟨z, hz⟩ : ∃ z, cmpN p q = z := ⟨_, rfl⟩
      rw [hz] at hr
      subst h4
      have HP := Lib.hid (RdLaw.mono hp hok)
      have HQ := Lib.hid (RdLaw.mono hq hok')
      have HZ := Lib.hid hz
      have HR := Lib.hid hr
      clear hr h1 h2 hn hn' hp hq hle hle' hcm hcm' hz h3 hn0 hn0'
      have HC : Hid (∀ (o1 o2 : Obj), Calls Tryd.prog 28 #[.slice A n c, .slice A' n c'] ((w.alloc o1).alloc o2) fun e w' => e = .returned (.int .i64 z) ∧ w' = (w.alloc o1).alloc o2) :=
        Lib.hid (fun o1 o2 => Compare_N (RdLaw.keep HP.out (fun _ hb => ((below_box2 w o1 o2).cell hb))) (RdLaw.keep HQ.out (fun _ hb => ((below_box2 w o1 o2).cell hb))) HZ.out)
      go_enter Tryd.func12, Tryd.ntmps12
      go_wp2_with fail
      go_at_call 28
      (with_reducible refine (HC.out _ _).mono ?_)
      rintro e w1 ⟨rfl, rfl⟩
      go_wp2
      go_ret
      exact ⟨by rw [← HR.out]; rfl, below_box2 _ _ _⟩
    · have t4 : ((n : Int) != (n' : Int)) = true := by simp; omega
      rw [if_pos (by rw [← hn, ← hn']; exact h4)] at hr
      rw [← hn, ← hn'] at hr
      have HR := Lib.hid hr
      clear hr h1 h2 hn hn' hp hq hle hle' hcm hcm' h3 h4 hn0 hn0'
      go_enter Tryd.func12, Tryd.ntmps12
      go_wp2
      go_ret
      exact ⟨by rw [← HR.out]; first | rfl | simp, below_box2 _ _ _⟩
  · have t3 : (t != u) = true := by simpa using h3
    rw [if_pos h3] at hr
    have HR := Lib.hid hr
    clear hr h1 h2 hn hn' hp hq hle hle' hcm hcm' h3 hn0 hn0'
    go_enter Tryd.func12, Tryd.ntmps12
    go_wp2
    go_ret
    exact ⟨by rw [← HR.out]; rfl, below_box2 _ _ _⟩
end Go.Proofs.YtnihheikaddmoaaDoor
