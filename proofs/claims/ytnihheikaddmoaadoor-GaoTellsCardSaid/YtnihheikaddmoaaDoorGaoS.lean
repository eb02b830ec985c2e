/- waywardenref2: WhatOf, BetterOf, BestOffer. -/
import Derived.Test.YtnihheikaddmoaaDoorGaoK
import Derived.Test.YtnihheikaddmoaaDoorGaoF
namespace Go.Proofs.YtnihheikaddmoaaDoor
open Go.ChangeShapes Go.WideShapes Go.ChangeAt Go.RowKit Ga
set_option linter.unusedVariables false
set_option linter.unusedSimpArgs false
theorem what_drop {d : List Deal} {k : Nat} {x y z : Int} (h : d[k]? = some (x, y, z)) (a b : Int) : whatL (d.drop k) a b = if x = a ∧ y = b then z else if x = b ∧ y = a then 4 - z else whatL (d.drop (k + 1)) a b := by
  rw [drop_of h]; rfl
set_option maxHeartbeats 1000000 in
theorem WhatOf_any {w : World} {ok : Nat → Prop} {A : Option Addr} {m c : Nat} {d : List Deal} {a b : Int} (hr : rdDeals w ok [.slice A m c] d) (hd : ∀ x ∈ d, 1 ≤ x.2.2 ∧ x.2.2 ≤ 3) {r : Int} (he : whatL d a b = r) :
    Calls Tryd.prog 14 #[.slice A m c, .int .i64 a, .int .i64 b] w fun e w' => e = .returned (.int .i64 r) ∧ w' = w := by
  obtain ⟨hm, hle, hcm⟩ := RdSlice.len hr
  have hm0 : m ≤ 9223372036854775807 := by unfold maxLen at hcm; omega
  have hc0 : c ≤ 9223372036854775807 := by unfold maxLen at hcm; omega
  have HM := Lib.hid hm
  have HD := Lib.hid hd
  have HR := Lib.hid hr
  have HE := Lib.hid he
  clear hm hcm hd hr he
  go_enter Tryd.func14, Tryd.ntmps14
  go_wp2
  go_loop [7] (fun i => ∃ k : Nat, k ≤ m ∧ i = .int .i64 k ∧ whatL (d.drop k) a b = r) (fun i => m - (intOf i).toNat)
  case atStart => exact ⟨0, Nat.zero_le _, rfl, HE.out⟩
  case round =>
    obtain ⟨k, hk, rfl, hno⟩ := hrel
    have HNO := Lib.hid hno; clear hno
    by_cases hlt : k < m
    · obtain ⟨g, o, x, y, z, rfl, _, HX, _, d0, d1, d2⟩ := RdSlice.atD HR.out hlt
      have hz := HD.out _ (List.mem_of_getElem? HX.out)
      simp only at hz
      have HS := Lib.hid ((what_drop HX.out a b).symm.trans HNO.out)
      have i0 : (0 : Int) ≤ (k : Int) := by omega
      have i1 : (k : Int) < (m : Int) := by omega
      obtain ⟨t1, h1⟩ : ∃ t, (x == a) = t := ⟨_, rfl⟩
      obtain ⟨t2, h2⟩ : ∃ t, (y == b) = t := ⟨_, rfl⟩
      obtain ⟨t3, h3⟩ : ∃ t, (x == b) = t := ⟨_, rfl⟩
      obtain ⟨t4, h4⟩ : ∃ t, (y == a) = t := ⟨_, rfl⟩
      cases t1 <;> cases t2
      case true.true =>
        have e : Hid (z = r) := Lib.hid (by rw [← HS.out, if_pos ⟨eq_of_beq h1, eq_of_beq h2⟩])
        go_wp2
        go_ret
        exact ⟨ret_int e.out, rfl⟩
      all_goals
        have hn : Hid (¬ (x = a ∧ y = b)) := Lib.hid (by simp only [beq_eq_false_iff_ne, beq_iff_eq, ne_eq] at h1 h2; first | (intro h; exact h1 h.1) | (intro h; exact h2 h.2))
        cases t3 <;> cases t4
        case true.true =>
          have e : Hid (4 - z = r) := Lib.hid (by rw [← HS.out, if_neg hn.out, if_pos ⟨eq_of_beq h3, eq_of_beq h4⟩])
          have hw : IntKind.i64.wrap (4 - z) = 4 - z := by rw [IntKind.wrap_i64]; omega
          go_wp2
          go_ret
          exact ⟨ret_int e.out, rfl⟩
        all_goals
          have hn2 : Hid (¬ (x = b ∧ y = a)) := Lib.hid (by simp only [beq_eq_false_iff_ne, beq_iff_eq, ne_eq] at h3 h4; first | (intro h; exact h3 h.1) | (intro h; exact h4 h.2))
          have e : Hid (whatL (d.drop (k + 1)) a b = r) := Lib.hid (by rw [← HS.out, if_neg hn.out, if_neg hn2.out])
          go_wp2
          exact ⟨⟨k + 1, by omega, by go_num, e.out⟩, by simp [intOf]; omega⟩
    · have e : Hid (0 = r) := Lib.hid (by rw [← HNO.out, List.drop_of_length_le (by have := HM.out; omega)]; rfl)
      go_wp2
      go_ret
      exact ⟨ret_int e.out, rfl⟩
set_option maxRecDepth 100000 in
set_option maxHeartbeats 2000000 in
theorem BetterOf_any {w : World} {ok ok' : Nat → Prop} {A A' : Option Addr} {n n' c c' : Nat} {t u : Int} {p q : List Int} {r : Bool} (hp : RdSlice 1 (rdInt .i64) w ok [.slice A n c] p) (hq : RdSlice 1 (rdInt .i64) w ok' [.slice A' n' c'] q) (hok : ∀ b, ok b → b < w.heap.size) (hok' : ∀ b, ok' b → b < w.heap.size) (hr : betterB (t, p) (u, q) = r) :
    Calls Tryd.prog 13 #[.agg #[.int .i64 t, .slice A n c], .agg #[.int .i64 u, .slice A' n' c']] w fun e w' => e = .returned (.bool r) ∧ Below w.heap.size w w' := by
  obtain ⟨hn, hle, hcm⟩ := hp.len
  obtain ⟨hn', hle', hcm'⟩ := hq.len
  have hm : n ≤ 9223372036854775807 := by unfold maxLen at hcm; omega
  have hm' : n' ≤ 9223372036854775807 := by unfold maxLen at hcm'; omega
  have HN := Lib.hid hn
  have HN' := Lib.hid hn'
  unfold betterB at hr
  simp only at hr
  by_cases h1 : p = []
  · have hz : n = 0 := by rw [hn, h1]; rfl
    have hr0 : r = false := by rw [← hr, if_pos (.inl h1), h1]; rfl
    subst hr0 hz
    clear hr h1 hn hn' hp hq hle hle' hcm hcm'
    go_enter Tryd.func13, Tryd.ntmps13
    go_wp2
    go_ret
    exact ⟨rfl, below_box2 _ _ _⟩
  have hn0 : n ≠ 0 := fun e => h1 (List.length_eq_zero_iff.1 (by omega))
  have t1 : ((n : Int) == 0) = false := by simp; omega
  by_cases h2 : q = []
  · have hz : n' = 0 := by rw [hn', h2]; rfl
    have hr0 : r = true := by
      rw [← hr, if_pos (.inr h2)]
      cases p with
      | nil => exact absurd rfl h1
      | cons a b => rfl
    have hpos : 0 < n := by omega
    subst hr0 hz
    clear hr h1 h2 hn hn' hp hq hle hle' hcm hcm'
    go_enter Tryd.func13, Tryd.ntmps13
    go_wp2
    go_ret
    exact ⟨rfl, below_box2 _ _ _⟩
  have hn0' : n' ≠ 0 := fun e => h2 (List.length_eq_zero_iff.1 (by omega))
  have t2 : ((n' : Int) == 0) = false := by simp; omega
  rw [if_neg (by intro h; rcases h with h | h <;> contradiction)] at hr
  by_cases h3 : t = u
  · have t3 : (t != u) = false := by simpa using h3
    rw [if_neg (by simpa using h3)] at hr
    by_cases h4 : n = n'
    · have t4 : ((n : Int) != (n' : Int)) = false := by simp; omega
      rw [if_neg (by rw [← hn, ← hn']; simpa using h4)] at hr
      have hpq : p.length = q.length := by omega
      obtain ⟨z, hz⟩ : ∃ z, cmpN p q = z := ⟨_, rfl⟩
      rw [hz] at hr
      subst h4
      have HP := Lib.hid (RdLaw.mono hp hok)
      have HQ := Lib.hid (RdLaw.mono hq hok')
      have HZ := Lib.hid hz
      have HR := Lib.hid hr
      clear hr h1 h2 hn hn' hp hq hle hle' hcm hcm' hz h3 hn0 hn0'
      have HL := Lib.hid hpq
      clear hpq
      have HC : Hid (∀ (o1 o2 : Obj), Calls Tryd.prog 29 #[.slice A n c, .slice A' n c'] ((w.alloc o1).alloc o2) fun e w' => e = .returned (.int .i64 z) ∧ Below w.heap.size w w') :=
        Lib.hid (fun o1 o2 => (Compared_any (RdLaw.keep HP.out (fun _ hb => ((below_box2 w o1 o2).cell hb))) (RdLaw.keep HQ.out (fun _ hb => ((below_box2 w o1 o2).cell hb)))).mono (by rintro e w' ⟨rfl, j, rfl⟩; exact ⟨by rw [cmpD_N _ _ HL.out, HZ.out], below_drewN (below_box2 _ _ _) _⟩))
      go_enter Tryd.func13, Tryd.ntmps13
      go_wp2_with fail
      go_at_call 29
      (with_reducible refine (HC.out _ _).mono ?_)
      rintro e w1 ⟨rfl, hb1⟩
      go_wp2
      go_ret
      exact ⟨by rw [← HR.out]; rfl, hb1⟩
    · have t4 : ((n : Int) != (n' : Int)) = true := by simp; omega
      rw [if_pos (by rw [← hn, ← hn']; exact h4)] at hr
      rw [← hn, ← hn'] at hr
      have HR := Lib.hid hr
      clear hr h1 h2 hn hn' hp hq hle hle' hcm hcm' h3 h4 hn0 hn0'
      go_enter Tryd.func13, Tryd.ntmps13
      go_wp2
      go_ret
      exact ⟨by rw [← HR.out]; first | rfl | simp, below_box2 _ _ _⟩
  · have t3 : (t != u) = true := by simpa using h3
    rw [if_pos h3] at hr
    have HR := Lib.hid hr
    clear hr h1 h2 hn hn' hp hq hle hle' hcm hcm' h3 hn0 hn0'
    go_enter Tryd.func13, Tryd.ntmps13
    go_wp2
    go_ret
    exact ⟨by rw [← HR.out]; rfl, below_box2 _ _ _⟩
end Go.Proofs.YtnihheikaddmoaaDoor
