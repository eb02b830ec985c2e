/- waywardenref2: Climbs, DealFault. -/
import Derived.Test.YtnihheikaddmoaaDoorGaoS
import Derived.Test.YtnihheikaddmoaaDoorGaoW
import Derived.Test.YtnihheikaddmoaaDoorGaoT
import Derived.Test.YtnihheikaddmoaaDoorGaoE
import Derived.Deep.DeepCutAuto
namespace Go.Proofs.YtnihheikaddmoaaDoor
open Go.ChangeShapes Go.WideShapes Go.ChangeAt Go.RowKit Ga
set_option linter.unusedVariables false
set_option linter.unusedSimpArgs false
def upK (W : Nat → Nat → Int) (n s a b k : Nat) : Bool := (List.range k).any fun j => decide (W a j = 3) && climbB W n s j b
theorem upK_succ (W : Nat → Nat → Int) (n s a b k : Nat) : upK W n s a b (k + 1) = (upK W n s a b k || (decide (W a k = 3) && climbB W n s k b)) := by unfold upK; rw [List.range_succ, List.any_append]; simp
theorem upK_of {W : Nat → Nat → Int} {n s a b k m : Nat} (hk : k < m) (h : (decide (W a k = 3) && climbB W n s k b) = true) : upK W n s a b m = true := List.any_eq_true.2 ⟨k, List.mem_range.2 hk, h⟩
set_option maxHeartbeats 4000000 in
theorem Climbs_any {w : World} {n : Nat} {A : Option Addr} {m c : Nat} {d : List Deal} (hD : R1 rdDeals w (.slice A m c) d) (hd : ∀ x ∈ d, 1 ≤ x.2.2 ∧ x.2.2 ≤ 3) (h8 : n ≤ 8) : ∀ s, s ≤ 8 → ∀ a b, a < n → b < n → ∀ r, climbB (WL d) n s a b = r →
    Calls Tryd.prog 15 #[.int .i64 n, .slice A m c, .int .i64 a, .int .i64 b, .int .i64 s] w fun e w' => e = .returned (.bool r) ∧ w' = w := by
  intro s
  induction s with
  | zero =>
    intro hs a b ha hb r hr
    by_cases e : a = b
    · subst e
      rw [climb_self] at hr
      subst hr
      go_enter Tryd.func15, Tryd.ntmps15
      go_wp2
      go_ret
      exact ⟨rfl, rfl⟩
    · have hr' : r = false := by rw [← hr]; simp [climbB, e]
      subst hr'
      have t1 : ((a : Int) == (b : Int)) = false := by simp; omega
      clear hr
      go_enter Tryd.func15, Tryd.ntmps15
      go_wp2
      refine wp_loop_rounds 1 ?_
      rw [rounds_succ]
      go_wp2
      go_ret
      exact ⟨rfl, rfl⟩
  | succ s ih =>
    intro hs a b ha hb r hr
    by_cases e : a = b
    · subst e
      rw [climb_self] at hr
      subst hr
      clear ih
      go_enter Tryd.func15, Tryd.ntmps15
      go_wp2
      go_ret
      exact ⟨rfl, rfl⟩
    · have t1 : ((a : Int) == (b : Int)) = false := by simp; omega
      have HR : Hid (upK (WL d) n s a b n = r) := Lib.hid (by rw [← hr]; unfold climbB; rw [show (a == b) = false by simpa using e]; rfl)
      have IH := Lib.hid ih
      have HD := Lib.hid hD
      have HDV := Lib.hid hd
      generalize hS : ((s + 1 : Nat) : Int) = S
      have v1 : IntKind.i64.wrap (S - 1) = (s : Int) := by rw [IntKind.wrap_i64]; omega
      have v2 : (0 : Int) < S := by omega
      have v3 : decide ((0 : Int) < S) = true := decide_eq_true v2
      clear hr ih hD hd hS
      go_enter Tryd.func15, Tryd.ntmps15
      go_wp2
      go_loopw [11] (fun t wr => ∃ k : Nat, k ≤ n ∧ t = .int .i64 k ∧ upK (WL d) n s a b k = false ∧ wr = w) (fun t _ => n - (intOf t).toNat)
      case atStart => exact ⟨0, Nat.zero_le _, rfl, rfl, rfl⟩
      case round =>
        obtain ⟨k, hk, rfl, hno, rfl⟩ := hrel
        have HNO := Lib.hid hno
        clear hno
        by_cases hlt : k < n
        · obtain ⟨z, hz⟩ : ∃ z, WL d a k = z := ⟨_, rfl⟩
          obtain ⟨q, hq⟩ : ∃ q, climbB (WL d) n s k b = q := ⟨_, rfl⟩
          have HZ : Hid (whatL d (a : Int) (k : Int) = z) := Lib.hid hz
          have HQ := Lib.hid hq
          have HS := Lib.hid (upK_succ (WL d) n s a b k)
          have HOF : Hid (z = 3 → q = true → upK (WL d) n s a b n = true) := Lib.hid (by
            rintro rfl rfl
            exact upK_of hlt (by rw [hz, hq]; rfl))
          have HN : Hid (z ≠ 3 ∨ q = false → upK (WL d) n s a b (k + 1) = false) := Lib.hid (by
            intro h
            rw [upK_succ, HNO.out, hz, hq]
            rcases h with h | h
            · simp [h]
            · simp [h])
          clear hz hq
          go_wp2_with fail
          go_at_call 14
          (with_reducible refine (WhatOf_any (R1.rd HD.out) HDV.out HZ.out).mono ?_)
          rintro e w1 ⟨rfl, rfl⟩
          by_cases h3 : z = 3
          · have t3 : (z == 3) = true := by simpa using h3
            go_wp2_with fail
            go_at_call 15
            (with_reducible refine (IH.out (by omega) k b hlt hb q HQ.out).mono ?_)
            rintro e w2 ⟨rfl, rfl⟩
            cases q
            · have HNX := Lib.hid (HN.out (.inr rfl))
              clear HOF HN h3
              go_wp2
              go_roundw
              case rel => exact ⟨k + 1, by omega, by go_num, HNX.out, trivial⟩
              case measure => simp [intOf]; omega
            · have HYES := Lib.hid (HR.out.symm.trans (HOF.out h3 rfl))
              clear HOF HN h3
              go_wp2
              go_ret
              exact ⟨ret_bool HYES.out.symm, rfl⟩
          · have t3 : (z == 3) = false := by simpa using h3
            have HNX := Lib.hid (HN.out (.inl h3))
            clear HOF HN h3
            go_wp2
            go_roundw
            case rel => exact ⟨k + 1, by omega, by go_num, HNX.out, trivial⟩
            case measure => simp [intOf]; omega
        · have e : k = n := by omega
          subst e
          have HE := Lib.hid (HR.out.symm.trans HNO.out)
          go_wp2
          go_ret
          exact ⟨ret_bool HE.out.symm, rfl⟩
theorem WhatOf_c {w : World} {A : Option Addr} {m c : Nat} {d : List Deal} {a b r : Int} (hr : R1 rdDeals w (.slice A m c) d) (hd : ∀ x ∈ d, 1 ≤ x.2.2 ∧ x.2.2 ≤ 3) (he : whatL d a b = r) (k : Nat) (os : Array Obj) :
    Calls Tryd.prog 14 #[.slice A m c, .int .i64 a, .int .i64 b] (Sort.grow (redrawn w k) os) fun e w'' => e = .returned (.int .i64 r) ∧ ∃ p : Regrown, w'' = Sort.grow (redrawn w p.d) p.os :=
  Calls.regrown_of ((WhatOf_any (R1.rd (hr.below (below_regrown w k os))) hd he).mono (by rintro e w' ⟨rfl, rfl⟩; exact ⟨rfl, Below.refl _ _⟩))
theorem what_ne {x y z : Int} : ∀ {l : List Deal}, (∀ v ∈ l, 1 ≤ v.2.2 ∧ v.2.2 ≤ 3) → (whatL l x y != 0) = l.any (pairD (x, y, z))
  | [], _ => rfl
  | v :: l, h => by
    have hv := h v (by simp)
    have ih := what_ne (x := x) (y := y) (z := z) (l := l) (fun u hu => h u (by simp [hu]))
    unfold whatL
    rw [List.any_cons]
    by_cases h1 : v.1 = x ∧ v.2.1 = y
    · rw [if_pos h1, show pairD (x, y, z) v = true from decide_eq_true (.inl h1)]
      simp; omega
    · rw [if_neg h1]
      by_cases h2 : v.1 = y ∧ v.2.1 = x
      · rw [if_pos h2, show pairD (x, y, z) v = true from decide_eq_true (.inr h2)]
        simp; omega
      · rw [if_neg h2, ih, show pairD (x, y, z) v = false from decide_eq_false (by rw [not_or]; exact ⟨h1, h2⟩)]
        rfl
def cycI (W : Nat → Nat → Int) (n i k : Nat) : Bool := (List.range k).any fun j => decide (W i j = 3) && climbB W n n j i
def cycK (W : Nat → Nat → Int) (n i : Nat) : Bool := (List.range i).any fun j => cycI W n j n
theorem cycI_succ (W : Nat → Nat → Int) (n i k : Nat) : cycI W n i (k + 1) = (cycI W n i k || (decide (W i k = 3) && climbB W n n k i)) := by unfold cycI; rw [List.range_succ, List.any_append]; simp
theorem cycK_succ (W : Nat → Nat → Int) (n i : Nat) : cycK W n (i + 1) = (cycK W n i || cycI W n i n) := by unfold cycK; rw [List.range_succ, List.any_append]; simp
theorem cycK_all (W : Nat → Nat → Int) (n : Nat) : cycK W n n = cycB W n := rfl
theorem cyc_of {W : Nat → Nat → Int} {n i k : Nat} (hi : i < n) (hk : k < n) (h : (decide (W i k = 3) && climbB W n n k i) = true) : cycB W n = true :=
  List.any_eq_true.2 ⟨i, List.mem_range.2 hi, List.any_eq_true.2 ⟨k, List.mem_range.2 hk, h⟩⟩
set_option maxRecDepth 100000 in
set_option maxHeartbeats 16000000 in
theorem DealFault_any {w : World} {n : Int} {A : Option Addr} {m c : Nat} {d : List Deal} (hd : R1 rdDeals w (.slice A m c) d) {e : Int} (he : dealE n d = e) :
    Calls Tryd.prog 5 #[.int .i64 n, .slice A m c] w fun v w' => v = .returned (.int .i64 e) ∧ Below w.heap.size w w' := by
  obtain ⟨hm, hle, hcm⟩ := RdSlice.len hd
  have HD := Lib.hid hd
  have HM := Lib.hid hm
  have hm0 : m ≤ 9223372036854775807 := by unfold maxLen at hcm; omega
  have hc0 : c ≤ 9223372036854775807 := by unfold maxLen at hcm; omega
  clear hd hm hcm
  by_cases h1 : n < 1
  · obtain rfl : e = 1 := by rw [← he]; unfold dealE; rw [if_pos (.inl h1)]
    clear he
    go_enter Tryd.func5, Tryd.ntmps5
    go_wp2
    go_ret
    exact ⟨rfl, Below.refl _ _⟩
  by_cases h2 : 8 < n
  · obtain rfl : e = 1 := by rw [← he]; unfold dealE; rw [if_pos (.inr h2)]
    clear he
    go_enter Tryd.func5, Tryd.ntmps5
    go_wp2
    go_ret
    exact ⟨rfl, Below.refl _ _⟩
  obtain ⟨N, rfl⟩ := Int.eq_ofNat_of_zero_le (show 0 ≤ n by omega)
  have hN1 : 1 ≤ N := by omega
  have hN8 : N ≤ 8 := by omega
  have HE0 : Hid ((if dealR N [] d = 0 then (if allDone N d = true then (0 : Int) else 3) else dealR N [] d) = e) := Lib.hid (by have h := he; unfold dealE at h; rw [if_neg (show ¬ ((N : Int) < 1 ∨ 8 < (N : Int)) by omega)] at h; exact h)
  clear he
  go_enter Tryd.func5, Tryd.ntmps5
  go_wp2
  go_loopw [5] (fun t wr => ∃ k : Nat, k ≤ m ∧ t = .int .i64 k ∧ dealR N (d.take k) (d.drop k) = dealR N [] d ∧ (∀ v ∈ d.take k, 1 ≤ v.2.2 ∧ v.2.2 ≤ 3) ∧ Below w.heap.size w wr) (fun t _ => m - (intOf t).toNat)
  case atStart => exact ⟨0, Nat.zero_le _, rfl, rfl, by simp, Below.refl _ _⟩
  case round =>
    obtain ⟨k, hk, rfl, hh, hv, hb⟩ := hrel
    have HH := Lib.hid hh
    have HV := Lib.hid hv
    have HB := Lib.hid hb
    have s1 := hb.size
    clear hh hb hv
    by_cases hlt : k < m
    · obtain ⟨b, o, x, y, z, rfl, hbb, HX, -, d0, d1, d2⟩ := RdSlice.atD HD.out hlt
      have c0 := (HB.out.cell hbb).trans d0
      have c1 := (HB.out.cell hbb).trans d1
      have c2 := (HB.out.cell hbb).trans d2
      have hbw : b < w.heap.size := hbb
      have HSTEP := Lib.hid ((dealR_drop (n := N) HX.out).symm.trans HH.out)
      have i0 : (0 : Int) ≤ (k : Int) := by omega
      have i1 : (k : Int) < (m : Int) := by omega
      clear d0 d1 d2
      by_cases hbad : x < 0 ∨ (N : Int) ≤ x ∨ y < 0 ∨ (N : Int) ≤ y ∨ z < 1 ∨ 3 < z
      · have hr1 : dealR N [] d = 1 := by rw [← HSTEP.out, if_pos (by unfold badD; exact decide_eq_true hbad)]
        obtain rfl : e = 1 := by rw [← HE0.out, hr1, if_neg (by omega)]
        have HBAD := Lib.hid hbad
        clear hbad hr1
        go_upto_region 11 with (fail)
        all_goals first
          | (go_ret; exact ⟨rfl, HB.out.alloc s1 _⟩)
          | (exfalso; have := HBAD.out; omega)
      · have hb0 : badD N (x, y, z) = false := by unfold badD; exact decide_eq_false hbad
        have HS1 := Lib.hid ((if_neg (by rw [hb0]; simp)).symm.trans HSTEP.out)
        have t0 : decide (x < 0) = false := decide_eq_false (by omega)
        have t1 : decide ((N : Int) ≤ x) = false := decide_eq_false (by omega)
        have t2 : decide (y < 0) = false := decide_eq_false (by omega)
        have t3 : decide ((N : Int) ≤ y) = false := decide_eq_false (by omega)
        have t4 : decide (z < 1) = false := decide_eq_false (by omega)
        have t5 : decide (3 < z) = false := decide_eq_false (by omega)
        have HV2 : Hid (∀ v ∈ d.take (k + 1), 1 ≤ v.2.2 ∧ v.2.2 ≤ 3) := Lib.hid (by
          intro v hv
          rw [take_succ_of HX.out] at hv
          rcases List.mem_append.1 hv with hv | hv
          · exact HV.out v hv
          · simp at hv; subst hv; simp only; omega)
        clear hb0 hbad
        cases t6 : (x == y)
        · have hxy : ¬ x = y := by simpa using t6
          have HS2 := Lib.hid ((if_neg hxy).symm.trans HS1.out)
          have HO1 : Hid (Below w.heap.size w (wr.alloc (.cells #[.int .i64 x, .int .i64 y, .int .i64 z] 42))) := Lib.hid (HB.out.alloc s1 _)
          have HP : Hid (R1 rdDeals (wr.alloc (.cells #[.int .i64 x, .int .i64 y, .int .i64 z] 42)) (.slice (some ⟨b, o, none⟩) k c) (d.take k)) := Lib.hid (RdLaw.mono (RdLaw.keep (RdSlice.pre HD.out k hk) (fun _ hp => HO1.out.cell hp)) (fun b hb => Nat.lt_of_lt_of_le hb (by have := HO1.out.size; exact this)))
          obtain ⟨r, hr⟩ : ∃ r, (d.take k).any (pairD (x, y, z)) = r := ⟨_, rfl⟩
          obtain ⟨z2, hz2⟩ : ∃ z2, whatL (d.take k) x y = z2 := ⟨_, rfl⟩
          have HR := Lib.hid hr
          have HZ2 := Lib.hid hz2
          have t7 : (z2 != 0) = r := by rw [← hz2, what_ne (z := z) HV.out, hr]
          have hkc : k ≤ c := by omega
          have hkc2 : (k : Int) ≤ (c : Int) := by omega
          obtain ⟨e0, e1, e2⟩ := row3 (heap_alloc_new wr (.cells #[.int .i64 x, .int .i64 y, .int .i64 z] 42))
          have j0 := fun d os => cell_regrown e0 d os
          have j1 := fun d os => cell_regrown e1 d os
          have s2 := HO1.out.size
          clear hxy hr hz2
          go_upto_region 11 with (fail)
          clear e0 e1 e2 c0 c1 c2
          generalize (wr.alloc (.cells #[.int .i64 x, .int .i64 y, .int .i64 z] 42)) = w5 at *
          refine wp_region_quiet_below (by kernel_rfl) (by kernel_rfl) ?_
          repeat (go_big_quiet_step (first | (with_reducible exact WhatOf_c HP.out HV.out HZ2.out _ _) | fail))
          refine wpQuiet_nil ?_
          intro w6 hw'
          obtain ⟨⟨dq, osq⟩, hw''⟩ := hw'
          have hb6 : Below w5.heap.size w5 w6 := by rw [hw'']; exact below_regrown w5 dq osq
          have HB6 := Lib.hid (HO1.out.trans (hb6.mono s2))
          clear j0 j1 hw'' hb6 HP
          cases r
          · have HS3 := Lib.hid ((if_neg (by rw [HR.out]; simp)).symm.trans HS2.out)
            go_wp2
            go_roundw
            case rel => exact ⟨k + 1, by omega, by go_num, HS3.out, HV2.out, HB6.out⟩
            case measure => simp [intOf]; omega
          · have hr5 : dealR N [] d = 5 := by rw [← HS2.out, if_pos HR.out]
            obtain rfl : e = 5 := by rw [← HE0.out, hr5, if_neg (by omega)]
            clear hr5
            go_wp2
            go_ret
            exact ⟨rfl, HB6.out⟩
        · have hxy : x = y := by simpa using t6
          have hr3 : dealR N [] d = 3 := by rw [← HS1.out, if_pos hxy]
          obtain rfl : e = 3 := by rw [← HE0.out, hr3, if_neg (by omega)]
          clear hxy hr3
          go_wp2
          go_ret
          exact ⟨rfl, HB.out.alloc s1 _⟩
    · have ek : k = m := by omega
      subst ek
      have hr0 : dealR N [] d = 0 := by rw [← HH.out, List.drop_of_length_le (by rw [HM.out]; exact Nat.le_refl _)]; rfl
      obtain ⟨j1, -, j3⟩ := dealR_ok (n := N) d [] hr0
      have HDV : Hid (∀ v ∈ d, 1 ≤ v.2.2 ∧ v.2.2 ≤ 3) := Lib.hid (fun v hv => ⟨(j1 v hv).2.2.2.2.1, (j1 v hv).2.2.2.2.2.1⟩)
      have HE1 : Hid ((if cycB (WL d) N = true then (3 : Int) else 0) = e) := Lib.hid (by
        rw [← HE0.out, if_pos hr0, cyc_done]
        cases allDone N d <;> rfl)
      have HDR := Lib.hid (HD.out.below HB.out)
      clear hr0 j1 j3 HH HV HE0
      go_wp2
      go_loopw [7] (fun t wq => ∃ i : Nat, i ≤ N ∧ t = .int .i64 i ∧ cycK (WL d) N i = false ∧ wq = wr) (fun t _ => N - (intOf t).toNat)
      case atStart => exact ⟨0, Nat.zero_le _, rfl, rfl, rfl⟩
      case round =>
        obtain ⟨i, hi, rfl, hci, rfl⟩ := hrel
        have HCI := Lib.hid hci
        clear hci
        by_cases hlt2 : i < N
        · go_wp2
          go_loopw [8] (fun t wq => ∃ k : Nat, k ≤ N ∧ t = .int .i64 k ∧ cycI (WL d) N i k = false ∧ wq = wr) (fun t _ => N - (intOf t).toNat)
          case atStart => exact ⟨0, Nat.zero_le _, rfl, rfl, rfl⟩
          case round =>
            obtain ⟨k2, hk2, rfl, hno, rfl⟩ := hrel
            have HNO := Lib.hid hno
            clear hno
            by_cases hlt3 : k2 < N
            · obtain ⟨z, hz⟩ : ∃ z, WL d i k2 = z := ⟨_, rfl⟩
              obtain ⟨q, hq⟩ : ∃ q, climbB (WL d) N N k2 i = q := ⟨_, rfl⟩
              have HZ : Hid (whatL d (i : Int) (k2 : Int) = z) := Lib.hid hz
              have HQ := Lib.hid hq
              have HOF : Hid (z = 3 → q = true → cycB (WL d) N = true) := Lib.hid (by
                rintro rfl rfl
                exact cyc_of hlt2 hlt3 (by rw [hz, hq]; rfl))
              have HN : Hid (z ≠ 3 ∨ q = false → cycI (WL d) N i (k2 + 1) = false) := Lib.hid (by
                intro h
                rw [cycI_succ, HNO.out, hz, hq]
                rcases h with h | h
                · simp [h]
                · simp [h])
              clear hz hq
              go_wp2_with fail
              go_at_call 14
              (with_reducible refine (WhatOf_any (R1.rd HDR.out) HDV.out HZ.out).mono ?_)
              rintro e1 w1 ⟨rfl, rfl⟩
              by_cases h3 : z = 3
              · have t3 : (z == 3) = true := by simpa using h3
                go_wp2_with fail
                go_at_call 15
                (with_reducible refine (Climbs_any HDR.out HDV.out hN8 N hN8 k2 i hlt3 hlt2 q HQ.out).mono ?_)
                rintro e2 w2 ⟨rfl, rfl⟩
                cases q
                · have HNX := Lib.hid (HN.out (.inr rfl))
                  clear HOF HN h3
                  go_wp2
                  go_roundw
                  case rel => exact ⟨k2 + 1, by omega, by go_num, HNX.out, trivial⟩
                  case measure => simp [intOf]; omega
                · have HYES := Lib.hid (HOF.out h3 rfl)
                  have HEE : Hid ((3 : Int) = e) := Lib.hid (by rw [← HE1.out, if_pos HYES.out])
                  clear HOF HN h3
                  go_wp2
                  go_ret
                  exact ⟨ret_int HEE.out, HB.out⟩
              · have t3 : (z == 3) = false := by simpa using h3
                have HNX := Lib.hid (HN.out (.inl h3))
                clear HOF HN h3
                go_wp2
                go_roundw
                case rel => exact ⟨k2 + 1, by omega, by go_num, HNX.out, trivial⟩
                case measure => simp [intOf]; omega
            · have ek2 : k2 = N := by omega
              subst ek2
              have HNX : Hid (cycK (WL d) k2 (i + 1) = false) := Lib.hid (by rw [cycK_succ, HCI.out, HNO.out]; rfl)
              go_wp2
              go_roundw
              case rel => exact ⟨i + 1, by omega, by go_num, HNX.out, trivial⟩
              case measure => simp [intOf]; omega
        · have ei : i = N := by omega
          subst ei
          have HEE : Hid ((0 : Int) = e) := Lib.hid (by rw [← HE1.out, ← cycK_all, HCI.out]; rfl)
          go_wp2
          go_ret
          exact ⟨ret_int HEE.out, HB.out⟩
end Go.Proofs.YtnihheikaddmoaaDoor
