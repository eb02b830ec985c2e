/- waywardenlaw5.GaoValleys. -/
import Derived.Test.YtnihheikaddmoaaGaoStable
import Derived.Deep.DeepCutAuto
namespace Go.Proofs.Ytnihheikaddmoaa
open Go.ChangeShapes Go.WideShapes Go.ChangeAt Go.RowKit Ga
set_option linter.unusedVariables false
set_option linter.unusedSimpArgs false
theorem Once_c {w : World} {A : Option Addr} {n c : Nat} {p : List Int} (hp : R1 (RdSlice 1 (rdInt .i64)) w (.slice A n c) p) (h : onceTo p p.length = true) (d : Nat) (os : Array Obj) :
    Calls Try.prog 13 #[.slice A n c] (Sort.grow (redrawn w d) os) fun e w'' => e = .returned (.bool true) ∧ ∃ p : Regrown, w'' = Sort.grow (redrawn w p.d) p.os :=
  Calls.regrown_of ((Once_any (R1.rd (hp.below (below_regrown w d os)))).mono (by rintro e w' ⟨rfl, k, rfl⟩; exact ⟨by rw [h], below_drewN (Below.refl _ _) _⟩))
theorem WhatOf_c {w : World} {A : Option Addr} {m c : Nat} {d : List Deal} {a b r : Int} (hr : R1 rdDeals w (.slice A m c) d) (hd : ∀ x ∈ d, 1 ≤ x.2.2 ∧ x.2.2 ≤ 3) (he : whatL d a b = r) (k : Nat) (os : Array Obj) :
    Calls Try.prog 14 #[.slice A m c, .int .i64 a, .int .i64 b] (Sort.grow (redrawn w k) os) fun e w'' => e = .returned (.int .i64 r) ∧ ∃ p : Regrown, w'' = Sort.grow (redrawn w p.d) p.os :=
  Calls.regrown_of ((WhatOf_any (R1.rd (hr.below (below_regrown w k os))) hd he).mono (by rintro e w' ⟨rfl, rfl⟩; exact ⟨rfl, Below.refl _ _⟩))
theorem val_next {d : List Deal} {p : List Int} {j n : Nat} {a b : Int} {down : Bool} (ha : p[j]? = some a) (hb : p[j + 1]? = some b) (ra : 0 ≤ a) (rb : 0 ≤ b) {z : Int} (hz : whatL d a b = z) (h : valB (WL d) down (p.drop j) = true) :
    z ≠ 0 ∧ (down = true → z = 1) ∧ valB (WL d) (down || decide (z ≠ 3)) (p.drop (j + 1)) = true := by
  rw [drop_of ha, drop_of hb] at h
  have e : WL d a.toNat b.toNat = z := by unfold WL; rw [Int.toNat_of_nonneg ra, Int.toNat_of_nonneg rb]; exact hz
  unfold valB at h
  rw [e] at h
  by_cases hc : z = 0 ∨ down = true ∧ z ≠ 1
  · rw [if_pos hc] at h; cases h
  · rw [if_neg hc] at h
    rw [drop_of hb]
    refine ⟨fun e => hc (.inl e), fun hd => ?_, h⟩
    by_cases e1 : z = 1
    · exact e1
    · exact absurd (.inr ⟨hd, e1⟩) hc
set_option maxRecDepth 100000 in
set_option maxHeartbeats 4000000 in
theorem GaoValleys_out {w : World} {n tz i k : Int} {A : Option Addr} {m c : Nat}
    (hW : ∀ w', Below w.heap.size w w' → Calls Try.prog 8 #[.int .i64 n, .slice A m c, .int .i64 tz] w' fun e w'' => e = .returned (.tuple #[.slice none 0 0, .iface 45 (.int .i64 k)]) ∧ Below w'.heap.size w' w'') :
    Calls Try.prog 5 #[.int .i64 n, .slice A m c, .int .i64 tz, .int .i64 i] w fun e w' => e = .returned (.bool true) ∧ Below w.heap.size w w' := by
  have HW := Lib.hid hW
  clear hW
  go_enter Try.func5, Try.ntmps5
  go_wp2_with fail
  go_at_call 7
  (with_reducible refine (dealt_any _).mono ?_)
  rintro e w1 ⟨rfl, hb1⟩
  have HB1 := Lib.hid hb1
  clear hb1
  go_wp2_with fail
  go_at_call 8
  (with_reducible refine (HW.out _ HB1.out).mono ?_)
  rintro e w2 ⟨rfl, hb2⟩
  have HB2 := Lib.hid (HB1.out.trans (hb2.mono HB1.out.size))
  clear hb2
  go_wp2
  go_ret
  exact ⟨rfl, HB2.out⟩
set_option maxRecDepth 100000 in
set_option maxHeartbeats 4000000 in
theorem GaoValleys_oor {w : World} {n tz : Nat} {i : Int} {A : Option Addr} {m c : Nat} {d : List Deal} (hd : R1 rdDeals w (.slice A m c) d) (he : dealE n d = 0) (ok : OkG n d) (hto : tz < n) (hi : i < 0 ∨ (n : Int) ≤ i) :
    Calls Try.prog 5 #[.int .i64 n, .slice A m c, .int .i64 tz, .int .i64 i] w fun e w' => e = .returned (.bool true) ∧ Below w.heap.size w w' := by
  have HD := Lib.hid hd
  have HE := Lib.hid he
  have HOK := Lib.hid ok
  clear hd he ok
  rcases hi with hi | hi
  all_goals
    go_enter Try.func5, Try.ntmps5
    go_wp2_with fail
    go_at_call 7
    (with_reducible refine (dealt_any _).mono ?_)
    rintro e w1 ⟨rfl, hb1⟩
    have HB1 := Lib.hid hb1
    have HD1 := Lib.hid (HD.out.below hb1)
    clear hb1
    go_wp2_with fail
    go_at_call 8
    (with_reducible refine (Ways_yes HD1.out HE.out HOK.out hto).mono ?_)
    rintro e w2 ⟨g, T, rfl, hws, hr, hsm, hb2⟩
    have HB2 := Lib.hid (HB1.out.trans (hb2.mono HB1.out.size))
    clear hb2 hws hr hsm
    go_wp2
    all_goals (go_ret; exact ⟨rfl, HB2.out⟩)
set_option maxRecDepth 100000 in
set_option maxHeartbeats 16000000 in
theorem GaoValleys_in {w : World} {n tz i : Nat} {A : Option Addr} {m c : Nat} {d : List Deal} (hd : R1 rdDeals w (.slice A m c) d) (he : dealE n d = 0) (ok : OkG n d) (hto : tz < n) (hi : i < n) :
    Calls Try.prog 5 #[.int .i64 n, .slice A m c, .int .i64 tz, .int .i64 i] w fun e w' => e = .returned (.bool true) ∧ Below w.heap.size w w' := by
  have HD := Lib.hid hd
  have HE := Lib.hid he
  have HOK := Lib.hid ok
  have h8 := ok.eight
  clear hd he ok
  go_enter Try.func5, Try.ntmps5
  go_wp2_with fail
  go_at_call 7
  (with_reducible refine (dealt_any _).mono ?_)
  rintro e w1 ⟨rfl, hb1⟩
  have HB1 := Lib.hid hb1
  have HD1 := Lib.hid (HD.out.below hb1)
  clear hb1
  go_wp2_with fail
  go_at_call 8
  (with_reducible refine (Ways_yes HD1.out HE.out HOK.out hto).mono ?_)
  rintro e w2 ⟨g, T, rfl, hws, hr, hsm, hb2⟩
  have HB2 := Lib.hid (HB1.out.trans (hb2.mono HB1.out.size))
  have HD2 := Lib.hid (HD1.out.below hb2)
  have HT := Lib.hid (hws.read (by omega))
  have i0 : (0 : Int) ≤ (i : Int) := by omega
  have i1 : (i : Int) < (n : Int) := by omega
  obtain ⟨bg, og, t, p, A1, c1, eA, hbb, HX, _, hp, d0, d1⟩ := RdSlice.atW HT.out hi
  simp only [Option.some.injEq, Addr.mk.injEq, and_true] at eA
  obtain ⟨rfl, rfl⟩ := eA
  simp only [Nat.zero_add] at d0 d1
  have hwy : wy T i = (t, p) := wy_at HX.out
  have hsmall := (Small.len hsm h8 _ (List.mem_of_getElem? HX.out))
  simp only at hsmall
  have hshape := rest_shape hr hi
  have hright := rest_right HOK.out.okw hto hr p.length i (by rw [hwy]) hi
  rw [hwy] at hshape hright
  have HP := Lib.hid (show R1 (RdSlice 1 (rdInt .i64)) w2 (.slice A1 p.length c1) p from hp)
  have hc1 := (RdSlice.len hp).2.2
  have hc2 := (RdSlice.len hp).2.1
  have hc1' : c1 ≤ 9223372036854775807 := by unfold maxLen at hc1; omega
  have HDV : Hid (∀ x ∈ d, 1 ≤ x.2.2 ∧ x.2.2 ≤ 3) := Lib.hid (fun x hx => ⟨(HOK.out.rng x hx).2.2.2.2.1, (HOK.out.rng x hx).2.2.2.2.2.1⟩)
  clear hb2 hws hr hsm hp hwy hc1
  by_cases h0 : p = []
  · subst h0
    have ht : t = 0 := by
      rcases hshape with ⟨_, e⟩ | ⟨_, e⟩ | ⟨_, k, _, _, e⟩
      · simp at e
      · simpa using e
      · simp at e
    subst ht
    clear hshape hright hsmall
    simp only [List.length_nil] at d1
    go_wp2
    go_ret
    exact ⟨rfl, HB2.out⟩
  have hR := hright h0
  have HR := Lib.hid hR
  obtain ⟨pt, hpt⟩ := hR.head
  have hpt : p = (i : Int) :: pt := hpt
  obtain ⟨mm, hmm⟩ : ∃ mm, p.length = mm + 1 := ⟨pt.length, by rw [hpt]; rfl⟩
  have HPT := Lib.hid hpt
  have HMM := Lib.hid hmm
  rw [hmm] at d1 hc2 hsmall HP
  obtain ⟨bw, ow, x, rfl, hbw, HXA, _, hx0⟩ := RdSlice.atI (R1.rd HP.out) (show 0 < mm + 1 by omega)
  obtain ⟨bw', ow', y, eb, _, HYA, _, hy0⟩ := RdSlice.atI (R1.rd HP.out) (show mm < mm + 1 by omega)
  simp only [Option.some.injEq, Addr.mk.injEq, and_true] at eb
  obtain ⟨rfl, rfl⟩ := eb
  obtain rfl : (i : Int) = x := by have := HXA.out; rw [hpt] at this; simpa using this
  obtain rfl : (tz : Int) = y := by
    have h1 := hR.last
    have h2 := HYA.out
    simp only at h1
    rw [List.getLast?_eq_getElem?, hmm, Nat.add_sub_cancel, h2] at h1
    simpa using h1.symm
  have HONE := Lib.hid (once_nodup hR.once)
  clear hR hright hshape h0 hpt hmm HXA HYA HX
  have q1 : (((mm + 1 : Nat) : Int) == 0) = false := by simp; omega
  have q2 : IntKind.i64.wrap (((mm + 1 : Nat) : Int) - 1) = (mm : Int) := by rw [IntKind.wrap_i64]; omega
  have q2' : IntKind.i64.wrap ((mm : Int)) = (mm : Int) := by rw [IntKind.wrap_i64]; omega
  have q3 : (0 : Int) ≤ (mm : Int) := by omega
  have q4 : (mm : Int) < ((mm + 1 : Nat) : Int) := by omega
  have q5 : ((i : Int) != (i : Int)) = false := by simp
  have q6 : ((tz : Int) != (tz : Int)) = false := by simp
  have j0 := fun d os => cell_regrown d0 d os
  have j2 := fun d os => cell_regrown hx0 d os
  have j3 := fun d os => cell_regrown hy0 d os
  simp only [Nat.add_zero] at j2
  cases mm with
  | zero =>
    have e := hx0.symm.trans hy0
    simp only [Option.some.injEq, Value.int.injEq, true_and] at e
    obtain rfl : i = tz := by omega
    clear e
    go_upto_region 10 with (fail)
    refine wp_region_quiet_below (by kernel_rfl) (by kernel_rfl) ?_
    repeat (go_big_quiet_step (first | (with_reducible exact Once_c HP.out HONE.out _ _) | fail))
    refine wpQuiet_nil ?_
    intro w4 hw'
    obtain ⟨⟨dq, osq⟩, hw''⟩ := hw'
    have hb4 : Below w2.heap.size w2 w4 := by rw [hw'']; exact below_regrown w2 dq osq
    have HB4 := Lib.hid (HB2.out.trans (hb4.mono HB2.out.size))
    clear j0 j2 j3 hw'' hb4
    go_wp2
    refine wp_loop_rounds 1 ?_
    rw [rounds_succ]
    go_wp2
    go_ret
    exact ⟨rfl, HB4.out⟩
  | succ mm =>
    obtain ⟨bw', ow', y, eb, _, HYA, _, hy1⟩ := RdSlice.atI (R1.rd HP.out) (show 1 < mm + 1 + 1 by omega)
    simp only [Option.some.injEq, Addr.mk.injEq, and_true] at eb
    obtain ⟨rfl, rfl⟩ := eb
    have j4 := fun d os => cell_regrown hy1 d os
    have HWH : Hid (whatL d (i : Int) y = t) := Lib.hid (by
      have h1 := HYA.out
      rw [HPT.out] at h1
      obtain ⟨r, hr⟩ : ∃ r, pt = y :: r := by
        cases pt with
        | nil => simp at h1
        | cons a r => simp at h1; exact ⟨r, by rw [h1]⟩
      have h2 := HR.out.what (i : Int) y r (by simp only; rw [HPT.out, hr])
      have h3 := (HR.out.mem y (by simp only; rw [HPT.out, hr]; simp)).1
      simp only at h2
      rw [h2]
      unfold WL
      rw [Int.toNat_of_nonneg h3, Int.toNat_natCast])
    have q7 : (t != t) = false := by simp
    have q8 : decide ((1 : Int) < ((mm + 1 + 1 : Nat) : Int)) = true := by simp; omega
    have q9 : (1 : Int) < ((mm + 1 + 1 : Nat) : Int) := by omega
    have q10 : (1 : Int) < (mm : Int) + 1 + 1 := by omega
    have q11 : decide ((1 : Int) < (mm : Int) + 1 + 1) = true := by simp; omega
    have q12 : decide (1 < mm + 1 + 1) = true := by simp
    go_upto_region 10 with (fail)
    refine wp_region_quiet_below (by kernel_rfl) (by kernel_rfl) ?_
    repeat (go_big_quiet_step (first | (with_reducible exact Once_c HP.out HONE.out _ _) | (with_reducible exact WhatOf_c HD2.out HDV.out HWH.out _ _) | fail))
    refine wpQuiet_nil ?_
    intro w4 hw'
    obtain ⟨⟨dq, osq⟩, hw''⟩ := hw'
    have hb4 : Below w2.heap.size w2 w4 := by rw [hw'']; exact below_regrown w2 dq osq
    have HB4 := Lib.hid (HB2.out.trans (hb4.mono HB2.out.size))
    have HD4 := Lib.hid (HD2.out.below hb4)
    have HP4 := Lib.hid (HP.out.below hb4)
    have HVAL := Lib.hid HR.out.val
    have HMEM := Lib.hid HR.out.mem
    clear j0 j2 j3 j4 hw'' hb4 HP HD2 HD1 HB2 HB1 HR HT q1 q2 q2' q3 q4 q5 q6 q7 q8 q9 q10 q11 q12 HYA hy1 hx0 hy0 d0 d1 HWH HONE HPT hbw i0 i1 hbb
    go_wp2
    go_loopw [13, 14] (fun v tk wr => ∃ (down : Bool) (j : Nat), j < mm + 1 + 1 ∧ v = .bool down ∧ tk = .int .i64 ((j + 1 : Nat) : Int) ∧ valB (WL d) down (p.drop j) = true ∧ Below w4.heap.size w4 wr) (fun _ tk _ => mm + 3 - (intOf tk).toNat)
    case atStart => exact ⟨false, 0, by omega, rfl, rfl, HVAL.out, Below.refl _ _⟩
    case round =>
      obtain ⟨down, j, hj, rfl, rfl, hval, hb⟩ := hrel
      have HVL := Lib.hid hval
      have HB := Lib.hid hb
      have s4 := HB4.out.size
      have HBW := Lib.hid (HB4.out.trans (hb.mono s4))
      have s5 := hb.size
      have s6 := HBW.out.size
      clear hval hb
      by_cases hlt : j + 1 < mm + 1 + 1
      · have HP5 := Lib.hid (HP4.out.below HB.out)
        have HD5 := Lib.hid (HD4.out.below HB.out)
        obtain ⟨ba, oa, xa, ea, _, HA, _, ha⟩ := RdSlice.atI (R1.rd HP5.out) (show j < mm + 1 + 1 by omega)
        obtain ⟨bb, ob, xb, eb, _, HBB, _, hb⟩ := RdSlice.atI (R1.rd HP5.out) hlt
        simp only [Option.some.injEq, Addr.mk.injEq, and_true] at ea eb
        obtain ⟨rfl, rfl⟩ := ea
        obtain ⟨rfl, rfl⟩ := eb
        obtain ⟨z, hz⟩ : ∃ z, whatL d xa xb = z := ⟨_, rfl⟩
        have HZ := Lib.hid hz
        have hn := val_next (n := n) HA.out HBB.out (HMEM.out xa (List.mem_of_getElem? HA.out)).1 (HMEM.out xb (List.mem_of_getElem? HBB.out)).1 hz HVL.out
        have HN := Lib.hid hn
        have k0 := fun d os => cell_regrown ha d os
        have k1 := fun d os => cell_regrown hb d os
        have r1 : IntKind.i64.wrap (j : Int) = (j : Int) := by rw [IntKind.wrap_i64]; omega
        have r2 : IntKind.i64.wrap (((j + 1 : Nat) : Int) - 1) = (j : Int) := by rw [IntKind.wrap_i64]; omega
        have r3 : IntKind.i64.wrap ((j : Int) + 1 - 1) = (j : Int) := by rw [IntKind.wrap_i64]; omega
        have r4 : (0 : Int) ≤ (j : Int) := by omega
        have r5 : (j : Int) < ((mm + 1 + 1 : Nat) : Int) := by omega
        have r6 : (j : Int) < (mm : Int) + 1 + 1 := by omega
        have r7 : (j : Int) + 1 < (mm : Int) + 1 + 1 := by omega
        have r8 : (0 : Int) ≤ (j : Int) + 1 := by omega
        clear ha hb hz hn
        go_upto_region 16 with (fail)
        refine wp_region_quiet_below (by kernel_rfl) (by kernel_rfl) ?_
        repeat (go_big_quiet_step (first | (with_reducible exact WhatOf_c HD5.out HDV.out HZ.out _ _) | fail))
        refine wpQuiet_nil ?_
        intro w6 hw'
        obtain ⟨⟨dq, osq⟩, hw''⟩ := hw'
        have hb6 : Below wr.heap.size wr w6 := by rw [hw'']; exact below_regrown wr dq osq
        have HB6 := Lib.hid (HB.out.trans (hb6.mono s5))
        have z0 : (z == 0) = false := by simpa using HN.out.1
        obtain ⟨z1, hz1⟩ : ∃ q, (z != 1) = q := ⟨_, rfl⟩
        obtain ⟨z3, hz3⟩ : ∃ q, (z != 3) = q := ⟨_, rfl⟩
        have HV2 : Hid (valB (WL d) (down || z3) (p.drop (j + 1)) = true) := Lib.hid (by
          have := HN.out.2.2
          rw [← hz3, show (z != 3) = decide (z ≠ 3) by by_cases e : z = 3 <;> simp [e]]
          exact this)
        have HD1 : Hid (down = true → z1 = false) := Lib.hid (fun h => by rw [← hz1, HN.out.2.1 h]; rfl)
        clear k0 k1 hw'' hb6 HP5 HD5 HN HZ HA HBB
        cases down
        · go_wp2
          go_roundw
          case rel => exact ⟨z3, j + 1, by omega, rfl, by go_num, by simpa using HV2.out, HB6.out⟩
          case measure => simp [intOf]; omega
        · obtain rfl : z1 = false := by have := HD1.out; simpa using this
          go_wp2
          go_roundw
          case rel => exact ⟨true, j + 1, by omega, rfl, by go_num, by simpa using HV2.out, HB6.out⟩
          case measure => simp [intOf]; omega
      · have e : j = mm + 1 := by omega
        subst e
        go_wp2
        go_ret
        exact ⟨rfl, HBW.out⟩
theorem GaoValleys_walk (w : World) (n : Int) (bn : -9223372036854775808 ≤ n ∧ n ≤ 9223372036854775807) (A : Option Addr) (m c : Nat) (l : List Deal) (rr1 : RV rdDeals w (.slice A m c) l) (q1 : l.length * 24 ≤ reachBytes ∧ ∀ x ∈ l, True ∧ True ∧ True) (i : Int) (bi : -9223372036854775808 ≤ i ∧ i ≤ 9223372036854775807) (j : Int) (bj : -9223372036854775808 ≤ j ∧ j ≤ 9223372036854775807) :
    Calls Try.prog 5 #[.int .i64 n, .slice A m c, .int .i64 i, .int .i64 j] w fun e w' => e = .returned (.bool true) ∧ Below w.heap.size w w' := by
  have hr : R1 rdDeals w (.slice A m c) l := rr1
  by_cases h0 : dealE n l = 0
  · obtain ⟨N, rfl, hok⟩ := dealE_ok h0
    by_cases hi : i < 0 ∨ (N : Int) ≤ i
    · exact GaoValleys_out (k := 1) (fun w' hb => Ways_out (hr.below hb) h0 hi)
    · obtain ⟨I, rfl⟩ := Int.eq_ofNat_of_zero_le (show 0 ≤ i by omega)
      by_cases hj : j < 0 ∨ (N : Int) ≤ j
      · exact GaoValleys_oor hr h0 hok (by omega) hj
      · obtain ⟨J, rfl⟩ := Int.eq_ofNat_of_zero_le (show 0 ≤ j by omega)
        exact GaoValleys_in hr h0 hok (by omega) (by omega)
  · exact GaoValleys_out (k := dealE n l) (fun w' hb => Ways_bad (hr.below hb) rfl h0)
end Go.Proofs.Ytnihheikaddmoaa
