/- waywardenlaw5.PlanFirst: its walk. -/
import Derived.Test.YtplojnlmofbneaaPlanB
namespace Go.Proofs.Ytplojnlmofbneaa
open Go.ChangeShapes Go.WideShapes Go.ChangeAt Go.RowKit
set_option linter.unusedVariables false
set_option linter.unusedSimpArgs false
theorem cellI {k : IntKind} {w : World} {ok : Nat → Prop} {b o n c : Nat} {xs : List Int} (h : RdSlice 1 (rdInt k) w ok [.slice (some ⟨b, o, none⟩) n c] xs) {i : Nat} {x : Int} (hx : xs[i]? = some x) : w.cell? ⟨b, o + i, none⟩ = some (.int k x) := by
  have hi : i < n := by have := (List.getElem?_eq_some_iff.1 hx).1; have := h.len.1; omega
  obtain ⟨b', o', y, e, _, HY, _, hc⟩ := h.atI hi
  simp only [Option.some.injEq, Addr.mk.injEq, and_true] at e
  obtain ⟨rfl, rfl⟩ := e
  have := HY.out
  rw [hx] at this
  injection this with this
  rw [this]; exact hc
theorem PlanOk.at_of {a : Int} {n : Nat} {L W : List Int} {ns : List Nt} (h : PlanOk a n L W ns) {V V' : List Int} {i : Nat} (e : W = V ++ (i : Int) :: V') (hi : i < L.length) : ns[i]? = some (a + sumK L V, keyL L (i : Int)) := by
  have hn := h.nodup
  rw [e] at hn
  obtain ⟨h1, h2, h3⟩ := List.nodup_append.1 hn
  rw [h.ns, e]
  exact putAll_get L V V' a _ i (by rw [← e]; exact h.nonneg) (fun hx => h3 _ hx _ (by simp) rfl) (List.nodup_cons.1 h2).1 (by simpa using hi)
/-- a net of a placed one's size that lies ahead of it shares addresses with one that was placed before -/
theorem PlanOk.first {a : Int} {n : Nat} {L W : List Int} {ns : List Nt} (h : PlanOk a n L W ns) {I : Nat} {P K b : Int} (hI : ns[I]? = some (P, K)) (hin : inB (b, K) (a, (n : Int)) = true) (hlt : b < P) :
    ∃ (k : Nat) (p kk : Int), ns[k]? = some (p, kk) ∧ (kk < K ∨ kk = K ∧ k < I) ∧ inB (b, K) (p, kk) = true := by
  have hi : I < L.length := by rw [← h.len]; exact (List.getElem?_eq_some_iff.1 hI).1
  obtain ⟨V, V', e, hn⟩ := h.at_ hi
  rw [hI] at hn
  simp only [Option.some.injEq, Prod.mk.injEq] at hn
  obtain ⟨rfl, rfl⟩ := hn
  obtain ⟨K', hK, eK, _⟩ := h.key hi
  rw [eK] at hin ⊢
  obtain ⟨_, _, _, _, _, g6, _⟩ := h.good e hi eK
  obtain ⟨f1, _, f3, f4⟩ := inB_iff.1 hin
  have hb : hasB (a, (n : Int)) b = true := hasB_iff.2 ⟨h.net, f4⟩
  have hb1 := (has_span h.net).1 hb
  obtain ⟨X, x, X', eV, hx1, hx2⟩ := covered_by L V a b hb1.1 hlt
  have hxV : x ∈ V := by rw [eV]; simp
  have hxW : x ∈ W := by rw [e]; simp [hxV]
  obtain ⟨k, rfl, hk⟩ := h.idx hxW
  have e2 : W = X ++ (k : Int) :: (X' ++ (I : Int) :: V') := by rw [e, eV]; simp
  obtain ⟨kk, hkk, ek, _⟩ := h.key hk
  obtain ⟨_, _, g3, _⟩ := h.good e2 hk ek
  have hr := g6 _ hxV
  unfold Rl at hr
  rw [ek, eK] at hr
  rw [ek, Int.toNat_natCast] at hx2
  refine ⟨k, _, _, h.at_of e2 hk, by rw [ek]; omega, ?_⟩
  rw [ek]
  have hself : hasB (b, (K' : Int)) b = true := (has_span f1).2 ⟨Int.le_refl _, by have := lowI_pos K'; omega⟩
  exact in_of_has hself ((has_span g3).2 ⟨hx1, hx2⟩) (by simp only; omega)
theorem PlanFirst_no {w : World} {a N b M i : Int} {A : Option Addr} {m c : Nat} {L : List Int} (ha : is32 a) (hL : R1 (RdSlice 1 (rdInt .i64)) w (.slice A m c) L) (hf : fitF (a, N) L ≠ 0) :
    Calls Try.prog 6 #[.agg #[.int .u32 a, .int .i64 N], .slice A m c, .int .i64 i, .agg #[.int .u32 b, .int .i64 M]] w fun e w' => e = .returned (.bool true) ∧ Below w.heap.size w w' := by
  have HL := Lib.hid hL
  have HF := Lib.hid hf
  clear hL hf
  go_enter Try.func6, Try.ntmps6
  go_wp2_with fail
  go_at_call 15
  (with_reducible refine (planned_any _).mono ?_)
  rintro e w1 ⟨rfl, hb1⟩
  obtain ⟨bx0, bx1⟩ := box2 hb1
  obtain ⟨d0, d1, _, _⟩ := row2 bx0
  have HB1 := Lib.hid ((below_2 w _ _).trans (hb1.mono (by simp; omega)))
  have HL1 := Lib.hid (HL.out.below HB1.out)
  have hz1 := HB1.out.size
  clear hb1 bx0 bx1
  go_wp2_with fail
  go_at_call 13
  (with_reducible refine (Fit_no ha HL1.out HF.out).mono ?_)
  rintro e w2 ⟨rfl, hb2⟩
  rw [errV_ne HF.out]
  have HB2 := Lib.hid (HB1.out.trans (hb2.mono hz1))
  clear hb2
  go_wp2
  go_ret
  exact ⟨rfl, HB2.out⟩
set_option maxRecDepth 100000 in
set_option maxHeartbeats 16000000 in
theorem PlanFirst_yes {w : World} {a b M i : Int} {N : Nat} {A : Option Addr} {m c : Nat} {L : List Int} (ha : is32 a) (hb : is32 b) (hL : R1 (RdSlice 1 (rdInt .i64)) w (.slice A m c) L) (hf : fitF (a, (N : Int)) L = 0) :
    Calls Try.prog 6 #[.agg #[.int .u32 a, .int .i64 N], .slice A m c, .int .i64 i, .agg #[.int .u32 b, .int .i64 M]] w fun e w' => e = .returned (.bool true) ∧ Below w.heap.size w w' := by
  have hm := (RdSlice.len hL).1
  have HL := Lib.hid hL
  have HF := Lib.hid hf
  have HA := Lib.hid ha
  have HOb := Lib.hid hb
  have HM := Lib.hid hm
  obtain ⟨h0, h64, hbad⟩ := room_parts (fit_room hf).1
  have HTop := Lib.hid (net_top ha h0)
  have hm64 : m ≤ 64 := by omega
  clear hL hf ha hb hm h0 hbad h64
  go_enter Try.func6, Try.ntmps6
  go_wp2_with fail
  go_at_call 15
  (with_reducible refine (planned_any _).mono ?_)
  rintro e w1 ⟨rfl, hb1⟩
  obtain ⟨bx0, bx1⟩ := box2 hb1
  obtain ⟨d0, d1, _, _⟩ := row2 bx0
  have HO1 := Lib.hid bx0
  have HP1 := Lib.hid bx1
  have HB1 := Lib.hid ((below_2 w _ _).trans (hb1.mono (by simp; omega)))
  have HL1 := Lib.hid (HL.out.below HB1.out)
  have hz1 := HB1.out.size
  have hz1' : w.heap.size < w1.heap.size := size_of_block HO1.out
  have hz1'' : w.heap.size + 1 < w1.heap.size := size_of_block HP1.out
  clear hb1 bx0 bx1
  go_wp2_with fail
  go_at_call 13
  (with_reducible refine (Fit_yes HA.out HL1.out HF.out HTop.out).mono ?_)
  rintro e w2 ⟨W, g, hW, rfl, hout, hb2, hg⟩
  rw [← HM.out]
  have HP := Lib.hid (plan_of HA.out HF.out hW)
  rw [← HM.out] at HP hout
  obtain ⟨ns, hns⟩ : ∃ ns, putAll L W a (List.replicate m (0, 0)) = ns := ⟨_, rfl⟩
  rw [hns] at HP hout
  have HOut := Lib.hid hout
  have hout0 := hout.lt
  have HO2 := Lib.hid (below_block hb2 hz1' HO1.out)
  have HP2 := Lib.hid (below_block hb2 hz1'' HP1.out)
  have HL2 := Lib.hid (HL1.out.below hb2)
  have HB2 := Lib.hid (HB1.out.trans (hb2.mono hz1))
  have hz2 := HB2.out.size
  have hz2' : w.heap.size < w2.heap.size := size_of_block HO2.out
  have hz2'' : w.heap.size + 1 < w2.heap.size := size_of_block HP2.out
  clear hb2 hW hns hout d0 d1
  by_cases hi0 : i < 0
  · go_wp2
    go_ret
    exact ⟨rfl, HB2.out⟩
  by_cases hi1 : (m : Int) ≤ i
  · go_wp2
    go_ret
    exact ⟨rfl, HB2.out⟩
  obtain ⟨I, rfl⟩ := Int.eq_ofNat_of_zero_le (show 0 ≤ i by omega)
  have hIm : I < m := by omega
  have hIL : I < L.length := by rw [← HM.out]; exact hIm
  obtain ⟨P, K, hnI, hLI, hpI, -, hK32, -⟩ := HP.out.entry hIL
  have HNI := Lib.hid hnI
  have HLI := Lib.hid hLI
  have HPI := Lib.hid hpI
  have i2 : (0 : Int) ≤ (I : Int) := by omega
  have i3 : (I : Int) < (m : Int) := by omega
  have i6 : decide ((m : Int) ≤ (I : Int)) = false := by simp; omega
  have i7 : decide ((I : Int) < 0) = false := by simp
  have i8 : decide (m ≤ I) = false := by simp; omega
  clear hnI hLI hpI hi0 hi1
  go_wp2
  go_loopw [12] (fun iv wr => ∃ k : Nat, k ≤ m ∧ iv = .int .i64 (k : Int) ∧ Below w2.heap.size w2 wr) (fun iv _ => m - (intOf iv).toNat)
  case atStart => exact ⟨0, Nat.zero_le _, rfl, Below.refl _ _⟩
  case round =>
    obtain ⟨k, hk, rfl, hbr⟩ := hrel
    have HBR := Lib.hid hbr
    have hzr := hbr.size
    clear hbr
    obtain ⟨b0, o0, y, rfl, hbb, HY, wy, c1⟩ := HL2.out.atI hIm
    obtain rfl : y = (K : Int) := by have := HY.out; rw [HLI.out] at this; simpa using this.symm
    have r4 := (HBR.out.cell (p := ⟨b0, o0 + I, none⟩) hbb).trans c1
    have r2 := (HBR.out.cell (p := ⟨g, I * 2, none⟩) hout0).trans (HOut.out.cells HNI.out).1
    have r3 := (HBR.out.cell (p := ⟨g, I * 2 + 1, none⟩) hout0).trans (HOut.out.cells HNI.out).2.1
    have j2 := fun d os => cell_regrown r2 d os
    have j3 := fun d os => cell_regrown r3 d os
    have j4 := fun d os => cell_regrown r4 d os
    clear r2 r3 r4 HY wy c1
    by_cases hlt : k < m
    · have hkL : k < L.length := by rw [← HM.out]; exact hlt
      obtain ⟨p, kk, hnk, hLk, hp, -, hkk, -⟩ := HP.out.entry hkL
      have HNK := Lib.hid hnk
      have HPp := Lib.hid hp
      have c2 := cellI HL2.out hLk
      have r0 := (HBR.out.cell (p := ⟨g, k * 2, none⟩) hout0).trans (HOut.out.cells hnk).1
      have r1 := (HBR.out.cell (p := ⟨g, k * 2 + 1, none⟩) hout0).trans (HOut.out.cells hnk).2.1
      have r5 := (HBR.out.cell (p := ⟨b0, o0 + k, none⟩) hbb).trans c2
      have j0 := fun d os => cell_regrown r0 d os
      have j1 := fun d os => cell_regrown r1 d os
      have j5 := fun d os => cell_regrown r5 d os
      have i0 : (0 : Int) ≤ (k : Int) := by omega
      have i1 : (k : Int) < (m : Int) := by omega
      clear r0 r1 r5 c2 hnk hLk hp
      by_cases hKK : (kk : Int) = (K : Int)
      · obtain rfl : kk = K := by omega
        rcases Nat.lt_trichotomy k I with h | h | h
        · have HLS : Hid (lessB (p, (kk : Int)) (P, (kk : Int)) = true) := Lib.hid (lessB_iff.2 (.inl ((HP.out.two (by omega) HNK.out HNI.out).2.2 (.inr ⟨rfl, h⟩))))
          have i4 : (k : Int) < (I : Int) := by omega
          have i5 : ¬ (k : Int) = (I : Int) := by omega
          go_wp2
          refine wp_region_quiet_below (by kernel_rfl) (by kernel_rfl) ?_
          repeat (go_big_quiet_step (first | (with_reducible exact less_c HLS.out _ _) | fail))
          refine wpQuiet_nil ?_
          intro w6 hw'
          obtain ⟨⟨dq, osq⟩, hw''⟩ := hw'
          have HB6 := Lib.hid (HBR.out.trans (((show Below wr.heap.size wr w6 by rw [hw'']; exact below_regrown wr dq osq)).mono hzr))
          clear j0 j1 j2 j3 j4 j5 hw''
          go_wp2
          go_roundw
          case rel => exact ⟨k + 1, by omega, by go_num, HB6.out⟩
          case measure => simp [intOf]; omega
        · subst h
          obtain rfl : P = p := by have := HNI.out; rw [HNK.out] at this; simpa using this.symm
          have HLS : Hid (lessB (P, (kk : Int)) (P, (kk : Int)) = false) := Lib.hid (less_irr _)
          go_wp2
          refine wp_region_quiet_below (by kernel_rfl) (by kernel_rfl) ?_
          repeat (go_big_quiet_step (first | (with_reducible exact less_c HLS.out _ _) | fail))
          refine wpQuiet_nil ?_
          intro w6 hw'
          obtain ⟨⟨dq, osq⟩, hw''⟩ := hw'
          have HB6 := Lib.hid (HBR.out.trans (((show Below wr.heap.size wr w6 by rw [hw'']; exact below_regrown wr dq osq)).mono hzr))
          clear j0 j1 j2 j3 j4 j5 hw''
          go_wp2
          go_roundw
          case rel => exact ⟨k + 1, by omega, by go_num, HB6.out⟩
          case measure => simp [intOf]; omega
        · have HLS : Hid (lessB (p, (kk : Int)) (P, (kk : Int)) = false) := Lib.hid (by
            have h1 := (HP.out.two (by omega) HNI.out HNK.out).2.2 (.inr ⟨rfl, h⟩)
            cases hh : lessB (p, (kk : Int)) (P, (kk : Int)) with
            | false => rfl
            | true => have := lessB_iff.1 hh; simp only at this; omega)
          have i4 : decide ((k : Int) < (I : Int)) = false := by simp; omega
          have i4n : decide (k < I) = false := by simp; omega
          have i5 : ((k : Int) == (I : Int)) = false := by simp; omega
          go_wp2
          refine wp_region_quiet_below (by kernel_rfl) (by kernel_rfl) ?_
          repeat (go_big_quiet_step (first | (with_reducible exact less_c HLS.out _ _) | fail))
          refine wpQuiet_nil ?_
          intro w6 hw'
          obtain ⟨⟨dq, osq⟩, hw''⟩ := hw'
          have HB6 := Lib.hid (HBR.out.trans (((show Below wr.heap.size wr w6 by rw [hw'']; exact below_regrown wr dq osq)).mono hzr))
          clear j0 j1 j2 j3 j4 j5 hw''
          go_wp2
          go_roundw
          case rel => exact ⟨k + 1, by omega, by go_num, HB6.out⟩
          case measure => simp [intOf]; omega
      · have t1 : ((kk : Int) == (K : Int)) = false := by simpa using hKK
        go_wp2
        refine wp_region_quiet_below (by kernel_rfl) (by kernel_rfl) ?_
        repeat (go_big_quiet_step (fail))
        refine wpQuiet_nil ?_
        intro w6 hw'
        obtain ⟨⟨dq, osq⟩, hw''⟩ := hw'
        have HB6 := Lib.hid (HBR.out.trans (((show Below wr.heap.size wr w6 by rw [hw'']; exact below_regrown wr dq osq)).mono hzr))
        clear j0 j1 j2 j3 j4 j5 hw''
        go_wp2
        go_roundw
        case rel => exact ⟨k + 1, by omega, by go_num, HB6.out⟩
        case measure => simp [intOf]; omega
    · have hkm : m ≤ k := by omega
      obtain ⟨z0, z1, _, _⟩ := row2 (below_block HBR.out hz2' HO2.out)
      obtain ⟨z2, z3, _, _⟩ := row2 (below_block HBR.out hz2'' HP2.out)
      have j6 := fun d os => cell_regrown z0 d os
      have j7 := fun d os => cell_regrown z1 d os
      have j8 := fun d os => cell_regrown z2 d os
      have j9 := fun d os => cell_regrown z3 d os
      clear z0 z1 z2 z3
      by_cases hMK : M = (K : Int)
      · subst hMK
        obtain ⟨r1, hr1⟩ : ∃ r1, inB (b, (K : Int)) (a, (N : Int)) = r1 := ⟨_, rfl⟩
        have HIN := Lib.hid hr1
        obtain ⟨r2, hr2⟩ : ∃ r2, lessB (b, (K : Int)) (P, (K : Int)) = r2 := ⟨_, rfl⟩
        have HLS := Lib.hid hr2
        clear hr1 hr2
        cases r1 with
        | false =>
          go_wp2
          refine wp_region_quiet_below (by kernel_rfl) (by kernel_rfl) ?_
          repeat (go_big_quiet_step (first | (with_reducible exact in_c HOb.out HA.out HIN.out _ _) | (with_reducible exact less_c HLS.out _ _) | fail))
          refine wpQuiet_nil ?_
          intro w6 hw'
          obtain ⟨⟨dq, osq⟩, hw''⟩ := hw'
          have HB6 := Lib.hid (HBR.out.trans (((show Below wr.heap.size wr w6 by rw [hw'']; exact below_regrown wr dq osq)).mono hzr))
          clear j2 j3 j4 j6 j7 j8 j9 hw''
          go_wp2
          go_ret
          exact ⟨rfl, HB2.out.trans (HB6.out.mono hz2)⟩
        | true =>
          cases r2 with
          | false =>
            go_wp2
            refine wp_region_quiet_below (by kernel_rfl) (by kernel_rfl) ?_
            repeat (go_big_quiet_step (first | (with_reducible exact in_c HOb.out HA.out HIN.out _ _) | (with_reducible exact less_c HLS.out _ _) | fail))
            refine wpQuiet_nil ?_
            intro w6 hw'
            obtain ⟨⟨dq, osq⟩, hw''⟩ := hw'
            have HB6 := Lib.hid (HBR.out.trans (((show Below wr.heap.size wr w6 by rw [hw'']; exact below_regrown wr dq osq)).mono hzr))
            clear j2 j3 j4 j6 j7 j8 j9 hw''
            go_wp2
            go_ret
            exact ⟨rfl, HB2.out.trans (HB6.out.mono hz2)⟩
          | true =>
            obtain ⟨k0, p0, kk0, hk0, hkk0, hin0⟩ := HP.out.first HNI.out HIN.out (by have := lessB_iff.1 HLS.out; simp only at this; omega)
            have HK0 := Lib.hid (And.intro hk0 (And.intro hkk0 hin0))
            have hk0m : k0 < m := by
              have h1 := (List.getElem?_eq_some_iff.1 hk0).1
              rw [HP.out.len, ← HM.out] at h1
              exact h1
            clear hk0 hkk0 hin0
            go_wp2
            refine wp_region_quiet_below (by kernel_rfl) (by kernel_rfl) ?_
            repeat (go_big_quiet_step (first | (with_reducible exact in_c HOb.out HA.out HIN.out _ _) | (with_reducible exact less_c HLS.out _ _) | fail))
            refine wpQuiet_nil ?_
            intro w6 hw'
            obtain ⟨⟨dq, osq⟩, hw''⟩ := hw'
            have HB6 := Lib.hid (HBR.out.trans (((show Below wr.heap.size wr w6 by rw [hw'']; exact below_regrown wr dq osq)).mono hzr))
            clear j2 j3 j4 j6 j7 j8 j9 hw''
            go_wp2
            go_loopw [13] (fun jv wr2 => ∃ j : Nat, j ≤ k0 ∧ jv = .int .i64 (j : Int) ∧ Below w2.heap.size w2 wr2) (fun jv _ => m - (intOf jv).toNat)
            case atStart => exact ⟨0, Nat.zero_le _, rfl, HB6.out⟩
            case round =>
              obtain ⟨j, hj, rfl, hbr⟩ := hrel
              have HBR := Lib.hid hbr
              have hzr := hbr.size
              clear hbr
              have hlt : j < m := by omega
              have hjL : j < L.length := by rw [← HM.out]; exact hlt
              obtain ⟨p, kk, hnk, hLk, hp, -, hkk, -⟩ := HP.out.entry hjL
              have HNK := Lib.hid hnk
              have HPp := Lib.hid hp
              have c2 := cellI HL2.out hLk
              have c3 := cellI HL2.out HLI.out
              have r0 := (HBR.out.cell (p := ⟨g, j * 2, none⟩) hout0).trans (HOut.out.cells hnk).1
              have r1 := (HBR.out.cell (p := ⟨g, j * 2 + 1, none⟩) hout0).trans (HOut.out.cells hnk).2.1
              have r5 := (HBR.out.cell (p := ⟨b0, o0 + j, none⟩) hbb).trans c2
              have r4 := (HBR.out.cell (p := ⟨b0, o0 + I, none⟩) hbb).trans c3
              obtain ⟨z2, z3, _, _⟩ := row2 (below_block HBR.out hz2'' HP2.out)
              have j0 := fun d os => cell_regrown r0 d os
              have j1 := fun d os => cell_regrown r1 d os
              have j5 := fun d os => cell_regrown r5 d os
              have j4 := fun d os => cell_regrown r4 d os
              have j8 := fun d os => cell_regrown z2 d os
              have j9 := fun d os => cell_regrown z3 d os
              have i0 : (0 : Int) ≤ (j : Int) := by omega
              have i1 : (j : Int) < (m : Int) := by omega
              clear r0 r1 r5 r4 c2 c3 hnk hLk hp z2 z3
              obtain ⟨s1, hs1⟩ : ∃ s1, inB (b, (K : Int)) (p, (kk : Int)) = s1 := ⟨_, rfl⟩
              have HI1 := Lib.hid hs1
              obtain ⟨s2, hs2⟩ : ∃ s2, inB (p, (kk : Int)) (b, (K : Int)) = s2 := ⟨_, rfl⟩
              have HI2 := Lib.hid hs2
              clear hs1 hs2
              rcases Int.lt_trichotomy (kk : Int) (K : Int) with hc | hc | hc
              · have t1 : (kk : Int) < (K : Int) := hc
                cases s1 with
                | true =>
                  go_wp2
                  refine wp_region_quiet_below (by kernel_rfl) (by kernel_rfl) ?_
                  repeat (go_big_quiet_step (first | (with_reducible exact in_c HOb.out HPp.out HI1.out _ _) | (with_reducible exact in_c HPp.out HOb.out HI2.out _ _) | fail))
                  refine wpQuiet_nil ?_
                  intro w7 hw'
                  obtain ⟨⟨dq, osq⟩, hw''⟩ := hw'
                  have HB7 := Lib.hid (HBR.out.trans (((show Below wr.heap.size wr w7 by rw [hw'']; exact below_regrown wr dq osq)).mono hzr))
                  clear j0 j1 j5 j4 j8 j9 hw''
                  go_wp2
                  go_ret
                  exact ⟨rfl, HB2.out.trans (HB7.out.mono hz2)⟩
                | false =>
                  cases s2 with
                  | true =>
                    go_wp2
                    refine wp_region_quiet_below (by kernel_rfl) (by kernel_rfl) ?_
                    repeat (go_big_quiet_step (first | (with_reducible exact in_c HOb.out HPp.out HI1.out _ _) | (with_reducible exact in_c HPp.out HOb.out HI2.out _ _) | fail))
                    refine wpQuiet_nil ?_
                    intro w7 hw'
                    obtain ⟨⟨dq, osq⟩, hw''⟩ := hw'
                    have HB7 := Lib.hid (HBR.out.trans (((show Below wr.heap.size wr w7 by rw [hw'']; exact below_regrown wr dq osq)).mono hzr))
                    clear j0 j1 j5 j4 j8 j9 hw''
                    go_wp2
                    go_ret
                    exact ⟨rfl, HB2.out.trans (HB7.out.mono hz2)⟩
                  | false =>
                    have hjk : j ≠ k0 := by
                      intro e
                      subst e
                      obtain ⟨h1, h2, h3⟩ := HK0.out
                      rw [HNK.out] at h1
                      simp only [Option.some.injEq, Prod.mk.injEq] at h1
                      obtain ⟨rfl, rfl⟩ := h1
                      rw [HI1.out] at h3; cases h3
                    clear HK0
                    go_wp2
                    refine wp_region_quiet_below (by kernel_rfl) (by kernel_rfl) ?_
                    repeat (go_big_quiet_step (first | (with_reducible exact in_c HOb.out HPp.out HI1.out _ _) | (with_reducible exact in_c HPp.out HOb.out HI2.out _ _) | fail))
                    refine wpQuiet_nil ?_
                    intro w7 hw'
                    obtain ⟨⟨dq, osq⟩, hw''⟩ := hw'
                    have HB7 := Lib.hid (HBR.out.trans (((show Below wr.heap.size wr w7 by rw [hw'']; exact below_regrown wr dq osq)).mono hzr))
                    clear j0 j1 j5 j4 j8 j9 hw''
                    go_wp2
                    go_roundw
                    case rel => exact ⟨j + 1, by omega, by go_num, HB7.out⟩
                    case measure => simp [intOf]; omega
              · obtain rfl : kk = K := by omega
                by_cases hc2 : j < I
                · have i4 : (j : Int) < (I : Int) := by omega
                  have t1 : ¬ (kk : Int) < (kk : Int) := by omega
                  cases s1 with
                  | true =>
                    go_wp2
                    refine wp_region_quiet_below (by kernel_rfl) (by kernel_rfl) ?_
                    repeat (go_big_quiet_step (first | (with_reducible exact in_c HOb.out HPp.out HI1.out _ _) | (with_reducible exact in_c HPp.out HOb.out HI2.out _ _) | fail))
                    refine wpQuiet_nil ?_
                    intro w7 hw'
                    obtain ⟨⟨dq, osq⟩, hw''⟩ := hw'
                    have HB7 := Lib.hid (HBR.out.trans (((show Below wr.heap.size wr w7 by rw [hw'']; exact below_regrown wr dq osq)).mono hzr))
                    clear j0 j1 j5 j4 j8 j9 hw''
                    go_wp2
                    go_ret
                    exact ⟨rfl, HB2.out.trans (HB7.out.mono hz2)⟩
                  | false =>
                    cases s2 with
                    | true =>
                      go_wp2
                      refine wp_region_quiet_below (by kernel_rfl) (by kernel_rfl) ?_
                      repeat (go_big_quiet_step (first | (with_reducible exact in_c HOb.out HPp.out HI1.out _ _) | (with_reducible exact in_c HPp.out HOb.out HI2.out _ _) | fail))
                      refine wpQuiet_nil ?_
                      intro w7 hw'
                      obtain ⟨⟨dq, osq⟩, hw''⟩ := hw'
                      have HB7 := Lib.hid (HBR.out.trans (((show Below wr.heap.size wr w7 by rw [hw'']; exact below_regrown wr dq osq)).mono hzr))
                      clear j0 j1 j5 j4 j8 j9 hw''
                      go_wp2
                      go_ret
                      exact ⟨rfl, HB2.out.trans (HB7.out.mono hz2)⟩
                    | false =>
                      have hjk : j ≠ k0 := by
                        intro e
                        subst e
                        obtain ⟨h1, h2, h3⟩ := HK0.out
                        rw [HNK.out] at h1
                        simp only [Option.some.injEq, Prod.mk.injEq] at h1
                        obtain ⟨rfl, rfl⟩ := h1
                        rw [HI1.out] at h3; cases h3
                      clear HK0
                      go_wp2
                      refine wp_region_quiet_below (by kernel_rfl) (by kernel_rfl) ?_
                      repeat (go_big_quiet_step (first | (with_reducible exact in_c HOb.out HPp.out HI1.out _ _) | (with_reducible exact in_c HPp.out HOb.out HI2.out _ _) | fail))
                      refine wpQuiet_nil ?_
                      intro w7 hw'
                      obtain ⟨⟨dq, osq⟩, hw''⟩ := hw'
                      have HB7 := Lib.hid (HBR.out.trans (((show Below wr.heap.size wr w7 by rw [hw'']; exact below_regrown wr dq osq)).mono hzr))
                      clear j0 j1 j5 j4 j8 j9 hw''
                      go_wp2
                      go_roundw
                      case rel => exact ⟨j + 1, by omega, by go_num, HB7.out⟩
                      case measure => simp [intOf]; omega
                · have i4 : decide ((j : Int) < (I : Int)) = false := by simp; omega
                  have i4n : decide (j < I) = false := by simp; omega
                  have hjk : j ≠ k0 := by
                    intro e
                    subst e
                    obtain ⟨h1, h2, h3⟩ := HK0.out
                    rw [HNK.out] at h1
                    simp only [Option.some.injEq, Prod.mk.injEq] at h1
                    obtain ⟨rfl, rfl⟩ := h1
                    omega
                  clear HK0
                  go_wp2
                  refine wp_region_quiet_below (by kernel_rfl) (by kernel_rfl) ?_
                  repeat (go_big_quiet_step (first | (with_reducible exact in_c HOb.out HPp.out HI1.out _ _) | (with_reducible exact in_c HPp.out HOb.out HI2.out _ _) | fail))
                  refine wpQuiet_nil ?_
                  intro w7 hw'
                  obtain ⟨⟨dq, osq⟩, hw''⟩ := hw'
                  have HB7 := Lib.hid (HBR.out.trans (((show Below wr.heap.size wr w7 by rw [hw'']; exact below_regrown wr dq osq)).mono hzr))
                  clear j0 j1 j5 j4 j8 j9 hw''
                  go_wp2
                  go_roundw
                  case rel => exact ⟨j + 1, by omega, by go_num, HB7.out⟩
                  case measure => simp [intOf]; omega
              · have t1 : decide ((kk : Int) < (K : Int)) = false := by simp; omega
                have t1n : decide (kk < K) = false := by simp; omega
                have t2 : ((kk : Int) == (K : Int)) = false := by simp; omega
                have hjk : j ≠ k0 := by
                  intro e
                  subst e
                  obtain ⟨h1, h2, h3⟩ := HK0.out
                  rw [HNK.out] at h1
                  simp only [Option.some.injEq, Prod.mk.injEq] at h1
                  obtain ⟨rfl, rfl⟩ := h1
                  omega
                clear HK0
                go_wp2
                refine wp_region_quiet_below (by kernel_rfl) (by kernel_rfl) ?_
                repeat (go_big_quiet_step (first | (with_reducible exact in_c HOb.out HPp.out HI1.out _ _) | (with_reducible exact in_c HPp.out HOb.out HI2.out _ _) | fail))
                refine wpQuiet_nil ?_
                intro w7 hw'
                obtain ⟨⟨dq, osq⟩, hw''⟩ := hw'
                have HB7 := Lib.hid (HBR.out.trans (((show Below wr.heap.size wr w7 by rw [hw'']; exact below_regrown wr dq osq)).mono hzr))
                clear j0 j1 j5 j4 j8 j9 hw''
                go_wp2
                go_roundw
                case rel => exact ⟨j + 1, by omega, by go_num, HB7.out⟩
                case measure => simp [intOf]; omega
      · have t1 : (M == (K : Int)) = false := by simpa using hMK
        have t2 : (M != (K : Int)) = true := by simpa using hMK
        go_wp2
        refine wp_region_quiet_below (by kernel_rfl) (by kernel_rfl) ?_
        repeat (go_big_quiet_step (fail))
        refine wpQuiet_nil ?_
        intro w6 hw'
        obtain ⟨⟨dq, osq⟩, hw''⟩ := hw'
        have HB6 := Lib.hid (HBR.out.trans (((show Below wr.heap.size wr w6 by rw [hw'']; exact below_regrown wr dq osq)).mono hzr))
        clear j2 j3 j4 j6 j7 j8 j9 hw''
        go_wp2
        go_ret
        exact ⟨rfl, HB2.out.trans (HB6.out.mono hz2)⟩
theorem PlanFirst_walk (w : World) (A0 : Array Value) (x0 : Int × Int) (h0 : RV rdNet w (.agg A0) x0) (c0 : True ∧ True) (A : Option Addr) (n c : Nat) (L : List Int) (rr : RV rdInts w (.slice A n c) L) (q : L.length * 8 ≤ reachBytes ∧ ∀ x ∈ L, True) (i : Int) (bi : -9223372036854775808 ≤ i ∧ i ≤ 9223372036854775807)
    (A3 : Array Value) (x3 : Int × Int) (h3 : RV rdNet w (.agg A3) x3) (c3 : True ∧ True) :
    Calls Try.prog 6 #[.agg A0, .slice A n c, .int .i64 i, .agg A3] w fun e w' => e = .returned (.bool true) ∧ Below w.heap.size w w' := by
  obtain ⟨a, N, rfl, rfl, ha, _⟩ := net_parts h0
  obtain ⟨b, M, rfl, rfl, hb, _⟩ := net_parts h3
  have hL : R1 (RdSlice 1 (rdInt .i64)) w (.slice A n c) L := rr
  by_cases hf : fitF (a, N) L = 0
  · obtain ⟨k, rfl⟩ := net_nat (room_parts (fit_room hf).1).1
    exact PlanFirst_yes ha hb hL hf
  · exact PlanFirst_no ha hL hf
end Go.Proofs.Ytplojnlmofbneaa
