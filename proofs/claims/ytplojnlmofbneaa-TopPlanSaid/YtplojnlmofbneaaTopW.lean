/- waywardentop.TopPlan: its walk. -/
import Derived.Test.YtplojnlmofbneaaTopP
namespace Go.Proofs.Ytplojnlmofbneaa
open Go.ChangeShapes Go.WideShapes Go.ChangeAt Go.RowKit
set_option linter.unusedVariables false
set_option linter.unusedSimpArgs false
set_option maxRecDepth 100000 in
set_option maxHeartbeats 8000000 in
theorem TopPlan_no {w : World} {a N x i : Int} {A : Option Addr} {m c : Nat} {L : List Int} (ha : is32 a) (hL : R1 (RdSlice 1 (rdInt .i64)) w (.slice A m c) L) (hf : fitF (a, N) L ≠ 0) :
    Calls Try.prog 4 #[.agg #[.int .u32 a, .int .i64 N], .slice A m c, .int .i64 i, .int .u32 x] w fun e w' => e = .returned (.bool true) ∧ Below w.heap.size w w' := by
  have HL := Lib.hid (hL.alloc (.cells #[.int .u32 a, .int .i64 N] 30))
  have HF := Lib.hid hf
  clear hL hf
  go_enter Try.func4, Try.ntmps4
  go_wp2_with fail
  go_at_call 13
  (with_reducible refine (Fit_no ha HL.out HF.out).mono ?_)
  rintro e w2 ⟨rfl, hb2⟩
  rw [errV_ne HF.out]
  have HB2 := Lib.hid ((below_1 w _).trans (hb2.mono (by simp)))
  have hz2 := HB2.out.size
  clear hb2
  go_wp2_with fail
  go_at_call 7
  (with_reducible refine (New_t _).mono ?_)
  rintro e w3 ⟨rfl, hT3⟩
  have HT3 := Lib.hid hT3
  clear hT3
  go_wp2_with fail
  go_at_call 8
  (with_reducible refine (Put_t (n := 0) (v := 3) HT3.out is32_zero (by decide)).mono ?_)
  rintro e w4 ⟨rfl, hT4, -, -⟩
  rw [put_zero.2] at hT4
  rw [put_zero.1, errV_zero]
  have HT4 := Lib.hid hT4
  clear hT4 HT3
  go_wp2_with fail
  go_at_call 14
  (with_reducible refine (Drop_t (n := 0) HT4.out is32_zero).mono ?_)
  rintro e w5 ⟨rfl, hT5, -, -⟩
  rw [drop_zero.2] at hT5
  rw [drop_zero.1, errV_zero]
  have HT5 := Lib.hid hT5
  clear hT5 HT4
  go_wp2
  go_ret
  exact ⟨rfl, HB2.out.trans (HT5.out.bel.mono hz2)⟩
set_option maxRecDepth 100000 in
set_option maxHeartbeats 16000000 in
theorem TopPlan_yes {w : World} {a x i : Int} {N : Nat} {A : Option Addr} {m c : Nat} {L : List Int} (ha : is32 a) (hx : is32 x) (hL : R1 (RdSlice 1 (rdInt .i64)) w (.slice A m c) L) (hf : fitF (a, (N : Int)) L = 0) :
    Calls Try.prog 4 #[.agg #[.int .u32 a, .int .i64 N], .slice A m c, .int .i64 i, .int .u32 x] w fun e w' => e = .returned (.bool true) ∧ Below w.heap.size w w' := by
  have hm := (RdSlice.len hL).1
  have HL := Lib.hid (hL.alloc (.cells #[.int .u32 a, .int .i64 N] 30))
  have HF := Lib.hid hf
  have HA := Lib.hid ha
  have HX := Lib.hid hx
  have HM := Lib.hid hm
  obtain ⟨h0, h64, hbad⟩ := room_parts (fit_room hf).1
  have HTop := Lib.hid (net_top ha h0)
  have hm64 : m ≤ 64 := by omega
  clear hL hf ha hx hm h0 hbad h64
  go_enter Try.func4, Try.ntmps4
  go_wp2_with fail
  go_at_call 13
  (with_reducible refine (Fit_yes HA.out HL.out HF.out HTop.out).mono ?_)
  rintro e w2 ⟨W, g, hW, rfl, hout, hb2, hg⟩
  rw [← HM.out]
  have HP := Lib.hid (plan_of HA.out HF.out hW)
  rw [← HM.out] at HP hout
  obtain ⟨ns, hns⟩ : ∃ ns, putAll L W a (List.replicate m (0, 0)) = ns := ⟨_, rfl⟩
  rw [hns] at HP hout
  have HOut := Lib.hid hout
  have hout0 := hout.lt
  have HB2 := Lib.hid ((below_1 w _).trans (hb2.mono (by simp)))
  have hz2 := HB2.out.size
  clear hb2 hW hns hout
  go_wp2_with fail
  go_at_call 7
  (with_reducible refine (New_t _).mono ?_)
  rintro e w3 ⟨rfl, hT3⟩
  have HT3 := Lib.hid hT3
  clear hT3
  go_wp2_with fail
  go_at_call 8
  (with_reducible refine (Put_t (n := 0) (v := 3) HT3.out is32_zero (by decide)).mono ?_)
  rintro e w4 ⟨rfl, hT4, -, -⟩
  rw [put_zero.2] at hT4
  rw [put_zero.1, errV_zero]
  have HT4 := Lib.hid hT4
  clear hT4 HT3
  go_wp2_with fail
  go_at_call 14
  (with_reducible refine (Drop_t (n := 0) HT4.out is32_zero).mono ?_)
  rintro e w5 ⟨rfl, hT5, -, -⟩
  rw [drop_zero.2] at hT5
  rw [drop_zero.1, errV_zero]
  have HT5 := Lib.hid hT5
  clear hT5 HT4
  go_wp2
  go_loopw [12] (fun iv wr => ∃ (k : Nat) (M : List (Nt × Int)), k ≤ m ∧ iv = .int .i64 (k : Int) ∧ Hid (PT ns k M) ∧ Tk w2 w2.heap.size M NoB wr) (fun iv _ => m - (intOf iv).toNat)
  case atStart => exact ⟨0, [], Nat.zero_le _, rfl, Lib.hid (PT.nil ns), HT5.out⟩
  case round =>
    obtain ⟨k, M, hk, rfl, HPT, hT⟩ := hrel
    have HT := Lib.hid hT
    clear hT HT5
    by_cases hlt : k < m
    · have hkL : k < L.length := by rw [← HM.out]; exact hlt
      obtain ⟨p, kk, hnk, -, hp, -, -, -⟩ := HP.out.entry hkL
      obtain ⟨hE, hPT⟩ := HPT.out.put HP.out hnk (by rw [← HM.out]; exact hm64)
      have HE := Lib.hid hE
      have HPT2 := Lib.hid hPT
      have HPp := Lib.hid hp
      have r0 := (HT.out.bel.cell (p := ⟨g, k * 2, none⟩) hout0).trans (HOut.out.cells hnk).1
      have r1 := (HT.out.bel.cell (p := ⟨g, k * 2 + 1, none⟩) hout0).trans (HOut.out.cells hnk).2.1
      have i0 : (0 : Int) ≤ (k : Int) := by omega
      have i1 : (k : Int) < (m : Int) := by omega
      clear hE hPT hp hnk
      go_wp2_with fail
      go_at_call 8
      (with_reducible refine (Put_t HT.out HPp.out (WalkArith.wf_i64 (by omega))).mono ?_)
      rintro e w6 ⟨rfl, hT6, -, -⟩
      rw [HE.out, errV_zero]
      have HT6 := Lib.hid hT6
      clear hT6 r0 r1
      go_wp2
      go_roundw
      case rel => exact ⟨k + 1, _, by omega, by go_num, HPT2, HT6.out⟩
      case measure => simp [intOf]; omega
    · have hkm : m ≤ k := by omega
      have HPM : Hid (PT ns L.length M) := Lib.hid (by
        have : k = L.length := by rw [← HM.out]; omega
        rw [← this]; exact HPT.out)
      by_cases hi0 : i < 0
      · by_cases hno : ∀ (i : Nat) (y : Nt), ns[i]? = some y → hasB y x = false
        · have HNo := Lib.hid hno
          have HFN := Lib.hid (HPM.out.find_none hno)
          clear hno
          go_wp2_with fail
          go_at_call 9
          (with_reducible refine (Find_t HT.out HX.out HFN.out).mono ?_)
          rintro e w8 ⟨rfl, hb8⟩
          rw [findV_none]
          have HT8 := Lib.hid ((HT.out.below hb8).below (below_1 _ (.cells #[.int .u32 0, .int .i64 0] 30)))
          clear hb8
          go_wp2
          go_loopw [19, 20] (fun hv iv wr => ∃ q : Nat, q ≤ m ∧ iv = .int .i64 (q : Int) ∧ hv = .bool false ∧ Below (w8.heap.size + 1) (w8.alloc (.cells #[.int .u32 0, .int .i64 0] 30)) wr) (fun _ iv _ => m - (intOf iv).toNat)
          case atStart => exact ⟨0, Nat.zero_le _, rfl, rfl, Below.refl _ _⟩
          case round =>
            obtain ⟨q, hq, rfl, rfl, hbr⟩ := hrel
            have HBR := Lib.hid hbr
            have HTR := Lib.hid (HT8.out.below (hbr.mono (by simp)))
            have hzr := hbr.size
            clear hbr
            by_cases hlt2 : q < m
            · obtain ⟨p, kk, hnk, -, hp, -, -, -⟩ := HP.out.entry (i := q) (by rw [← HM.out]; exact hlt2)
              have HH := Lib.hid (HNo.out q _ hnk)
              have HPp := Lib.hid hp
              have r0 := (HTR.out.bel.cell (p := ⟨g, q * 2, none⟩) hout0).trans (HOut.out.cells hnk).1
              have r1 := (HTR.out.bel.cell (p := ⟨g, q * 2 + 1, none⟩) hout0).trans (HOut.out.cells hnk).2.1
              have j0 := fun d os => cell_regrown r0 d os
              have j1 := fun d os => cell_regrown r1 d os
              have i4 : (0 : Int) ≤ (q : Int) := by omega
              have i5 : (q : Int) < (m : Int) := by omega
              clear r0 r1 hnk hp
              go_wp2
              refine wp_region_quiet_below (by kernel_rfl) (by kernel_rfl) ?_
              repeat (go_big_quiet_step (first | (with_reducible exact has_c HPp.out HX.out HH.out _ _) | fail))
              refine wpQuiet_nil ?_
              intro w9 hw'
              obtain ⟨⟨dq, osq⟩, hw''⟩ := hw'
              have HB9 := Lib.hid (HBR.out.trans (((show Below wr.heap.size wr w9 by rw [hw'']; exact below_regrown wr dq osq)).mono (by simpa using hzr)))
              clear j0 j1 hw''
              go_wp2
              go_roundw
              case rel => exact ⟨q + 1, by omega, by go_num, rfl, HB9.out⟩
              case measure => simp [intOf]; omega
            · go_wp2
              go_ret
              exact ⟨rfl, HB2.out.trans (HTR.out.bel.mono hz2)⟩
        · obtain ⟨I, ⟨P, K⟩, hI, hH⟩ : ∃ (I : Nat) (y : Nt), ns[I]? = some y ∧ hasB y x = true := by
            refine Classical.byContradiction fun hc => hno fun i y hy => ?_
            cases hh : hasB y x with
            | false => rfl
            | true => exact absurd ⟨i, y, hy, hh⟩ hc
          obtain ⟨J, eK, hJ, eP, hFS⟩ := HPM.out.find_some HP.out hI hH
          subst eK
          have HI := Lib.hid hI
          have HHI := Lib.hid hH
          have HFS := Lib.hid hFS
          have HEP := Lib.hid eP
          have hIm : I < m := by have := (HP.out.netOf hI).2.2; rw [← HM.out] at this; exact this
          clear hno hI hH hFS eP
          go_wp2_with fail
          go_at_call 9
          (with_reducible refine (Find_t HT.out HX.out HFS.out).mono ?_)
          rintro e w8 ⟨rfl, hb8⟩
          rw [findV_some, HEP.out]
          have HT8 := Lib.hid ((HT.out.below hb8).below (below_1 _ (.cells #[.int .u32 P, .int .i64 J] 30)))
          have HX8 := Lib.hid (boxed (w := w8) (.cells #[.int .u32 P, .int .i64 J] 30))
          clear hb8
          go_wp2
          go_loopw [19, 20] (fun hv iv wr => ∃ (q : Nat) (hb : Bool), q ≤ m ∧ iv = .int .i64 (q : Int) ∧ hv = .bool hb ∧ Hid (hb = decide (I < q)) ∧ Below (w8.heap.size + 1) (w8.alloc (.cells #[.int .u32 P, .int .i64 J] 30)) wr) (fun _ iv _ => m - (intOf iv).toNat)
          case atStart => exact ⟨0, false, Nat.zero_le _, rfl, rfl, Lib.hid (by simp), Below.refl _ _⟩
          case round =>
            obtain ⟨q, hb, hq, rfl, rfl, HQ, hbr⟩ := hrel
            have HBR := Lib.hid hbr
            have HTR := Lib.hid (HT8.out.below (hbr.mono (by simp)))
            have hzr := hbr.size
            have HXR := Lib.hid (below_block hbr (by omega) HX8.out)
            clear hbr
            by_cases hlt2 : q < m
            · obtain ⟨p, kk, hnk, -, hp, -, -, -⟩ := HP.out.entry (i := q) (by rw [← HM.out]; exact hlt2)
              have HNK := Lib.hid hnk
              have HPp := Lib.hid hp
              have r0 := (HTR.out.bel.cell (p := ⟨g, q * 2, none⟩) hout0).trans (HOut.out.cells hnk).1
              have r1 := (HTR.out.bel.cell (p := ⟨g, q * 2 + 1, none⟩) hout0).trans (HOut.out.cells hnk).2.1
              obtain ⟨z0, z1, _, _⟩ := row2 HXR.out
              have j0 := fun d os => cell_regrown r0 d os
              have j1 := fun d os => cell_regrown r1 d os
              have j2 := fun d os => cell_regrown z0 d os
              have j3 := fun d os => cell_regrown z1 d os
              have i4 : (0 : Int) ≤ (q : Int) := by omega
              have i5 : (q : Int) < (m : Int) := by omega
              clear r0 r1 z0 z1 hnk hp
              cases hb with
              | true =>
                have HI2 : Hid (true = decide (I < q + 1)) := Lib.hid (by have := HQ.out; simp at this ⊢; omega)
                go_wp2
                refine wp_region_quiet_below (by kernel_rfl) (by kernel_rfl) ?_
                repeat (go_big_quiet_step (fail))
                refine wpQuiet_nil ?_
                intro w9 hw'
                obtain ⟨⟨dq, osq⟩, hw''⟩ := hw'
                have HB9 := Lib.hid (HBR.out.trans (((show Below wr.heap.size wr w9 by rw [hw'']; exact below_regrown wr dq osq)).mono (by simpa using hzr)))
                clear j0 j1 j2 j3 hw''
                go_wp2
                go_roundw
                case rel => exact ⟨q + 1, _, by omega, by go_num, rfl, HI2, HB9.out⟩
                case measure => simp [intOf]; omega
              | false =>
                by_cases hqI : q = I
                · subst hqI
                  have e := HI.out
                  rw [HNK.out] at e
                  simp only [Option.some.injEq, Prod.mk.injEq] at e
                  obtain ⟨e1, e2⟩ := e
                  obtain rfl := e1
                  have e3 : kk = J := by omega
                  subst e3
                  clear e2
                  have HI2 : Hid (true = decide (q < q + 1)) := Lib.hid (by simp)
                  have HH := Lib.hid HHI.out
                  go_wp2
                  refine wp_region_quiet_below (by kernel_rfl) (by kernel_rfl) ?_
                  repeat (go_big_quiet_step (first | (with_reducible exact has_c HPp.out HX.out HH.out _ _) | fail))
                  refine wpQuiet_nil ?_
                  intro w9 hw'
                  obtain ⟨⟨dq, osq⟩, hw''⟩ := hw'
                  have HB9 := Lib.hid (HBR.out.trans (((show Below wr.heap.size wr w9 by rw [hw'']; exact below_regrown wr dq osq)).mono (by simpa using hzr)))
                  clear j0 j1 j2 j3 hw''
                  go_wp2
                  go_roundw
                  case rel => exact ⟨q + 1, _, by omega, by go_num, rfl, HI2, HB9.out⟩
                  case measure => simp [intOf]; omega
                · have HI2 : Hid (false = decide (I < q + 1)) := Lib.hid (by have := HQ.out; simp at this ⊢; omega)
                  have HH : Hid (hasB (p, (kk : Int)) x = false) := Lib.hid ((HP.out.two (fun e => hqI e.symm) HI.out HNK.out).2.1 x HHI.out)
                  go_wp2
                  refine wp_region_quiet_below (by kernel_rfl) (by kernel_rfl) ?_
                  repeat (go_big_quiet_step (first | (with_reducible exact has_c HPp.out HX.out HH.out _ _) | fail))
                  refine wpQuiet_nil ?_
                  intro w9 hw'
                  obtain ⟨⟨dq, osq⟩, hw''⟩ := hw'
                  have HB9 := Lib.hid (HBR.out.trans (((show Below wr.heap.size wr w9 by rw [hw'']; exact below_regrown wr dq osq)).mono (by simpa using hzr)))
                  clear j0 j1 j2 j3 hw''
                  go_wp2
                  go_roundw
                  case rel => exact ⟨q + 1, _, by omega, by go_num, rfl, HI2, HB9.out⟩
                  case measure => simp [intOf]; omega
            · have HT1 : Hid (hb = true) := Lib.hid (by rw [HQ.out]; simp; omega)
              obtain rfl := HT1.out
              go_wp2
              go_ret
              exact ⟨rfl, HB2.out.trans (HTR.out.bel.mono hz2)⟩
      by_cases hi1 : (m : Int) ≤ i
      · by_cases hno : ∀ (i : Nat) (y : Nt), ns[i]? = some y → hasB y x = false
        · have HNo := Lib.hid hno
          have HFN := Lib.hid (HPM.out.find_none hno)
          clear hno
          go_wp2_with fail
          go_at_call 9
          (with_reducible refine (Find_t HT.out HX.out HFN.out).mono ?_)
          rintro e w8 ⟨rfl, hb8⟩
          rw [findV_none]
          have HT8 := Lib.hid ((HT.out.below hb8).below (below_1 _ (.cells #[.int .u32 0, .int .i64 0] 30)))
          clear hb8
          go_wp2
          go_loopw [19, 20] (fun hv iv wr => ∃ q : Nat, q ≤ m ∧ iv = .int .i64 (q : Int) ∧ hv = .bool false ∧ Below (w8.heap.size + 1) (w8.alloc (.cells #[.int .u32 0, .int .i64 0] 30)) wr) (fun _ iv _ => m - (intOf iv).toNat)
          case atStart => exact ⟨0, Nat.zero_le _, rfl, rfl, Below.refl _ _⟩
          case round =>
            obtain ⟨q, hq, rfl, rfl, hbr⟩ := hrel
            have HBR := Lib.hid hbr
            have HTR := Lib.hid (HT8.out.below (hbr.mono (by simp)))
            have hzr := hbr.size
            clear hbr
            by_cases hlt2 : q < m
            · obtain ⟨p, kk, hnk, -, hp, -, -, -⟩ := HP.out.entry (i := q) (by rw [← HM.out]; exact hlt2)
              have HH := Lib.hid (HNo.out q _ hnk)
              have HPp := Lib.hid hp
              have r0 := (HTR.out.bel.cell (p := ⟨g, q * 2, none⟩) hout0).trans (HOut.out.cells hnk).1
              have r1 := (HTR.out.bel.cell (p := ⟨g, q * 2 + 1, none⟩) hout0).trans (HOut.out.cells hnk).2.1
              have j0 := fun d os => cell_regrown r0 d os
              have j1 := fun d os => cell_regrown r1 d os
              have i4 : (0 : Int) ≤ (q : Int) := by omega
              have i5 : (q : Int) < (m : Int) := by omega
              clear r0 r1 hnk hp
              go_wp2
              refine wp_region_quiet_below (by kernel_rfl) (by kernel_rfl) ?_
              repeat (go_big_quiet_step (first | (with_reducible exact has_c HPp.out HX.out HH.out _ _) | fail))
              refine wpQuiet_nil ?_
              intro w9 hw'
              obtain ⟨⟨dq, osq⟩, hw''⟩ := hw'
              have HB9 := Lib.hid (HBR.out.trans (((show Below wr.heap.size wr w9 by rw [hw'']; exact below_regrown wr dq osq)).mono (by simpa using hzr)))
              clear j0 j1 hw''
              go_wp2
              go_roundw
              case rel => exact ⟨q + 1, by omega, by go_num, rfl, HB9.out⟩
              case measure => simp [intOf]; omega
            · go_wp2
              go_ret
              exact ⟨rfl, HB2.out.trans (HTR.out.bel.mono hz2)⟩
        · obtain ⟨I, ⟨P, K⟩, hI, hH⟩ : ∃ (I : Nat) (y : Nt), ns[I]? = some y ∧ hasB y x = true := by
            refine Classical.byContradiction fun hc => hno fun i y hy => ?_
            cases hh : hasB y x with
            | false => rfl
            | true => exact absurd ⟨i, y, hy, hh⟩ hc
          obtain ⟨J, eK, hJ, eP, hFS⟩ := HPM.out.find_some HP.out hI hH
          subst eK
          have HI := Lib.hid hI
          have HHI := Lib.hid hH
          have HFS := Lib.hid hFS
          have HEP := Lib.hid eP
          have hIm : I < m := by have := (HP.out.netOf hI).2.2; rw [← HM.out] at this; exact this
          clear hno hI hH hFS eP
          go_wp2_with fail
          go_at_call 9
          (with_reducible refine (Find_t HT.out HX.out HFS.out).mono ?_)
          rintro e w8 ⟨rfl, hb8⟩
          rw [findV_some, HEP.out]
          have HT8 := Lib.hid ((HT.out.below hb8).below (below_1 _ (.cells #[.int .u32 P, .int .i64 J] 30)))
          have HX8 := Lib.hid (boxed (w := w8) (.cells #[.int .u32 P, .int .i64 J] 30))
          clear hb8
          go_wp2
          go_loopw [19, 20] (fun hv iv wr => ∃ (q : Nat) (hb : Bool), q ≤ m ∧ iv = .int .i64 (q : Int) ∧ hv = .bool hb ∧ Hid (hb = decide (I < q)) ∧ Below (w8.heap.size + 1) (w8.alloc (.cells #[.int .u32 P, .int .i64 J] 30)) wr) (fun _ iv _ => m - (intOf iv).toNat)
          case atStart => exact ⟨0, false, Nat.zero_le _, rfl, rfl, Lib.hid (by simp), Below.refl _ _⟩
          case round =>
            obtain ⟨q, hb, hq, rfl, rfl, HQ, hbr⟩ := hrel
            have HBR := Lib.hid hbr
            have HTR := Lib.hid (HT8.out.below (hbr.mono (by simp)))
            have hzr := hbr.size
            have HXR := Lib.hid (below_block hbr (by omega) HX8.out)
            clear hbr
            by_cases hlt2 : q < m
            · obtain ⟨p, kk, hnk, -, hp, -, -, -⟩ := HP.out.entry (i := q) (by rw [← HM.out]; exact hlt2)
              have HNK := Lib.hid hnk
              have HPp := Lib.hid hp
              have r0 := (HTR.out.bel.cell (p := ⟨g, q * 2, none⟩) hout0).trans (HOut.out.cells hnk).1
              have r1 := (HTR.out.bel.cell (p := ⟨g, q * 2 + 1, none⟩) hout0).trans (HOut.out.cells hnk).2.1
              obtain ⟨z0, z1, _, _⟩ := row2 HXR.out
              have j0 := fun d os => cell_regrown r0 d os
              have j1 := fun d os => cell_regrown r1 d os
              have j2 := fun d os => cell_regrown z0 d os
              have j3 := fun d os => cell_regrown z1 d os
              have i4 : (0 : Int) ≤ (q : Int) := by omega
              have i5 : (q : Int) < (m : Int) := by omega
              clear r0 r1 z0 z1 hnk hp
              cases hb with
              | true =>
                have HI2 : Hid (true = decide (I < q + 1)) := Lib.hid (by have := HQ.out; simp at this ⊢; omega)
                go_wp2
                refine wp_region_quiet_below (by kernel_rfl) (by kernel_rfl) ?_
                repeat (go_big_quiet_step (fail))
                refine wpQuiet_nil ?_
                intro w9 hw'
                obtain ⟨⟨dq, osq⟩, hw''⟩ := hw'
                have HB9 := Lib.hid (HBR.out.trans (((show Below wr.heap.size wr w9 by rw [hw'']; exact below_regrown wr dq osq)).mono (by simpa using hzr)))
                clear j0 j1 j2 j3 hw''
                go_wp2
                go_roundw
                case rel => exact ⟨q + 1, _, by omega, by go_num, rfl, HI2, HB9.out⟩
                case measure => simp [intOf]; omega
              | false =>
                by_cases hqI : q = I
                · subst hqI
                  have e := HI.out
                  rw [HNK.out] at e
                  simp only [Option.some.injEq, Prod.mk.injEq] at e
                  obtain ⟨e1, e2⟩ := e
                  obtain rfl := e1
                  have e3 : kk = J := by omega
                  subst e3
                  clear e2
                  have HI2 : Hid (true = decide (q < q + 1)) := Lib.hid (by simp)
                  have HH := Lib.hid HHI.out
                  go_wp2
                  refine wp_region_quiet_below (by kernel_rfl) (by kernel_rfl) ?_
                  repeat (go_big_quiet_step (first | (with_reducible exact has_c HPp.out HX.out HH.out _ _) | fail))
                  refine wpQuiet_nil ?_
                  intro w9 hw'
                  obtain ⟨⟨dq, osq⟩, hw''⟩ := hw'
                  have HB9 := Lib.hid (HBR.out.trans (((show Below wr.heap.size wr w9 by rw [hw'']; exact below_regrown wr dq osq)).mono (by simpa using hzr)))
                  clear j0 j1 j2 j3 hw''
                  go_wp2
                  go_roundw
                  case rel => exact ⟨q + 1, _, by omega, by go_num, rfl, HI2, HB9.out⟩
                  case measure => simp [intOf]; omega
                · have HI2 : Hid (false = decide (I < q + 1)) := Lib.hid (by have := HQ.out; simp at this ⊢; omega)
                  have HH : Hid (hasB (p, (kk : Int)) x = false) := Lib.hid ((HP.out.two (fun e => hqI e.symm) HI.out HNK.out).2.1 x HHI.out)
                  go_wp2
                  refine wp_region_quiet_below (by kernel_rfl) (by kernel_rfl) ?_
                  repeat (go_big_quiet_step (first | (with_reducible exact has_c HPp.out HX.out HH.out _ _) | fail))
                  refine wpQuiet_nil ?_
                  intro w9 hw'
                  obtain ⟨⟨dq, osq⟩, hw''⟩ := hw'
                  have HB9 := Lib.hid (HBR.out.trans (((show Below wr.heap.size wr w9 by rw [hw'']; exact below_regrown wr dq osq)).mono (by simpa using hzr)))
                  clear j0 j1 j2 j3 hw''
                  go_wp2
                  go_roundw
                  case rel => exact ⟨q + 1, _, by omega, by go_num, rfl, HI2, HB9.out⟩
                  case measure => simp [intOf]; omega
            · have HT1 : Hid (hb = true) := Lib.hid (by rw [HQ.out]; simp; omega)
              obtain rfl := HT1.out
              go_wp2
              go_ret
              exact ⟨rfl, HB2.out.trans (HTR.out.bel.mono hz2)⟩
      obtain ⟨I0, rfl⟩ := Int.eq_ofNat_of_zero_le (show 0 ≤ i by omega)
      have hi0m : I0 < m := by omega
      obtain ⟨p0, k0, hn0, -, hp0, -, -, hnet0⟩ := HP.out.entry (i := I0) (by rw [← HM.out]; exact hi0m)
      have hself : hasB (p0, (k0 : Int)) p0 = true := (has_span hnet0).2 ⟨Int.le_refl _, by have := lowI_pos k0; omega⟩
      obtain ⟨J0, eK0, -, eP0, hF0⟩ := HPM.out.find_some HP.out hn0 hself
      have eJ0 : J0 = k0 := by omega
      subst eJ0
      have HF0 := Lib.hid hF0
      have HEP0 := Lib.hid eP0
      have HP0 := Lib.hid hp0
      have HN0 := Lib.hid hn0
      have i2 : (0 : Int) ≤ (I0 : Int) := by omega
      have i3 : (I0 : Int) < (m : Int) := by omega
      have r0 := (HT.out.bel.cell (p := ⟨g, I0 * 2, none⟩) hout0).trans (HOut.out.cells hn0).1
      have r1 := (HT.out.bel.cell (p := ⟨g, I0 * 2 + 1, none⟩) hout0).trans (HOut.out.cells hn0).2.1
      clear eK0 hF0 eP0 hp0 hn0 hnet0 hself hi0 hi1
      go_wp2_with fail
      go_at_call 9
      (with_reducible refine (Find_t HT.out HP0.out HF0.out).mono ?_)
      rintro e w7 ⟨rfl, hb7⟩
      rw [findV_some, HEP0.out]
      have HT7 := Lib.hid ((HT.out.below hb7).below (below_1 _ (.cells #[.int .u32 p0, .int .i64 J0] 30)))
      have r2 := (HT7.out.bel.cell (p := ⟨g, I0 * 2, none⟩) hout0).trans (HOut.out.cells HN0.out).1
      have r3 := (HT7.out.bel.cell (p := ⟨g, I0 * 2 + 1, none⟩) hout0).trans (HOut.out.cells HN0.out).2.1
      obtain ⟨z0, z1, _, _⟩ := row2 (boxed (w := w7) (.cells #[.int .u32 p0, .int .i64 J0] 30))
      clear hb7 r0 r1 HT
      have HT := HT7
      clear HT7
      go_wp2
      go_quiet (fail)
      have HTq := Lib.hid (HT.out.below (below_drewN (Below.refl _ _) nq))
      clear r2 r3 z0 z1 HT
      generalize ((w7.alloc (.cells #[.int .u32 p0, .int .i64 J0] 30)).drewN nq) = w7b at *
      have HT := HTq
      clear HTq
      by_cases hno : ∀ (i : Nat) (y : Nt), ns[i]? = some y → hasB y x = false
      · have HNo := Lib.hid hno
        have HFN := Lib.hid (HPM.out.find_none hno)
        clear hno
        go_wp2_with fail
        go_at_call 9
        (with_reducible refine (Find_t HT.out HX.out HFN.out).mono ?_)
        rintro e w8 ⟨rfl, hb8⟩
        rw [findV_none]
        have HT8 := Lib.hid ((HT.out.below hb8).below (below_1 _ (.cells #[.int .u32 0, .int .i64 0] 30)))
        clear hb8
        go_wp2
        go_loopw [19, 20] (fun hv iv wr => ∃ q : Nat, q ≤ m ∧ iv = .int .i64 (q : Int) ∧ hv = .bool false ∧ Below (w8.heap.size + 1) (w8.alloc (.cells #[.int .u32 0, .int .i64 0] 30)) wr) (fun _ iv _ => m - (intOf iv).toNat)
        case atStart => exact ⟨0, Nat.zero_le _, rfl, rfl, Below.refl _ _⟩
        case round =>
          obtain ⟨q, hq, rfl, rfl, hbr⟩ := hrel
          have HBR := Lib.hid hbr
          have HTR := Lib.hid (HT8.out.below (hbr.mono (by simp)))
          have hzr := hbr.size
          clear hbr
          by_cases hlt2 : q < m
          · obtain ⟨p, kk, hnk, -, hp, -, -, -⟩ := HP.out.entry (i := q) (by rw [← HM.out]; exact hlt2)
            have HH := Lib.hid (HNo.out q _ hnk)
            have HPp := Lib.hid hp
            have r0 := (HTR.out.bel.cell (p := ⟨g, q * 2, none⟩) hout0).trans (HOut.out.cells hnk).1
            have r1 := (HTR.out.bel.cell (p := ⟨g, q * 2 + 1, none⟩) hout0).trans (HOut.out.cells hnk).2.1
            have j0 := fun d os => cell_regrown r0 d os
            have j1 := fun d os => cell_regrown r1 d os
            have i4 : (0 : Int) ≤ (q : Int) := by omega
            have i5 : (q : Int) < (m : Int) := by omega
            clear r0 r1 hnk hp
            go_wp2
            refine wp_region_quiet_below (by kernel_rfl) (by kernel_rfl) ?_
            repeat (go_big_quiet_step (first | (with_reducible exact has_c HPp.out HX.out HH.out _ _) | fail))
            refine wpQuiet_nil ?_
            intro w9 hw'
            obtain ⟨⟨dq, osq⟩, hw''⟩ := hw'
            have HB9 := Lib.hid (HBR.out.trans (((show Below wr.heap.size wr w9 by rw [hw'']; exact below_regrown wr dq osq)).mono (by simpa using hzr)))
            clear j0 j1 hw''
            go_wp2
            go_roundw
            case rel => exact ⟨q + 1, by omega, by go_num, rfl, HB9.out⟩
            case measure => simp [intOf]; omega
          · go_wp2
            go_ret
            exact ⟨rfl, HB2.out.trans (HTR.out.bel.mono hz2)⟩
      · obtain ⟨I, ⟨P, K⟩, hI, hH⟩ : ∃ (I : Nat) (y : Nt), ns[I]? = some y ∧ hasB y x = true := by
          refine Classical.byContradiction fun hc => hno fun i y hy => ?_
          cases hh : hasB y x with
          | false => rfl
          | true => exact absurd ⟨i, y, hy, hh⟩ hc
        obtain ⟨J, eK, hJ, eP, hFS⟩ := HPM.out.find_some HP.out hI hH
        subst eK
        have HI := Lib.hid hI
        have HHI := Lib.hid hH
        have HFS := Lib.hid hFS
        have HEP := Lib.hid eP
        have hIm : I < m := by have := (HP.out.netOf hI).2.2; rw [← HM.out] at this; exact this
        clear hno hI hH hFS eP
        go_wp2_with fail
        go_at_call 9
        (with_reducible refine (Find_t HT.out HX.out HFS.out).mono ?_)
        rintro e w8 ⟨rfl, hb8⟩
        rw [findV_some, HEP.out]
        have HT8 := Lib.hid ((HT.out.below hb8).below (below_1 _ (.cells #[.int .u32 P, .int .i64 J] 30)))
        have HX8 := Lib.hid (boxed (w := w8) (.cells #[.int .u32 P, .int .i64 J] 30))
        clear hb8
        go_wp2
        go_loopw [19, 20] (fun hv iv wr => ∃ (q : Nat) (hb : Bool), q ≤ m ∧ iv = .int .i64 (q : Int) ∧ hv = .bool hb ∧ Hid (hb = decide (I < q)) ∧ Below (w8.heap.size + 1) (w8.alloc (.cells #[.int .u32 P, .int .i64 J] 30)) wr) (fun _ iv _ => m - (intOf iv).toNat)
        case atStart => exact ⟨0, false, Nat.zero_le _, rfl, rfl, Lib.hid (by simp), Below.refl _ _⟩
        case round =>
          obtain ⟨q, hb, hq, rfl, rfl, HQ, hbr⟩ := hrel
          have HBR := Lib.hid hbr
          have HTR := Lib.hid (HT8.out.below (hbr.mono (by simp)))
          have hzr := hbr.size
          have HXR := Lib.hid (below_block hbr (by omega) HX8.out)
          clear hbr
          by_cases hlt2 : q < m
          · obtain ⟨p, kk, hnk, -, hp, -, -, -⟩ := HP.out.entry (i := q) (by rw [← HM.out]; exact hlt2)
            have HNK := Lib.hid hnk
            have HPp := Lib.hid hp
            have r0 := (HTR.out.bel.cell (p := ⟨g, q * 2, none⟩) hout0).trans (HOut.out.cells hnk).1
            have r1 := (HTR.out.bel.cell (p := ⟨g, q * 2 + 1, none⟩) hout0).trans (HOut.out.cells hnk).2.1
            obtain ⟨z0, z1, _, _⟩ := row2 HXR.out
            have j0 := fun d os => cell_regrown r0 d os
            have j1 := fun d os => cell_regrown r1 d os
            have j2 := fun d os => cell_regrown z0 d os
            have j3 := fun d os => cell_regrown z1 d os
            have i4 : (0 : Int) ≤ (q : Int) := by omega
            have i5 : (q : Int) < (m : Int) := by omega
            clear r0 r1 z0 z1 hnk hp
            cases hb with
            | true =>
              have HI2 : Hid (true = decide (I < q + 1)) := Lib.hid (by have := HQ.out; simp at this ⊢; omega)
              go_wp2
              refine wp_region_quiet_below (by kernel_rfl) (by kernel_rfl) ?_
              repeat (go_big_quiet_step (fail))
              refine wpQuiet_nil ?_
              intro w9 hw'
              obtain ⟨⟨dq, osq⟩, hw''⟩ := hw'
              have HB9 := Lib.hid (HBR.out.trans (((show Below wr.heap.size wr w9 by rw [hw'']; exact below_regrown wr dq osq)).mono (by simpa using hzr)))
              clear j0 j1 j2 j3 hw''
              go_wp2
              go_roundw
              case rel => exact ⟨q + 1, _, by omega, by go_num, rfl, HI2, HB9.out⟩
              case measure => simp [intOf]; omega
            | false =>
              by_cases hqI : q = I
              · subst hqI
                have e := HI.out
                rw [HNK.out] at e
                simp only [Option.some.injEq, Prod.mk.injEq] at e
                obtain ⟨e1, e2⟩ := e
                obtain rfl := e1
                have e3 : kk = J := by omega
                subst e3
                clear e2
                have HI2 : Hid (true = decide (q < q + 1)) := Lib.hid (by simp)
                have HH := Lib.hid HHI.out
                go_wp2
                refine wp_region_quiet_below (by kernel_rfl) (by kernel_rfl) ?_
                repeat (go_big_quiet_step (first | (with_reducible exact has_c HPp.out HX.out HH.out _ _) | fail))
                refine wpQuiet_nil ?_
                intro w9 hw'
                obtain ⟨⟨dq, osq⟩, hw''⟩ := hw'
                have HB9 := Lib.hid (HBR.out.trans (((show Below wr.heap.size wr w9 by rw [hw'']; exact below_regrown wr dq osq)).mono (by simpa using hzr)))
                clear j0 j1 j2 j3 hw''
                go_wp2
                go_roundw
                case rel => exact ⟨q + 1, _, by omega, by go_num, rfl, HI2, HB9.out⟩
                case measure => simp [intOf]; omega
              · have HI2 : Hid (false = decide (I < q + 1)) := Lib.hid (by have := HQ.out; simp at this ⊢; omega)
                have HH : Hid (hasB (p, (kk : Int)) x = false) := Lib.hid ((HP.out.two (fun e => hqI e.symm) HI.out HNK.out).2.1 x HHI.out)
                go_wp2
                refine wp_region_quiet_below (by kernel_rfl) (by kernel_rfl) ?_
                repeat (go_big_quiet_step (first | (with_reducible exact has_c HPp.out HX.out HH.out _ _) | fail))
                refine wpQuiet_nil ?_
                intro w9 hw'
                obtain ⟨⟨dq, osq⟩, hw''⟩ := hw'
                have HB9 := Lib.hid (HBR.out.trans (((show Below wr.heap.size wr w9 by rw [hw'']; exact below_regrown wr dq osq)).mono (by simpa using hzr)))
                clear j0 j1 j2 j3 hw''
                go_wp2
                go_roundw
                case rel => exact ⟨q + 1, _, by omega, by go_num, rfl, HI2, HB9.out⟩
                case measure => simp [intOf]; omega
          · have HT1 : Hid (hb = true) := Lib.hid (by rw [HQ.out]; simp; omega)
            obtain rfl := HT1.out
            go_wp2
            go_ret
            exact ⟨rfl, HB2.out.trans (HTR.out.bel.mono hz2)⟩
theorem TopPlan_walk (w : World) (A0 : Array Value) (x0 : Int × Int) (h0 : RV rdNet w (.agg A0) x0) (c0 : True ∧ True) (A : Option Addr) (n c : Nat) (L : List Int) (rr : RV rdInts w (.slice A n c) L) (q : L.length * 8 ≤ reachBytes ∧ ∀ x ∈ L, True) (i : Int) (bi : -9223372036854775808 ≤ i ∧ i ≤ 9223372036854775807) (x : Int) (bx : 0 ≤ x ∧ x ≤ 4294967295) :
    Calls Try.prog 4 #[.agg A0, .slice A n c, .int .i64 i, .int .u32 x] w fun e w' => e = .returned (.bool true) ∧ Below w.heap.size w w' := by
  obtain ⟨a, N, rfl, rfl, ha, _⟩ := net_parts h0
  have hL : R1 (RdSlice 1 (rdInt .i64)) w (.slice A n c) L := rr
  by_cases hf : fitF (a, N) L = 0
  · obtain ⟨k, rfl⟩ := net_nat (room_parts (fit_room hf).1).1
    exact TopPlan_yes ha bx hL hf
  · exact TopPlan_no ha hL hf
end Go.Proofs.Ytplojnlmofbneaa
