/- waywardenlaw5.PlanApart: its walk. -/
import Derived.Test.YtplojnlmofbneaaPlanA
namespace Go.Proofs.Ytplojnlmofbneaa
open Go.ChangeShapes Go.WideShapes Go.ChangeAt Go.RowKit
set_option linter.unusedVariables false
set_option linter.unusedSimpArgs false
set_option maxRecDepth 100000 in
set_option maxHeartbeats 8000000 in
theorem PlanApart_no {w : World} {a N x : Int} {A : Option Addr} {m c : Nat} {L : List Int} (ha : is32 a) (hL : R1 (RdSlice 1 (rdInt .i64)) w (.slice A m c) L) (hf : fitF (a, N) L ≠ 0) :
    Calls Try.prog 5 #[.agg #[.int .u32 a, .int .i64 N], .slice A m c, .int .u32 x] w fun e w' => e = .returned (.bool true) ∧ Below w.heap.size w w' := by
  have HL := Lib.hid hL
  have HF := Lib.hid hf
  clear hL hf
  go_enter Try.func5, Try.ntmps5
  go_wp2_with fail
  go_at_call 15
  (with_reducible refine (planned_any _).mono ?_)
  rintro e w1 ⟨rfl, hb1⟩
  obtain ⟨d0, d1, _, _⟩ := row2 (box1 hb1)
  have HB1 := Lib.hid ((below_1 w _).trans (hb1.mono (by simp)))
  have HL1 := Lib.hid (HL.out.below HB1.out)
  have hz1 := HB1.out.size
  clear hb1
  go_wp2_with fail
  go_at_call 13
  (with_reducible refine (Fit_no ha HL1.out HF.out).mono ?_)
  rintro e w2 ⟨rfl, hb2⟩
  rw [errV_ne HF.out]
  have HB2 := Lib.hid (HB1.out.trans (hb2.mono hz1))
  clear hb2
  go_wp2
  go_ret
  exact ⟨rfl, HB2.out⟩
set_option maxRecDepth 100000 in
set_option maxHeartbeats 8000000 in
theorem PlanApart_yes {w : World} {a x : Int} {N : Nat} {A : Option Addr} {m c : Nat} {L : List Int} (ha : is32 a) (hx : is32 x) (hL : R1 (RdSlice 1 (rdInt .i64)) w (.slice A m c) L) (hf : fitF (a, (N : Int)) L = 0) :
    Calls Try.prog 5 #[.agg #[.int .u32 a, .int .i64 N], .slice A m c, .int .u32 x] w fun e w' => e = .returned (.bool true) ∧ Below w.heap.size w w' := by
  have hm := (RdSlice.len hL).1
  have HL := Lib.hid hL
  have HF := Lib.hid hf
  have HA := Lib.hid ha
  have HX := Lib.hid hx
  have HM := Lib.hid hm
  obtain ⟨h0, h64, hbad⟩ := room_parts (fit_room hf).1
  have HTop := Lib.hid (net_top ha h0)
  have hm64 : m ≤ 64 := by omega
  clear hL hf ha hx hm h0 hbad h64
  go_enter Try.func5, Try.ntmps5
  go_wp2_with fail
  go_at_call 15
  (with_reducible refine (planned_any _).mono ?_)
  rintro e w1 ⟨rfl, hb1⟩
  have HO1 := Lib.hid (box1 hb1)
  obtain ⟨d0, d1, _, _⟩ := row2 (box1 hb1)
  have HB1 := Lib.hid ((below_1 w _).trans (hb1.mono (by simp)))
  have HL1 := Lib.hid (HL.out.below HB1.out)
  have hz1 := HB1.out.size
  have hz1' : w.heap.size < w1.heap.size := size_of_block HO1.out
  clear hb1
  go_wp2_with fail
  go_at_call 13
  (with_reducible refine (Fit_yes HA.out HL1.out HF.out HTop.out).mono ?_)
  rintro e w2 ⟨W, g, hW, rfl, hout, hb2, hg⟩
  rw [← HM.out]
  have HP := Lib.hid (plan_of HA.out HF.out hW)
  rw [← HM.out] at HP hout
  obtain ⟨ns, hns⟩ : ∃ ns, putAll L W a (List.replicate m (0, 0)) = ns := ⟨_, rfl⟩
  rw [hns] at HP hout
  have HOut := Lib.hid hout
  have hout0 := hout.lt
  have HO2 := Lib.hid (below_block hb2 hz1' HO1.out)
  have HL2 := Lib.hid (HL1.out.below hb2)
  have HB2 := Lib.hid (HB1.out.trans (hb2.mono hz1))
  have hz2 := HB2.out.size
  have hz2' : w.heap.size < w2.heap.size := size_of_block HO2.out
  clear hb2 hW hns hout d0 d1
  go_wp2
  go_loopw [10, 11] (fun qv iv wr => ∃ k q : Nat, k ≤ m ∧ iv = .int .i64 (k : Int) ∧ qv = .int .i64 (q : Int) ∧ q ≤ 1 ∧ Hid (q = 1 → ∃ j y, j < k ∧ ns[j]? = some y ∧ hasB y x = true) ∧ Below w2.heap.size w2 wr) (fun _ iv _ => m - (intOf iv).toNat)
  case atStart => exact ⟨0, 0, Nat.zero_le _, rfl, rfl, Nat.zero_le _, Lib.hid (fun h => absurd h (by decide)), Below.refl _ _⟩
  case round =>
    obtain ⟨k, q, hk, rfl, rfl, hq, HQ, hbr⟩ := hrel
    have HBR := Lib.hid hbr
    have hzr := hbr.size
    clear hbr
    by_cases hlt : k < m
    · have hkL : k < L.length := by rw [← HM.out]; exact hlt
      obtain ⟨p, kk, hnk, hLk, hp, hin, hkk, hnet⟩ := HP.out.entry hkL
      have HNK := Lib.hid hnk
      have HPp := Lib.hid hp
      have HIN := Lib.hid hin
      obtain ⟨o0, o1, _, _⟩ := HOut.out.cells hnk
      obtain ⟨b, o, y, rfl, hbb, HY, wy, c0⟩ := HL2.out.atI hlt
      obtain rfl : y = (kk : Int) := by have := HY.out; rw [hLk] at this; simpa using this.symm
      obtain ⟨z0, z1, _, _⟩ := row2 (below_block HBR.out hz2' HO2.out)
      have r0 := (HBR.out.cell (p := ⟨g, k * 2, none⟩) hout0).trans o0
      have r1 := (HBR.out.cell (p := ⟨g, k * 2 + 1, none⟩) hout0).trans o1
      have r2 := (HBR.out.cell (p := ⟨b, o + k, none⟩) hbb).trans c0
      have j0 := fun d os => cell_regrown r0 d os
      have j1 := fun d os => cell_regrown r1 d os
      have j2 := fun d os => cell_regrown r2 d os
      have j3 := fun d os => cell_regrown z0 d os
      have j4 := fun d os => cell_regrown z1 d os
      have i0 : (0 : Int) ≤ (k : Int) := by omega
      have i1 : (k : Int) < (m : Int) := by omega
      clear o0 o1 c0 wy hnk hp hin hLk
      go_wp2
      refine wp_region_quiet_below (by kernel_rfl) (by kernel_rfl) ?_
      repeat (go_big_quiet_step (first | (with_reducible exact in_c HPp.out HA.out HIN.out _ _) | fail))
      refine wpQuiet_nil ?_
      intro w6 hw'
      obtain ⟨⟨dq, osq⟩, hw''⟩ := hw'
      have HB6 := Lib.hid (HBR.out.trans (((show Below wr.heap.size wr w6 by rw [hw'']; exact below_regrown wr dq osq)).mono hzr))
      clear j0 j1 j2 j3 j4 hw'' r0 r1 r2 z0 z1
      obtain ⟨o0, o1, _, _⟩ := HOut.out.cells HNK.out
      have r0 := (HB6.out.cell (p := ⟨g, k * 2, none⟩) hout0).trans o0
      have r1 := (HB6.out.cell (p := ⟨g, k * 2 + 1, none⟩) hout0).trans o1
      clear o0 o1
      have HNT := Lib.hid hnet
      clear hnet
      go_wp2_with fail
      go_at_call 11
      (with_reducible refine (Has_any _ _ _ _ HPp.out HX.out).mono ?_)
      rintro e w7 ⟨rfl, hb7⟩
      have HB7 := Lib.hid (HB6.out.trans (hb7.mono HB6.out.size))
      clear hb7 r0 r1 HB6
      obtain ⟨hv, hhv⟩ : ∃ hv, hasB (p, (kk : Int)) x = hv := ⟨_, rfl⟩
      rw [hhv]
      have HH := Lib.hid hhv
      clear hhv
      cases hv with
      | true =>
        have hq0 : q = 0 := by
          rcases (by omega : q = 0 ∨ q = 1) with h | h
          · exact h
          · obtain ⟨j, y, hjk, hj, hy⟩ := HQ.out h
            have := (HP.out.two (i := k) (j := j) (by omega) HNK.out hj).2.1 x HH.out
            rw [this] at hy; cases hy
        subst hq0
        clear HQ
        go_wp2
        go_loopw [12] (fun jv wr2 => ∃ j : Nat, j ≤ k ∧ jv = .int .i64 (j : Int) ∧ Below w7.heap.size w7 wr2) (fun jv _ => k - (intOf jv).toNat)
        case atStart => exact ⟨0, Nat.zero_le _, rfl, Below.refl _ _⟩
        case round =>
          obtain ⟨j, hj, rfl, hbr2⟩ := hrel
          have HBR2 := Lib.hid (HB7.out.trans (hbr2.mono HB7.out.size))
          have hzr2 := HBR2.out.size
          have HBX := Lib.hid hbr2
          have hzx := hbr2.size
          clear hbr2
          by_cases hjk : j < k
          · have hjL : j < L.length := by rw [← HM.out]; omega
            obtain ⟨p', kk', hnk', hLk', hp', hin', hkk', hnet'⟩ := HP.out.entry hjL
            have HI1 := Lib.hid (HP.out.two (i := k) (j := j) (by omega) HNK.out hnk').1
            have HI2 := Lib.hid (HP.out.two (i := j) (j := k) (by omega) hnk' HNK.out).1
            have HPp' := Lib.hid hp'
            obtain ⟨o0, o1, _, _⟩ := HOut.out.cells HNK.out
            obtain ⟨o2, o3, _, _⟩ := HOut.out.cells hnk'
            have r0 := (HBR2.out.cell (p := ⟨g, k * 2, none⟩) hout0).trans o0
            have r1 := (HBR2.out.cell (p := ⟨g, k * 2 + 1, none⟩) hout0).trans o1
            have r2 := (HBR2.out.cell (p := ⟨g, j * 2, none⟩) hout0).trans o2
            have r3 := (HBR2.out.cell (p := ⟨g, j * 2 + 1, none⟩) hout0).trans o3
            have j0 := fun d os => cell_regrown r0 d os
            have j1 := fun d os => cell_regrown r1 d os
            have j2 := fun d os => cell_regrown r2 d os
            have j3 := fun d os => cell_regrown r3 d os
            have i2 : (0 : Int) ≤ (j : Int) := by omega
            have i3 : (j : Int) < (m : Int) := by omega
            have i4 : (j : Int) < (k : Int) := by omega
            clear o0 o1 o2 o3 hnk' hp' hin' hLk' hkk' hnet'
            go_wp2
            refine wp_region_quiet_below (by kernel_rfl) (by kernel_rfl) ?_
            repeat (go_big_quiet_step (first | (with_reducible exact in_c HPp.out HPp'.out HI1.out _ _) | (with_reducible exact in_c HPp'.out HPp.out HI2.out _ _) | fail))
            refine wpQuiet_nil ?_
            intro w8 hw'
            obtain ⟨⟨dq, osq⟩, hw''⟩ := hw'
            have HB8 := Lib.hid (((show Below wr.heap.size wr w8 by rw [hw'']; exact below_regrown wr dq osq)))
            clear j0 j1 j2 j3 hw'' r0 r1 r2 r3
            go_wp2
            go_roundw
            case rel => exact ⟨j + 1, by omega, by go_num, (HBX.out).trans (HB8.out.mono hzx)⟩
            case measure => simp [intOf]; omega
          · go_wp2
            go_roundw
            case rel => exact ⟨k + 1, 1, by omega, by go_num, by go_num, Nat.le_refl _, Lib.hid (fun _ => ⟨k, _, by omega, HNK.out, HH.out⟩), HBR2.out⟩
            case measure => simp [intOf]; omega
      | false =>
        go_wp2
        go_loopw [12] (fun jv wr2 => ∃ j : Nat, j ≤ k ∧ jv = .int .i64 (j : Int) ∧ Below w7.heap.size w7 wr2) (fun jv _ => k - (intOf jv).toNat)
        case atStart => exact ⟨0, Nat.zero_le _, rfl, Below.refl _ _⟩
        case round =>
          obtain ⟨j, hj, rfl, hbr2⟩ := hrel
          have HBR2 := Lib.hid (HB7.out.trans (hbr2.mono HB7.out.size))
          have hzr2 := HBR2.out.size
          have HBX := Lib.hid hbr2
          have hzx := hbr2.size
          clear hbr2
          by_cases hjk : j < k
          · have hjL : j < L.length := by rw [← HM.out]; omega
            obtain ⟨p', kk', hnk', hLk', hp', hin', hkk', hnet'⟩ := HP.out.entry hjL
            have HI1 := Lib.hid (HP.out.two (i := k) (j := j) (by omega) HNK.out hnk').1
            have HI2 := Lib.hid (HP.out.two (i := j) (j := k) (by omega) hnk' HNK.out).1
            have HPp' := Lib.hid hp'
            obtain ⟨o0, o1, _, _⟩ := HOut.out.cells HNK.out
            obtain ⟨o2, o3, _, _⟩ := HOut.out.cells hnk'
            have r0 := (HBR2.out.cell (p := ⟨g, k * 2, none⟩) hout0).trans o0
            have r1 := (HBR2.out.cell (p := ⟨g, k * 2 + 1, none⟩) hout0).trans o1
            have r2 := (HBR2.out.cell (p := ⟨g, j * 2, none⟩) hout0).trans o2
            have r3 := (HBR2.out.cell (p := ⟨g, j * 2 + 1, none⟩) hout0).trans o3
            have j0 := fun d os => cell_regrown r0 d os
            have j1 := fun d os => cell_regrown r1 d os
            have j2 := fun d os => cell_regrown r2 d os
            have j3 := fun d os => cell_regrown r3 d os
            have i2 : (0 : Int) ≤ (j : Int) := by omega
            have i3 : (j : Int) < (m : Int) := by omega
            have i4 : (j : Int) < (k : Int) := by omega
            clear o0 o1 o2 o3 hnk' hp' hin' hLk' hkk' hnet'
            go_wp2
            refine wp_region_quiet_below (by kernel_rfl) (by kernel_rfl) ?_
            repeat (go_big_quiet_step (first | (with_reducible exact in_c HPp.out HPp'.out HI1.out _ _) | (with_reducible exact in_c HPp'.out HPp.out HI2.out _ _) | fail))
            refine wpQuiet_nil ?_
            intro w8 hw'
            obtain ⟨⟨dq, osq⟩, hw''⟩ := hw'
            have HB8 := Lib.hid (((show Below wr.heap.size wr w8 by rw [hw'']; exact below_regrown wr dq osq)))
            clear j0 j1 j2 j3 hw'' r0 r1 r2 r3
            go_wp2
            go_roundw
            case rel => exact ⟨j + 1, by omega, by go_num, (HBX.out).trans (HB8.out.mono hzx)⟩
            case measure => simp [intOf]; omega
          · go_wp2
            go_roundw
            case rel => exact ⟨k + 1, q, by omega, by go_num, rfl, hq, Lib.hid (fun h => by obtain ⟨j, y, h1, h2, h3⟩ := HQ.out h; exact ⟨j, y, by omega, h2, h3⟩), HBR2.out⟩
            case measure => simp [intOf]; omega
    · have hk1 : decide ((q : Int) ≤ 1) = true := by simp; omega
      go_wp2
      go_ret
      exact ⟨rfl, HB2.out.trans (HBR.out.mono hz2)⟩
theorem net_parts {w : World} {A : Array Value} {x : Int × Int} (h : RV rdNet w (.agg A) x) : ∃ a l : Int, x = (a, l) ∧ A = #[.int .u32 a, .int .i64 l] ∧ is32 a ∧ -9223372036854775808 ≤ l ∧ l ≤ 9223372036854775807 := by
  obtain ⟨c0, c1, e, ⟨e0, w0⟩, ⟨e1, w1⟩⟩ := h
  obtain ⟨a, l⟩ := x
  subst e0; subst e1
  have e2 : A.toList = [.int .u32 a, .int .i64 l] := by simpa [Value.cells] using e
  have b1 := bounds_i64 w1
  exact ⟨a, l, rfl, by rw [← Array.toArray_toList (xs := A), e2], bounds_u32 w0, by omega, by omega⟩
theorem net_nat {a N : Int} (h : netF (a, N) = 0) : ∃ k : Nat, N = (k : Int) := by
  have := (netF_zero.1 h).1
  exact ⟨N.toNat, by omega⟩
theorem PlanApart_walk (w : World) (A0 : Array Value) (x0 : Int × Int) (h0 : RV rdNet w (.agg A0) x0) (c0 : True ∧ True) (A : Option Addr) (n c : Nat) (L : List Int) (rr : RV rdInts w (.slice A n c) L) (q : L.length * 8 ≤ reachBytes ∧ ∀ x ∈ L, True) (x : Int) (bx : 0 ≤ x ∧ x ≤ 4294967295) :
    Calls Try.prog 5 #[.agg A0, .slice A n c, .int .u32 x] w fun e w' => e = .returned (.bool true) ∧ Below w.heap.size w w' := by
  obtain ⟨a, N, rfl, rfl, ha, _⟩ := net_parts h0
  have hL : R1 (RdSlice 1 (rdInt .i64)) w (.slice A n c) L := rr
  by_cases hf : fitF (a, N) L = 0
  · obtain ⟨k, rfl⟩ := net_nat (room_parts (fit_room hf).1).1
    exact PlanApart_yes ha bx hL hf
  · exact PlanApart_no ha hL hf
end Go.Proofs.Ytplojnlmofbneaa
