/- waywardenlaw1.TrieTells: its walk. -/
import Derived.Test.YtplojnlmofbneaaDoorTrieY
import Derived.Test.YtplojnlmofbneaaDoorTypes
import Derived.Deep.DeepCutAuto
namespace Go.Proofs.YtplojnlmofbneaaDoor
open Go.ChangeShapes Go.WideShapes Go.ChangeAt Go.RowKit
set_option linter.unusedVariables false
set_option linter.unusedSimpArgs false
set_option maxRecDepth 100000 in
set_option maxHeartbeats 16000000 in
theorem TrieTells_any {W : World} {A A0 : Option Addr} {n c n0 c0 : Nat} {l : List Nt} {vs : List Int} {a : Int} (hl : R1 rdNets W (.slice A n c) l) (hv : R1 (RdSlice 1 (rdInt .i64)) W (.slice A0 n0 c0) vs) (ha : is32 a) (hg : HErr W) :
    Calls Tryd.prog 4 #[.slice A n c, .slice A0 n0 c0, .int .u32 a] W fun e w' => e = .returned (.bool true) ∧ Below W.heap.size W w' := by
  have hnm := (RdSlice.len hl).2
  have hn63 : n ≤ 9223372036854775807 := by unfold maxLen at hnm; omega
  have HL := Lib.hid hl
  have HV := Lib.hid hv
  have HA := Lib.hid ha
  have HG := Lib.hid hg
  clear hl hv ha hg hnm
  go_enter Tryd.func4, Tryd.ntmps4
  go_wp2_with fail
  go_at_call 9
  (with_reducible refine (New_s (W := W) (Below.refl _ _) (fun _ => False) (fun g hg => hg.elim)).mono ?_)
  rintro e w1 ⟨rfl, hT1, hb1⟩
  obtain ⟨T, hT⟩ : ∃ T, W.heap.size = T := ⟨_, rfl⟩
  rw [hT] at hT1
  have HST := Lib.hid (start_of hb1 hT1)
  have HWM0 := Lib.hid hb1.size
  rw [hT]
  obtain ⟨M, hM⟩ : ∃ M, w1.heap.size = M := ⟨_, rfl⟩
  rw [hM] at HST HWM0
  have HM0 := Lib.hid hM
  have HWM : Hid (W.heap.size ≤ M) := HWM0
  clear hT1 hb1 HWM0 hT hM
  go_upto_region 5 with (fail)
  try rw [HM0.out]
  obtain ⟨S0, hT0, hM1⟩ := HST.out
  have HT0 := Lib.hid hT0
  have HM1 := Lib.hid hM1
  generalize w1.alloc (tabO none 0 0 none 0 0) = w2 at *
  clear HST hT0 hM1 HM0
  go_wp2
  go_loopw [9, 10, 11, 12, 13, 14, 15, 16, 17, 18] (fun iv _ _ _ _ _ _ _ _ _ wr => ∃ (k : Nat) (m : List (Nt × Int)) (S : Nat → Prop) (A2 : Option Addr) (n2 c2 : Nat) (A3 : Option Addr) (n3 c3 : Nat), k ≤ n ∧ k ≤ n0 ∧ iv = .int .i64 k ∧ Tk W T m S wr ∧ RB M S wr M m A2 n2 c2 A3 n3 c3) (fun iv _ _ _ _ _ _ _ _ _ _ => n - (intOf iv).toNat)
  case atStart => exact ⟨0, [], S0, none, 0, 0, none, 0, 0, Nat.zero_le _, Nat.zero_le _, rfl, HT0.out, HM1.out⟩
  case round =>
    clear HT0 HM1
    obtain ⟨k, m, S, A2, n2, c2, A3, n3, c3, hk, hk0, rfl, hT, hM⟩ := hrel
    have HT0 := Lib.hid hT
    have HM0 := Lib.hid hM
    have HLEN := Lib.hid hT.ok.len
    have HLN := Lib.hid hM.row.lens
    clear hT hM
    have i0 : (0 : Int) ≤ (k : Int) := by omega
    by_cases hin : k < n ∧ k < n0
    · obtain ⟨hin1, hin2⟩ := hin
      obtain ⟨b, o, ⟨p, q⟩, rfl, hb, HPQ, hwx, e0, e1⟩ := RdSlice.atN HL.out hin1
      obtain ⟨b', o', u, rfl, hb', HU, hwu, e2⟩ := HV.out.atI hin2
      have i1 : (k : Int) < (n : Int) := by omega
      have i2 : (k : Int) < (n0 : Int) := by omega
      have E0 := Lib.hid e0
      have E1 := Lib.hid e1
      have E2 := Lib.hid e2
      have HWX := Lib.hid hwx
      have HWU := Lib.hid hwu
      have HIx : Hid (is32 p) := Lib.hid (bounds_u32 hwx.1)
      clear e0 e1 e2 hwx hwu
      have d0 := (HT0.out.bel.cell (p := ⟨b, o + k * 2, none⟩) hb).trans E0.out
      have d1 := (HT0.out.bel.cell (p := ⟨b, o + k * 2 + 1, none⟩) hb).trans E1.out
      have d2 := (HT0.out.bel.cell (p := ⟨b', o' + k, none⟩) hb').trans E2.out
      obtain ⟨z0, z1, z2, z3⟩ := row2 HM0.out.blk
      obtain ⟨r, hr⟩ : ∃ r, netF (p, q) = r := ⟨_, rfl⟩
      have HF := Lib.hid hr
      clear hr
      go_wp2_with fail
      go_at_call 15
      (with_reducible refine (fault_is HF.out HIx.out _).mono ?_)
      rintro e w1 ⟨rfl, hb1⟩
      have HT1 := Lib.hid (HT0.out.below hb1)
      have HM1 := Lib.hid (HM0.out.kept (HT0.out.keptS hb1))
      clear hb1 d0 d1 d2 z0 z1 z2 z3
      have d0 := (HT1.out.bel.cell (p := ⟨b, o + k * 2, none⟩) hb).trans E0.out
      have d1 := (HT1.out.bel.cell (p := ⟨b, o + k * 2 + 1, none⟩) hb).trans E1.out
      have d2 := (HT1.out.bel.cell (p := ⟨b', o' + k, none⟩) hb').trans E2.out
      obtain ⟨z0, z1, z2, z3⟩ := row2 HM1.out.blk
      have hF3 : r = 0 ∨ r = 1 ∨ r = 3 := by
        by_cases h0 : r = 0
        · exact .inl h0
        · exact .inr (HF.out ▸ netF_ne (by rw [HF.out]; exact h0))
      rcases hF3 with rfl | rfl | rfl
      · cases hlk : look m (p, q) with
        | none =>
          have HLK := Lib.hid hlk
          have HPL := Lib.hid (place_none hlk 0)
          have HGE := Lib.hid (get_none HF.out hlk)
          clear hlk
          go_wp2
          have j0 := fun dd os => cell_regrown d0 dd os
          have j1 := fun dd os => cell_regrown d1 dd os
          have j2 := fun dd os => cell_regrown z0 dd os
          have j3 := fun dd os => cell_regrown z1 dd os
          clear d0 d1 d2 z0 z1 z2 z3
          refine wp_region_quiet_below (by kernel_rfl) (by kernel_rfl) ?_
          repeat (go_big_quiet_step (first | (with_reducible exact places_c (HM1.out.row.r1 HT1.out.sLt) HPL.out _ _) | fail))
          refine wpQuiet_nil ?_
          intro w2 hw'
          obtain ⟨⟨dq, osq⟩, hw''⟩ := hw'
          have hb2 := (show Below w1.heap.size w1 w2 by rw [hw'']; exact below_regrown w1 dq osq)
          have HT2 := Lib.hid (HT1.out.below hb2)
          have HM2 := Lib.hid (HM1.out.kept (HT1.out.keptS hb2))
          clear hb2 hw'' j0 j1 j2 j3
          have d0 := (HT2.out.bel.cell (p := ⟨b, o + k * 2, none⟩) hb).trans E0.out
          have d1 := (HT2.out.bel.cell (p := ⟨b, o + k * 2 + 1, none⟩) hb).trans E1.out
          have d2 := (HT2.out.bel.cell (p := ⟨b', o' + k, none⟩) hb').trans E2.out
          obtain ⟨z0, z1, z2, z3⟩ := row2 HM2.out.blk
          go_wp2_with fail
          go_at_call 17
          (with_reducible refine (Get_t HT2.out HIx.out).mono ?_)
          rw [HGE.out.1, HGE.out.2.1, errV_ne (k := 2) (by decide)]
          rintro e w3 ⟨rfl, hb3⟩
          have HT3 := Lib.hid (HT2.out.below hb3)
          have HM3 := Lib.hid (HM2.out.kept (HT2.out.keptS hb3))
          clear hb3 d0 d1 d2 z0 z1 z2 z3
          have d0 := (HT3.out.bel.cell (p := ⟨b, o + k * 2, none⟩) hb).trans E0.out
          have d1 := (HT3.out.bel.cell (p := ⟨b, o + k * 2 + 1, none⟩) hb).trans E1.out
          have d2 := (HT3.out.bel.cell (p := ⟨b', o' + k, none⟩) hb').trans E2.out
          obtain ⟨z0, z1, z2, z3⟩ := row2 HM3.out.blk
          have HGW := Lib.hid (HG.out.below HT3.out.bel)
          go_wp2_with fail
          go_at_call 18
          (with_reducible refine (error_is (errV_ne (k := 2) (by decide)) (show ((2 : Int) == 2) = true from rfl) _ HGW.out).mono ?_)
          rintro e w4 ⟨rfl, hb4⟩
          clear HGW
          have HT4 := Lib.hid (HT3.out.below hb4)
          have HM4 := Lib.hid (HM3.out.kept (HT3.out.keptS hb4))
          clear hb4 d0 d1 d2 z0 z1 z2 z3
          have d0 := (HT4.out.bel.cell (p := ⟨b, o + k * 2, none⟩) hb).trans E0.out
          have d1 := (HT4.out.bel.cell (p := ⟨b, o + k * 2 + 1, none⟩) hb).trans E1.out
          have d2 := (HT4.out.bel.cell (p := ⟨b', o' + k, none⟩) hb').trans E2.out
          obtain ⟨z0, z1, z2, z3⟩ := row2 HM4.out.blk
          by_cases hu : 0 < u
          · skip
            by_cases h64 : 64 ≤ m.length
            · skip
              go_wp2
              refine wp_region_noPanic ?_
              refine wp_region_held_drew (S := (fun w' => w'.cell? ⟨b, o + k * 2, none⟩ = some (.int .u32 p) ∧ w'.cell? ⟨b, o + k * 2 + 1, none⟩ = some (.int .i64 q) ∧ w'.cell? ⟨b', o' + k, none⟩ = some (.int .i64 u) ∧ w'.cell? ⟨M, 0, none⟩ = some (.slice A2 n2 c2) ∧ w'.cell? ⟨M, 1, none⟩ = some (.slice A3 n3 c3))) (by kernel_rfl) (by go_keep) (fun hHeld => ?_)
              refine' wpAnyH_take (i := 0) ?hix1x0 ?hsx1x0 ?hfx1x0 ?hrx1x0 ?hQx1x0 ?hyx1x0 ?hSx1x0 ?hx1x0
              case hix1x0 => (simp only [List.getElem?_toArray, List.getElem?_cons_succ, List.getElem?_cons_zero]; exact rfl)
              case hsx1x0 | hfx1x0 | hrx1x0 => kernel_rfl
              case hQx1x0 => exact fun _ _ _ h => h
              case hyx1x0 => (first | (refine Or.inr ⟨by rfl, ?_⟩; rfl) | (refine Or.inl ⟨by rfl, ?_⟩; (intro w hSw; (try dsimp only at hSw); go_simp); try with_reducible rfl))
              case hSx1x0 => assumption
              try simp only [Act.put, List.setIfInBounds_toArray, List.set_cons_zero, List.set_cons_succ]
              refine' wpAnyH_take (i := 1) ?hix1x1 ?hsx1x1 ?hfx1x1 ?hrx1x1 ?hQx1x1 ?hyx1x1 ?hSx1x1 ?hx1x1
              case hix1x1 => (simp only [List.getElem?_toArray, List.getElem?_cons_succ, List.getElem?_cons_zero]; exact rfl)
              case hsx1x1 | hfx1x1 | hrx1x1 => kernel_rfl
              case hQx1x1 => exact fun _ _ _ h => h
              case hyx1x1 => (first | (refine Or.inr ⟨by rfl, ?_⟩; rfl) | (refine Or.inl ⟨by rfl, ?_⟩; (intro w hSw; (try dsimp only at hSw); go_simp); try with_reducible rfl))
              case hSx1x1 => assumption
              try simp only [Act.put, List.setIfInBounds_toArray, List.set_cons_zero, List.set_cons_succ]
              refine' wpAnyH_take (i := 2) ?hix1x2 ?hsx1x2 ?hfx1x2 ?hrx1x2 ?hQx1x2 ?hyx1x2 ?hSx1x2 ?hx1x2
              case hix1x2 => (simp only [List.getElem?_toArray, List.getElem?_cons_succ, List.getElem?_cons_zero]; exact rfl)
              case hsx1x2 | hfx1x2 | hrx1x2 => kernel_rfl
              case hQx1x2 => exact fun _ _ _ h => h
              case hyx1x2 => (first | (refine Or.inr ⟨by rfl, ?_⟩; rfl) | (refine Or.inl ⟨by rfl, ?_⟩; (intro w hSw; (try dsimp only at hSw); go_simp); try with_reducible rfl))
              case hSx1x2 => assumption
              try simp only [Act.put, List.setIfInBounds_toArray, List.set_cons_zero, List.set_cons_succ]
              refine' wpAnyH_take (i := 3) ?hix1x3 ?hsx1x3 ?hfx1x3 ?hrx1x3 ?hQx1x3 ?hyx1x3 ?hSx1x3 ?hx1x3
              case hix1x3 => (simp only [List.getElem?_toArray, List.getElem?_cons_succ, List.getElem?_cons_zero]; exact rfl)
              case hsx1x3 | hfx1x3 | hrx1x3 => kernel_rfl
              case hQx1x3 => exact fun _ _ _ h => h
              case hyx1x3 => (first | (refine Or.inr ⟨by rfl, ?_⟩; rfl) | (refine Or.inl ⟨by rfl, ?_⟩; (intro w hSw; (try dsimp only at hSw); go_simp); try with_reducible rfl))
              case hSx1x3 => assumption
              try simp only [Act.put, List.setIfInBounds_toArray, List.set_cons_zero, List.set_cons_succ]
              refine' wpAnyH_take (i := 4) ?hix1x4 ?hsx1x4 ?hfx1x4 ?hrx1x4 ?hQx1x4 ?hyx1x4 ?hSx1x4 ?hx1x4
              case hix1x4 => (simp only [List.getElem?_toArray, List.getElem?_cons_succ, List.getElem?_cons_zero]; exact rfl)
              case hsx1x4 | hfx1x4 | hrx1x4 => kernel_rfl
              case hQx1x4 => exact fun _ _ _ h => h
              case hyx1x4 => (first | (refine Or.inr ⟨by rfl, ?_⟩; rfl) | (refine Or.inl ⟨by rfl, ?_⟩; (intro w hSw; (try dsimp only at hSw); go_simp); try with_reducible rfl))
              case hSx1x4 => assumption
              try simp only [Act.put, List.setIfInBounds_toArray, List.set_cons_zero, List.set_cons_succ]
              refine' wpAnyH_take (i := 5) ?hix1x5 ?hsx1x5 ?hfx1x5 ?hrx1x5 ?hQx1x5 ?hyx1x5 ?hSx1x5 ?hx1x5
              case hix1x5 => (simp only [List.getElem?_toArray, List.getElem?_cons_succ, List.getElem?_cons_zero]; exact rfl)
              case hsx1x5 | hfx1x5 | hrx1x5 => kernel_rfl
              case hQx1x5 => exact fun _ _ _ h => h
              case hyx1x5 => (first | (refine Or.inr ⟨by rfl, ?_⟩; rfl) | (refine Or.inl ⟨by rfl, ?_⟩; (intro w hSw; (try dsimp only at hSw); go_simp); try with_reducible rfl))
              case hSx1x5 => assumption
              try simp only [Act.put, List.setIfInBounds_toArray, List.set_cons_zero, List.set_cons_succ]
              refine' wpAnyH_take (i := 6) ?hix1x6 ?hsx1x6 ?hfx1x6 ?hrx1x6 ?hQx1x6 ?hyx1x6 ?hSx1x6 ?hx1x6
              case hix1x6 => (simp only [List.getElem?_toArray, List.getElem?_cons_succ, List.getElem?_cons_zero]; exact rfl)
              case hsx1x6 | hfx1x6 | hrx1x6 => kernel_rfl
              case hQx1x6 => exact fun _ _ _ h => h
              case hyx1x6 => (first | (refine Or.inr ⟨by rfl, ?_⟩; rfl) | (refine Or.inl ⟨by rfl, ?_⟩; (intro w hSw; (try dsimp only at hSw); go_simp); try with_reducible rfl))
              case hSx1x6 => assumption
              try simp only [Act.put, List.setIfInBounds_toArray, List.set_cons_zero, List.set_cons_succ]
              refine' wpAnyH_take (i := 7) ?hix1x7 ?hsx1x7 ?hfx1x7 ?hrx1x7 ?hQx1x7 ?hyx1x7 ?hSx1x7 ?hx1x7
              case hix1x7 => (simp only [List.getElem?_toArray, List.getElem?_cons_succ, List.getElem?_cons_zero]; exact rfl)
              case hsx1x7 | hfx1x7 | hrx1x7 => kernel_rfl
              case hQx1x7 => exact fun _ _ _ h => h
              case hyx1x7 => (first | (refine Or.inr ⟨by rfl, ?_⟩; rfl) | (refine Or.inl ⟨by rfl, ?_⟩; (intro w hSw; (try dsimp only at hSw); go_simp); try with_reducible rfl))
              case hSx1x7 => assumption
              try simp only [Act.put, List.setIfInBounds_toArray, List.set_cons_zero, List.set_cons_succ]
              refine' wpAnyH_take (i := 8) ?hix1x8 ?hsx1x8 ?hfx1x8 ?hrx1x8 ?hQx1x8 ?hyx1x8 ?hSx1x8 ?hx1x8
              case hix1x8 => (simp only [List.getElem?_toArray, List.getElem?_cons_succ, List.getElem?_cons_zero]; exact rfl)
              case hsx1x8 | hfx1x8 | hrx1x8 => kernel_rfl
              case hQx1x8 => exact fun _ _ _ h => h
              case hyx1x8 => (first | (refine Or.inr ⟨by rfl, ?_⟩; rfl) | (refine Or.inl ⟨by rfl, ?_⟩; (intro w hSw; (try dsimp only at hSw); go_simp); try with_reducible rfl))
              case hSx1x8 => assumption
              try simp only [Act.put, List.setIfInBounds_toArray, List.set_cons_zero, List.set_cons_succ]
              refine wpAnyH_ready (rs := [9, 13]) (by kernel_rfl) (by simp) ?_
              refine' AllReadyH.cons ?hiAx1x (fun K hK => ?hAx1x) (AllReadyH.cons ?hiBx1x (fun K hK => ?hBx1x) AllReadyH.nil)
              case hiAx1x => (simp only [List.getElem?_toArray, List.getElem?_cons_succ, List.getElem?_cons_zero]; exact rfl)
              case hiBx1x => (simp only [List.getElem?_toArray, List.getElem?_cons_succ, List.getElem?_cons_zero]; exact rfl)
              case hAx1x =>
                go_simp
                have hbd : Below w4.heap.size w4 w4.drew := below_drewN (Below.refl _ _) 1
                have HT5 := Lib.hid (HT4.out.below hbd)
                have HM5 := Lib.hid (HM4.out.kept (HT4.out.keptS hbd))
                clear hbd
                go_at_call 19
                (with_reducible refine (PutIn_none (HM5.out.row.r1 HT5.out.sLt) (HM5.out.row.v1 HT5.out.sLt) HLEN.out HLK.out h64).mono ?_)
                rintro e w6 ⟨⟨B, k1, f1, B', k2, f2, rfl⟩, hb6⟩
                have HB6 := Lib.hid hb6
                have HT6 := Lib.hid (HT5.out.below hb6)
                have HM6 := Lib.hid (HM5.out.kept (HT5.out.keptS hb6))
                clear d0 d1 d2 z0 z1 z2 z3
                have d0 := (HT6.out.bel.cell (p := ⟨b, o + k * 2, none⟩) hb).trans E0.out
                have d1 := (HT6.out.bel.cell (p := ⟨b, o + k * 2 + 1, none⟩) hb).trans E1.out
                have d2 := (HT6.out.bel.cell (p := ⟨b', o' + k, none⟩) hb').trans E2.out
                obtain ⟨z0, z1, z2, z3⟩ := row2 HM6.out.blk
                have p1 := Nat.lt_of_lt_of_le hb HT6.out.bel.size
                have p2 := Nat.lt_of_lt_of_le hb' HT6.out.bel.size
                have p3 : M < w6.heap.size := HT6.out.sLt M HM6.out.inS
                have p4 : ¬ b = w6.heap.size := by omega
                have p5 : ¬ b' = w6.heap.size := by omega
                have p6 : ¬ M = w6.heap.size := by omega
                have p7 : ¬ w6.heap.size = b := by omega
                have p8 : ¬ w6.heap.size = b' := by omega
                have p9 : ¬ w6.heap.size = M := by omega
                clear hb6
                refine hK.out _ _ (by go_keep) (fun hHeld => ?_)
                clear hK K
                refine' wpAnyH_take (i := 10) ?hix1xA10 ?hsx1xA10 ?hfx1xA10 ?hrx1xA10 ?hQx1xA10 ?hyx1xA10 ?hSx1xA10 ?hx1xA10
                case hix1xA10 => (simp only [List.getElem?_toArray, List.getElem?_cons_succ, List.getElem?_cons_zero]; exact rfl)
                case hsx1xA10 | hfx1xA10 | hrx1xA10 => kernel_rfl
                case hQx1xA10 => exact fun _ _ _ h => h
                case hyx1xA10 => (first | (refine Or.inr ⟨by rfl, ?_⟩; rfl) | (refine Or.inl ⟨by rfl, ?_⟩; (intro w hSw; (try dsimp only at hSw); go_simp); try with_reducible rfl))
                case hSx1xA10 => assumption
                try simp only [Act.put, List.setIfInBounds_toArray, List.set_cons_zero, List.set_cons_succ]
                refine' wpAnyH_take (i := 11) ?hix1xA11 ?hsx1xA11 ?hfx1xA11 ?hrx1xA11 ?hQx1xA11 ?hyx1xA11 ?hSx1xA11 ?hx1xA11
                case hix1xA11 => (simp only [List.getElem?_toArray, List.getElem?_cons_succ, List.getElem?_cons_zero]; exact rfl)
                case hsx1xA11 | hfx1xA11 | hrx1xA11 => kernel_rfl
                case hQx1xA11 => exact fun _ _ _ h => h
                case hyx1xA11 => (first | (refine Or.inr ⟨by rfl, ?_⟩; rfl) | (refine Or.inl ⟨by rfl, ?_⟩; (intro w hSw; (try dsimp only at hSw); go_simp); try with_reducible rfl))
                case hSx1xA11 => assumption
                try simp only [Act.put, List.setIfInBounds_toArray, List.set_cons_zero, List.set_cons_succ]
                refine' wpAnyH_take (i := 12) ?hix1xA12 ?hsx1xA12 ?hfx1xA12 ?hrx1xA12 ?hQx1xA12 ?hyx1xA12 ?hSx1xA12 ?hx1xA12
                case hix1xA12 => (simp only [List.getElem?_toArray, List.getElem?_cons_succ, List.getElem?_cons_zero]; exact rfl)
                case hsx1xA12 | hfx1xA12 | hrx1xA12 => kernel_rfl
                case hQx1xA12 => exact fun _ _ _ h => h
                case hyx1xA12 => (first | (refine Or.inr ⟨by rfl, ?_⟩; rfl) | (refine Or.inl ⟨by rfl, ?_⟩; (intro w hSw; (try dsimp only at hSw); go_simp); try with_reducible rfl))
                case hSx1xA12 => assumption
                try simp only [Act.put, List.setIfInBounds_toArray, List.set_cons_zero, List.set_cons_succ]
                refine wpAnyH_ready (rs := [13]) (by kernel_rfl) (by simp) ?_
                refine' AllReadyH.cons ?hix1xA13 (fun K hK => ?hx1xA13) AllReadyH.nil
                case hix1xA13 => (simp only [List.getElem?_toArray, List.getElem?_cons_succ, List.getElem?_cons_zero]; exact rfl)
                go_simp
                refine hK.out _ _ (by go_keep) (fun hHeld => ?_)
                clear hK K
                refine wpAnyH_ready (rs := [14]) (by kernel_rfl) (by simp) ?_
                refine' AllReadyH.cons ?hix1xA14 (fun K hK => ?hx1xA14) AllReadyH.nil
                case hix1xA14 => (simp only [List.getElem?_toArray, List.getElem?_cons_succ, List.getElem?_cons_zero]; exact rfl)
                go_simp
                refine hK.out _ _ (by go_keep) (fun hHeld => ?_)
                clear hK K
                refine' wpAnyH_take (i := 15) ?hix1xA15 ?hsx1xA15 ?hfx1xA15 ?hrx1xA15 ?hQx1xA15 ?hyx1xA15 ?hSx1xA15 ?hx1xA15
                case hix1xA15 => (simp only [List.getElem?_toArray, List.getElem?_cons_succ, List.getElem?_cons_zero]; exact rfl)
                case hsx1xA15 | hfx1xA15 | hrx1xA15 => kernel_rfl
                case hQx1xA15 => exact fun _ _ _ h => h
                case hyx1xA15 => (first | (refine Or.inr ⟨by rfl, ?_⟩; rfl) | (refine Or.inl ⟨by rfl, ?_⟩; (intro w hSw; (try dsimp only at hSw); go_simp); try with_reducible rfl))
                case hSx1xA15 => assumption
                try simp only [Act.put, List.setIfInBounds_toArray, List.set_cons_zero, List.set_cons_succ]
                refine wpAnyH_done (by kernel_rfl) ?_ _
                refine NoPanic.normal ?_
                clear hHeld
                clear d0 d1 d2 z0 z1 z2 z3 p1 p2 p3 p4 p5 p6 p7 p8 p9
                have hb7 := below_1 w6 (tabO B k1 f1 B' k2 f2)
                have HT7 := Lib.hid (HT6.out.below hb7)
                have HM7 := Lib.hid (HM6.out.kept (HT6.out.keptS hb7))
                generalize hwn : w6.alloc (tabO B k1 f1 B' k2 f2) = w7 at *
                clear hb7 hwn HT5 HM5 HT6 HM6 HB6
                obtain ⟨P, hPP⟩ : ∃ P, w6.heap.size = P := ⟨_, rfl⟩
                rw [hPP]
                clear hPP
                have d0 := (HT7.out.bel.cell (p := ⟨b, o + k * 2, none⟩) hb).trans E0.out
                have d1 := (HT7.out.bel.cell (p := ⟨b, o + k * 2 + 1, none⟩) hb).trans E1.out
                have d2 := (HT7.out.bel.cell (p := ⟨b', o' + k, none⟩) hb').trans E2.out
                obtain ⟨z0, z1, z2, z3⟩ := row2 HM7.out.blk
                have HPE := Lib.hid (put_full4 (v := u) HF.out ⟨HLK.out, by have := HLEN.out; omega⟩)
                clear d0 d1 d2 z0 z1 z2 z3
                have d0 := (HT7.out.bel.cell (p := ⟨b, o + k * 2, none⟩) hb).trans E0.out
                have d1 := (HT7.out.bel.cell (p := ⟨b, o + k * 2 + 1, none⟩) hb).trans E1.out
                have d2 := (HT7.out.bel.cell (p := ⟨b', o' + k, none⟩) hb').trans E2.out
                obtain ⟨z0, z1, z2, z3⟩ := row2 HM7.out.blk
                go_wp2
                have HT8 := Lib.hid (HT7.out.below (show Below w7.heap.size w7 w7.drew from below_drewN (Below.refl _ _) 1))
                have HM8 := Lib.hid (HM7.out.kept (HT7.out.keptS (show Below w7.heap.size w7 w7.drew from below_drewN (Below.refl _ _) 1)))
                refine wp_region_noPanic ?_
                refine wp_region_held_drew (S := (fun w' => w'.cell? ⟨b, o + k * 2, none⟩ = some (.int .u32 p) ∧ w'.cell? ⟨b, o + k * 2 + 1, none⟩ = some (.int .i64 q) ∧ w'.cell? ⟨b', o' + k, none⟩ = some (.int .i64 u))) (by kernel_rfl) (by go_keep) (fun hHeld => ?_)
                refine' wpAnyH_take (i := 0) ?hix2x0 ?hsx2x0 ?hfx2x0 ?hrx2x0 ?hQx2x0 ?hyx2x0 ?hSx2x0 ?hx2x0
                case hix2x0 => (simp only [List.getElem?_toArray, List.getElem?_cons_succ, List.getElem?_cons_zero]; exact rfl)
                case hsx2x0 | hfx2x0 | hrx2x0 => kernel_rfl
                case hQx2x0 => exact fun _ _ _ h => h
                case hyx2x0 => (first | (refine Or.inr ⟨by rfl, ?_⟩; rfl) | (refine Or.inl ⟨by rfl, ?_⟩; (intro w hSw; (try dsimp only at hSw); go_simp); try with_reducible rfl))
                case hSx2x0 => assumption
                try simp only [Act.put, List.setIfInBounds_toArray, List.set_cons_zero, List.set_cons_succ]
                refine' wpAnyH_take (i := 1) ?hix2x1 ?hsx2x1 ?hfx2x1 ?hrx2x1 ?hQx2x1 ?hyx2x1 ?hSx2x1 ?hx2x1
                case hix2x1 => (simp only [List.getElem?_toArray, List.getElem?_cons_succ, List.getElem?_cons_zero]; exact rfl)
                case hsx2x1 | hfx2x1 | hrx2x1 => kernel_rfl
                case hQx2x1 => exact fun _ _ _ h => h
                case hyx2x1 => (first | (refine Or.inr ⟨by rfl, ?_⟩; rfl) | (refine Or.inl ⟨by rfl, ?_⟩; (intro w hSw; (try dsimp only at hSw); go_simp); try with_reducible rfl))
                case hSx2x1 => assumption
                try simp only [Act.put, List.setIfInBounds_toArray, List.set_cons_zero, List.set_cons_succ]
                refine' wpAnyH_take (i := 2) ?hix2x2 ?hsx2x2 ?hfx2x2 ?hrx2x2 ?hQx2x2 ?hyx2x2 ?hSx2x2 ?hx2x2
                case hix2x2 => (simp only [List.getElem?_toArray, List.getElem?_cons_succ, List.getElem?_cons_zero]; exact rfl)
                case hsx2x2 | hfx2x2 | hrx2x2 => kernel_rfl
                case hQx2x2 => exact fun _ _ _ h => h
                case hyx2x2 => (first | (refine Or.inr ⟨by rfl, ?_⟩; rfl) | (refine Or.inl ⟨by rfl, ?_⟩; (intro w hSw; (try dsimp only at hSw); go_simp); try with_reducible rfl))
                case hSx2x2 => assumption
                try simp only [Act.put, List.setIfInBounds_toArray, List.set_cons_zero, List.set_cons_succ]
                refine' wpAnyH_take (i := 3) ?hix2x3 ?hsx2x3 ?hfx2x3 ?hrx2x3 ?hQx2x3 ?hyx2x3 ?hSx2x3 ?hx2x3
                case hix2x3 => (simp only [List.getElem?_toArray, List.getElem?_cons_succ, List.getElem?_cons_zero]; exact rfl)
                case hsx2x3 | hfx2x3 | hrx2x3 => kernel_rfl
                case hQx2x3 => exact fun _ _ _ h => h
                case hyx2x3 => (first | (refine Or.inr ⟨by rfl, ?_⟩; rfl) | (refine Or.inl ⟨by rfl, ?_⟩; (intro w hSw; (try dsimp only at hSw); go_simp); try with_reducible rfl))
                case hSx2x3 => assumption
                try simp only [Act.put, List.setIfInBounds_toArray, List.set_cons_zero, List.set_cons_succ]
                refine' wpAnyH_take (i := 4) ?hix2x4 ?hsx2x4 ?hfx2x4 ?hrx2x4 ?hQx2x4 ?hyx2x4 ?hSx2x4 ?hx2x4
                case hix2x4 => (simp only [List.getElem?_toArray, List.getElem?_cons_succ, List.getElem?_cons_zero]; exact rfl)
                case hsx2x4 | hfx2x4 | hrx2x4 => kernel_rfl
                case hQx2x4 => exact fun _ _ _ h => h
                case hyx2x4 => (first | (refine Or.inr ⟨by rfl, ?_⟩; rfl) | (refine Or.inl ⟨by rfl, ?_⟩; (intro w hSw; (try dsimp only at hSw); go_simp); try with_reducible rfl))
                case hSx2x4 => assumption
                try simp only [Act.put, List.setIfInBounds_toArray, List.set_cons_zero, List.set_cons_succ]
                refine' wpAnyH_take (i := 5) ?hix2x5 ?hsx2x5 ?hfx2x5 ?hrx2x5 ?hQx2x5 ?hyx2x5 ?hSx2x5 ?hx2x5
                case hix2x5 => (simp only [List.getElem?_toArray, List.getElem?_cons_succ, List.getElem?_cons_zero]; exact rfl)
                case hsx2x5 | hfx2x5 | hrx2x5 => kernel_rfl
                case hQx2x5 => exact fun _ _ _ h => h
                case hyx2x5 => (first | (refine Or.inr ⟨by rfl, ?_⟩; rfl) | (refine Or.inl ⟨by rfl, ?_⟩; (intro w hSw; (try dsimp only at hSw); go_simp); try with_reducible rfl))
                case hSx2x5 => assumption
                try simp only [Act.put, List.setIfInBounds_toArray, List.set_cons_zero, List.set_cons_succ]
                refine' wpAnyH_take (i := 6) ?hix2x6 ?hsx2x6 ?hfx2x6 ?hrx2x6 ?hQx2x6 ?hyx2x6 ?hSx2x6 ?hx2x6
                case hix2x6 => (simp only [List.getElem?_toArray, List.getElem?_cons_succ, List.getElem?_cons_zero]; exact rfl)
                case hsx2x6 | hfx2x6 | hrx2x6 => kernel_rfl
                case hQx2x6 => exact fun _ _ _ h => h
                case hyx2x6 => (first | (refine Or.inr ⟨by rfl, ?_⟩; rfl) | (refine Or.inl ⟨by rfl, ?_⟩; (intro w hSw; (try dsimp only at hSw); go_simp); try with_reducible rfl))
                case hSx2x6 => assumption
                try simp only [Act.put, List.setIfInBounds_toArray, List.set_cons_zero, List.set_cons_succ]
                refine' wpAnyH_take (i := 7) ?hix2x7 ?hsx2x7 ?hfx2x7 ?hrx2x7 ?hQx2x7 ?hyx2x7 ?hSx2x7 ?hx2x7
                case hix2x7 => (simp only [List.getElem?_toArray, List.getElem?_cons_succ, List.getElem?_cons_zero]; exact rfl)
                case hsx2x7 | hfx2x7 | hrx2x7 => kernel_rfl
                case hQx2x7 => exact fun _ _ _ h => h
                case hyx2x7 => (first | (refine Or.inr ⟨by rfl, ?_⟩; rfl) | (refine Or.inl ⟨by rfl, ?_⟩; (intro w hSw; (try dsimp only at hSw); go_simp); try with_reducible rfl))
                case hSx2x7 => assumption
                try simp only [Act.put, List.setIfInBounds_toArray, List.set_cons_zero, List.set_cons_succ]
                refine' wpAnyH_take (i := 8) ?hix2x8 ?hsx2x8 ?hfx2x8 ?hrx2x8 ?hQx2x8 ?hyx2x8 ?hSx2x8 ?hx2x8
                case hix2x8 => (simp only [List.getElem?_toArray, List.getElem?_cons_succ, List.getElem?_cons_zero]; exact rfl)
                case hsx2x8 | hfx2x8 | hrx2x8 => kernel_rfl
                case hQx2x8 => exact fun _ _ _ h => h
                case hyx2x8 => (first | (refine Or.inr ⟨by rfl, ?_⟩; rfl) | (refine Or.inl ⟨by rfl, ?_⟩; (intro w hSw; (try dsimp only at hSw); go_simp); try with_reducible rfl))
                case hSx2x8 => assumption
                try simp only [Act.put, List.setIfInBounds_toArray, List.set_cons_zero, List.set_cons_succ]
                refine' wpAnyH_take (i := 10) ?hix2x10 ?hsx2x10 ?hfx2x10 ?hrx2x10 ?hQx2x10 ?hyx2x10 ?hSx2x10 ?hx2x10
                case hix2x10 => (simp only [List.getElem?_toArray, List.getElem?_cons_succ, List.getElem?_cons_zero]; exact rfl)
                case hsx2x10 | hfx2x10 | hrx2x10 => kernel_rfl
                case hQx2x10 => exact fun _ _ _ h => h
                case hyx2x10 => (first | (refine Or.inr ⟨by rfl, ?_⟩; rfl) | (refine Or.inl ⟨by rfl, ?_⟩; (intro w hSw; (try dsimp only at hSw); go_simp); try with_reducible rfl))
                case hSx2x10 => assumption
                try simp only [Act.put, List.setIfInBounds_toArray, List.set_cons_zero, List.set_cons_succ]
                refine wpAnyH_ready (rs := [9]) (by kernel_rfl) (by simp) ?_
                refine' AllReadyH.cons ?hix2x9 (fun K hK => ?hx2x9) AllReadyH.nil
                case hix2x9 => (simp only [List.getElem?_toArray, List.getElem?_cons_succ, List.getElem?_cons_zero]; exact rfl)
                go_simp
                go_at_call 10
                (with_reducible refine (Put_t HT8.out HIx.out HWU.out).mono ?_)
                rw [HPE.out.1, HPE.out.2, errV_ne (k := 4) (by decide)]
                rintro e w9 ⟨rfl, hT9, hk9, -⟩
                have HT9 := Lib.hid hT9
                have HM9 := Lib.hid (HM8.out.kept hk9)
                clear hT9 hk9 d0 d1 d2
                have d0 := (HT9.out.bel.cell (p := ⟨b, o + k * 2, none⟩) hb).trans E0.out
                have d1 := (HT9.out.bel.cell (p := ⟨b, o + k * 2 + 1, none⟩) hb).trans E1.out
                have d2 := (HT9.out.bel.cell (p := ⟨b', o' + k, none⟩) hb').trans E2.out
                have HGW := Lib.hid (HG.out.below HT9.out.bel)
                refine hK.out _ _ (by go_keep) (fun hHeld => ?_)
                clear hK K
                refine wpAnyH_ready (rs := [11]) (by kernel_rfl) (by simp) ?_
                refine' AllReadyH.cons ?hix2x11 (fun K hK => ?hx2x11) AllReadyH.nil
                case hix2x11 => (simp only [List.getElem?_toArray, List.getElem?_cons_succ, List.getElem?_cons_zero]; exact rfl)
                go_simp
                go_at_call 18
                (with_reducible refine (error_is (errV_ne (k := 4) (by decide)) (show ((4 : Int) == 4) = true from rfl) _ HGW.out).mono ?_)
                rintro e w10 ⟨rfl, hb10⟩
                clear HGW
                have HM10 := Lib.hid (HM9.out.kept (HT9.out.keptS hb10))
                have HT10 := Lib.hid (HT9.out.below hb10)
                clear hb10 d0 d1 d2
                have d0 := (HT10.out.bel.cell (p := ⟨b, o + k * 2, none⟩) hb).trans E0.out
                have d1 := (HT10.out.bel.cell (p := ⟨b, o + k * 2 + 1, none⟩) hb).trans E1.out
                have d2 := (HT10.out.bel.cell (p := ⟨b', o' + k, none⟩) hb').trans E2.out
                refine hK.out _ _ (by go_keep) (fun hHeld => ?_)
                clear hK K
                refine' wpAnyH_take (i := 12) ?hix2x12 ?hsx2x12 ?hfx2x12 ?hrx2x12 ?hQx2x12 ?hyx2x12 ?hSx2x12 ?hx2x12
                case hix2x12 => (simp only [List.getElem?_toArray, List.getElem?_cons_succ, List.getElem?_cons_zero]; exact rfl)
                case hsx2x12 | hfx2x12 | hrx2x12 => kernel_rfl
                case hQx2x12 => exact fun _ _ _ h => h
                case hyx2x12 => (first | (refine Or.inr ⟨by rfl, ?_⟩; rfl) | (refine Or.inl ⟨by rfl, ?_⟩; (intro w hSw; (try dsimp only at hSw); go_simp); try with_reducible rfl))
                case hSx2x12 => assumption
                try simp only [Act.put, List.setIfInBounds_toArray, List.set_cons_zero, List.set_cons_succ]
                refine wpAnyH_done (by kernel_rfl) ?_ _
                refine NoPanic.normal ?_
                clear hHeld
                clear d0 d1 d2
                have d0 := (HT10.out.bel.cell (p := ⟨b, o + k * 2, none⟩) hb).trans E0.out
                have d1 := (HT10.out.bel.cell (p := ⟨b, o + k * 2 + 1, none⟩) hb).trans E1.out
                have d2 := (HT10.out.bel.cell (p := ⟨b', o' + k, none⟩) hb').trans E2.out
                obtain ⟨z0, z1, z2, z3⟩ := row2 HM10.out.blk
                go_wp2
                clear d0 d1 d2 z0 z1 z2 z3
                go_roundw
                case rel => exact ⟨k + 1, m, _, _, _, _, _, _, _, by omega, by omega, by go_num, HT10.out, HM10.out⟩
                case measure => simp [intOf]; omega
              case hBx1x =>
                go_simp
                have p1 := Nat.lt_of_lt_of_le hb HT4.out.bel.size
                have p2 := Nat.lt_of_lt_of_le hb' HT4.out.bel.size
                have p3 : M < w4.heap.size := HT4.out.sLt M HM4.out.inS
                have p4 : ¬ b = w4.heap.size := by omega
                have p5 : ¬ b' = w4.heap.size := by omega
                have p6 : ¬ M = w4.heap.size := by omega
                have p7 : ¬ w4.heap.size = b := by omega
                have p8 : ¬ w4.heap.size = b' := by omega
                have p9 : ¬ w4.heap.size = M := by omega
                refine hK.out _ _ (by go_keep) (fun hHeld => ?_)
                clear hK K d0 d1 d2 z0 z1 z2 z3
                have hba : Below w4.heap.size w4 (w4.alloc (tabO none 0 0 none 0 0)).drew := below_drewN (below_1 w4 _) 1
                have hPa : (w4.alloc (tabO none 0 0 none 0 0)).drew.heap[w4.heap.size]? = some (tabO none 0 0 none 0 0) := heap_alloc_new w4 _
                have HT5 := Lib.hid (HT4.out.below hba)
                have HM5 := Lib.hid (HM4.out.kept (HT4.out.keptS hba))
                have HBA := Lib.hid hba
                have HPA := Lib.hid hPa
                clear hba hPa
                generalize (w4.alloc (tabO none 0 0 none 0 0)).drew = wa at *
                refine wpAnyH_ready (rs := [9]) (by kernel_rfl) (by simp) ?_
                refine' AllReadyH.cons ?hiCx1x (fun K hK => ?hCx1x) AllReadyH.nil
                case hiCx1x => (simp only [List.getElem?_toArray, List.getElem?_cons_succ, List.getElem?_cons_zero]; exact rfl)
                go_simp
                go_at_call 19
                (with_reducible refine (PutIn_none (HM5.out.row.r1 HT5.out.sLt) (HM5.out.row.v1 HT5.out.sLt) HLEN.out HLK.out h64).mono ?_)
                rintro e w6 ⟨⟨B, k1, f1, B', k2, f2, rfl⟩, hb6⟩
                have HB6 := Lib.hid hb6
                have HT6 := Lib.hid (HT5.out.below hb6)
                have HM6 := Lib.hid (HM5.out.kept (HT5.out.keptS hb6))
                obtain ⟨t0, t1, t2, t3⟩ := row2 (below_block hb6 (size_of_block HPA.out) HPA.out)
                have d0 := (HT6.out.bel.cell (p := ⟨b, o + k * 2, none⟩) hb).trans E0.out
                have d1 := (HT6.out.bel.cell (p := ⟨b, o + k * 2 + 1, none⟩) hb).trans E1.out
                have d2 := (HT6.out.bel.cell (p := ⟨b', o' + k, none⟩) hb').trans E2.out
                obtain ⟨z0, z1, z2, z3⟩ := row2 HM6.out.blk
                clear hb6
                refine hK.out _ _ (by go_keep) (fun hHeld => ?_)
                clear hK K
                refine' wpAnyH_take (i := 10) ?hix1xB10 ?hsx1xB10 ?hfx1xB10 ?hrx1xB10 ?hQx1xB10 ?hyx1xB10 ?hSx1xB10 ?hx1xB10
                case hix1xB10 => (simp only [List.getElem?_toArray, List.getElem?_cons_succ, List.getElem?_cons_zero]; exact rfl)
                case hsx1xB10 | hfx1xB10 | hrx1xB10 => kernel_rfl
                case hQx1xB10 => exact fun _ _ _ h => h
                case hyx1xB10 => (first | (refine Or.inr ⟨by rfl, ?_⟩; rfl) | (refine Or.inl ⟨by rfl, ?_⟩; (intro w hSw; (try dsimp only at hSw); go_simp); try with_reducible rfl))
                case hSx1xB10 => assumption
                try simp only [Act.put, List.setIfInBounds_toArray, List.set_cons_zero, List.set_cons_succ]
                refine' wpAnyH_take (i := 11) ?hix1xB11 ?hsx1xB11 ?hfx1xB11 ?hrx1xB11 ?hQx1xB11 ?hyx1xB11 ?hSx1xB11 ?hx1xB11
                case hix1xB11 => (simp only [List.getElem?_toArray, List.getElem?_cons_succ, List.getElem?_cons_zero]; exact rfl)
                case hsx1xB11 | hfx1xB11 | hrx1xB11 => kernel_rfl
                case hQx1xB11 => exact fun _ _ _ h => h
                case hyx1xB11 => (first | (refine Or.inr ⟨by rfl, ?_⟩; rfl) | (refine Or.inl ⟨by rfl, ?_⟩; (intro w hSw; (try dsimp only at hSw); go_simp); try with_reducible rfl))
                case hSx1xB11 => assumption
                try simp only [Act.put, List.setIfInBounds_toArray, List.set_cons_zero, List.set_cons_succ]
                refine' wpAnyH_take (i := 12) ?hix1xB12 ?hsx1xB12 ?hfx1xB12 ?hrx1xB12 ?hQx1xB12 ?hyx1xB12 ?hSx1xB12 ?hx1xB12
                case hix1xB12 => (simp only [List.getElem?_toArray, List.getElem?_cons_succ, List.getElem?_cons_zero]; exact rfl)
                case hsx1xB12 | hfx1xB12 | hrx1xB12 => kernel_rfl
                case hQx1xB12 => exact fun _ _ _ h => h
                case hyx1xB12 => (first | (refine Or.inr ⟨by rfl, ?_⟩; rfl) | (refine Or.inl ⟨by rfl, ?_⟩; (intro w hSw; (try dsimp only at hSw); go_simp); try with_reducible rfl))
                case hSx1xB12 => assumption
                try simp only [Act.put, List.setIfInBounds_toArray, List.set_cons_zero, List.set_cons_succ]
                refine wpAnyH_ready (rs := [14]) (by kernel_rfl) (by simp) ?_
                refine' AllReadyH.cons ?hix1xB14 (fun K hK => ?hx1xB14) AllReadyH.nil
                case hix1xB14 => (simp only [List.getElem?_toArray, List.getElem?_cons_succ, List.getElem?_cons_zero]; exact rfl)
                go_simp
                refine hK.out _ _ (by go_keep) (fun hHeld => ?_)
                clear hK K
                refine' wpAnyH_take (i := 15) ?hix1xB15 ?hsx1xB15 ?hfx1xB15 ?hrx1xB15 ?hQx1xB15 ?hyx1xB15 ?hSx1xB15 ?hx1xB15
                case hix1xB15 => (simp only [List.getElem?_toArray, List.getElem?_cons_succ, List.getElem?_cons_zero]; exact rfl)
                case hsx1xB15 | hfx1xB15 | hrx1xB15 => kernel_rfl
                case hQx1xB15 => exact fun _ _ _ h => h
                case hyx1xB15 => (first | (refine Or.inr ⟨by rfl, ?_⟩; rfl) | (refine Or.inl ⟨by rfl, ?_⟩; (intro w hSw; (try dsimp only at hSw); go_simp); try with_reducible rfl))
                case hSx1xB15 => assumption
                try simp only [Act.put, List.setIfInBounds_toArray, List.set_cons_zero, List.set_cons_succ]
                refine wpAnyH_done (by kernel_rfl) ?_ _
                refine NoPanic.normal ?_
                clear hHeld
                clear d0 d1 d2 z0 z1 z2 z3 t0 t1 t2 t3 p1 p2 p3 p4 p5 p6 p7 p8 p9
                have hb7 := laidB HBA.out HB6.out (.slice B k1 f1) (.slice B' k2 f2)
                have HT7 := Lib.hid (HT4.out.below hb7)
                have HM7 := Lib.hid (HM4.out.kept (HT4.out.keptS hb7))
                generalize hwn : (w6.setCell ⟨w4.heap.size, 0, none⟩ (.slice B k1 f1)).setCell ⟨w4.heap.size, 1, none⟩ (.slice B' k2 f2) = w7 at *
                clear hb7 hwn HT5 HM5 HT6 HM6 HB6 HBA HPA
                obtain ⟨P, hPP⟩ : ∃ P, w4.heap.size = P := ⟨_, rfl⟩
                rw [hPP]
                clear hPP
                have d0 := (HT7.out.bel.cell (p := ⟨b, o + k * 2, none⟩) hb).trans E0.out
                have d1 := (HT7.out.bel.cell (p := ⟨b, o + k * 2 + 1, none⟩) hb).trans E1.out
                have d2 := (HT7.out.bel.cell (p := ⟨b', o' + k, none⟩) hb').trans E2.out
                obtain ⟨z0, z1, z2, z3⟩ := row2 HM7.out.blk
                have HPE := Lib.hid (put_full4 (v := u) HF.out ⟨HLK.out, by have := HLEN.out; omega⟩)
                clear d0 d1 d2 z0 z1 z2 z3
                have d0 := (HT7.out.bel.cell (p := ⟨b, o + k * 2, none⟩) hb).trans E0.out
                have d1 := (HT7.out.bel.cell (p := ⟨b, o + k * 2 + 1, none⟩) hb).trans E1.out
                have d2 := (HT7.out.bel.cell (p := ⟨b', o' + k, none⟩) hb').trans E2.out
                obtain ⟨z0, z1, z2, z3⟩ := row2 HM7.out.blk
                go_wp2
                have HT8 := Lib.hid (HT7.out.below (show Below w7.heap.size w7 w7.drew from below_drewN (Below.refl _ _) 1))
                have HM8 := Lib.hid (HM7.out.kept (HT7.out.keptS (show Below w7.heap.size w7 w7.drew from below_drewN (Below.refl _ _) 1)))
                refine wp_region_noPanic ?_
                refine wp_region_held_drew (S := (fun w' => w'.cell? ⟨b, o + k * 2, none⟩ = some (.int .u32 p) ∧ w'.cell? ⟨b, o + k * 2 + 1, none⟩ = some (.int .i64 q) ∧ w'.cell? ⟨b', o' + k, none⟩ = some (.int .i64 u))) (by kernel_rfl) (by go_keep) (fun hHeld => ?_)
                refine' wpAnyH_take (i := 0) ?hix3x0 ?hsx3x0 ?hfx3x0 ?hrx3x0 ?hQx3x0 ?hyx3x0 ?hSx3x0 ?hx3x0
                case hix3x0 => (simp only [List.getElem?_toArray, List.getElem?_cons_succ, List.getElem?_cons_zero]; exact rfl)
                case hsx3x0 | hfx3x0 | hrx3x0 => kernel_rfl
                case hQx3x0 => exact fun _ _ _ h => h
                case hyx3x0 => (first | (refine Or.inr ⟨by rfl, ?_⟩; rfl) | (refine Or.inl ⟨by rfl, ?_⟩; (intro w hSw; (try dsimp only at hSw); go_simp); try with_reducible rfl))
                case hSx3x0 => assumption
                try simp only [Act.put, List.setIfInBounds_toArray, List.set_cons_zero, List.set_cons_succ]
                refine' wpAnyH_take (i := 1) ?hix3x1 ?hsx3x1 ?hfx3x1 ?hrx3x1 ?hQx3x1 ?hyx3x1 ?hSx3x1 ?hx3x1
                case hix3x1 => (simp only [List.getElem?_toArray, List.getElem?_cons_succ, List.getElem?_cons_zero]; exact rfl)
                case hsx3x1 | hfx3x1 | hrx3x1 => kernel_rfl
                case hQx3x1 => exact fun _ _ _ h => h
                case hyx3x1 => (first | (refine Or.inr ⟨by rfl, ?_⟩; rfl) | (refine Or.inl ⟨by rfl, ?_⟩; (intro w hSw; (try dsimp only at hSw); go_simp); try with_reducible rfl))
                case hSx3x1 => assumption
                try simp only [Act.put, List.setIfInBounds_toArray, List.set_cons_zero, List.set_cons_succ]
                refine' wpAnyH_take (i := 2) ?hix3x2 ?hsx3x2 ?hfx3x2 ?hrx3x2 ?hQx3x2 ?hyx3x2 ?hSx3x2 ?hx3x2
                case hix3x2 => (simp only [List.getElem?_toArray, List.getElem?_cons_succ, List.getElem?_cons_zero]; exact rfl)
                case hsx3x2 | hfx3x2 | hrx3x2 => kernel_rfl
                case hQx3x2 => exact fun _ _ _ h => h
                case hyx3x2 => (first | (refine Or.inr ⟨by rfl, ?_⟩; rfl) | (refine Or.inl ⟨by rfl, ?_⟩; (intro w hSw; (try dsimp only at hSw); go_simp); try with_reducible rfl))
                case hSx3x2 => assumption
                try simp only [Act.put, List.setIfInBounds_toArray, List.set_cons_zero, List.set_cons_succ]
                refine' wpAnyH_take (i := 3) ?hix3x3 ?hsx3x3 ?hfx3x3 ?hrx3x3 ?hQx3x3 ?hyx3x3 ?hSx3x3 ?hx3x3
                case hix3x3 => (simp only [List.getElem?_toArray, List.getElem?_cons_succ, List.getElem?_cons_zero]; exact rfl)
                case hsx3x3 | hfx3x3 | hrx3x3 => kernel_rfl
                case hQx3x3 => exact fun _ _ _ h => h
                case hyx3x3 => (first | (refine Or.inr ⟨by rfl, ?_⟩; rfl) | (refine Or.inl ⟨by rfl, ?_⟩; (intro w hSw; (try dsimp only at hSw); go_simp); try with_reducible rfl))
                case hSx3x3 => assumption
                try simp only [Act.put, List.setIfInBounds_toArray, List.set_cons_zero, List.set_cons_succ]
                refine' wpAnyH_take (i := 4) ?hix3x4 ?hsx3x4 ?hfx3x4 ?hrx3x4 ?hQx3x4 ?hyx3x4 ?hSx3x4 ?hx3x4
                case hix3x4 => (simp only [List.getElem?_toArray, List.getElem?_cons_succ, List.getElem?_cons_zero]; exact rfl)
                case hsx3x4 | hfx3x4 | hrx3x4 => kernel_rfl
                case hQx3x4 => exact fun _ _ _ h => h
                case hyx3x4 => (first | (refine Or.inr ⟨by rfl, ?_⟩; rfl) | (refine Or.inl ⟨by rfl, ?_⟩; (intro w hSw; (try dsimp only at hSw); go_simp); try with_reducible rfl))
                case hSx3x4 => assumption
                try simp only [Act.put, List.setIfInBounds_toArray, List.set_cons_zero, List.set_cons_succ]
                refine' wpAnyH_take (i := 5) ?hix3x5 ?hsx3x5 ?hfx3x5 ?hrx3x5 ?hQx3x5 ?hyx3x5 ?hSx3x5 ?hx3x5
                case hix3x5 => (simp only [List.getElem?_toArray, List.getElem?_cons_succ, List.getElem?_cons_zero]; exact rfl)
                case hsx3x5 | hfx3x5 | hrx3x5 => kernel_rfl
                case hQx3x5 => exact fun _ _ _ h => h
                case hyx3x5 => (first | (refine Or.inr ⟨by rfl, ?_⟩; rfl) | (refine Or.inl ⟨by rfl, ?_⟩; (intro w hSw; (try dsimp only at hSw); go_simp); try with_reducible rfl))
                case hSx3x5 => assumption
                try simp only [Act.put, List.setIfInBounds_toArray, List.set_cons_zero, List.set_cons_succ]
                refine' wpAnyH_take (i := 6) ?hix3x6 ?hsx3x6 ?hfx3x6 ?hrx3x6 ?hQx3x6 ?hyx3x6 ?hSx3x6 ?hx3x6
                case hix3x6 => (simp only [List.getElem?_toArray, List.getElem?_cons_succ, List.getElem?_cons_zero]; exact rfl)
                case hsx3x6 | hfx3x6 | hrx3x6 => kernel_rfl
                case hQx3x6 => exact fun _ _ _ h => h
                case hyx3x6 => (first | (refine Or.inr ⟨by rfl, ?_⟩; rfl) | (refine Or.inl ⟨by rfl, ?_⟩; (intro w hSw; (try dsimp only at hSw); go_simp); try with_reducible rfl))
                case hSx3x6 => assumption
                try simp only [Act.put, List.setIfInBounds_toArray, List.set_cons_zero, List.set_cons_succ]
                refine' wpAnyH_take (i := 7) ?hix3x7 ?hsx3x7 ?hfx3x7 ?hrx3x7 ?hQx3x7 ?hyx3x7 ?hSx3x7 ?hx3x7
                case hix3x7 => (simp only [List.getElem?_toArray, List.getElem?_cons_succ, List.getElem?_cons_zero]; exact rfl)
                case hsx3x7 | hfx3x7 | hrx3x7 => kernel_rfl
                case hQx3x7 => exact fun _ _ _ h => h
                case hyx3x7 => (first | (refine Or.inr ⟨by rfl, ?_⟩; rfl) | (refine Or.inl ⟨by rfl, ?_⟩; (intro w hSw; (try dsimp only at hSw); go_simp); try with_reducible rfl))
                case hSx3x7 => assumption
                try simp only [Act.put, List.setIfInBounds_toArray, List.set_cons_zero, List.set_cons_succ]
                refine' wpAnyH_take (i := 8) ?hix3x8 ?hsx3x8 ?hfx3x8 ?hrx3x8 ?hQx3x8 ?hyx3x8 ?hSx3x8 ?hx3x8
                case hix3x8 => (simp only [List.getElem?_toArray, List.getElem?_cons_succ, List.getElem?_cons_zero]; exact rfl)
                case hsx3x8 | hfx3x8 | hrx3x8 => kernel_rfl
                case hQx3x8 => exact fun _ _ _ h => h
                case hyx3x8 => (first | (refine Or.inr ⟨by rfl, ?_⟩; rfl) | (refine Or.inl ⟨by rfl, ?_⟩; (intro w hSw; (try dsimp only at hSw); go_simp); try with_reducible rfl))
                case hSx3x8 => assumption
                try simp only [Act.put, List.setIfInBounds_toArray, List.set_cons_zero, List.set_cons_succ]
                refine' wpAnyH_take (i := 10) ?hix3x10 ?hsx3x10 ?hfx3x10 ?hrx3x10 ?hQx3x10 ?hyx3x10 ?hSx3x10 ?hx3x10
                case hix3x10 => (simp only [List.getElem?_toArray, List.getElem?_cons_succ, List.getElem?_cons_zero]; exact rfl)
                case hsx3x10 | hfx3x10 | hrx3x10 => kernel_rfl
                case hQx3x10 => exact fun _ _ _ h => h
                case hyx3x10 => (first | (refine Or.inr ⟨by rfl, ?_⟩; rfl) | (refine Or.inl ⟨by rfl, ?_⟩; (intro w hSw; (try dsimp only at hSw); go_simp); try with_reducible rfl))
                case hSx3x10 => assumption
                try simp only [Act.put, List.setIfInBounds_toArray, List.set_cons_zero, List.set_cons_succ]
                refine wpAnyH_ready (rs := [9]) (by kernel_rfl) (by simp) ?_
                refine' AllReadyH.cons ?hix3x9 (fun K hK => ?hx3x9) AllReadyH.nil
                case hix3x9 => (simp only [List.getElem?_toArray, List.getElem?_cons_succ, List.getElem?_cons_zero]; exact rfl)
                go_simp
                go_at_call 10
                (with_reducible refine (Put_t HT8.out HIx.out HWU.out).mono ?_)
                rw [HPE.out.1, HPE.out.2, errV_ne (k := 4) (by decide)]
                rintro e w9 ⟨rfl, hT9, hk9, -⟩
                have HT9 := Lib.hid hT9
                have HM9 := Lib.hid (HM8.out.kept hk9)
                clear hT9 hk9 d0 d1 d2
                have d0 := (HT9.out.bel.cell (p := ⟨b, o + k * 2, none⟩) hb).trans E0.out
                have d1 := (HT9.out.bel.cell (p := ⟨b, o + k * 2 + 1, none⟩) hb).trans E1.out
                have d2 := (HT9.out.bel.cell (p := ⟨b', o' + k, none⟩) hb').trans E2.out
                have HGW := Lib.hid (HG.out.below HT9.out.bel)
                refine hK.out _ _ (by go_keep) (fun hHeld => ?_)
                clear hK K
                refine wpAnyH_ready (rs := [11]) (by kernel_rfl) (by simp) ?_
                refine' AllReadyH.cons ?hix3x11 (fun K hK => ?hx3x11) AllReadyH.nil
                case hix3x11 => (simp only [List.getElem?_toArray, List.getElem?_cons_succ, List.getElem?_cons_zero]; exact rfl)
                go_simp
                go_at_call 18
                (with_reducible refine (error_is (errV_ne (k := 4) (by decide)) (show ((4 : Int) == 4) = true from rfl) _ HGW.out).mono ?_)
                rintro e w10 ⟨rfl, hb10⟩
                clear HGW
                have HM10 := Lib.hid (HM9.out.kept (HT9.out.keptS hb10))
                have HT10 := Lib.hid (HT9.out.below hb10)
                clear hb10 d0 d1 d2
                have d0 := (HT10.out.bel.cell (p := ⟨b, o + k * 2, none⟩) hb).trans E0.out
                have d1 := (HT10.out.bel.cell (p := ⟨b, o + k * 2 + 1, none⟩) hb).trans E1.out
                have d2 := (HT10.out.bel.cell (p := ⟨b', o' + k, none⟩) hb').trans E2.out
                refine hK.out _ _ (by go_keep) (fun hHeld => ?_)
                clear hK K
                refine' wpAnyH_take (i := 12) ?hix3x12 ?hsx3x12 ?hfx3x12 ?hrx3x12 ?hQx3x12 ?hyx3x12 ?hSx3x12 ?hx3x12
                case hix3x12 => (simp only [List.getElem?_toArray, List.getElem?_cons_succ, List.getElem?_cons_zero]; exact rfl)
                case hsx3x12 | hfx3x12 | hrx3x12 => kernel_rfl
                case hQx3x12 => exact fun _ _ _ h => h
                case hyx3x12 => (first | (refine Or.inr ⟨by rfl, ?_⟩; rfl) | (refine Or.inl ⟨by rfl, ?_⟩; (intro w hSw; (try dsimp only at hSw); go_simp); try with_reducible rfl))
                case hSx3x12 => assumption
                try simp only [Act.put, List.setIfInBounds_toArray, List.set_cons_zero, List.set_cons_succ]
                refine wpAnyH_done (by kernel_rfl) ?_ _
                refine NoPanic.normal ?_
                clear hHeld
                clear d0 d1 d2
                have d0 := (HT10.out.bel.cell (p := ⟨b, o + k * 2, none⟩) hb).trans E0.out
                have d1 := (HT10.out.bel.cell (p := ⟨b, o + k * 2 + 1, none⟩) hb).trans E1.out
                have d2 := (HT10.out.bel.cell (p := ⟨b', o' + k, none⟩) hb').trans E2.out
                obtain ⟨z0, z1, z2, z3⟩ := row2 HM10.out.blk
                go_wp2
                clear d0 d1 d2 z0 z1 z2 z3
                go_roundw
                case rel => exact ⟨k + 1, m, _, _, _, _, _, _, _, by omega, by omega, by go_num, HT10.out, HM10.out⟩
                case measure => simp [intOf]; omega
            · skip
              go_wp2
              refine wp_region_noPanic ?_
              refine wp_region_held_drew (S := (fun w' => w'.cell? ⟨b, o + k * 2, none⟩ = some (.int .u32 p) ∧ w'.cell? ⟨b, o + k * 2 + 1, none⟩ = some (.int .i64 q) ∧ w'.cell? ⟨b', o' + k, none⟩ = some (.int .i64 u) ∧ w'.cell? ⟨M, 0, none⟩ = some (.slice A2 n2 c2) ∧ w'.cell? ⟨M, 1, none⟩ = some (.slice A3 n3 c3))) (by kernel_rfl) (by go_keep) (fun hHeld => ?_)
              refine' wpAnyH_take (i := 0) ?hix4x0 ?hsx4x0 ?hfx4x0 ?hrx4x0 ?hQx4x0 ?hyx4x0 ?hSx4x0 ?hx4x0
              case hix4x0 => (simp only [List.getElem?_toArray, List.getElem?_cons_succ, List.getElem?_cons_zero]; exact rfl)
              case hsx4x0 | hfx4x0 | hrx4x0 => kernel_rfl
              case hQx4x0 => exact fun _ _ _ h => h
              case hyx4x0 => (first | (refine Or.inr ⟨by rfl, ?_⟩; rfl) | (refine Or.inl ⟨by rfl, ?_⟩; (intro w hSw; (try dsimp only at hSw); go_simp); try with_reducible rfl))
              case hSx4x0 => assumption
              try simp only [Act.put, List.setIfInBounds_toArray, List.set_cons_zero, List.set_cons_succ]
              refine' wpAnyH_take (i := 1) ?hix4x1 ?hsx4x1 ?hfx4x1 ?hrx4x1 ?hQx4x1 ?hyx4x1 ?hSx4x1 ?hx4x1
              case hix4x1 => (simp only [List.getElem?_toArray, List.getElem?_cons_succ, List.getElem?_cons_zero]; exact rfl)
              case hsx4x1 | hfx4x1 | hrx4x1 => kernel_rfl
              case hQx4x1 => exact fun _ _ _ h => h
              case hyx4x1 => (first | (refine Or.inr ⟨by rfl, ?_⟩; rfl) | (refine Or.inl ⟨by rfl, ?_⟩; (intro w hSw; (try dsimp only at hSw); go_simp); try with_reducible rfl))
              case hSx4x1 => assumption
              try simp only [Act.put, List.setIfInBounds_toArray, List.set_cons_zero, List.set_cons_succ]
              refine' wpAnyH_take (i := 2) ?hix4x2 ?hsx4x2 ?hfx4x2 ?hrx4x2 ?hQx4x2 ?hyx4x2 ?hSx4x2 ?hx4x2
              case hix4x2 => (simp only [List.getElem?_toArray, List.getElem?_cons_succ, List.getElem?_cons_zero]; exact rfl)
              case hsx4x2 | hfx4x2 | hrx4x2 => kernel_rfl
              case hQx4x2 => exact fun _ _ _ h => h
              case hyx4x2 => (first | (refine Or.inr ⟨by rfl, ?_⟩; rfl) | (refine Or.inl ⟨by rfl, ?_⟩; (intro w hSw; (try dsimp only at hSw); go_simp); try with_reducible rfl))
              case hSx4x2 => assumption
              try simp only [Act.put, List.setIfInBounds_toArray, List.set_cons_zero, List.set_cons_succ]
              refine' wpAnyH_take (i := 3) ?hix4x3 ?hsx4x3 ?hfx4x3 ?hrx4x3 ?hQx4x3 ?hyx4x3 ?hSx4x3 ?hx4x3
              case hix4x3 => (simp only [List.getElem?_toArray, List.getElem?_cons_succ, List.getElem?_cons_zero]; exact rfl)
              case hsx4x3 | hfx4x3 | hrx4x3 => kernel_rfl
              case hQx4x3 => exact fun _ _ _ h => h
              case hyx4x3 => (first | (refine Or.inr ⟨by rfl, ?_⟩; rfl) | (refine Or.inl ⟨by rfl, ?_⟩; (intro w hSw; (try dsimp only at hSw); go_simp); try with_reducible rfl))
              case hSx4x3 => assumption
              try simp only [Act.put, List.setIfInBounds_toArray, List.set_cons_zero, List.set_cons_succ]
              refine' wpAnyH_take (i := 4) ?hix4x4 ?hsx4x4 ?hfx4x4 ?hrx4x4 ?hQx4x4 ?hyx4x4 ?hSx4x4 ?hx4x4
              case hix4x4 => (simp only [List.getElem?_toArray, List.getElem?_cons_succ, List.getElem?_cons_zero]; exact rfl)
              case hsx4x4 | hfx4x4 | hrx4x4 => kernel_rfl
              case hQx4x4 => exact fun _ _ _ h => h
              case hyx4x4 => (first | (refine Or.inr ⟨by rfl, ?_⟩; rfl) | (refine Or.inl ⟨by rfl, ?_⟩; (intro w hSw; (try dsimp only at hSw); go_simp); try with_reducible rfl))
              case hSx4x4 => assumption
              try simp only [Act.put, List.setIfInBounds_toArray, List.set_cons_zero, List.set_cons_succ]
              refine' wpAnyH_take (i := 5) ?hix4x5 ?hsx4x5 ?hfx4x5 ?hrx4x5 ?hQx4x5 ?hyx4x5 ?hSx4x5 ?hx4x5
              case hix4x5 => (simp only [List.getElem?_toArray, List.getElem?_cons_succ, List.getElem?_cons_zero]; exact rfl)
              case hsx4x5 | hfx4x5 | hrx4x5 => kernel_rfl
              case hQx4x5 => exact fun _ _ _ h => h
              case hyx4x5 => (first | (refine Or.inr ⟨by rfl, ?_⟩; rfl) | (refine Or.inl ⟨by rfl, ?_⟩; (intro w hSw; (try dsimp only at hSw); go_simp); try with_reducible rfl))
              case hSx4x5 => assumption
              try simp only [Act.put, List.setIfInBounds_toArray, List.set_cons_zero, List.set_cons_succ]
              refine' wpAnyH_take (i := 6) ?hix4x6 ?hsx4x6 ?hfx4x6 ?hrx4x6 ?hQx4x6 ?hyx4x6 ?hSx4x6 ?hx4x6
              case hix4x6 => (simp only [List.getElem?_toArray, List.getElem?_cons_succ, List.getElem?_cons_zero]; exact rfl)
              case hsx4x6 | hfx4x6 | hrx4x6 => kernel_rfl
              case hQx4x6 => exact fun _ _ _ h => h
              case hyx4x6 => (first | (refine Or.inr ⟨by rfl, ?_⟩; rfl) | (refine Or.inl ⟨by rfl, ?_⟩; (intro w hSw; (try dsimp only at hSw); go_simp); try with_reducible rfl))
              case hSx4x6 => assumption
              try simp only [Act.put, List.setIfInBounds_toArray, List.set_cons_zero, List.set_cons_succ]
              refine' wpAnyH_take (i := 7) ?hix4x7 ?hsx4x7 ?hfx4x7 ?hrx4x7 ?hQx4x7 ?hyx4x7 ?hSx4x7 ?hx4x7
              case hix4x7 => (simp only [List.getElem?_toArray, List.getElem?_cons_succ, List.getElem?_cons_zero]; exact rfl)
              case hsx4x7 | hfx4x7 | hrx4x7 => kernel_rfl
              case hQx4x7 => exact fun _ _ _ h => h
              case hyx4x7 => (first | (refine Or.inr ⟨by rfl, ?_⟩; rfl) | (refine Or.inl ⟨by rfl, ?_⟩; (intro w hSw; (try dsimp only at hSw); go_simp); try with_reducible rfl))
              case hSx4x7 => assumption
              try simp only [Act.put, List.setIfInBounds_toArray, List.set_cons_zero, List.set_cons_succ]
              refine' wpAnyH_take (i := 8) ?hix4x8 ?hsx4x8 ?hfx4x8 ?hrx4x8 ?hQx4x8 ?hyx4x8 ?hSx4x8 ?hx4x8
              case hix4x8 => (simp only [List.getElem?_toArray, List.getElem?_cons_succ, List.getElem?_cons_zero]; exact rfl)
              case hsx4x8 | hfx4x8 | hrx4x8 => kernel_rfl
              case hQx4x8 => exact fun _ _ _ h => h
              case hyx4x8 => (first | (refine Or.inr ⟨by rfl, ?_⟩; rfl) | (refine Or.inl ⟨by rfl, ?_⟩; (intro w hSw; (try dsimp only at hSw); go_simp); try with_reducible rfl))
              case hSx4x8 => assumption
              try simp only [Act.put, List.setIfInBounds_toArray, List.set_cons_zero, List.set_cons_succ]
              refine wpAnyH_ready (rs := [9, 13]) (by kernel_rfl) (by simp) ?_
              refine' AllReadyH.cons ?hiAx4x (fun K hK => ?hAx4x) (AllReadyH.cons ?hiBx4x (fun K hK => ?hBx4x) AllReadyH.nil)
              case hiAx4x => (simp only [List.getElem?_toArray, List.getElem?_cons_succ, List.getElem?_cons_zero]; exact rfl)
              case hiBx4x => (simp only [List.getElem?_toArray, List.getElem?_cons_succ, List.getElem?_cons_zero]; exact rfl)
              case hAx4x =>
                go_simp
                have hbd : Below w4.heap.size w4 w4.drew := below_drewN (Below.refl _ _) 1
                have HT5 := Lib.hid (HT4.out.below hbd)
                have HM5 := Lib.hid (HM4.out.kept (HT4.out.keptS hbd))
                clear hbd
                go_at_call 19
                (with_reducible refine (PutIn_room (HM5.out.row.r1 HT5.out.sLt) (HM5.out.row.v1 HT5.out.sLt) HLEN.out (fun h => absurd h.2 h64) HWX.out HWU.out).mono ?_)
                intro e w6 hp
                obtain ⟨B, k1, f1, B', k2, f2, rfl, hb6, hnx⟩ := next_of HT5.out HM5.out hp
                have HNX := Lib.hid hnx
                clear hp hnx
                have HB6 := Lib.hid hb6
                have HT6 := Lib.hid (HT5.out.below hb6)
                have HM6 := Lib.hid (HM5.out.kept (HT5.out.keptS hb6))
                clear d0 d1 d2 z0 z1 z2 z3
                have d0 := (HT6.out.bel.cell (p := ⟨b, o + k * 2, none⟩) hb).trans E0.out
                have d1 := (HT6.out.bel.cell (p := ⟨b, o + k * 2 + 1, none⟩) hb).trans E1.out
                have d2 := (HT6.out.bel.cell (p := ⟨b', o' + k, none⟩) hb').trans E2.out
                obtain ⟨z0, z1, z2, z3⟩ := row2 HM6.out.blk
                have p1 := Nat.lt_of_lt_of_le hb HT6.out.bel.size
                have p2 := Nat.lt_of_lt_of_le hb' HT6.out.bel.size
                have p3 : M < w6.heap.size := HT6.out.sLt M HM6.out.inS
                have p4 : ¬ b = w6.heap.size := by omega
                have p5 : ¬ b' = w6.heap.size := by omega
                have p6 : ¬ M = w6.heap.size := by omega
                have p7 : ¬ w6.heap.size = b := by omega
                have p8 : ¬ w6.heap.size = b' := by omega
                have p9 : ¬ w6.heap.size = M := by omega
                clear hb6
                refine hK.out _ _ (by go_keep) (fun hHeld => ?_)
                clear hK K
                refine' wpAnyH_take (i := 10) ?hix4xA10 ?hsx4xA10 ?hfx4xA10 ?hrx4xA10 ?hQx4xA10 ?hyx4xA10 ?hSx4xA10 ?hx4xA10
                case hix4xA10 => (simp only [List.getElem?_toArray, List.getElem?_cons_succ, List.getElem?_cons_zero]; exact rfl)
                case hsx4xA10 | hfx4xA10 | hrx4xA10 => kernel_rfl
                case hQx4xA10 => exact fun _ _ _ h => h
                case hyx4xA10 => (first | (refine Or.inr ⟨by rfl, ?_⟩; rfl) | (refine Or.inl ⟨by rfl, ?_⟩; (intro w hSw; (try dsimp only at hSw); go_simp); try with_reducible rfl))
                case hSx4xA10 => assumption
                try simp only [Act.put, List.setIfInBounds_toArray, List.set_cons_zero, List.set_cons_succ]
                refine' wpAnyH_take (i := 11) ?hix4xA11 ?hsx4xA11 ?hfx4xA11 ?hrx4xA11 ?hQx4xA11 ?hyx4xA11 ?hSx4xA11 ?hx4xA11
                case hix4xA11 => (simp only [List.getElem?_toArray, List.getElem?_cons_succ, List.getElem?_cons_zero]; exact rfl)
                case hsx4xA11 | hfx4xA11 | hrx4xA11 => kernel_rfl
                case hQx4xA11 => exact fun _ _ _ h => h
                case hyx4xA11 => (first | (refine Or.inr ⟨by rfl, ?_⟩; rfl) | (refine Or.inl ⟨by rfl, ?_⟩; (intro w hSw; (try dsimp only at hSw); go_simp); try with_reducible rfl))
                case hSx4xA11 => assumption
                try simp only [Act.put, List.setIfInBounds_toArray, List.set_cons_zero, List.set_cons_succ]
                refine' wpAnyH_take (i := 12) ?hix4xA12 ?hsx4xA12 ?hfx4xA12 ?hrx4xA12 ?hQx4xA12 ?hyx4xA12 ?hSx4xA12 ?hx4xA12
                case hix4xA12 => (simp only [List.getElem?_toArray, List.getElem?_cons_succ, List.getElem?_cons_zero]; exact rfl)
                case hsx4xA12 | hfx4xA12 | hrx4xA12 => kernel_rfl
                case hQx4xA12 => exact fun _ _ _ h => h
                case hyx4xA12 => (first | (refine Or.inr ⟨by rfl, ?_⟩; rfl) | (refine Or.inl ⟨by rfl, ?_⟩; (intro w hSw; (try dsimp only at hSw); go_simp); try with_reducible rfl))
                case hSx4xA12 => assumption
                try simp only [Act.put, List.setIfInBounds_toArray, List.set_cons_zero, List.set_cons_succ]
                refine wpAnyH_ready (rs := [13]) (by kernel_rfl) (by simp) ?_
                refine' AllReadyH.cons ?hix4xA13 (fun K hK => ?hx4xA13) AllReadyH.nil
                case hix4xA13 => (simp only [List.getElem?_toArray, List.getElem?_cons_succ, List.getElem?_cons_zero]; exact rfl)
                go_simp
                refine hK.out _ _ (by go_keep) (fun hHeld => ?_)
                clear hK K
                refine wpAnyH_ready (rs := [14]) (by kernel_rfl) (by simp) ?_
                refine' AllReadyH.cons ?hix4xA14 (fun K hK => ?hx4xA14) AllReadyH.nil
                case hix4xA14 => (simp only [List.getElem?_toArray, List.getElem?_cons_succ, List.getElem?_cons_zero]; exact rfl)
                go_simp
                refine hK.out _ _ (by go_keep) (fun hHeld => ?_)
                clear hK K
                refine' wpAnyH_take (i := 15) ?hix4xA15 ?hsx4xA15 ?hfx4xA15 ?hrx4xA15 ?hQx4xA15 ?hyx4xA15 ?hSx4xA15 ?hx4xA15
                case hix4xA15 => (simp only [List.getElem?_toArray, List.getElem?_cons_succ, List.getElem?_cons_zero]; exact rfl)
                case hsx4xA15 | hfx4xA15 | hrx4xA15 => kernel_rfl
                case hQx4xA15 => exact fun _ _ _ h => h
                case hyx4xA15 => (first | (refine Or.inr ⟨by rfl, ?_⟩; rfl) | (refine Or.inl ⟨by rfl, ?_⟩; (intro w hSw; (try dsimp only at hSw); go_simp); try with_reducible rfl))
                case hSx4xA15 => assumption
                try simp only [Act.put, List.setIfInBounds_toArray, List.set_cons_zero, List.set_cons_succ]
                refine wpAnyH_done (by kernel_rfl) ?_ _
                refine NoPanic.normal ?_
                clear hHeld
                clear d0 d1 d2 z0 z1 z2 z3 p1 p2 p3 p4 p5 p6 p7 p8 p9
                obtain ⟨S7, hT7, hM7, hP7⟩ := HNX.out _ (below_1 w6 (tabO B k1 f1 B' k2 f2)) (heap_alloc_new w6 (tabO B k1 f1 B' k2 f2))
                have HT7 := Lib.hid hT7
                have HM7 := Lib.hid hM7
                have HP7 := Lib.hid hP7
                clear HT5 HM5 HT6 HM6 HB6 hT7 hM7 hP7 HNX
                generalize hwn : w6.alloc (tabO B k1 f1 B' k2 f2) = w7 at *
                obtain ⟨P, hPP⟩ : ∃ P, w6.heap.size = P := ⟨_, rfl⟩
                rw [hPP] at HP7
                rw [hPP]
                clear hPP hwn
                have d0 := (HT7.out.bel.cell (p := ⟨b, o + k * 2, none⟩) hb).trans E0.out
                have d1 := (HT7.out.bel.cell (p := ⟨b, o + k * 2 + 1, none⟩) hb).trans E1.out
                have d2 := (HT7.out.bel.cell (p := ⟨b', o' + k, none⟩) hb').trans E2.out
                obtain ⟨z0, z1, z2, z3⟩ := row2 HM7.out.blk
                have HPE := Lib.hid (put_eq (m := m) (v := u) HF.out (fun h => absurd h.2 (by omega)))
                go_wp2
                have HT8 := Lib.hid (HT7.out.below (show Below w7.heap.size w7 w7.drew from below_drewN (Below.refl _ _) 1))
                have HM8 := Lib.hid (HM7.out.kept (HT7.out.keptS (show Below w7.heap.size w7 w7.drew from below_drewN (Below.refl _ _) 1)))
                refine wp_region_noPanic ?_
                refine wp_region_held_drew (S := (fun w' => w'.cell? ⟨b, o + k * 2, none⟩ = some (.int .u32 p) ∧ w'.cell? ⟨b, o + k * 2 + 1, none⟩ = some (.int .i64 q) ∧ w'.cell? ⟨b', o' + k, none⟩ = some (.int .i64 u))) (by kernel_rfl) (by go_keep) (fun hHeld => ?_)
                have HP8 := Lib.hid (HP7.out.kept (HT7.out.keptS (show Below w7.heap.size w7 w7.drew from below_drewN (Below.refl _ _) 1)))
                refine' wpAnyH_take (i := 0) ?hix5x0 ?hsx5x0 ?hfx5x0 ?hrx5x0 ?hQx5x0 ?hyx5x0 ?hSx5x0 ?hx5x0
                case hix5x0 => (simp only [List.getElem?_toArray, List.getElem?_cons_succ, List.getElem?_cons_zero]; exact rfl)
                case hsx5x0 | hfx5x0 | hrx5x0 => kernel_rfl
                case hQx5x0 => exact fun _ _ _ h => h
                case hyx5x0 => (first | (refine Or.inr ⟨by rfl, ?_⟩; rfl) | (refine Or.inl ⟨by rfl, ?_⟩; (intro w hSw; (try dsimp only at hSw); go_simp); try with_reducible rfl))
                case hSx5x0 => assumption
                try simp only [Act.put, List.setIfInBounds_toArray, List.set_cons_zero, List.set_cons_succ]
                refine' wpAnyH_take (i := 1) ?hix5x1 ?hsx5x1 ?hfx5x1 ?hrx5x1 ?hQx5x1 ?hyx5x1 ?hSx5x1 ?hx5x1
                case hix5x1 => (simp only [List.getElem?_toArray, List.getElem?_cons_succ, List.getElem?_cons_zero]; exact rfl)
                case hsx5x1 | hfx5x1 | hrx5x1 => kernel_rfl
                case hQx5x1 => exact fun _ _ _ h => h
                case hyx5x1 => (first | (refine Or.inr ⟨by rfl, ?_⟩; rfl) | (refine Or.inl ⟨by rfl, ?_⟩; (intro w hSw; (try dsimp only at hSw); go_simp); try with_reducible rfl))
                case hSx5x1 => assumption
                try simp only [Act.put, List.setIfInBounds_toArray, List.set_cons_zero, List.set_cons_succ]
                refine' wpAnyH_take (i := 2) ?hix5x2 ?hsx5x2 ?hfx5x2 ?hrx5x2 ?hQx5x2 ?hyx5x2 ?hSx5x2 ?hx5x2
                case hix5x2 => (simp only [List.getElem?_toArray, List.getElem?_cons_succ, List.getElem?_cons_zero]; exact rfl)
                case hsx5x2 | hfx5x2 | hrx5x2 => kernel_rfl
                case hQx5x2 => exact fun _ _ _ h => h
                case hyx5x2 => (first | (refine Or.inr ⟨by rfl, ?_⟩; rfl) | (refine Or.inl ⟨by rfl, ?_⟩; (intro w hSw; (try dsimp only at hSw); go_simp); try with_reducible rfl))
                case hSx5x2 => assumption
                try simp only [Act.put, List.setIfInBounds_toArray, List.set_cons_zero, List.set_cons_succ]
                refine' wpAnyH_take (i := 3) ?hix5x3 ?hsx5x3 ?hfx5x3 ?hrx5x3 ?hQx5x3 ?hyx5x3 ?hSx5x3 ?hx5x3
                case hix5x3 => (simp only [List.getElem?_toArray, List.getElem?_cons_succ, List.getElem?_cons_zero]; exact rfl)
                case hsx5x3 | hfx5x3 | hrx5x3 => kernel_rfl
                case hQx5x3 => exact fun _ _ _ h => h
                case hyx5x3 => (first | (refine Or.inr ⟨by rfl, ?_⟩; rfl) | (refine Or.inl ⟨by rfl, ?_⟩; (intro w hSw; (try dsimp only at hSw); go_simp); try with_reducible rfl))
                case hSx5x3 => assumption
                try simp only [Act.put, List.setIfInBounds_toArray, List.set_cons_zero, List.set_cons_succ]
                refine' wpAnyH_take (i := 4) ?hix5x4 ?hsx5x4 ?hfx5x4 ?hrx5x4 ?hQx5x4 ?hyx5x4 ?hSx5x4 ?hx5x4
                case hix5x4 => (simp only [List.getElem?_toArray, List.getElem?_cons_succ, List.getElem?_cons_zero]; exact rfl)
                case hsx5x4 | hfx5x4 | hrx5x4 => kernel_rfl
                case hQx5x4 => exact fun _ _ _ h => h
                case hyx5x4 => (first | (refine Or.inr ⟨by rfl, ?_⟩; rfl) | (refine Or.inl ⟨by rfl, ?_⟩; (intro w hSw; (try dsimp only at hSw); go_simp); try with_reducible rfl))
                case hSx5x4 => assumption
                try simp only [Act.put, List.setIfInBounds_toArray, List.set_cons_zero, List.set_cons_succ]
                refine' wpAnyH_take (i := 5) ?hix5x5 ?hsx5x5 ?hfx5x5 ?hrx5x5 ?hQx5x5 ?hyx5x5 ?hSx5x5 ?hx5x5
                case hix5x5 => (simp only [List.getElem?_toArray, List.getElem?_cons_succ, List.getElem?_cons_zero]; exact rfl)
                case hsx5x5 | hfx5x5 | hrx5x5 => kernel_rfl
                case hQx5x5 => exact fun _ _ _ h => h
                case hyx5x5 => (first | (refine Or.inr ⟨by rfl, ?_⟩; rfl) | (refine Or.inl ⟨by rfl, ?_⟩; (intro w hSw; (try dsimp only at hSw); go_simp); try with_reducible rfl))
                case hSx5x5 => assumption
                try simp only [Act.put, List.setIfInBounds_toArray, List.set_cons_zero, List.set_cons_succ]
                refine' wpAnyH_take (i := 6) ?hix5x6 ?hsx5x6 ?hfx5x6 ?hrx5x6 ?hQx5x6 ?hyx5x6 ?hSx5x6 ?hx5x6
                case hix5x6 => (simp only [List.getElem?_toArray, List.getElem?_cons_succ, List.getElem?_cons_zero]; exact rfl)
                case hsx5x6 | hfx5x6 | hrx5x6 => kernel_rfl
                case hQx5x6 => exact fun _ _ _ h => h
                case hyx5x6 => (first | (refine Or.inr ⟨by rfl, ?_⟩; rfl) | (refine Or.inl ⟨by rfl, ?_⟩; (intro w hSw; (try dsimp only at hSw); go_simp); try with_reducible rfl))
                case hSx5x6 => assumption
                try simp only [Act.put, List.setIfInBounds_toArray, List.set_cons_zero, List.set_cons_succ]
                refine' wpAnyH_take (i := 7) ?hix5x7 ?hsx5x7 ?hfx5x7 ?hrx5x7 ?hQx5x7 ?hyx5x7 ?hSx5x7 ?hx5x7
                case hix5x7 => (simp only [List.getElem?_toArray, List.getElem?_cons_succ, List.getElem?_cons_zero]; exact rfl)
                case hsx5x7 | hfx5x7 | hrx5x7 => kernel_rfl
                case hQx5x7 => exact fun _ _ _ h => h
                case hyx5x7 => (first | (refine Or.inr ⟨by rfl, ?_⟩; rfl) | (refine Or.inl ⟨by rfl, ?_⟩; (intro w hSw; (try dsimp only at hSw); go_simp); try with_reducible rfl))
                case hSx5x7 => assumption
                try simp only [Act.put, List.setIfInBounds_toArray, List.set_cons_zero, List.set_cons_succ]
                refine' wpAnyH_take (i := 8) ?hix5x8 ?hsx5x8 ?hfx5x8 ?hrx5x8 ?hQx5x8 ?hyx5x8 ?hSx5x8 ?hx5x8
                case hix5x8 => (simp only [List.getElem?_toArray, List.getElem?_cons_succ, List.getElem?_cons_zero]; exact rfl)
                case hsx5x8 | hfx5x8 | hrx5x8 => kernel_rfl
                case hQx5x8 => exact fun _ _ _ h => h
                case hyx5x8 => (first | (refine Or.inr ⟨by rfl, ?_⟩; rfl) | (refine Or.inl ⟨by rfl, ?_⟩; (intro w hSw; (try dsimp only at hSw); go_simp); try with_reducible rfl))
                case hSx5x8 => assumption
                try simp only [Act.put, List.setIfInBounds_toArray, List.set_cons_zero, List.set_cons_succ]
                refine' wpAnyH_take (i := 10) ?hix5x10 ?hsx5x10 ?hfx5x10 ?hrx5x10 ?hQx5x10 ?hyx5x10 ?hSx5x10 ?hx5x10
                case hix5x10 => (simp only [List.getElem?_toArray, List.getElem?_cons_succ, List.getElem?_cons_zero]; exact rfl)
                case hsx5x10 | hfx5x10 | hrx5x10 => kernel_rfl
                case hQx5x10 => exact fun _ _ _ h => h
                case hyx5x10 => (first | (refine Or.inr ⟨by rfl, ?_⟩; rfl) | (refine Or.inl ⟨by rfl, ?_⟩; (intro w hSw; (try dsimp only at hSw); go_simp); try with_reducible rfl))
                case hSx5x10 => assumption
                try simp only [Act.put, List.setIfInBounds_toArray, List.set_cons_zero, List.set_cons_succ]
                refine wpAnyH_ready (rs := [9]) (by kernel_rfl) (by simp) ?_
                refine' AllReadyH.cons ?hix5x9 (fun K hK => ?hx5x9) AllReadyH.nil
                case hix5x9 => (simp only [List.getElem?_toArray, List.getElem?_cons_succ, List.getElem?_cons_zero]; exact rfl)
                go_simp
                go_at_call 10
                (with_reducible refine (Put_t HT8.out HIx.out HWU.out).mono ?_)
                rw [HPE.out.1, HPE.out.2, errV_zero]
                rintro e w9 ⟨rfl, hT9, hk9, -⟩
                have HT9 := Lib.hid hT9
                have HM9 := Lib.hid (HM8.out.kept hk9)
                have HP9 := Lib.hid (HP8.out.kept hk9)
                clear hT9 hk9 d0 d1 d2
                have d0 := (HT9.out.bel.cell (p := ⟨b, o + k * 2, none⟩) hb).trans E0.out
                have d1 := (HT9.out.bel.cell (p := ⟨b, o + k * 2 + 1, none⟩) hb).trans E1.out
                have d2 := (HT9.out.bel.cell (p := ⟨b', o' + k, none⟩) hb').trans E2.out
                have HGW := Lib.hid (HG.out.below HT9.out.bel)
                refine hK.out _ _ (by go_keep) (fun hHeld => ?_)
                clear hK K
                refine wpAnyH_ready (rs := [11]) (by kernel_rfl) (by simp) ?_
                refine' AllReadyH.cons ?hix5x11 (fun K hK => ?hx5x11) AllReadyH.nil
                case hix5x11 => (simp only [List.getElem?_toArray, List.getElem?_cons_succ, List.getElem?_cons_zero]; exact rfl)
                go_simp
                go_at_call 18
                (with_reducible refine (error_is (errV_zero) (show ((0 : Int) == 0) = true from rfl) _ HGW.out).mono ?_)
                rintro e w10 ⟨rfl, hb10⟩
                clear HGW
                have HM10 := Lib.hid (HM9.out.kept (HT9.out.keptS hb10))
                have HP10 := Lib.hid (HP9.out.kept (HT9.out.keptS hb10))
                have HT10 := Lib.hid (HT9.out.below hb10)
                clear hb10 d0 d1 d2
                have d0 := (HT10.out.bel.cell (p := ⟨b, o + k * 2, none⟩) hb).trans E0.out
                have d1 := (HT10.out.bel.cell (p := ⟨b, o + k * 2 + 1, none⟩) hb).trans E1.out
                have d2 := (HT10.out.bel.cell (p := ⟨b', o' + k, none⟩) hb').trans E2.out
                refine hK.out _ _ (by go_keep) (fun hHeld => ?_)
                clear hK K
                refine' wpAnyH_take (i := 12) ?hix5x12 ?hsx5x12 ?hfx5x12 ?hrx5x12 ?hQx5x12 ?hyx5x12 ?hSx5x12 ?hx5x12
                case hix5x12 => (simp only [List.getElem?_toArray, List.getElem?_cons_succ, List.getElem?_cons_zero]; exact rfl)
                case hsx5x12 | hfx5x12 | hrx5x12 => kernel_rfl
                case hQx5x12 => exact fun _ _ _ h => h
                case hyx5x12 => (first | (refine Or.inr ⟨by rfl, ?_⟩; rfl) | (refine Or.inl ⟨by rfl, ?_⟩; (intro w hSw; (try dsimp only at hSw); go_simp); try with_reducible rfl))
                case hSx5x12 => assumption
                try simp only [Act.put, List.setIfInBounds_toArray, List.set_cons_zero, List.set_cons_succ]
                refine wpAnyH_done (by kernel_rfl) ?_ _
                refine NoPanic.normal ?_
                clear hHeld
                clear d0 d1 d2
                have d0 := (HT10.out.bel.cell (p := ⟨b, o + k * 2, none⟩) hb).trans E0.out
                have d1 := (HT10.out.bel.cell (p := ⟨b, o + k * 2 + 1, none⟩) hb).trans E1.out
                have d2 := (HT10.out.bel.cell (p := ⟨b', o' + k, none⟩) hb').trans E2.out
                obtain ⟨z0, z1, z2, z3⟩ := row2 HM10.out.blk
                obtain ⟨y0, y1, y2, y3⟩ := row2 HP10.out.blk
                have HTE := Lib.hid (HT10.out.store (u := .slice B k1 f1) (v := .slice B' k2 f2) HM10.out.inS HWM.out)
                have HME := Lib.hid (RB.store HP10.out.row HM10.out)
                go_wp2
                clear d0 d1 d2 z0 z1 z2 z3 y0 y1 y2 y3
                go_roundw
                case rel => exact ⟨k + 1, _, _, _, _, _, _, _, _, by omega, by omega, by go_num, HTE.out, HME.out⟩ /- HP -/
                case measure => simp [intOf]; omega
              case hBx4x =>
                go_simp
                have p1 := Nat.lt_of_lt_of_le hb HT4.out.bel.size
                have p2 := Nat.lt_of_lt_of_le hb' HT4.out.bel.size
                have p3 : M < w4.heap.size := HT4.out.sLt M HM4.out.inS
                have p4 : ¬ b = w4.heap.size := by omega
                have p5 : ¬ b' = w4.heap.size := by omega
                have p6 : ¬ M = w4.heap.size := by omega
                have p7 : ¬ w4.heap.size = b := by omega
                have p8 : ¬ w4.heap.size = b' := by omega
                have p9 : ¬ w4.heap.size = M := by omega
                refine hK.out _ _ (by go_keep) (fun hHeld => ?_)
                clear hK K d0 d1 d2 z0 z1 z2 z3
                have hba : Below w4.heap.size w4 (w4.alloc (tabO none 0 0 none 0 0)).drew := below_drewN (below_1 w4 _) 1
                have hPa : (w4.alloc (tabO none 0 0 none 0 0)).drew.heap[w4.heap.size]? = some (tabO none 0 0 none 0 0) := heap_alloc_new w4 _
                have HT5 := Lib.hid (HT4.out.below hba)
                have HM5 := Lib.hid (HM4.out.kept (HT4.out.keptS hba))
                have HBA := Lib.hid hba
                have HPA := Lib.hid hPa
                clear hba hPa
                generalize (w4.alloc (tabO none 0 0 none 0 0)).drew = wa at *
                refine wpAnyH_ready (rs := [9]) (by kernel_rfl) (by simp) ?_
                refine' AllReadyH.cons ?hiCx4x (fun K hK => ?hCx4x) AllReadyH.nil
                case hiCx4x => (simp only [List.getElem?_toArray, List.getElem?_cons_succ, List.getElem?_cons_zero]; exact rfl)
                go_simp
                go_at_call 19
                (with_reducible refine (PutIn_room (HM5.out.row.r1 HT5.out.sLt) (HM5.out.row.v1 HT5.out.sLt) HLEN.out (fun h => absurd h.2 h64) HWX.out HWU.out).mono ?_)
                intro e w6 hp
                obtain ⟨B, k1, f1, B', k2, f2, rfl, hb6, hnx⟩ := next_ofB HT4.out HM4.out HBA.out HPA.out hp
                have HNX := Lib.hid hnx
                clear hp hnx
                have HB6 := Lib.hid hb6
                have HT6 := Lib.hid (HT5.out.below hb6)
                have HM6 := Lib.hid (HM5.out.kept (HT5.out.keptS hb6))
                obtain ⟨t0, t1, t2, t3⟩ := row2 (below_block hb6 (size_of_block HPA.out) HPA.out)
                have d0 := (HT6.out.bel.cell (p := ⟨b, o + k * 2, none⟩) hb).trans E0.out
                have d1 := (HT6.out.bel.cell (p := ⟨b, o + k * 2 + 1, none⟩) hb).trans E1.out
                have d2 := (HT6.out.bel.cell (p := ⟨b', o' + k, none⟩) hb').trans E2.out
                obtain ⟨z0, z1, z2, z3⟩ := row2 HM6.out.blk
                clear hb6
                refine hK.out _ _ (by go_keep) (fun hHeld => ?_)
                clear hK K
                refine' wpAnyH_take (i := 10) ?hix4xB10 ?hsx4xB10 ?hfx4xB10 ?hrx4xB10 ?hQx4xB10 ?hyx4xB10 ?hSx4xB10 ?hx4xB10
                case hix4xB10 => (simp only [List.getElem?_toArray, List.getElem?_cons_succ, List.getElem?_cons_zero]; exact rfl)
                case hsx4xB10 | hfx4xB10 | hrx4xB10 => kernel_rfl
                case hQx4xB10 => exact fun _ _ _ h => h
                case hyx4xB10 => (first | (refine Or.inr ⟨by rfl, ?_⟩; rfl) | (refine Or.inl ⟨by rfl, ?_⟩; (intro w hSw; (try dsimp only at hSw); go_simp); try with_reducible rfl))
                case hSx4xB10 => assumption
                try simp only [Act.put, List.setIfInBounds_toArray, List.set_cons_zero, List.set_cons_succ]
                refine' wpAnyH_take (i := 11) ?hix4xB11 ?hsx4xB11 ?hfx4xB11 ?hrx4xB11 ?hQx4xB11 ?hyx4xB11 ?hSx4xB11 ?hx4xB11
                case hix4xB11 => (simp only [List.getElem?_toArray, List.getElem?_cons_succ, List.getElem?_cons_zero]; exact rfl)
                case hsx4xB11 | hfx4xB11 | hrx4xB11 => kernel_rfl
                case hQx4xB11 => exact fun _ _ _ h => h
                case hyx4xB11 => (first | (refine Or.inr ⟨by rfl, ?_⟩; rfl) | (refine Or.inl ⟨by rfl, ?_⟩; (intro w hSw; (try dsimp only at hSw); go_simp); try with_reducible rfl))
                case hSx4xB11 => assumption
                try simp only [Act.put, List.setIfInBounds_toArray, List.set_cons_zero, List.set_cons_succ]
                refine' wpAnyH_take (i := 12) ?hix4xB12 ?hsx4xB12 ?hfx4xB12 ?hrx4xB12 ?hQx4xB12 ?hyx4xB12 ?hSx4xB12 ?hx4xB12
                case hix4xB12 => (simp only [List.getElem?_toArray, List.getElem?_cons_succ, List.getElem?_cons_zero]; exact rfl)
                case hsx4xB12 | hfx4xB12 | hrx4xB12 => kernel_rfl
                case hQx4xB12 => exact fun _ _ _ h => h
                case hyx4xB12 => (first | (refine Or.inr ⟨by rfl, ?_⟩; rfl) | (refine Or.inl ⟨by rfl, ?_⟩; (intro w hSw; (try dsimp only at hSw); go_simp); try with_reducible rfl))
                case hSx4xB12 => assumption
                try simp only [Act.put, List.setIfInBounds_toArray, List.set_cons_zero, List.set_cons_succ]
                refine wpAnyH_ready (rs := [14]) (by kernel_rfl) (by simp) ?_
                refine' AllReadyH.cons ?hix4xB14 (fun K hK => ?hx4xB14) AllReadyH.nil
                case hix4xB14 => (simp only [List.getElem?_toArray, List.getElem?_cons_succ, List.getElem?_cons_zero]; exact rfl)
                go_simp
                refine hK.out _ _ (by go_keep) (fun hHeld => ?_)
                clear hK K
                refine' wpAnyH_take (i := 15) ?hix4xB15 ?hsx4xB15 ?hfx4xB15 ?hrx4xB15 ?hQx4xB15 ?hyx4xB15 ?hSx4xB15 ?hx4xB15
                case hix4xB15 => (simp only [List.getElem?_toArray, List.getElem?_cons_succ, List.getElem?_cons_zero]; exact rfl)
                case hsx4xB15 | hfx4xB15 | hrx4xB15 => kernel_rfl
                case hQx4xB15 => exact fun _ _ _ h => h
                case hyx4xB15 => (first | (refine Or.inr ⟨by rfl, ?_⟩; rfl) | (refine Or.inl ⟨by rfl, ?_⟩; (intro w hSw; (try dsimp only at hSw); go_simp); try with_reducible rfl))
                case hSx4xB15 => assumption
                try simp only [Act.put, List.setIfInBounds_toArray, List.set_cons_zero, List.set_cons_succ]
                refine wpAnyH_done (by kernel_rfl) ?_ _
                refine NoPanic.normal ?_
                clear hHeld
                clear d0 d1 d2 z0 z1 z2 z3 t0 t1 t2 t3 p1 p2 p3 p4 p5 p6 p7 p8 p9
                obtain ⟨S7, hT7, hM7, hP7⟩ := HNX.out
                have HT7 := Lib.hid hT7
                have HM7 := Lib.hid hM7
                have HP7 := Lib.hid hP7
                clear HT5 HM5 HT6 HM6 HB6 HBA HPA hT7 hM7 hP7 HNX
                generalize hwn : (w6.setCell ⟨w4.heap.size, 0, none⟩ (.slice B k1 f1)).setCell ⟨w4.heap.size, 1, none⟩ (.slice B' k2 f2) = w7 at *
                obtain ⟨P, hPP⟩ : ∃ P, w4.heap.size = P := ⟨_, rfl⟩
                rw [hPP] at HP7
                rw [hPP]
                clear hPP hwn
                have d0 := (HT7.out.bel.cell (p := ⟨b, o + k * 2, none⟩) hb).trans E0.out
                have d1 := (HT7.out.bel.cell (p := ⟨b, o + k * 2 + 1, none⟩) hb).trans E1.out
                have d2 := (HT7.out.bel.cell (p := ⟨b', o' + k, none⟩) hb').trans E2.out
                obtain ⟨z0, z1, z2, z3⟩ := row2 HM7.out.blk
                have HPE := Lib.hid (put_eq (m := m) (v := u) HF.out (fun h => absurd h.2 (by omega)))
                go_wp2
                have HT8 := Lib.hid (HT7.out.below (show Below w7.heap.size w7 w7.drew from below_drewN (Below.refl _ _) 1))
                have HM8 := Lib.hid (HM7.out.kept (HT7.out.keptS (show Below w7.heap.size w7 w7.drew from below_drewN (Below.refl _ _) 1)))
                refine wp_region_noPanic ?_
                refine wp_region_held_drew (S := (fun w' => w'.cell? ⟨b, o + k * 2, none⟩ = some (.int .u32 p) ∧ w'.cell? ⟨b, o + k * 2 + 1, none⟩ = some (.int .i64 q) ∧ w'.cell? ⟨b', o' + k, none⟩ = some (.int .i64 u))) (by kernel_rfl) (by go_keep) (fun hHeld => ?_)
                have HP8 := Lib.hid (HP7.out.kept (HT7.out.keptS (show Below w7.heap.size w7 w7.drew from below_drewN (Below.refl _ _) 1)))
                refine' wpAnyH_take (i := 0) ?hix6x0 ?hsx6x0 ?hfx6x0 ?hrx6x0 ?hQx6x0 ?hyx6x0 ?hSx6x0 ?hx6x0
                case hix6x0 => (simp only [List.getElem?_toArray, List.getElem?_cons_succ, List.getElem?_cons_zero]; exact rfl)
                case hsx6x0 | hfx6x0 | hrx6x0 => kernel_rfl
                case hQx6x0 => exact fun _ _ _ h => h
                case hyx6x0 => (first | (refine Or.inr ⟨by rfl, ?_⟩; rfl) | (refine Or.inl ⟨by rfl, ?_⟩; (intro w hSw; (try dsimp only at hSw); go_simp); try with_reducible rfl))
                case hSx6x0 => assumption
                try simp only [Act.put, List.setIfInBounds_toArray, List.set_cons_zero, List.set_cons_succ]
                refine' wpAnyH_take (i := 1) ?hix6x1 ?hsx6x1 ?hfx6x1 ?hrx6x1 ?hQx6x1 ?hyx6x1 ?hSx6x1 ?hx6x1
                case hix6x1 => (simp only [List.getElem?_toArray, List.getElem?_cons_succ, List.getElem?_cons_zero]; exact rfl)
                case hsx6x1 | hfx6x1 | hrx6x1 => kernel_rfl
                case hQx6x1 => exact fun _ _ _ h => h
                case hyx6x1 => (first | (refine Or.inr ⟨by rfl, ?_⟩; rfl) | (refine Or.inl ⟨by rfl, ?_⟩; (intro w hSw; (try dsimp only at hSw); go_simp); try with_reducible rfl))
                case hSx6x1 => assumption
                try simp only [Act.put, List.setIfInBounds_toArray, List.set_cons_zero, List.set_cons_succ]
                refine' wpAnyH_take (i := 2) ?hix6x2 ?hsx6x2 ?hfx6x2 ?hrx6x2 ?hQx6x2 ?hyx6x2 ?hSx6x2 ?hx6x2
                case hix6x2 => (simp only [List.getElem?_toArray, List.getElem?_cons_succ, List.getElem?_cons_zero]; exact rfl)
                case hsx6x2 | hfx6x2 | hrx6x2 => kernel_rfl
                case hQx6x2 => exact fun _ _ _ h => h
                case hyx6x2 => (first | (refine Or.inr ⟨by rfl, ?_⟩; rfl) | (refine Or.inl ⟨by rfl, ?_⟩; (intro w hSw; (try dsimp only at hSw); go_simp); try with_reducible rfl))
                case hSx6x2 => assumption
                try simp only [Act.put, List.setIfInBounds_toArray, List.set_cons_zero, List.set_cons_succ]
                refine' wpAnyH_take (i := 3) ?hix6x3 ?hsx6x3 ?hfx6x3 ?hrx6x3 ?hQx6x3 ?hyx6x3 ?hSx6x3 ?hx6x3
                case hix6x3 => (simp only [List.getElem?_toArray, List.getElem?_cons_succ, List.getElem?_cons_zero]; exact rfl)
                case hsx6x3 | hfx6x3 | hrx6x3 => kernel_rfl
                case hQx6x3 => exact fun _ _ _ h => h
                case hyx6x3 => (first | (refine Or.inr ⟨by rfl, ?_⟩; rfl) | (refine Or.inl ⟨by rfl, ?_⟩; (intro w hSw; (try dsimp only at hSw); go_simp); try with_reducible rfl))
                case hSx6x3 => assumption
                try simp only [Act.put, List.setIfInBounds_toArray, List.set_cons_zero, List.set_cons_succ]
                refine' wpAnyH_take (i := 4) ?hix6x4 ?hsx6x4 ?hfx6x4 ?hrx6x4 ?hQx6x4 ?hyx6x4 ?hSx6x4 ?hx6x4
                case hix6x4 => (simp only [List.getElem?_toArray, List.getElem?_cons_succ, List.getElem?_cons_zero]; exact rfl)
                case hsx6x4 | hfx6x4 | hrx6x4 => kernel_rfl
                case hQx6x4 => exact fun _ _ _ h => h
                case hyx6x4 => (first | (refine Or.inr ⟨by rfl, ?_⟩; rfl) | (refine Or.inl ⟨by rfl, ?_⟩; (intro w hSw; (try dsimp only at hSw); go_simp); try with_reducible rfl))
                case hSx6x4 => assumption
                try simp only [Act.put, List.setIfInBounds_toArray, List.set_cons_zero, List.set_cons_succ]
                refine' wpAnyH_take (i := 5) ?hix6x5 ?hsx6x5 ?hfx6x5 ?hrx6x5 ?hQx6x5 ?hyx6x5 ?hSx6x5 ?hx6x5
                case hix6x5 => (simp only [List.getElem?_toArray, List.getElem?_cons_succ, List.getElem?_cons_zero]; exact rfl)
                case hsx6x5 | hfx6x5 | hrx6x5 => kernel_rfl
                case hQx6x5 => exact fun _ _ _ h => h
                case hyx6x5 => (first | (refine Or.inr ⟨by rfl, ?_⟩; rfl) | (refine Or.inl ⟨by rfl, ?_⟩; (intro w hSw; (try dsimp only at hSw); go_simp); try with_reducible rfl))
                case hSx6x5 => assumption
                try simp only [Act.put, List.setIfInBounds_toArray, List.set_cons_zero, List.set_cons_succ]
                refine' wpAnyH_take (i := 6) ?hix6x6 ?hsx6x6 ?hfx6x6 ?hrx6x6 ?hQx6x6 ?hyx6x6 ?hSx6x6 ?hx6x6
                case hix6x6 => (simp only [List.getElem?_toArray, List.getElem?_cons_succ, List.getElem?_cons_zero]; exact rfl)
                case hsx6x6 | hfx6x6 | hrx6x6 => kernel_rfl
                case hQx6x6 => exact fun _ _ _ h => h
                case hyx6x6 => (first | (refine Or.inr ⟨by rfl, ?_⟩; rfl) | (refine Or.inl ⟨by rfl, ?_⟩; (intro w hSw; (try dsimp only at hSw); go_simp); try with_reducible rfl))
                case hSx6x6 => assumption
                try simp only [Act.put, List.setIfInBounds_toArray, List.set_cons_zero, List.set_cons_succ]
                refine' wpAnyH_take (i := 7) ?hix6x7 ?hsx6x7 ?hfx6x7 ?hrx6x7 ?hQx6x7 ?hyx6x7 ?hSx6x7 ?hx6x7
                case hix6x7 => (simp only [List.getElem?_toArray, List.getElem?_cons_succ, List.getElem?_cons_zero]; exact rfl)
                case hsx6x7 | hfx6x7 | hrx6x7 => kernel_rfl
                case hQx6x7 => exact fun _ _ _ h => h
                case hyx6x7 => (first | (refine Or.inr ⟨by rfl, ?_⟩; rfl) | (refine Or.inl ⟨by rfl, ?_⟩; (intro w hSw; (try dsimp only at hSw); go_simp); try with_reducible rfl))
                case hSx6x7 => assumption
                try simp only [Act.put, List.setIfInBounds_toArray, List.set_cons_zero, List.set_cons_succ]
                refine' wpAnyH_take (i := 8) ?hix6x8 ?hsx6x8 ?hfx6x8 ?hrx6x8 ?hQx6x8 ?hyx6x8 ?hSx6x8 ?hx6x8
                case hix6x8 => (simp only [List.getElem?_toArray, List.getElem?_cons_succ, List.getElem?_cons_zero]; exact rfl)
                case hsx6x8 | hfx6x8 | hrx6x8 => kernel_rfl
                case hQx6x8 => exact fun _ _ _ h => h
                case hyx6x8 => (first | (refine Or.inr ⟨by rfl, ?_⟩; rfl) | (refine Or.inl ⟨by rfl, ?_⟩; (intro w hSw; (try dsimp only at hSw); go_simp); try with_reducible rfl))
                case hSx6x8 => assumption
                try simp only [Act.put, List.setIfInBounds_toArray, List.set_cons_zero, List.set_cons_succ]
                refine' wpAnyH_take (i := 10) ?hix6x10 ?hsx6x10 ?hfx6x10 ?hrx6x10 ?hQx6x10 ?hyx6x10 ?hSx6x10 ?hx6x10
                case hix6x10 => (simp only [List.getElem?_toArray, List.getElem?_cons_succ, List.getElem?_cons_zero]; exact rfl)
                case hsx6x10 | hfx6x10 | hrx6x10 => kernel_rfl
                case hQx6x10 => exact fun _ _ _ h => h
                case hyx6x10 => (first | (refine Or.inr ⟨by rfl, ?_⟩; rfl) | (refine Or.inl ⟨by rfl, ?_⟩; (intro w hSw; (try dsimp only at hSw); go_simp); try with_reducible rfl))
                case hSx6x10 => assumption
                try simp only [Act.put, List.setIfInBounds_toArray, List.set_cons_zero, List.set_cons_succ]
                refine wpAnyH_ready (rs := [9]) (by kernel_rfl) (by simp) ?_
                refine' AllReadyH.cons ?hix6x9 (fun K hK => ?hx6x9) AllReadyH.nil
                case hix6x9 => (simp only [List.getElem?_toArray, List.getElem?_cons_succ, List.getElem?_cons_zero]; exact rfl)
                go_simp
                go_at_call 10
                (with_reducible refine (Put_t HT8.out HIx.out HWU.out).mono ?_)
                rw [HPE.out.1, HPE.out.2, errV_zero]
                rintro e w9 ⟨rfl, hT9, hk9, -⟩
                have HT9 := Lib.hid hT9
                have HM9 := Lib.hid (HM8.out.kept hk9)
                have HP9 := Lib.hid (HP8.out.kept hk9)
                clear hT9 hk9 d0 d1 d2
                have d0 := (HT9.out.bel.cell (p := ⟨b, o + k * 2, none⟩) hb).trans E0.out
                have d1 := (HT9.out.bel.cell (p := ⟨b, o + k * 2 + 1, none⟩) hb).trans E1.out
                have d2 := (HT9.out.bel.cell (p := ⟨b', o' + k, none⟩) hb').trans E2.out
                have HGW := Lib.hid (HG.out.below HT9.out.bel)
                refine hK.out _ _ (by go_keep) (fun hHeld => ?_)
                clear hK K
                refine wpAnyH_ready (rs := [11]) (by kernel_rfl) (by simp) ?_
                refine' AllReadyH.cons ?hix6x11 (fun K hK => ?hx6x11) AllReadyH.nil
                case hix6x11 => (simp only [List.getElem?_toArray, List.getElem?_cons_succ, List.getElem?_cons_zero]; exact rfl)
                go_simp
                go_at_call 18
                (with_reducible refine (error_is (errV_zero) (show ((0 : Int) == 0) = true from rfl) _ HGW.out).mono ?_)
                rintro e w10 ⟨rfl, hb10⟩
                clear HGW
                have HM10 := Lib.hid (HM9.out.kept (HT9.out.keptS hb10))
                have HP10 := Lib.hid (HP9.out.kept (HT9.out.keptS hb10))
                have HT10 := Lib.hid (HT9.out.below hb10)
                clear hb10 d0 d1 d2
                have d0 := (HT10.out.bel.cell (p := ⟨b, o + k * 2, none⟩) hb).trans E0.out
                have d1 := (HT10.out.bel.cell (p := ⟨b, o + k * 2 + 1, none⟩) hb).trans E1.out
                have d2 := (HT10.out.bel.cell (p := ⟨b', o' + k, none⟩) hb').trans E2.out
                refine hK.out _ _ (by go_keep) (fun hHeld => ?_)
                clear hK K
                refine' wpAnyH_take (i := 12) ?hix6x12 ?hsx6x12 ?hfx6x12 ?hrx6x12 ?hQx6x12 ?hyx6x12 ?hSx6x12 ?hx6x12
                case hix6x12 => (simp only [List.getElem?_toArray, List.getElem?_cons_succ, List.getElem?_cons_zero]; exact rfl)
                case hsx6x12 | hfx6x12 | hrx6x12 => kernel_rfl
                case hQx6x12 => exact fun _ _ _ h => h
                case hyx6x12 => (first | (refine Or.inr ⟨by rfl, ?_⟩; rfl) | (refine Or.inl ⟨by rfl, ?_⟩; (intro w hSw; (try dsimp only at hSw); go_simp); try with_reducible rfl))
                case hSx6x12 => assumption
                try simp only [Act.put, List.setIfInBounds_toArray, List.set_cons_zero, List.set_cons_succ]
                refine wpAnyH_done (by kernel_rfl) ?_ _
                refine NoPanic.normal ?_
                clear hHeld
                clear d0 d1 d2
                have d0 := (HT10.out.bel.cell (p := ⟨b, o + k * 2, none⟩) hb).trans E0.out
                have d1 := (HT10.out.bel.cell (p := ⟨b, o + k * 2 + 1, none⟩) hb).trans E1.out
                have d2 := (HT10.out.bel.cell (p := ⟨b', o' + k, none⟩) hb').trans E2.out
                obtain ⟨z0, z1, z2, z3⟩ := row2 HM10.out.blk
                obtain ⟨y0, y1, y2, y3⟩ := row2 HP10.out.blk
                have HTE := Lib.hid (HT10.out.store (u := .slice B k1 f1) (v := .slice B' k2 f2) HM10.out.inS HWM.out)
                have HME := Lib.hid (RB.store HP10.out.row HM10.out)
                go_wp2
                clear d0 d1 d2 z0 z1 z2 z3 y0 y1 y2 y3
                go_roundw
                case rel => exact ⟨k + 1, _, _, _, _, _, _, _, _, by omega, by omega, by go_num, HTE.out, HME.out⟩ /- HP -/
                case measure => simp [intOf]; omega
          · skip
            go_wp2_with fail
            go_at_call 11
            (with_reducible refine (Drop_t HT4.out HIx.out).mono ?_)
            rw [HGE.out.1, HGE.out.2.2, errV_ne (k := 2) (by decide)]
            rintro e w5 ⟨rfl, hT5, hk5, -⟩
            have HT5 := Lib.hid hT5
            have HM5 := Lib.hid (HM4.out.kept hk5)
            clear hT5 hk5 d0 d1 d2 z0 z1 z2 z3
            have d0 := (HT5.out.bel.cell (p := ⟨b, o + k * 2, none⟩) hb).trans E0.out
            have d1 := (HT5.out.bel.cell (p := ⟨b, o + k * 2 + 1, none⟩) hb).trans E1.out
            have d2 := (HT5.out.bel.cell (p := ⟨b', o' + k, none⟩) hb').trans E2.out
            obtain ⟨z0, z1, z2, z3⟩ := row2 HM5.out.blk
            have HGW := Lib.hid (HG.out.below HT5.out.bel)
            go_wp2_with fail
            go_at_call 18
            (with_reducible refine (error_is (errV_ne (k := 2) (by decide)) (show ((2 : Int) == 2) = true from rfl) _ HGW.out).mono ?_)
            rintro e w6 ⟨rfl, hb6⟩
            clear HGW
            have HT6 := Lib.hid (HT5.out.below hb6)
            have HM6 := Lib.hid (HM5.out.kept (HT5.out.keptS hb6))
            clear hb6 d0 d1 d2 z0 z1 z2 z3
            have d0 := (HT6.out.bel.cell (p := ⟨b, o + k * 2, none⟩) hb).trans E0.out
            have d1 := (HT6.out.bel.cell (p := ⟨b, o + k * 2 + 1, none⟩) hb).trans E1.out
            have d2 := (HT6.out.bel.cell (p := ⟨b', o' + k, none⟩) hb').trans E2.out
            obtain ⟨z0, z1, z2, z3⟩ := row2 HM6.out.blk
            go_wp2
            clear d0 d1 d2 z0 z1 z2 z3
            go_roundw
            case rel => exact ⟨k + 1, m, _, _, _, _, _, _, _, by omega, by omega, by go_num, HT6.out, HM6.out⟩
            case measure => simp [intOf]; omega
        | some v =>
          have HLK := Lib.hid hlk
          obtain ⟨j, hpl, hmj⟩ := place_some hlk 0
          rw [Int.zero_add] at hpl
          have HPL := Lib.hid hpl
          have HMJ := Lib.hid hmj
          have HGE := Lib.hid (get_some HF.out hlk)
          have hj : j < n3 := by
            have h1 := (List.getElem?_eq_some_iff.1 hmj).1
            have h2 := HLN.out.2
            omega
          have j4 : ¬ ((j : Int) < 0) := by omega
          have j5 : (0 : Int) ≤ (j : Int) := by omega
          have j6 : (j : Int) < (n3 : Int) := by omega
          obtain ⟨b3, o3, v', rfl, hb3, HVJ, hwv, x0⟩ := RdSlice.atI HM1.out.row.vals hj
          obtain rfl : v' = v := by
            have h1 := HVJ.out
            rw [(keys_at hmj).2] at h1
            exact (Option.some.inj h1).symm
          clear hlk hpl hmj hwv
          go_wp2
          have j0 := fun dd os => cell_regrown d0 dd os
          have j1 := fun dd os => cell_regrown d1 dd os
          have j2 := fun dd os => cell_regrown z0 dd os
          have j3 := fun dd os => cell_regrown z1 dd os
          clear d0 d1 d2 z0 z1 z2 z3
          refine wp_region_quiet_below (by kernel_rfl) (by kernel_rfl) ?_
          repeat (go_big_quiet_step (first | (with_reducible exact places_c (HM1.out.row.r1 HT1.out.sLt) HPL.out _ _) | fail))
          refine wpQuiet_nil ?_
          intro w2 hw'
          obtain ⟨⟨dq, osq⟩, hw''⟩ := hw'
          have hb2 := (show Below w1.heap.size w1 w2 by rw [hw'']; exact below_regrown w1 dq osq)
          have HT2 := Lib.hid (HT1.out.below hb2)
          have HM2 := Lib.hid (HM1.out.kept (HT1.out.keptS hb2))
          clear hb2 hw'' j0 j1 j2 j3
          have d0 := (HT2.out.bel.cell (p := ⟨b, o + k * 2, none⟩) hb).trans E0.out
          have d1 := (HT2.out.bel.cell (p := ⟨b, o + k * 2 + 1, none⟩) hb).trans E1.out
          have d2 := (HT2.out.bel.cell (p := ⟨b', o' + k, none⟩) hb').trans E2.out
          obtain ⟨z0, z1, z2, z3⟩ := row2 HM2.out.blk
          obtain ⟨b4, o4, v4, e4, hb4, HVJ4, hwv4, x4⟩ := RdSlice.atI HM2.out.row.vals hj
          simp only [Option.some.injEq, Addr.mk.injEq, and_true] at e4
          obtain ⟨rfl, rfl⟩ := e4
          obtain rfl : v4 = v' := by
            have h1 := HVJ4.out
            rw [HVJ.out] at h1
            exact (Option.some.inj h1).symm
          clear x0 hwv4
          go_wp2
          have j7 := fun dd os => cell_regrown x4 dd os
          clear x4
          have j0 := fun dd os => cell_regrown d0 dd os
          have j1 := fun dd os => cell_regrown d1 dd os
          have j2 := fun dd os => cell_regrown z0 dd os
          have j3 := fun dd os => cell_regrown z1 dd os
          clear d0 d1 d2 z0 z1 z2 z3
          refine wp_region_quiet_below (by kernel_rfl) (by kernel_rfl) ?_
          repeat (go_big_quiet_step (first | (with_reducible exact places_c (HM2.out.row.r1 HT2.out.sLt) HPL.out _ _) | fail))
          refine wpQuiet_nil ?_
          intro w3 hw'
          obtain ⟨⟨dq, osq⟩, hw''⟩ := hw'
          have hb3 := (show Below w2.heap.size w2 w3 by rw [hw'']; exact below_regrown w2 dq osq)
          have HT3 := Lib.hid (HT2.out.below hb3)
          have HM3 := Lib.hid (HM2.out.kept (HT2.out.keptS hb3))
          clear hb3 hw'' j0 j1 j2 j3
          have d0 := (HT3.out.bel.cell (p := ⟨b, o + k * 2, none⟩) hb).trans E0.out
          have d1 := (HT3.out.bel.cell (p := ⟨b, o + k * 2 + 1, none⟩) hb).trans E1.out
          have d2 := (HT3.out.bel.cell (p := ⟨b', o' + k, none⟩) hb').trans E2.out
          obtain ⟨z0, z1, z2, z3⟩ := row2 HM3.out.blk
          clear j7
          clear hb3 hb4 HVJ HVJ4 HM0 HM1 HM2
          generalize hA3 : (some ⟨b3, o3, none⟩ : Option Addr) = A3 at *
          clear hA3
          go_wp2_with fail
          go_at_call 17
          (with_reducible refine (Get_t HT3.out HIx.out).mono ?_)
          rw [HGE.out.1, HGE.out.2.1, errV_zero]
          rintro e w4 ⟨rfl, hb4⟩
          have HT4 := Lib.hid (HT3.out.below hb4)
          have HM4 := Lib.hid (HM3.out.kept (HT3.out.keptS hb4))
          clear hb4 d0 d1 d2 z0 z1 z2 z3
          have d0 := (HT4.out.bel.cell (p := ⟨b, o + k * 2, none⟩) hb).trans E0.out
          have d1 := (HT4.out.bel.cell (p := ⟨b, o + k * 2 + 1, none⟩) hb).trans E1.out
          have d2 := (HT4.out.bel.cell (p := ⟨b', o' + k, none⟩) hb').trans E2.out
          obtain ⟨z0, z1, z2, z3⟩ := row2 HM4.out.blk
          have HGW := Lib.hid (HG.out.below HT4.out.bel)
          go_wp2_with fail
          go_at_call 18
          (with_reducible refine (error_is (errV_zero) (show ((0 : Int) == 0) = true from rfl) _ HGW.out).mono ?_)
          rintro e w5 ⟨rfl, hb5⟩
          clear HGW
          have HT5 := Lib.hid (HT4.out.below hb5)
          have HM5 := Lib.hid (HM4.out.kept (HT4.out.keptS hb5))
          clear hb5 d0 d1 d2 z0 z1 z2 z3
          have d0 := (HT5.out.bel.cell (p := ⟨b, o + k * 2, none⟩) hb).trans E0.out
          have d1 := (HT5.out.bel.cell (p := ⟨b, o + k * 2 + 1, none⟩) hb).trans E1.out
          have d2 := (HT5.out.bel.cell (p := ⟨b', o' + k, none⟩) hb').trans E2.out
          obtain ⟨z0, z1, z2, z3⟩ := row2 HM5.out.blk
          by_cases hu : 0 < u
          · skip
            go_wp2
            refine wp_region_noPanic ?_
            refine wp_region_held_drew (S := (fun w' => w'.cell? ⟨b, o + k * 2, none⟩ = some (.int .u32 p) ∧ w'.cell? ⟨b, o + k * 2 + 1, none⟩ = some (.int .i64 q) ∧ w'.cell? ⟨b', o' + k, none⟩ = some (.int .i64 u) ∧ w'.cell? ⟨M, 0, none⟩ = some (.slice A2 n2 c2) ∧ w'.cell? ⟨M, 1, none⟩ = some (.slice A3 n3 c3))) (by kernel_rfl) (by go_keep) (fun hHeld => ?_)
            refine' wpAnyH_take (i := 0) ?hix7x0 ?hsx7x0 ?hfx7x0 ?hrx7x0 ?hQx7x0 ?hyx7x0 ?hSx7x0 ?hx7x0
            case hix7x0 => (simp only [List.getElem?_toArray, List.getElem?_cons_succ, List.getElem?_cons_zero]; exact rfl)
            case hsx7x0 | hfx7x0 | hrx7x0 => kernel_rfl
            case hQx7x0 => exact fun _ _ _ h => h
            case hyx7x0 => (first | (refine Or.inr ⟨by rfl, ?_⟩; rfl) | (refine Or.inl ⟨by rfl, ?_⟩; (intro w hSw; (try dsimp only at hSw); go_simp); try with_reducible rfl))
            case hSx7x0 => assumption
            try simp only [Act.put, List.setIfInBounds_toArray, List.set_cons_zero, List.set_cons_succ]
            refine' wpAnyH_take (i := 1) ?hix7x1 ?hsx7x1 ?hfx7x1 ?hrx7x1 ?hQx7x1 ?hyx7x1 ?hSx7x1 ?hx7x1
            case hix7x1 => (simp only [List.getElem?_toArray, List.getElem?_cons_succ, List.getElem?_cons_zero]; exact rfl)
            case hsx7x1 | hfx7x1 | hrx7x1 => kernel_rfl
            case hQx7x1 => exact fun _ _ _ h => h
            case hyx7x1 => (first | (refine Or.inr ⟨by rfl, ?_⟩; rfl) | (refine Or.inl ⟨by rfl, ?_⟩; (intro w hSw; (try dsimp only at hSw); go_simp); try with_reducible rfl))
            case hSx7x1 => assumption
            try simp only [Act.put, List.setIfInBounds_toArray, List.set_cons_zero, List.set_cons_succ]
            refine' wpAnyH_take (i := 2) ?hix7x2 ?hsx7x2 ?hfx7x2 ?hrx7x2 ?hQx7x2 ?hyx7x2 ?hSx7x2 ?hx7x2
            case hix7x2 => (simp only [List.getElem?_toArray, List.getElem?_cons_succ, List.getElem?_cons_zero]; exact rfl)
            case hsx7x2 | hfx7x2 | hrx7x2 => kernel_rfl
            case hQx7x2 => exact fun _ _ _ h => h
            case hyx7x2 => (first | (refine Or.inr ⟨by rfl, ?_⟩; rfl) | (refine Or.inl ⟨by rfl, ?_⟩; (intro w hSw; (try dsimp only at hSw); go_simp); try with_reducible rfl))
            case hSx7x2 => assumption
            try simp only [Act.put, List.setIfInBounds_toArray, List.set_cons_zero, List.set_cons_succ]
            refine' wpAnyH_take (i := 3) ?hix7x3 ?hsx7x3 ?hfx7x3 ?hrx7x3 ?hQx7x3 ?hyx7x3 ?hSx7x3 ?hx7x3
            case hix7x3 => (simp only [List.getElem?_toArray, List.getElem?_cons_succ, List.getElem?_cons_zero]; exact rfl)
            case hsx7x3 | hfx7x3 | hrx7x3 => kernel_rfl
            case hQx7x3 => exact fun _ _ _ h => h
            case hyx7x3 => (first | (refine Or.inr ⟨by rfl, ?_⟩; rfl) | (refine Or.inl ⟨by rfl, ?_⟩; (intro w hSw; (try dsimp only at hSw); go_simp); try with_reducible rfl))
            case hSx7x3 => assumption
            try simp only [Act.put, List.setIfInBounds_toArray, List.set_cons_zero, List.set_cons_succ]
            refine' wpAnyH_take (i := 4) ?hix7x4 ?hsx7x4 ?hfx7x4 ?hrx7x4 ?hQx7x4 ?hyx7x4 ?hSx7x4 ?hx7x4
            case hix7x4 => (simp only [List.getElem?_toArray, List.getElem?_cons_succ, List.getElem?_cons_zero]; exact rfl)
            case hsx7x4 | hfx7x4 | hrx7x4 => kernel_rfl
            case hQx7x4 => exact fun _ _ _ h => h
            case hyx7x4 => (first | (refine Or.inr ⟨by rfl, ?_⟩; rfl) | (refine Or.inl ⟨by rfl, ?_⟩; (intro w hSw; (try dsimp only at hSw); go_simp); try with_reducible rfl))
            case hSx7x4 => assumption
            try simp only [Act.put, List.setIfInBounds_toArray, List.set_cons_zero, List.set_cons_succ]
            refine' wpAnyH_take (i := 5) ?hix7x5 ?hsx7x5 ?hfx7x5 ?hrx7x5 ?hQx7x5 ?hyx7x5 ?hSx7x5 ?hx7x5
            case hix7x5 => (simp only [List.getElem?_toArray, List.getElem?_cons_succ, List.getElem?_cons_zero]; exact rfl)
            case hsx7x5 | hfx7x5 | hrx7x5 => kernel_rfl
            case hQx7x5 => exact fun _ _ _ h => h
            case hyx7x5 => (first | (refine Or.inr ⟨by rfl, ?_⟩; rfl) | (refine Or.inl ⟨by rfl, ?_⟩; (intro w hSw; (try dsimp only at hSw); go_simp); try with_reducible rfl))
            case hSx7x5 => assumption
            try simp only [Act.put, List.setIfInBounds_toArray, List.set_cons_zero, List.set_cons_succ]
            refine' wpAnyH_take (i := 6) ?hix7x6 ?hsx7x6 ?hfx7x6 ?hrx7x6 ?hQx7x6 ?hyx7x6 ?hSx7x6 ?hx7x6
            case hix7x6 => (simp only [List.getElem?_toArray, List.getElem?_cons_succ, List.getElem?_cons_zero]; exact rfl)
            case hsx7x6 | hfx7x6 | hrx7x6 => kernel_rfl
            case hQx7x6 => exact fun _ _ _ h => h
            case hyx7x6 => (first | (refine Or.inr ⟨by rfl, ?_⟩; rfl) | (refine Or.inl ⟨by rfl, ?_⟩; (intro w hSw; (try dsimp only at hSw); go_simp); try with_reducible rfl))
            case hSx7x6 => assumption
            try simp only [Act.put, List.setIfInBounds_toArray, List.set_cons_zero, List.set_cons_succ]
            refine' wpAnyH_take (i := 7) ?hix7x7 ?hsx7x7 ?hfx7x7 ?hrx7x7 ?hQx7x7 ?hyx7x7 ?hSx7x7 ?hx7x7
            case hix7x7 => (simp only [List.getElem?_toArray, List.getElem?_cons_succ, List.getElem?_cons_zero]; exact rfl)
            case hsx7x7 | hfx7x7 | hrx7x7 => kernel_rfl
            case hQx7x7 => exact fun _ _ _ h => h
            case hyx7x7 => (first | (refine Or.inr ⟨by rfl, ?_⟩; rfl) | (refine Or.inl ⟨by rfl, ?_⟩; (intro w hSw; (try dsimp only at hSw); go_simp); try with_reducible rfl))
            case hSx7x7 => assumption
            try simp only [Act.put, List.setIfInBounds_toArray, List.set_cons_zero, List.set_cons_succ]
            refine' wpAnyH_take (i := 8) ?hix7x8 ?hsx7x8 ?hfx7x8 ?hrx7x8 ?hQx7x8 ?hyx7x8 ?hSx7x8 ?hx7x8
            case hix7x8 => (simp only [List.getElem?_toArray, List.getElem?_cons_succ, List.getElem?_cons_zero]; exact rfl)
            case hsx7x8 | hfx7x8 | hrx7x8 => kernel_rfl
            case hQx7x8 => exact fun _ _ _ h => h
            case hyx7x8 => (first | (refine Or.inr ⟨by rfl, ?_⟩; rfl) | (refine Or.inl ⟨by rfl, ?_⟩; (intro w hSw; (try dsimp only at hSw); go_simp); try with_reducible rfl))
            case hSx7x8 => assumption
            try simp only [Act.put, List.setIfInBounds_toArray, List.set_cons_zero, List.set_cons_succ]
            refine wpAnyH_ready (rs := [9, 13]) (by kernel_rfl) (by simp) ?_
            refine' AllReadyH.cons ?hiAx7x (fun K hK => ?hAx7x) (AllReadyH.cons ?hiBx7x (fun K hK => ?hBx7x) AllReadyH.nil)
            case hiAx7x => (simp only [List.getElem?_toArray, List.getElem?_cons_succ, List.getElem?_cons_zero]; exact rfl)
            case hiBx7x => (simp only [List.getElem?_toArray, List.getElem?_cons_succ, List.getElem?_cons_zero]; exact rfl)
            case hAx7x =>
              go_simp
              have hbd : Below w5.heap.size w5 w5.drew := below_drewN (Below.refl _ _) 1
              have HT6 := Lib.hid (HT5.out.below hbd)
              have HM6 := Lib.hid (HM5.out.kept (HT5.out.keptS hbd))
              clear hbd
              go_at_call 19
              (with_reducible refine (PutIn_room (HM6.out.row.r1 HT6.out.sLt) (HM6.out.row.v1 HT6.out.sLt) HLEN.out (fun h => by rw [HLK.out] at h; exact absurd h.1 (by simp)) HWX.out HWU.out).mono ?_)
              intro e w7 hp
              obtain ⟨B, k1, f1, B', k2, f2, rfl, hb7, hnx⟩ := next_of HT6.out HM6.out hp
              have HNX := Lib.hid hnx
              clear hp hnx
              have HB7 := Lib.hid hb7
              have HT7 := Lib.hid (HT6.out.below hb7)
              have HM7 := Lib.hid (HM6.out.kept (HT6.out.keptS hb7))
              clear d0 d1 d2 z0 z1 z2 z3
              have d0 := (HT7.out.bel.cell (p := ⟨b, o + k * 2, none⟩) hb).trans E0.out
              have d1 := (HT7.out.bel.cell (p := ⟨b, o + k * 2 + 1, none⟩) hb).trans E1.out
              have d2 := (HT7.out.bel.cell (p := ⟨b', o' + k, none⟩) hb').trans E2.out
              obtain ⟨z0, z1, z2, z3⟩ := row2 HM7.out.blk
              have p1 := Nat.lt_of_lt_of_le hb HT7.out.bel.size
              have p2 := Nat.lt_of_lt_of_le hb' HT7.out.bel.size
              have p3 : M < w7.heap.size := HT7.out.sLt M HM7.out.inS
              have p4 : ¬ b = w7.heap.size := by omega
              have p5 : ¬ b' = w7.heap.size := by omega
              have p6 : ¬ M = w7.heap.size := by omega
              have p7 : ¬ w7.heap.size = b := by omega
              have p8 : ¬ w7.heap.size = b' := by omega
              have p9 : ¬ w7.heap.size = M := by omega
              clear hb7
              refine hK.out _ _ (by go_keep) (fun hHeld => ?_)
              clear hK K
              refine' wpAnyH_take (i := 10) ?hix7xA10 ?hsx7xA10 ?hfx7xA10 ?hrx7xA10 ?hQx7xA10 ?hyx7xA10 ?hSx7xA10 ?hx7xA10
              case hix7xA10 => (simp only [List.getElem?_toArray, List.getElem?_cons_succ, List.getElem?_cons_zero]; exact rfl)
              case hsx7xA10 | hfx7xA10 | hrx7xA10 => kernel_rfl
              case hQx7xA10 => exact fun _ _ _ h => h
              case hyx7xA10 => (first | (refine Or.inr ⟨by rfl, ?_⟩; rfl) | (refine Or.inl ⟨by rfl, ?_⟩; (intro w hSw; (try dsimp only at hSw); go_simp); try with_reducible rfl))
              case hSx7xA10 => assumption
              try simp only [Act.put, List.setIfInBounds_toArray, List.set_cons_zero, List.set_cons_succ]
              refine' wpAnyH_take (i := 11) ?hix7xA11 ?hsx7xA11 ?hfx7xA11 ?hrx7xA11 ?hQx7xA11 ?hyx7xA11 ?hSx7xA11 ?hx7xA11
              case hix7xA11 => (simp only [List.getElem?_toArray, List.getElem?_cons_succ, List.getElem?_cons_zero]; exact rfl)
              case hsx7xA11 | hfx7xA11 | hrx7xA11 => kernel_rfl
              case hQx7xA11 => exact fun _ _ _ h => h
              case hyx7xA11 => (first | (refine Or.inr ⟨by rfl, ?_⟩; rfl) | (refine Or.inl ⟨by rfl, ?_⟩; (intro w hSw; (try dsimp only at hSw); go_simp); try with_reducible rfl))
              case hSx7xA11 => assumption
              try simp only [Act.put, List.setIfInBounds_toArray, List.set_cons_zero, List.set_cons_succ]
              refine' wpAnyH_take (i := 12) ?hix7xA12 ?hsx7xA12 ?hfx7xA12 ?hrx7xA12 ?hQx7xA12 ?hyx7xA12 ?hSx7xA12 ?hx7xA12
              case hix7xA12 => (simp only [List.getElem?_toArray, List.getElem?_cons_succ, List.getElem?_cons_zero]; exact rfl)
              case hsx7xA12 | hfx7xA12 | hrx7xA12 => kernel_rfl
              case hQx7xA12 => exact fun _ _ _ h => h
              case hyx7xA12 => (first | (refine Or.inr ⟨by rfl, ?_⟩; rfl) | (refine Or.inl ⟨by rfl, ?_⟩; (intro w hSw; (try dsimp only at hSw); go_simp); try with_reducible rfl))
              case hSx7xA12 => assumption
              try simp only [Act.put, List.setIfInBounds_toArray, List.set_cons_zero, List.set_cons_succ]
              refine wpAnyH_ready (rs := [13]) (by kernel_rfl) (by simp) ?_
              refine' AllReadyH.cons ?hix7xA13 (fun K hK => ?hx7xA13) AllReadyH.nil
              case hix7xA13 => (simp only [List.getElem?_toArray, List.getElem?_cons_succ, List.getElem?_cons_zero]; exact rfl)
              go_simp
              refine hK.out _ _ (by go_keep) (fun hHeld => ?_)
              clear hK K
              refine wpAnyH_ready (rs := [14]) (by kernel_rfl) (by simp) ?_
              refine' AllReadyH.cons ?hix7xA14 (fun K hK => ?hx7xA14) AllReadyH.nil
              case hix7xA14 => (simp only [List.getElem?_toArray, List.getElem?_cons_succ, List.getElem?_cons_zero]; exact rfl)
              go_simp
              refine hK.out _ _ (by go_keep) (fun hHeld => ?_)
              clear hK K
              refine' wpAnyH_take (i := 15) ?hix7xA15 ?hsx7xA15 ?hfx7xA15 ?hrx7xA15 ?hQx7xA15 ?hyx7xA15 ?hSx7xA15 ?hx7xA15
              case hix7xA15 => (simp only [List.getElem?_toArray, List.getElem?_cons_succ, List.getElem?_cons_zero]; exact rfl)
              case hsx7xA15 | hfx7xA15 | hrx7xA15 => kernel_rfl
              case hQx7xA15 => exact fun _ _ _ h => h
              case hyx7xA15 => (first | (refine Or.inr ⟨by rfl, ?_⟩; rfl) | (refine Or.inl ⟨by rfl, ?_⟩; (intro w hSw; (try dsimp only at hSw); go_simp); try with_reducible rfl))
              case hSx7xA15 => assumption
              try simp only [Act.put, List.setIfInBounds_toArray, List.set_cons_zero, List.set_cons_succ]
              refine wpAnyH_done (by kernel_rfl) ?_ _
              refine NoPanic.normal ?_
              clear hHeld
              clear d0 d1 d2 z0 z1 z2 z3 p1 p2 p3 p4 p5 p6 p7 p8 p9
              obtain ⟨S7, hT7, hM7, hP7⟩ := HNX.out _ (below_1 w7 (tabO B k1 f1 B' k2 f2)) (heap_alloc_new w7 (tabO B k1 f1 B' k2 f2))
              have HT8 := Lib.hid hT7
              have HM8 := Lib.hid hM7
              have HP8 := Lib.hid hP7
              clear HT6 HM6 HT7 HM7 HB7 hT7 hM7 hP7 HNX
              generalize hwn : w7.alloc (tabO B k1 f1 B' k2 f2) = w8 at *
              obtain ⟨P, hPP⟩ : ∃ P, w7.heap.size = P := ⟨_, rfl⟩
              rw [hPP] at HP8
              rw [hPP]
              clear hPP hwn
              have d0 := (HT8.out.bel.cell (p := ⟨b, o + k * 2, none⟩) hb).trans E0.out
              have d1 := (HT8.out.bel.cell (p := ⟨b, o + k * 2 + 1, none⟩) hb).trans E1.out
              have d2 := (HT8.out.bel.cell (p := ⟨b', o' + k, none⟩) hb').trans E2.out
              obtain ⟨z0, z1, z2, z3⟩ := row2 HM8.out.blk
              have HPE := Lib.hid (put_eq (m := m) (v := u) HF.out (fun h => by rw [HLK.out] at h; exact absurd h.1 (by simp)))
              go_wp2
              have HT9 := Lib.hid (HT8.out.below (show Below w8.heap.size w8 w8.drew from below_drewN (Below.refl _ _) 1))
              have HM9 := Lib.hid (HM8.out.kept (HT8.out.keptS (show Below w8.heap.size w8 w8.drew from below_drewN (Below.refl _ _) 1)))
              refine wp_region_noPanic ?_
              refine wp_region_held_drew (S := (fun w' => w'.cell? ⟨b, o + k * 2, none⟩ = some (.int .u32 p) ∧ w'.cell? ⟨b, o + k * 2 + 1, none⟩ = some (.int .i64 q) ∧ w'.cell? ⟨b', o' + k, none⟩ = some (.int .i64 u))) (by kernel_rfl) (by go_keep) (fun hHeld => ?_)
              have HP9 := Lib.hid (HP8.out.kept (HT8.out.keptS (show Below w8.heap.size w8 w8.drew from below_drewN (Below.refl _ _) 1)))
              refine' wpAnyH_take (i := 0) ?hix8x0 ?hsx8x0 ?hfx8x0 ?hrx8x0 ?hQx8x0 ?hyx8x0 ?hSx8x0 ?hx8x0
              case hix8x0 => (simp only [List.getElem?_toArray, List.getElem?_cons_succ, List.getElem?_cons_zero]; exact rfl)
              case hsx8x0 | hfx8x0 | hrx8x0 => kernel_rfl
              case hQx8x0 => exact fun _ _ _ h => h
              case hyx8x0 => (first | (refine Or.inr ⟨by rfl, ?_⟩; rfl) | (refine Or.inl ⟨by rfl, ?_⟩; (intro w hSw; (try dsimp only at hSw); go_simp); try with_reducible rfl))
              case hSx8x0 => assumption
              try simp only [Act.put, List.setIfInBounds_toArray, List.set_cons_zero, List.set_cons_succ]
              refine' wpAnyH_take (i := 1) ?hix8x1 ?hsx8x1 ?hfx8x1 ?hrx8x1 ?hQx8x1 ?hyx8x1 ?hSx8x1 ?hx8x1
              case hix8x1 => (simp only [List.getElem?_toArray, List.getElem?_cons_succ, List.getElem?_cons_zero]; exact rfl)
              case hsx8x1 | hfx8x1 | hrx8x1 => kernel_rfl
              case hQx8x1 => exact fun _ _ _ h => h
              case hyx8x1 => (first | (refine Or.inr ⟨by rfl, ?_⟩; rfl) | (refine Or.inl ⟨by rfl, ?_⟩; (intro w hSw; (try dsimp only at hSw); go_simp); try with_reducible rfl))
              case hSx8x1 => assumption
              try simp only [Act.put, List.setIfInBounds_toArray, List.set_cons_zero, List.set_cons_succ]
              refine' wpAnyH_take (i := 2) ?hix8x2 ?hsx8x2 ?hfx8x2 ?hrx8x2 ?hQx8x2 ?hyx8x2 ?hSx8x2 ?hx8x2
              case hix8x2 => (simp only [List.getElem?_toArray, List.getElem?_cons_succ, List.getElem?_cons_zero]; exact rfl)
              case hsx8x2 | hfx8x2 | hrx8x2 => kernel_rfl
              case hQx8x2 => exact fun _ _ _ h => h
              case hyx8x2 => (first | (refine Or.inr ⟨by rfl, ?_⟩; rfl) | (refine Or.inl ⟨by rfl, ?_⟩; (intro w hSw; (try dsimp only at hSw); go_simp); try with_reducible rfl))
              case hSx8x2 => assumption
              try simp only [Act.put, List.setIfInBounds_toArray, List.set_cons_zero, List.set_cons_succ]
              refine' wpAnyH_take (i := 3) ?hix8x3 ?hsx8x3 ?hfx8x3 ?hrx8x3 ?hQx8x3 ?hyx8x3 ?hSx8x3 ?hx8x3
              case hix8x3 => (simp only [List.getElem?_toArray, List.getElem?_cons_succ, List.getElem?_cons_zero]; exact rfl)
              case hsx8x3 | hfx8x3 | hrx8x3 => kernel_rfl
              case hQx8x3 => exact fun _ _ _ h => h
              case hyx8x3 => (first | (refine Or.inr ⟨by rfl, ?_⟩; rfl) | (refine Or.inl ⟨by rfl, ?_⟩; (intro w hSw; (try dsimp only at hSw); go_simp); try with_reducible rfl))
              case hSx8x3 => assumption
              try simp only [Act.put, List.setIfInBounds_toArray, List.set_cons_zero, List.set_cons_succ]
              refine' wpAnyH_take (i := 4) ?hix8x4 ?hsx8x4 ?hfx8x4 ?hrx8x4 ?hQx8x4 ?hyx8x4 ?hSx8x4 ?hx8x4
              case hix8x4 => (simp only [List.getElem?_toArray, List.getElem?_cons_succ, List.getElem?_cons_zero]; exact rfl)
              case hsx8x4 | hfx8x4 | hrx8x4 => kernel_rfl
              case hQx8x4 => exact fun _ _ _ h => h
              case hyx8x4 => (first | (refine Or.inr ⟨by rfl, ?_⟩; rfl) | (refine Or.inl ⟨by rfl, ?_⟩; (intro w hSw; (try dsimp only at hSw); go_simp); try with_reducible rfl))
              case hSx8x4 => assumption
              try simp only [Act.put, List.setIfInBounds_toArray, List.set_cons_zero, List.set_cons_succ]
              refine' wpAnyH_take (i := 5) ?hix8x5 ?hsx8x5 ?hfx8x5 ?hrx8x5 ?hQx8x5 ?hyx8x5 ?hSx8x5 ?hx8x5
              case hix8x5 => (simp only [List.getElem?_toArray, List.getElem?_cons_succ, List.getElem?_cons_zero]; exact rfl)
              case hsx8x5 | hfx8x5 | hrx8x5 => kernel_rfl
              case hQx8x5 => exact fun _ _ _ h => h
              case hyx8x5 => (first | (refine Or.inr ⟨by rfl, ?_⟩; rfl) | (refine Or.inl ⟨by rfl, ?_⟩; (intro w hSw; (try dsimp only at hSw); go_simp); try with_reducible rfl))
              case hSx8x5 => assumption
              try simp only [Act.put, List.setIfInBounds_toArray, List.set_cons_zero, List.set_cons_succ]
              refine' wpAnyH_take (i := 6) ?hix8x6 ?hsx8x6 ?hfx8x6 ?hrx8x6 ?hQx8x6 ?hyx8x6 ?hSx8x6 ?hx8x6
              case hix8x6 => (simp only [List.getElem?_toArray, List.getElem?_cons_succ, List.getElem?_cons_zero]; exact rfl)
              case hsx8x6 | hfx8x6 | hrx8x6 => kernel_rfl
              case hQx8x6 => exact fun _ _ _ h => h
              case hyx8x6 => (first | (refine Or.inr ⟨by rfl, ?_⟩; rfl) | (refine Or.inl ⟨by rfl, ?_⟩; (intro w hSw; (try dsimp only at hSw); go_simp); try with_reducible rfl))
              case hSx8x6 => assumption
              try simp only [Act.put, List.setIfInBounds_toArray, List.set_cons_zero, List.set_cons_succ]
              refine' wpAnyH_take (i := 7) ?hix8x7 ?hsx8x7 ?hfx8x7 ?hrx8x7 ?hQx8x7 ?hyx8x7 ?hSx8x7 ?hx8x7
              case hix8x7 => (simp only [List.getElem?_toArray, List.getElem?_cons_succ, List.getElem?_cons_zero]; exact rfl)
              case hsx8x7 | hfx8x7 | hrx8x7 => kernel_rfl
              case hQx8x7 => exact fun _ _ _ h => h
              case hyx8x7 => (first | (refine Or.inr ⟨by rfl, ?_⟩; rfl) | (refine Or.inl ⟨by rfl, ?_⟩; (intro w hSw; (try dsimp only at hSw); go_simp); try with_reducible rfl))
              case hSx8x7 => assumption
              try simp only [Act.put, List.setIfInBounds_toArray, List.set_cons_zero, List.set_cons_succ]
              refine' wpAnyH_take (i := 8) ?hix8x8 ?hsx8x8 ?hfx8x8 ?hrx8x8 ?hQx8x8 ?hyx8x8 ?hSx8x8 ?hx8x8
              case hix8x8 => (simp only [List.getElem?_toArray, List.getElem?_cons_succ, List.getElem?_cons_zero]; exact rfl)
              case hsx8x8 | hfx8x8 | hrx8x8 => kernel_rfl
              case hQx8x8 => exact fun _ _ _ h => h
              case hyx8x8 => (first | (refine Or.inr ⟨by rfl, ?_⟩; rfl) | (refine Or.inl ⟨by rfl, ?_⟩; (intro w hSw; (try dsimp only at hSw); go_simp); try with_reducible rfl))
              case hSx8x8 => assumption
              try simp only [Act.put, List.setIfInBounds_toArray, List.set_cons_zero, List.set_cons_succ]
              refine' wpAnyH_take (i := 10) ?hix8x10 ?hsx8x10 ?hfx8x10 ?hrx8x10 ?hQx8x10 ?hyx8x10 ?hSx8x10 ?hx8x10
              case hix8x10 => (simp only [List.getElem?_toArray, List.getElem?_cons_succ, List.getElem?_cons_zero]; exact rfl)
              case hsx8x10 | hfx8x10 | hrx8x10 => kernel_rfl
              case hQx8x10 => exact fun _ _ _ h => h
              case hyx8x10 => (first | (refine Or.inr ⟨by rfl, ?_⟩; rfl) | (refine Or.inl ⟨by rfl, ?_⟩; (intro w hSw; (try dsimp only at hSw); go_simp); try with_reducible rfl))
              case hSx8x10 => assumption
              try simp only [Act.put, List.setIfInBounds_toArray, List.set_cons_zero, List.set_cons_succ]
              refine wpAnyH_ready (rs := [9]) (by kernel_rfl) (by simp) ?_
              refine' AllReadyH.cons ?hix8x9 (fun K hK => ?hx8x9) AllReadyH.nil
              case hix8x9 => (simp only [List.getElem?_toArray, List.getElem?_cons_succ, List.getElem?_cons_zero]; exact rfl)
              go_simp
              go_at_call 10
              (with_reducible refine (Put_t HT9.out HIx.out HWU.out).mono ?_)
              rw [HPE.out.1, HPE.out.2, errV_zero]
              rintro e w10 ⟨rfl, hT10, hk10, -⟩
              have HT10 := Lib.hid hT10
              have HM10 := Lib.hid (HM9.out.kept hk10)
              have HP10 := Lib.hid (HP9.out.kept hk10)
              clear hT10 hk10 d0 d1 d2
              have d0 := (HT10.out.bel.cell (p := ⟨b, o + k * 2, none⟩) hb).trans E0.out
              have d1 := (HT10.out.bel.cell (p := ⟨b, o + k * 2 + 1, none⟩) hb).trans E1.out
              have d2 := (HT10.out.bel.cell (p := ⟨b', o' + k, none⟩) hb').trans E2.out
              have HGW := Lib.hid (HG.out.below HT10.out.bel)
              refine hK.out _ _ (by go_keep) (fun hHeld => ?_)
              clear hK K
              refine wpAnyH_ready (rs := [11]) (by kernel_rfl) (by simp) ?_
              refine' AllReadyH.cons ?hix8x11 (fun K hK => ?hx8x11) AllReadyH.nil
              case hix8x11 => (simp only [List.getElem?_toArray, List.getElem?_cons_succ, List.getElem?_cons_zero]; exact rfl)
              go_simp
              go_at_call 18
              (with_reducible refine (error_is (errV_zero) (show ((0 : Int) == 0) = true from rfl) _ HGW.out).mono ?_)
              rintro e w11 ⟨rfl, hb11⟩
              clear HGW
              have HM11 := Lib.hid (HM10.out.kept (HT10.out.keptS hb11))
              have HP11 := Lib.hid (HP10.out.kept (HT10.out.keptS hb11))
              have HT11 := Lib.hid (HT10.out.below hb11)
              clear hb11 d0 d1 d2
              have d0 := (HT11.out.bel.cell (p := ⟨b, o + k * 2, none⟩) hb).trans E0.out
              have d1 := (HT11.out.bel.cell (p := ⟨b, o + k * 2 + 1, none⟩) hb).trans E1.out
              have d2 := (HT11.out.bel.cell (p := ⟨b', o' + k, none⟩) hb').trans E2.out
              refine hK.out _ _ (by go_keep) (fun hHeld => ?_)
              clear hK K
              refine' wpAnyH_take (i := 12) ?hix8x12 ?hsx8x12 ?hfx8x12 ?hrx8x12 ?hQx8x12 ?hyx8x12 ?hSx8x12 ?hx8x12
              case hix8x12 => (simp only [List.getElem?_toArray, List.getElem?_cons_succ, List.getElem?_cons_zero]; exact rfl)
              case hsx8x12 | hfx8x12 | hrx8x12 => kernel_rfl
              case hQx8x12 => exact fun _ _ _ h => h
              case hyx8x12 => (first | (refine Or.inr ⟨by rfl, ?_⟩; rfl) | (refine Or.inl ⟨by rfl, ?_⟩; (intro w hSw; (try dsimp only at hSw); go_simp); try with_reducible rfl))
              case hSx8x12 => assumption
              try simp only [Act.put, List.setIfInBounds_toArray, List.set_cons_zero, List.set_cons_succ]
              refine wpAnyH_done (by kernel_rfl) ?_ _
              refine NoPanic.normal ?_
              clear hHeld
              clear d0 d1 d2
              have d0 := (HT11.out.bel.cell (p := ⟨b, o + k * 2, none⟩) hb).trans E0.out
              have d1 := (HT11.out.bel.cell (p := ⟨b, o + k * 2 + 1, none⟩) hb).trans E1.out
              have d2 := (HT11.out.bel.cell (p := ⟨b', o' + k, none⟩) hb').trans E2.out
              obtain ⟨z0, z1, z2, z3⟩ := row2 HM11.out.blk
              obtain ⟨y0, y1, y2, y3⟩ := row2 HP11.out.blk
              have HTE := Lib.hid (HT11.out.store (u := .slice B k1 f1) (v := .slice B' k2 f2) HM11.out.inS HWM.out)
              have HME := Lib.hid (RB.store HP11.out.row HM11.out)
              go_wp2
              clear d0 d1 d2 z0 z1 z2 z3 y0 y1 y2 y3
              go_roundw
              case rel => exact ⟨k + 1, _, _, _, _, _, _, _, _, by omega, by omega, by go_num, HTE.out, HME.out⟩ /- HP -/
              case measure => simp [intOf]; omega
            case hBx7x =>
              go_simp
              have p1 := Nat.lt_of_lt_of_le hb HT5.out.bel.size
              have p2 := Nat.lt_of_lt_of_le hb' HT5.out.bel.size
              have p3 : M < w5.heap.size := HT5.out.sLt M HM5.out.inS
              have p4 : ¬ b = w5.heap.size := by omega
              have p5 : ¬ b' = w5.heap.size := by omega
              have p6 : ¬ M = w5.heap.size := by omega
              have p7 : ¬ w5.heap.size = b := by omega
              have p8 : ¬ w5.heap.size = b' := by omega
              have p9 : ¬ w5.heap.size = M := by omega
              refine hK.out _ _ (by go_keep) (fun hHeld => ?_)
              clear hK K d0 d1 d2 z0 z1 z2 z3
              have hba : Below w5.heap.size w5 (w5.alloc (tabO none 0 0 none 0 0)).drew := below_drewN (below_1 w5 _) 1
              have hPa : (w5.alloc (tabO none 0 0 none 0 0)).drew.heap[w5.heap.size]? = some (tabO none 0 0 none 0 0) := heap_alloc_new w5 _
              have HT6 := Lib.hid (HT5.out.below hba)
              have HM6 := Lib.hid (HM5.out.kept (HT5.out.keptS hba))
              have HBA := Lib.hid hba
              have HPA := Lib.hid hPa
              clear hba hPa
              generalize (w5.alloc (tabO none 0 0 none 0 0)).drew = wa at *
              refine wpAnyH_ready (rs := [9]) (by kernel_rfl) (by simp) ?_
              refine' AllReadyH.cons ?hiCx7x (fun K hK => ?hCx7x) AllReadyH.nil
              case hiCx7x => (simp only [List.getElem?_toArray, List.getElem?_cons_succ, List.getElem?_cons_zero]; exact rfl)
              go_simp
              go_at_call 19
              (with_reducible refine (PutIn_room (HM6.out.row.r1 HT6.out.sLt) (HM6.out.row.v1 HT6.out.sLt) HLEN.out (fun h => by rw [HLK.out] at h; exact absurd h.1 (by simp)) HWX.out HWU.out).mono ?_)
              intro e w7 hp
              obtain ⟨B, k1, f1, B', k2, f2, rfl, hb7, hnx⟩ := next_ofB HT5.out HM5.out HBA.out HPA.out hp
              have HNX := Lib.hid hnx
              clear hp hnx
              have HB7 := Lib.hid hb7
              have HT7 := Lib.hid (HT6.out.below hb7)
              have HM7 := Lib.hid (HM6.out.kept (HT6.out.keptS hb7))
              obtain ⟨t0, t1, t2, t3⟩ := row2 (below_block hb7 (size_of_block HPA.out) HPA.out)
              have d0 := (HT7.out.bel.cell (p := ⟨b, o + k * 2, none⟩) hb).trans E0.out
              have d1 := (HT7.out.bel.cell (p := ⟨b, o + k * 2 + 1, none⟩) hb).trans E1.out
              have d2 := (HT7.out.bel.cell (p := ⟨b', o' + k, none⟩) hb').trans E2.out
              obtain ⟨z0, z1, z2, z3⟩ := row2 HM7.out.blk
              clear hb7
              refine hK.out _ _ (by go_keep) (fun hHeld => ?_)
              clear hK K
              refine' wpAnyH_take (i := 10) ?hix7xB10 ?hsx7xB10 ?hfx7xB10 ?hrx7xB10 ?hQx7xB10 ?hyx7xB10 ?hSx7xB10 ?hx7xB10
              case hix7xB10 => (simp only [List.getElem?_toArray, List.getElem?_cons_succ, List.getElem?_cons_zero]; exact rfl)
              case hsx7xB10 | hfx7xB10 | hrx7xB10 => kernel_rfl
              case hQx7xB10 => exact fun _ _ _ h => h
              case hyx7xB10 => (first | (refine Or.inr ⟨by rfl, ?_⟩; rfl) | (refine Or.inl ⟨by rfl, ?_⟩; (intro w hSw; (try dsimp only at hSw); go_simp); try with_reducible rfl))
              case hSx7xB10 => assumption
              try simp only [Act.put, List.setIfInBounds_toArray, List.set_cons_zero, List.set_cons_succ]
              refine' wpAnyH_take (i := 11) ?hix7xB11 ?hsx7xB11 ?hfx7xB11 ?hrx7xB11 ?hQx7xB11 ?hyx7xB11 ?hSx7xB11 ?hx7xB11
              case hix7xB11 => (simp only [List.getElem?_toArray, List.getElem?_cons_succ, List.getElem?_cons_zero]; exact rfl)
              case hsx7xB11 | hfx7xB11 | hrx7xB11 => kernel_rfl
              case hQx7xB11 => exact fun _ _ _ h => h
              case hyx7xB11 => (first | (refine Or.inr ⟨by rfl, ?_⟩; rfl) | (refine Or.inl ⟨by rfl, ?_⟩; (intro w hSw; (try dsimp only at hSw); go_simp); try with_reducible rfl))
              case hSx7xB11 => assumption
              try simp only [Act.put, List.setIfInBounds_toArray, List.set_cons_zero, List.set_cons_succ]
              refine' wpAnyH_take (i := 12) ?hix7xB12 ?hsx7xB12 ?hfx7xB12 ?hrx7xB12 ?hQx7xB12 ?hyx7xB12 ?hSx7xB12 ?hx7xB12
              case hix7xB12 => (simp only [List.getElem?_toArray, List.getElem?_cons_succ, List.getElem?_cons_zero]; exact rfl)
              case hsx7xB12 | hfx7xB12 | hrx7xB12 => kernel_rfl
              case hQx7xB12 => exact fun _ _ _ h => h
              case hyx7xB12 => (first | (refine Or.inr ⟨by rfl, ?_⟩; rfl) | (refine Or.inl ⟨by rfl, ?_⟩; (intro w hSw; (try dsimp only at hSw); go_simp); try with_reducible rfl))
              case hSx7xB12 => assumption
              try simp only [Act.put, List.setIfInBounds_toArray, List.set_cons_zero, List.set_cons_succ]
              refine wpAnyH_ready (rs := [14]) (by kernel_rfl) (by simp) ?_
              refine' AllReadyH.cons ?hix7xB14 (fun K hK => ?hx7xB14) AllReadyH.nil
              case hix7xB14 => (simp only [List.getElem?_toArray, List.getElem?_cons_succ, List.getElem?_cons_zero]; exact rfl)
              go_simp
              refine hK.out _ _ (by go_keep) (fun hHeld => ?_)
              clear hK K
              refine' wpAnyH_take (i := 15) ?hix7xB15 ?hsx7xB15 ?hfx7xB15 ?hrx7xB15 ?hQx7xB15 ?hyx7xB15 ?hSx7xB15 ?hx7xB15
              case hix7xB15 => (simp only [List.getElem?_toArray, List.getElem?_cons_succ, List.getElem?_cons_zero]; exact rfl)
              case hsx7xB15 | hfx7xB15 | hrx7xB15 => kernel_rfl
              case hQx7xB15 => exact fun _ _ _ h => h
              case hyx7xB15 => (first | (refine Or.inr ⟨by rfl, ?_⟩; rfl) | (refine Or.inl ⟨by rfl, ?_⟩; (intro w hSw; (try dsimp only at hSw); go_simp); try with_reducible rfl))
              case hSx7xB15 => assumption
              try simp only [Act.put, List.setIfInBounds_toArray, List.set_cons_zero, List.set_cons_succ]
              refine wpAnyH_done (by kernel_rfl) ?_ _
              refine NoPanic.normal ?_
              clear hHeld
              clear d0 d1 d2 z0 z1 z2 z3 t0 t1 t2 t3 p1 p2 p3 p4 p5 p6 p7 p8 p9
              obtain ⟨S7, hT7, hM7, hP7⟩ := HNX.out
              have HT8 := Lib.hid hT7
              have HM8 := Lib.hid hM7
              have HP8 := Lib.hid hP7
              clear HT6 HM6 HT7 HM7 HB7 HBA HPA hT7 hM7 hP7 HNX
              generalize hwn : (w7.setCell ⟨w5.heap.size, 0, none⟩ (.slice B k1 f1)).setCell ⟨w5.heap.size, 1, none⟩ (.slice B' k2 f2) = w8 at *
              obtain ⟨P, hPP⟩ : ∃ P, w5.heap.size = P := ⟨_, rfl⟩
              rw [hPP] at HP8
              rw [hPP]
              clear hPP hwn
              have d0 := (HT8.out.bel.cell (p := ⟨b, o + k * 2, none⟩) hb).trans E0.out
              have d1 := (HT8.out.bel.cell (p := ⟨b, o + k * 2 + 1, none⟩) hb).trans E1.out
              have d2 := (HT8.out.bel.cell (p := ⟨b', o' + k, none⟩) hb').trans E2.out
              obtain ⟨z0, z1, z2, z3⟩ := row2 HM8.out.blk
              have HPE := Lib.hid (put_eq (m := m) (v := u) HF.out (fun h => by rw [HLK.out] at h; exact absurd h.1 (by simp)))
              go_wp2
              have HT9 := Lib.hid (HT8.out.below (show Below w8.heap.size w8 w8.drew from below_drewN (Below.refl _ _) 1))
              have HM9 := Lib.hid (HM8.out.kept (HT8.out.keptS (show Below w8.heap.size w8 w8.drew from below_drewN (Below.refl _ _) 1)))
              refine wp_region_noPanic ?_
              refine wp_region_held_drew (S := (fun w' => w'.cell? ⟨b, o + k * 2, none⟩ = some (.int .u32 p) ∧ w'.cell? ⟨b, o + k * 2 + 1, none⟩ = some (.int .i64 q) ∧ w'.cell? ⟨b', o' + k, none⟩ = some (.int .i64 u))) (by kernel_rfl) (by go_keep) (fun hHeld => ?_)
              have HP9 := Lib.hid (HP8.out.kept (HT8.out.keptS (show Below w8.heap.size w8 w8.drew from below_drewN (Below.refl _ _) 1)))
              refine' wpAnyH_take (i := 0) ?hix9x0 ?hsx9x0 ?hfx9x0 ?hrx9x0 ?hQx9x0 ?hyx9x0 ?hSx9x0 ?hx9x0
              case hix9x0 => (simp only [List.getElem?_toArray, List.getElem?_cons_succ, List.getElem?_cons_zero]; exact rfl)
              case hsx9x0 | hfx9x0 | hrx9x0 => kernel_rfl
              case hQx9x0 => exact fun _ _ _ h => h
              case hyx9x0 => (first | (refine Or.inr ⟨by rfl, ?_⟩; rfl) | (refine Or.inl ⟨by rfl, ?_⟩; (intro w hSw; (try dsimp only at hSw); go_simp); try with_reducible rfl))
              case hSx9x0 => assumption
              try simp only [Act.put, List.setIfInBounds_toArray, List.set_cons_zero, List.set_cons_succ]
              refine' wpAnyH_take (i := 1) ?hix9x1 ?hsx9x1 ?hfx9x1 ?hrx9x1 ?hQx9x1 ?hyx9x1 ?hSx9x1 ?hx9x1
              case hix9x1 => (simp only [List.getElem?_toArray, List.getElem?_cons_succ, List.getElem?_cons_zero]; exact rfl)
              case hsx9x1 | hfx9x1 | hrx9x1 => kernel_rfl
              case hQx9x1 => exact fun _ _ _ h => h
              case hyx9x1 => (first | (refine Or.inr ⟨by rfl, ?_⟩; rfl) | (refine Or.inl ⟨by rfl, ?_⟩; (intro w hSw; (try dsimp only at hSw); go_simp); try with_reducible rfl))
              case hSx9x1 => assumption
              try simp only [Act.put, List.setIfInBounds_toArray, List.set_cons_zero, List.set_cons_succ]
              refine' wpAnyH_take (i := 2) ?hix9x2 ?hsx9x2 ?hfx9x2 ?hrx9x2 ?hQx9x2 ?hyx9x2 ?hSx9x2 ?hx9x2
              case hix9x2 => (simp only [List.getElem?_toArray, List.getElem?_cons_succ, List.getElem?_cons_zero]; exact rfl)
              case hsx9x2 | hfx9x2 | hrx9x2 => kernel_rfl
              case hQx9x2 => exact fun _ _ _ h => h
              case hyx9x2 => (first | (refine Or.inr ⟨by rfl, ?_⟩; rfl) | (refine Or.inl ⟨by rfl, ?_⟩; (intro w hSw; (try dsimp only at hSw); go_simp); try with_reducible rfl))
              case hSx9x2 => assumption
              try simp only [Act.put, List.setIfInBounds_toArray, List.set_cons_zero, List.set_cons_succ]
              refine' wpAnyH_take (i := 3) ?hix9x3 ?hsx9x3 ?hfx9x3 ?hrx9x3 ?hQx9x3 ?hyx9x3 ?hSx9x3 ?hx9x3
              case hix9x3 => (simp only [List.getElem?_toArray, List.getElem?_cons_succ, List.getElem?_cons_zero]; exact rfl)
              case hsx9x3 | hfx9x3 | hrx9x3 => kernel_rfl
              case hQx9x3 => exact fun _ _ _ h => h
              case hyx9x3 => (first | (refine Or.inr ⟨by rfl, ?_⟩; rfl) | (refine Or.inl ⟨by rfl, ?_⟩; (intro w hSw; (try dsimp only at hSw); go_simp); try with_reducible rfl))
              case hSx9x3 => assumption
              try simp only [Act.put, List.setIfInBounds_toArray, List.set_cons_zero, List.set_cons_succ]
              refine' wpAnyH_take (i := 4) ?hix9x4 ?hsx9x4 ?hfx9x4 ?hrx9x4 ?hQx9x4 ?hyx9x4 ?hSx9x4 ?hx9x4
              case hix9x4 => (simp only [List.getElem?_toArray, List.getElem?_cons_succ, List.getElem?_cons_zero]; exact rfl)
              case hsx9x4 | hfx9x4 | hrx9x4 => kernel_rfl
              case hQx9x4 => exact fun _ _ _ h => h
              case hyx9x4 => (first | (refine Or.inr ⟨by rfl, ?_⟩; rfl) | (refine Or.inl ⟨by rfl, ?_⟩; (intro w hSw; (try dsimp only at hSw); go_simp); try with_reducible rfl))
              case hSx9x4 => assumption
              try simp only [Act.put, List.setIfInBounds_toArray, List.set_cons_zero, List.set_cons_succ]
              refine' wpAnyH_take (i := 5) ?hix9x5 ?hsx9x5 ?hfx9x5 ?hrx9x5 ?hQx9x5 ?hyx9x5 ?hSx9x5 ?hx9x5
              case hix9x5 => (simp only [List.getElem?_toArray, List.getElem?_cons_succ, List.getElem?_cons_zero]; exact rfl)
              case hsx9x5 | hfx9x5 | hrx9x5 => kernel_rfl
              case hQx9x5 => exact fun _ _ _ h => h
              case hyx9x5 => (first | (refine Or.inr ⟨by rfl, ?_⟩; rfl) | (refine Or.inl ⟨by rfl, ?_⟩; (intro w hSw; (try dsimp only at hSw); go_simp); try with_reducible rfl))
              case hSx9x5 => assumption
              try simp only [Act.put, List.setIfInBounds_toArray, List.set_cons_zero, List.set_cons_succ]
              refine' wpAnyH_take (i := 6) ?hix9x6 ?hsx9x6 ?hfx9x6 ?hrx9x6 ?hQx9x6 ?hyx9x6 ?hSx9x6 ?hx9x6
              case hix9x6 => (simp only [List.getElem?_toArray, List.getElem?_cons_succ, List.getElem?_cons_zero]; exact rfl)
              case hsx9x6 | hfx9x6 | hrx9x6 => kernel_rfl
              case hQx9x6 => exact fun _ _ _ h => h
              case hyx9x6 => (first | (refine Or.inr ⟨by rfl, ?_⟩; rfl) | (refine Or.inl ⟨by rfl, ?_⟩; (intro w hSw; (try dsimp only at hSw); go_simp); try with_reducible rfl))
              case hSx9x6 => assumption
              try simp only [Act.put, List.setIfInBounds_toArray, List.set_cons_zero, List.set_cons_succ]
              refine' wpAnyH_take (i := 7) ?hix9x7 ?hsx9x7 ?hfx9x7 ?hrx9x7 ?hQx9x7 ?hyx9x7 ?hSx9x7 ?hx9x7
              case hix9x7 => (simp only [List.getElem?_toArray, List.getElem?_cons_succ, List.getElem?_cons_zero]; exact rfl)
              case hsx9x7 | hfx9x7 | hrx9x7 => kernel_rfl
              case hQx9x7 => exact fun _ _ _ h => h
              case hyx9x7 => (first | (refine Or.inr ⟨by rfl, ?_⟩; rfl) | (refine Or.inl ⟨by rfl, ?_⟩; (intro w hSw; (try dsimp only at hSw); go_simp); try with_reducible rfl))
              case hSx9x7 => assumption
              try simp only [Act.put, List.setIfInBounds_toArray, List.set_cons_zero, List.set_cons_succ]
              refine' wpAnyH_take (i := 8) ?hix9x8 ?hsx9x8 ?hfx9x8 ?hrx9x8 ?hQx9x8 ?hyx9x8 ?hSx9x8 ?hx9x8
              case hix9x8 => (simp only [List.getElem?_toArray, List.getElem?_cons_succ, List.getElem?_cons_zero]; exact rfl)
              case hsx9x8 | hfx9x8 | hrx9x8 => kernel_rfl
              case hQx9x8 => exact fun _ _ _ h => h
              case hyx9x8 => (first | (refine Or.inr ⟨by rfl, ?_⟩; rfl) | (refine Or.inl ⟨by rfl, ?_⟩; (intro w hSw; (try dsimp only at hSw); go_simp); try with_reducible rfl))
              case hSx9x8 => assumption
              try simp only [Act.put, List.setIfInBounds_toArray, List.set_cons_zero, List.set_cons_succ]
              refine' wpAnyH_take (i := 10) ?hix9x10 ?hsx9x10 ?hfx9x10 ?hrx9x10 ?hQx9x10 ?hyx9x10 ?hSx9x10 ?hx9x10
              case hix9x10 => (simp only [List.getElem?_toArray, List.getElem?_cons_succ, List.getElem?_cons_zero]; exact rfl)
              case hsx9x10 | hfx9x10 | hrx9x10 => kernel_rfl
              case hQx9x10 => exact fun _ _ _ h => h
              case hyx9x10 => (first | (refine Or.inr ⟨by rfl, ?_⟩; rfl) | (refine Or.inl ⟨by rfl, ?_⟩; (intro w hSw; (try dsimp only at hSw); go_simp); try with_reducible rfl))
              case hSx9x10 => assumption
              try simp only [Act.put, List.setIfInBounds_toArray, List.set_cons_zero, List.set_cons_succ]
              refine wpAnyH_ready (rs := [9]) (by kernel_rfl) (by simp) ?_
              refine' AllReadyH.cons ?hix9x9 (fun K hK => ?hx9x9) AllReadyH.nil
              case hix9x9 => (simp only [List.getElem?_toArray, List.getElem?_cons_succ, List.getElem?_cons_zero]; exact rfl)
              go_simp
              go_at_call 10
              (with_reducible refine (Put_t HT9.out HIx.out HWU.out).mono ?_)
              rw [HPE.out.1, HPE.out.2, errV_zero]
              rintro e w10 ⟨rfl, hT10, hk10, -⟩
              have HT10 := Lib.hid hT10
              have HM10 := Lib.hid (HM9.out.kept hk10)
              have HP10 := Lib.hid (HP9.out.kept hk10)
              clear hT10 hk10 d0 d1 d2
              have d0 := (HT10.out.bel.cell (p := ⟨b, o + k * 2, none⟩) hb).trans E0.out
              have d1 := (HT10.out.bel.cell (p := ⟨b, o + k * 2 + 1, none⟩) hb).trans E1.out
              have d2 := (HT10.out.bel.cell (p := ⟨b', o' + k, none⟩) hb').trans E2.out
              have HGW := Lib.hid (HG.out.below HT10.out.bel)
              refine hK.out _ _ (by go_keep) (fun hHeld => ?_)
              clear hK K
              refine wpAnyH_ready (rs := [11]) (by kernel_rfl) (by simp) ?_
              refine' AllReadyH.cons ?hix9x11 (fun K hK => ?hx9x11) AllReadyH.nil
              case hix9x11 => (simp only [List.getElem?_toArray, List.getElem?_cons_succ, List.getElem?_cons_zero]; exact rfl)
              go_simp
              go_at_call 18
              (with_reducible refine (error_is (errV_zero) (show ((0 : Int) == 0) = true from rfl) _ HGW.out).mono ?_)
              rintro e w11 ⟨rfl, hb11⟩
              clear HGW
              have HM11 := Lib.hid (HM10.out.kept (HT10.out.keptS hb11))
              have HP11 := Lib.hid (HP10.out.kept (HT10.out.keptS hb11))
              have HT11 := Lib.hid (HT10.out.below hb11)
              clear hb11 d0 d1 d2
              have d0 := (HT11.out.bel.cell (p := ⟨b, o + k * 2, none⟩) hb).trans E0.out
              have d1 := (HT11.out.bel.cell (p := ⟨b, o + k * 2 + 1, none⟩) hb).trans E1.out
              have d2 := (HT11.out.bel.cell (p := ⟨b', o' + k, none⟩) hb').trans E2.out
              refine hK.out _ _ (by go_keep) (fun hHeld => ?_)
              clear hK K
              refine' wpAnyH_take (i := 12) ?hix9x12 ?hsx9x12 ?hfx9x12 ?hrx9x12 ?hQx9x12 ?hyx9x12 ?hSx9x12 ?hx9x12
              case hix9x12 => (simp only [List.getElem?_toArray, List.getElem?_cons_succ, List.getElem?_cons_zero]; exact rfl)
              case hsx9x12 | hfx9x12 | hrx9x12 => kernel_rfl
              case hQx9x12 => exact fun _ _ _ h => h
              case hyx9x12 => (first | (refine Or.inr ⟨by rfl, ?_⟩; rfl) | (refine Or.inl ⟨by rfl, ?_⟩; (intro w hSw; (try dsimp only at hSw); go_simp); try with_reducible rfl))
              case hSx9x12 => assumption
              try simp only [Act.put, List.setIfInBounds_toArray, List.set_cons_zero, List.set_cons_succ]
              refine wpAnyH_done (by kernel_rfl) ?_ _
              refine NoPanic.normal ?_
              clear hHeld
              clear d0 d1 d2
              have d0 := (HT11.out.bel.cell (p := ⟨b, o + k * 2, none⟩) hb).trans E0.out
              have d1 := (HT11.out.bel.cell (p := ⟨b, o + k * 2 + 1, none⟩) hb).trans E1.out
              have d2 := (HT11.out.bel.cell (p := ⟨b', o' + k, none⟩) hb').trans E2.out
              obtain ⟨z0, z1, z2, z3⟩ := row2 HM11.out.blk
              obtain ⟨y0, y1, y2, y3⟩ := row2 HP11.out.blk
              have HTE := Lib.hid (HT11.out.store (u := .slice B k1 f1) (v := .slice B' k2 f2) HM11.out.inS HWM.out)
              have HME := Lib.hid (RB.store HP11.out.row HM11.out)
              go_wp2
              clear d0 d1 d2 z0 z1 z2 z3 y0 y1 y2 y3
              go_roundw
              case rel => exact ⟨k + 1, _, _, _, _, _, _, _, _, by omega, by omega, by go_num, HTE.out, HME.out⟩ /- HP -/
              case measure => simp [intOf]; omega
          · skip
            go_wp2_with fail
            go_at_call 11
            (with_reducible refine (Drop_t HT5.out HIx.out).mono ?_)
            rw [HGE.out.1, HGE.out.2.2, errV_zero]
            rintro e w6 ⟨rfl, hT6, hk6, -⟩
            have HT6 := Lib.hid hT6
            have HM6 := Lib.hid (HM5.out.kept hk6)
            clear hT6 hk6 d0 d1 d2 z0 z1 z2 z3
            have d0 := (HT6.out.bel.cell (p := ⟨b, o + k * 2, none⟩) hb).trans E0.out
            have d1 := (HT6.out.bel.cell (p := ⟨b, o + k * 2 + 1, none⟩) hb).trans E1.out
            have d2 := (HT6.out.bel.cell (p := ⟨b', o' + k, none⟩) hb').trans E2.out
            obtain ⟨z0, z1, z2, z3⟩ := row2 HM6.out.blk
            have HGW := Lib.hid (HG.out.below HT6.out.bel)
            go_wp2_with fail
            go_at_call 18
            (with_reducible refine (error_is (errV_zero) (show ((0 : Int) == 0) = true from rfl) _ HGW.out).mono ?_)
            rintro e w7 ⟨rfl, hb7⟩
            clear HGW
            have HT7 := Lib.hid (HT6.out.below hb7)
            have HM7 := Lib.hid (HM6.out.kept (HT6.out.keptS hb7))
            clear hb7 d0 d1 d2 z0 z1 z2 z3
            have d0 := (HT7.out.bel.cell (p := ⟨b, o + k * 2, none⟩) hb).trans E0.out
            have d1 := (HT7.out.bel.cell (p := ⟨b, o + k * 2 + 1, none⟩) hb).trans E1.out
            have d2 := (HT7.out.bel.cell (p := ⟨b', o' + k, none⟩) hb').trans E2.out
            obtain ⟨z0, z1, z2, z3⟩ := row2 HM7.out.blk
            go_wp2
            have HT8 := Lib.hid (HT7.out.below (show Below w7.heap.size w7 w7.drew from below_drewN (Below.refl _ _) 1))
            have HM8 := Lib.hid (HM7.out.kept (HT7.out.keptS (show Below w7.heap.size w7 w7.drew from below_drewN (Below.refl _ _) 1)))
            refine wp_region_noPanic ?_
            refine wp_region_held_drew (S := (fun w' => w'.cell? ⟨b, o + k * 2, none⟩ = some (.int .u32 p) ∧ w'.cell? ⟨b, o + k * 2 + 1, none⟩ = some (.int .i64 q) ∧ w'.cell? ⟨b', o' + k, none⟩ = some (.int .i64 u))) (by kernel_rfl) (by go_keep) (fun hHeld => ?_)
            refine' wpAnyH_take (i := 1) ?hix10x1 ?hsx10x1 ?hfx10x1 ?hrx10x1 ?hQx10x1 ?hyx10x1 ?hSx10x1 ?hx10x1
            case hix10x1 => (simp only [List.getElem?_toArray, List.getElem?_cons_succ, List.getElem?_cons_zero]; exact rfl)
            case hsx10x1 | hfx10x1 | hrx10x1 => kernel_rfl
            case hQx10x1 => exact fun _ _ _ h => h
            case hyx10x1 => (first | (refine Or.inr ⟨by rfl, ?_⟩; rfl) | (refine Or.inl ⟨by rfl, ?_⟩; (intro w hSw; (try dsimp only at hSw); go_simp); try with_reducible rfl))
            case hSx10x1 => assumption
            try simp only [Act.put, List.setIfInBounds_toArray, List.set_cons_zero, List.set_cons_succ]
            refine' wpAnyH_take (i := 2) ?hix10x2 ?hsx10x2 ?hfx10x2 ?hrx10x2 ?hQx10x2 ?hyx10x2 ?hSx10x2 ?hx10x2
            case hix10x2 => (simp only [List.getElem?_toArray, List.getElem?_cons_succ, List.getElem?_cons_zero]; exact rfl)
            case hsx10x2 | hfx10x2 | hrx10x2 => kernel_rfl
            case hQx10x2 => exact fun _ _ _ h => h
            case hyx10x2 => (first | (refine Or.inr ⟨by rfl, ?_⟩; rfl) | (refine Or.inl ⟨by rfl, ?_⟩; (intro w hSw; (try dsimp only at hSw); go_simp); try with_reducible rfl))
            case hSx10x2 => assumption
            try simp only [Act.put, List.setIfInBounds_toArray, List.set_cons_zero, List.set_cons_succ]
            refine' wpAnyH_take (i := 3) ?hix10x3 ?hsx10x3 ?hfx10x3 ?hrx10x3 ?hQx10x3 ?hyx10x3 ?hSx10x3 ?hx10x3
            case hix10x3 => (simp only [List.getElem?_toArray, List.getElem?_cons_succ, List.getElem?_cons_zero]; exact rfl)
            case hsx10x3 | hfx10x3 | hrx10x3 => kernel_rfl
            case hQx10x3 => exact fun _ _ _ h => h
            case hyx10x3 => (first | (refine Or.inr ⟨by rfl, ?_⟩; rfl) | (refine Or.inl ⟨by rfl, ?_⟩; (intro w hSw; (try dsimp only at hSw); go_simp); try with_reducible rfl))
            case hSx10x3 => assumption
            try simp only [Act.put, List.setIfInBounds_toArray, List.set_cons_zero, List.set_cons_succ]
            refine' wpAnyH_take (i := 4) ?hix10x4 ?hsx10x4 ?hfx10x4 ?hrx10x4 ?hQx10x4 ?hyx10x4 ?hSx10x4 ?hx10x4
            case hix10x4 => (simp only [List.getElem?_toArray, List.getElem?_cons_succ, List.getElem?_cons_zero]; exact rfl)
            case hsx10x4 | hfx10x4 | hrx10x4 => kernel_rfl
            case hQx10x4 => exact fun _ _ _ h => h
            case hyx10x4 => (first | (refine Or.inr ⟨by rfl, ?_⟩; rfl) | (refine Or.inl ⟨by rfl, ?_⟩; (intro w hSw; (try dsimp only at hSw); go_simp); try with_reducible rfl))
            case hSx10x4 => assumption
            try simp only [Act.put, List.setIfInBounds_toArray, List.set_cons_zero, List.set_cons_succ]
            refine wpAnyH_ready (rs := [0]) (by kernel_rfl) (by simp) ?_
            refine' AllReadyH.cons ?hix10x0 (fun K hK => ?hx10x0) AllReadyH.nil
            case hix10x0 => (simp only [List.getElem?_toArray, List.getElem?_cons_succ, List.getElem?_cons_zero]; exact rfl)
            go_simp
            refine hK.out _ _ (by go_keep) (fun hHeld => ?_)
            clear hK K
            refine wpAnyH_ready (rs := [5]) (by kernel_rfl) (by simp) ?_
            refine' AllReadyH.cons ?hix10x5 (fun K hK => ?hx10x5) AllReadyH.nil
            case hix10x5 => (simp only [List.getElem?_toArray, List.getElem?_cons_succ, List.getElem?_cons_zero]; exact rfl)
            go_simp
            go_at_call 20
            (with_reducible refine (DropFrom_any (HM8.out.row.r1 HT8.out.sLt) (HM8.out.row.v1 HT8.out.sLt) (by have := HLEN.out; omega)).mono ?_)
            intro e w9 hp
            obtain ⟨B, k1, f1, B', k2, f2, rfl, S7, hT7, hM7, hR7⟩ := drop_of HT8.out HM8.out hp
            have HT9 := Lib.hid hT7
            have HM9 := Lib.hid hM7
            have HR7 := Lib.hid hR7
            clear hp hT7 hM7 hR7 d0 d1 d2 z0 z1 z2 z3
            have d0 := (HT9.out.bel.cell (p := ⟨b, o + k * 2, none⟩) hb).trans E0.out
            have d1 := (HT9.out.bel.cell (p := ⟨b, o + k * 2 + 1, none⟩) hb).trans E1.out
            have d2 := (HT9.out.bel.cell (p := ⟨b', o' + k, none⟩) hb').trans E2.out
            obtain ⟨z0, z1, z2, z3⟩ := row2 HM9.out.blk
            have p1 : ¬ b = M := by have := HWM.out; omega
            have p2 : ¬ b' = M := by have := HWM.out; omega
            have p3 : ¬ M = b := by omega
            have p4 : ¬ M = b' := by omega
            refine hK.out _ _ (by go_keep) (fun hHeld => ?_)
            clear hK K
            refine wpAnyH_ready (rs := [6]) (by kernel_rfl) (by simp) ?_
            refine' AllReadyH.cons ?hix10x6 (fun K hK => ?hx10x6) AllReadyH.nil
            case hix10x6 => (simp only [List.getElem?_toArray, List.getElem?_cons_succ, List.getElem?_cons_zero]; exact rfl)
            go_simp
            refine hK.out _ _ (by go_keep) (fun hHeld => ?_)
            clear hK K
            refine wpAnyH_done (by kernel_rfl) ?_ _
            refine NoPanic.normal ?_
            clear hHeld
            have HTE := Lib.hid (HT9.out.store (u := .slice B k1 f1) (v := .slice B' k2 f2) HM9.out.inS HWM.out)
            have HME := Lib.hid (RB.store HR7.out HM9.out)
            clear p1 p2 p3 p4
            go_wp2
            clear d0 d1 d2 z0 z1 z2 z3
            go_roundw
            case rel => exact ⟨k + 1, _, _, _, _, _, _, _, _, by omega, by omega, by go_num, HTE.out, HME.out⟩
            case measure => simp [intOf]; omega
      · skip
        have HGE := Lib.hid (get_bad (m := m) (x := (p, q)) (by rw [HF.out]; decide))
        rw [HF.out] at HGE
        go_wp2
        have j0 := fun dd os => cell_regrown d0 dd os
        have j1 := fun dd os => cell_regrown d1 dd os
        have j2 := fun dd os => cell_regrown z0 dd os
        have j3 := fun dd os => cell_regrown z1 dd os
        clear d0 d1 d2 z0 z1 z2 z3
        refine wp_region_quiet_below (by kernel_rfl) (by kernel_rfl) ?_
        repeat (go_big_quiet_step (fail))
        refine wpQuiet_nil ?_
        intro w2 hw'
        obtain ⟨⟨dq, osq⟩, hw''⟩ := hw'
        have hb2 := (show Below w1.heap.size w1 w2 by rw [hw'']; exact below_regrown w1 dq osq)
        have HT2 := Lib.hid (HT1.out.below hb2)
        have HM2 := Lib.hid (HM1.out.kept (HT1.out.keptS hb2))
        clear hb2 hw'' j0 j1 j2 j3
        have d0 := (HT2.out.bel.cell (p := ⟨b, o + k * 2, none⟩) hb).trans E0.out
        have d1 := (HT2.out.bel.cell (p := ⟨b, o + k * 2 + 1, none⟩) hb).trans E1.out
        have d2 := (HT2.out.bel.cell (p := ⟨b', o' + k, none⟩) hb').trans E2.out
        obtain ⟨z0, z1, z2, z3⟩ := row2 HM2.out.blk
        go_wp2_with fail
        go_at_call 17
        (with_reducible refine (Get_t HT2.out HIx.out).mono ?_)
        rw [HGE.out.1, HGE.out.2.1, errV_ne (k := 1) (by decide)]
        rintro e w3 ⟨rfl, hb3⟩
        have HT3 := Lib.hid (HT2.out.below hb3)
        have HM3 := Lib.hid (HM2.out.kept (HT2.out.keptS hb3))
        clear hb3 d0 d1 d2 z0 z1 z2 z3
        have d0 := (HT3.out.bel.cell (p := ⟨b, o + k * 2, none⟩) hb).trans E0.out
        have d1 := (HT3.out.bel.cell (p := ⟨b, o + k * 2 + 1, none⟩) hb).trans E1.out
        have d2 := (HT3.out.bel.cell (p := ⟨b', o' + k, none⟩) hb').trans E2.out
        obtain ⟨z0, z1, z2, z3⟩ := row2 HM3.out.blk
        have HGW := Lib.hid (HG.out.below HT3.out.bel)
        go_wp2_with fail
        go_at_call 18
        (with_reducible refine (error_is (errV_ne (k := 1) (by decide)) (show ((1 : Int) == 1) = true from rfl) _ HGW.out).mono ?_)
        rintro e w4 ⟨rfl, hb4⟩
        clear HGW
        have HT4 := Lib.hid (HT3.out.below hb4)
        have HM4 := Lib.hid (HM3.out.kept (HT3.out.keptS hb4))
        clear hb4 d0 d1 d2 z0 z1 z2 z3
        have d0 := (HT4.out.bel.cell (p := ⟨b, o + k * 2, none⟩) hb).trans E0.out
        have d1 := (HT4.out.bel.cell (p := ⟨b, o + k * 2 + 1, none⟩) hb).trans E1.out
        have d2 := (HT4.out.bel.cell (p := ⟨b', o' + k, none⟩) hb').trans E2.out
        obtain ⟨z0, z1, z2, z3⟩ := row2 HM4.out.blk
        by_cases hu : 0 < u
        · skip
          go_wp2
          refine wp_region_noPanic ?_
          refine wp_region_held_drew (S := (fun w' => w'.cell? ⟨b, o + k * 2, none⟩ = some (.int .u32 p) ∧ w'.cell? ⟨b, o + k * 2 + 1, none⟩ = some (.int .i64 q) ∧ w'.cell? ⟨b', o' + k, none⟩ = some (.int .i64 u) ∧ w'.cell? ⟨M, 0, none⟩ = some (.slice A2 n2 c2) ∧ w'.cell? ⟨M, 1, none⟩ = some (.slice A3 n3 c3))) (by kernel_rfl) (by go_keep) (fun hHeld => ?_)
          refine' wpAnyH_take (i := 0) ?hix11x0 ?hsx11x0 ?hfx11x0 ?hrx11x0 ?hQx11x0 ?hyx11x0 ?hSx11x0 ?hx11x0
          case hix11x0 => (simp only [List.getElem?_toArray, List.getElem?_cons_succ, List.getElem?_cons_zero]; exact rfl)
          case hsx11x0 | hfx11x0 | hrx11x0 => kernel_rfl
          case hQx11x0 => exact fun _ _ _ h => h
          case hyx11x0 => (first | (refine Or.inr ⟨by rfl, ?_⟩; rfl) | (refine Or.inl ⟨by rfl, ?_⟩; (intro w hSw; (try dsimp only at hSw); go_simp); try with_reducible rfl))
          case hSx11x0 => assumption
          try simp only [Act.put, List.setIfInBounds_toArray, List.set_cons_zero, List.set_cons_succ]
          refine' wpAnyH_take (i := 1) ?hix11x1 ?hsx11x1 ?hfx11x1 ?hrx11x1 ?hQx11x1 ?hyx11x1 ?hSx11x1 ?hx11x1
          case hix11x1 => (simp only [List.getElem?_toArray, List.getElem?_cons_succ, List.getElem?_cons_zero]; exact rfl)
          case hsx11x1 | hfx11x1 | hrx11x1 => kernel_rfl
          case hQx11x1 => exact fun _ _ _ h => h
          case hyx11x1 => (first | (refine Or.inr ⟨by rfl, ?_⟩; rfl) | (refine Or.inl ⟨by rfl, ?_⟩; (intro w hSw; (try dsimp only at hSw); go_simp); try with_reducible rfl))
          case hSx11x1 => assumption
          try simp only [Act.put, List.setIfInBounds_toArray, List.set_cons_zero, List.set_cons_succ]
          refine' wpAnyH_take (i := 2) ?hix11x2 ?hsx11x2 ?hfx11x2 ?hrx11x2 ?hQx11x2 ?hyx11x2 ?hSx11x2 ?hx11x2
          case hix11x2 => (simp only [List.getElem?_toArray, List.getElem?_cons_succ, List.getElem?_cons_zero]; exact rfl)
          case hsx11x2 | hfx11x2 | hrx11x2 => kernel_rfl
          case hQx11x2 => exact fun _ _ _ h => h
          case hyx11x2 => (first | (refine Or.inr ⟨by rfl, ?_⟩; rfl) | (refine Or.inl ⟨by rfl, ?_⟩; (intro w hSw; (try dsimp only at hSw); go_simp); try with_reducible rfl))
          case hSx11x2 => assumption
          try simp only [Act.put, List.setIfInBounds_toArray, List.set_cons_zero, List.set_cons_succ]
          refine' wpAnyH_take (i := 3) ?hix11x3 ?hsx11x3 ?hfx11x3 ?hrx11x3 ?hQx11x3 ?hyx11x3 ?hSx11x3 ?hx11x3
          case hix11x3 => (simp only [List.getElem?_toArray, List.getElem?_cons_succ, List.getElem?_cons_zero]; exact rfl)
          case hsx11x3 | hfx11x3 | hrx11x3 => kernel_rfl
          case hQx11x3 => exact fun _ _ _ h => h
          case hyx11x3 => (first | (refine Or.inr ⟨by rfl, ?_⟩; rfl) | (refine Or.inl ⟨by rfl, ?_⟩; (intro w hSw; (try dsimp only at hSw); go_simp); try with_reducible rfl))
          case hSx11x3 => assumption
          try simp only [Act.put, List.setIfInBounds_toArray, List.set_cons_zero, List.set_cons_succ]
          refine' wpAnyH_take (i := 4) ?hix11x4 ?hsx11x4 ?hfx11x4 ?hrx11x4 ?hQx11x4 ?hyx11x4 ?hSx11x4 ?hx11x4
          case hix11x4 => (simp only [List.getElem?_toArray, List.getElem?_cons_succ, List.getElem?_cons_zero]; exact rfl)
          case hsx11x4 | hfx11x4 | hrx11x4 => kernel_rfl
          case hQx11x4 => exact fun _ _ _ h => h
          case hyx11x4 => (first | (refine Or.inr ⟨by rfl, ?_⟩; rfl) | (refine Or.inl ⟨by rfl, ?_⟩; (intro w hSw; (try dsimp only at hSw); go_simp); try with_reducible rfl))
          case hSx11x4 => assumption
          try simp only [Act.put, List.setIfInBounds_toArray, List.set_cons_zero, List.set_cons_succ]
          refine' wpAnyH_take (i := 5) ?hix11x5 ?hsx11x5 ?hfx11x5 ?hrx11x5 ?hQx11x5 ?hyx11x5 ?hSx11x5 ?hx11x5
          case hix11x5 => (simp only [List.getElem?_toArray, List.getElem?_cons_succ, List.getElem?_cons_zero]; exact rfl)
          case hsx11x5 | hfx11x5 | hrx11x5 => kernel_rfl
          case hQx11x5 => exact fun _ _ _ h => h
          case hyx11x5 => (first | (refine Or.inr ⟨by rfl, ?_⟩; rfl) | (refine Or.inl ⟨by rfl, ?_⟩; (intro w hSw; (try dsimp only at hSw); go_simp); try with_reducible rfl))
          case hSx11x5 => assumption
          try simp only [Act.put, List.setIfInBounds_toArray, List.set_cons_zero, List.set_cons_succ]
          refine' wpAnyH_take (i := 6) ?hix11x6 ?hsx11x6 ?hfx11x6 ?hrx11x6 ?hQx11x6 ?hyx11x6 ?hSx11x6 ?hx11x6
          case hix11x6 => (simp only [List.getElem?_toArray, List.getElem?_cons_succ, List.getElem?_cons_zero]; exact rfl)
          case hsx11x6 | hfx11x6 | hrx11x6 => kernel_rfl
          case hQx11x6 => exact fun _ _ _ h => h
          case hyx11x6 => (first | (refine Or.inr ⟨by rfl, ?_⟩; rfl) | (refine Or.inl ⟨by rfl, ?_⟩; (intro w hSw; (try dsimp only at hSw); go_simp); try with_reducible rfl))
          case hSx11x6 => assumption
          try simp only [Act.put, List.setIfInBounds_toArray, List.set_cons_zero, List.set_cons_succ]
          refine' wpAnyH_take (i := 7) ?hix11x7 ?hsx11x7 ?hfx11x7 ?hrx11x7 ?hQx11x7 ?hyx11x7 ?hSx11x7 ?hx11x7
          case hix11x7 => (simp only [List.getElem?_toArray, List.getElem?_cons_succ, List.getElem?_cons_zero]; exact rfl)
          case hsx11x7 | hfx11x7 | hrx11x7 => kernel_rfl
          case hQx11x7 => exact fun _ _ _ h => h
          case hyx11x7 => (first | (refine Or.inr ⟨by rfl, ?_⟩; rfl) | (refine Or.inl ⟨by rfl, ?_⟩; (intro w hSw; (try dsimp only at hSw); go_simp); try with_reducible rfl))
          case hSx11x7 => assumption
          try simp only [Act.put, List.setIfInBounds_toArray, List.set_cons_zero, List.set_cons_succ]
          refine' wpAnyH_take (i := 8) ?hix11x8 ?hsx11x8 ?hfx11x8 ?hrx11x8 ?hQx11x8 ?hyx11x8 ?hSx11x8 ?hx11x8
          case hix11x8 => (simp only [List.getElem?_toArray, List.getElem?_cons_succ, List.getElem?_cons_zero]; exact rfl)
          case hsx11x8 | hfx11x8 | hrx11x8 => kernel_rfl
          case hQx11x8 => exact fun _ _ _ h => h
          case hyx11x8 => (first | (refine Or.inr ⟨by rfl, ?_⟩; rfl) | (refine Or.inl ⟨by rfl, ?_⟩; (intro w hSw; (try dsimp only at hSw); go_simp); try with_reducible rfl))
          case hSx11x8 => assumption
          try simp only [Act.put, List.setIfInBounds_toArray, List.set_cons_zero, List.set_cons_succ]
          refine wpAnyH_ready (rs := [9, 13]) (by kernel_rfl) (by simp) ?_
          refine' AllReadyH.cons ?hiAx11x (fun K hK => ?hAx11x) (AllReadyH.cons ?hiBx11x (fun K hK => ?hBx11x) AllReadyH.nil)
          case hiAx11x => (simp only [List.getElem?_toArray, List.getElem?_cons_succ, List.getElem?_cons_zero]; exact rfl)
          case hiBx11x => (simp only [List.getElem?_toArray, List.getElem?_cons_succ, List.getElem?_cons_zero]; exact rfl)
          case hAx11x =>
            go_simp
            have hbd : Below w4.heap.size w4 w4.drew := below_drewN (Below.refl _ _) 1
            have HT5 := Lib.hid (HT4.out.below hbd)
            have HM5 := Lib.hid (HM4.out.kept (HT4.out.keptS hbd))
            clear hbd
            go_at_call 19
            (with_reducible refine (PutIn_some (HM5.out.row.r1 HT5.out.sLt) (HM5.out.row.v1 HT5.out.sLt) HLEN.out HWX.out HWU.out).mono ?_)
            rintro e w6 ⟨⟨B, k1, f1, B', k2, f2, bb, rfl⟩, hb6⟩
            have HB6 := Lib.hid hb6
            have HT6 := Lib.hid (HT5.out.below hb6)
            have HM6 := Lib.hid (HM5.out.kept (HT5.out.keptS hb6))
            clear d0 d1 d2 z0 z1 z2 z3
            have d0 := (HT6.out.bel.cell (p := ⟨b, o + k * 2, none⟩) hb).trans E0.out
            have d1 := (HT6.out.bel.cell (p := ⟨b, o + k * 2 + 1, none⟩) hb).trans E1.out
            have d2 := (HT6.out.bel.cell (p := ⟨b', o' + k, none⟩) hb').trans E2.out
            obtain ⟨z0, z1, z2, z3⟩ := row2 HM6.out.blk
            have p1 := Nat.lt_of_lt_of_le hb HT6.out.bel.size
            have p2 := Nat.lt_of_lt_of_le hb' HT6.out.bel.size
            have p3 : M < w6.heap.size := HT6.out.sLt M HM6.out.inS
            have p4 : ¬ b = w6.heap.size := by omega
            have p5 : ¬ b' = w6.heap.size := by omega
            have p6 : ¬ M = w6.heap.size := by omega
            have p7 : ¬ w6.heap.size = b := by omega
            have p8 : ¬ w6.heap.size = b' := by omega
            have p9 : ¬ w6.heap.size = M := by omega
            clear hb6
            refine hK.out _ _ (by go_keep) (fun hHeld => ?_)
            clear hK K
            refine' wpAnyH_take (i := 10) ?hix11xA10 ?hsx11xA10 ?hfx11xA10 ?hrx11xA10 ?hQx11xA10 ?hyx11xA10 ?hSx11xA10 ?hx11xA10
            case hix11xA10 => (simp only [List.getElem?_toArray, List.getElem?_cons_succ, List.getElem?_cons_zero]; exact rfl)
            case hsx11xA10 | hfx11xA10 | hrx11xA10 => kernel_rfl
            case hQx11xA10 => exact fun _ _ _ h => h
            case hyx11xA10 => (first | (refine Or.inr ⟨by rfl, ?_⟩; rfl) | (refine Or.inl ⟨by rfl, ?_⟩; (intro w hSw; (try dsimp only at hSw); go_simp); try with_reducible rfl))
            case hSx11xA10 => assumption
            try simp only [Act.put, List.setIfInBounds_toArray, List.set_cons_zero, List.set_cons_succ]
            refine' wpAnyH_take (i := 11) ?hix11xA11 ?hsx11xA11 ?hfx11xA11 ?hrx11xA11 ?hQx11xA11 ?hyx11xA11 ?hSx11xA11 ?hx11xA11
            case hix11xA11 => (simp only [List.getElem?_toArray, List.getElem?_cons_succ, List.getElem?_cons_zero]; exact rfl)
            case hsx11xA11 | hfx11xA11 | hrx11xA11 => kernel_rfl
            case hQx11xA11 => exact fun _ _ _ h => h
            case hyx11xA11 => (first | (refine Or.inr ⟨by rfl, ?_⟩; rfl) | (refine Or.inl ⟨by rfl, ?_⟩; (intro w hSw; (try dsimp only at hSw); go_simp); try with_reducible rfl))
            case hSx11xA11 => assumption
            try simp only [Act.put, List.setIfInBounds_toArray, List.set_cons_zero, List.set_cons_succ]
            refine' wpAnyH_take (i := 12) ?hix11xA12 ?hsx11xA12 ?hfx11xA12 ?hrx11xA12 ?hQx11xA12 ?hyx11xA12 ?hSx11xA12 ?hx11xA12
            case hix11xA12 => (simp only [List.getElem?_toArray, List.getElem?_cons_succ, List.getElem?_cons_zero]; exact rfl)
            case hsx11xA12 | hfx11xA12 | hrx11xA12 => kernel_rfl
            case hQx11xA12 => exact fun _ _ _ h => h
            case hyx11xA12 => (first | (refine Or.inr ⟨by rfl, ?_⟩; rfl) | (refine Or.inl ⟨by rfl, ?_⟩; (intro w hSw; (try dsimp only at hSw); go_simp); try with_reducible rfl))
            case hSx11xA12 => assumption
            try simp only [Act.put, List.setIfInBounds_toArray, List.set_cons_zero, List.set_cons_succ]
            refine wpAnyH_ready (rs := [13]) (by kernel_rfl) (by simp) ?_
            refine' AllReadyH.cons ?hix11xA13 (fun K hK => ?hx11xA13) AllReadyH.nil
            case hix11xA13 => (simp only [List.getElem?_toArray, List.getElem?_cons_succ, List.getElem?_cons_zero]; exact rfl)
            go_simp
            refine hK.out _ _ (by go_keep) (fun hHeld => ?_)
            clear hK K
            refine wpAnyH_ready (rs := [14]) (by kernel_rfl) (by simp) ?_
            refine' AllReadyH.cons ?hix11xA14 (fun K hK => ?hx11xA14) AllReadyH.nil
            case hix11xA14 => (simp only [List.getElem?_toArray, List.getElem?_cons_succ, List.getElem?_cons_zero]; exact rfl)
            go_simp
            refine hK.out _ _ (by go_keep) (fun hHeld => ?_)
            clear hK K
            refine' wpAnyH_take (i := 15) ?hix11xA15 ?hsx11xA15 ?hfx11xA15 ?hrx11xA15 ?hQx11xA15 ?hyx11xA15 ?hSx11xA15 ?hx11xA15
            case hix11xA15 => (simp only [List.getElem?_toArray, List.getElem?_cons_succ, List.getElem?_cons_zero]; exact rfl)
            case hsx11xA15 | hfx11xA15 | hrx11xA15 => kernel_rfl
            case hQx11xA15 => exact fun _ _ _ h => h
            case hyx11xA15 => (first | (refine Or.inr ⟨by rfl, ?_⟩; rfl) | (refine Or.inl ⟨by rfl, ?_⟩; (intro w hSw; (try dsimp only at hSw); go_simp); try with_reducible rfl))
            case hSx11xA15 => assumption
            try simp only [Act.put, List.setIfInBounds_toArray, List.set_cons_zero, List.set_cons_succ]
            refine wpAnyH_done (by kernel_rfl) ?_ _
            refine NoPanic.normal ?_
            clear hHeld
            clear d0 d1 d2 z0 z1 z2 z3 p1 p2 p3 p4 p5 p6 p7 p8 p9
            have hb7 := below_1 w6 (tabO B k1 f1 B' k2 f2)
            have HT7 := Lib.hid (HT6.out.below hb7)
            have HM7 := Lib.hid (HM6.out.kept (HT6.out.keptS hb7))
            generalize hwn : w6.alloc (tabO B k1 f1 B' k2 f2) = w7 at *
            clear hb7 hwn HT5 HM5 HT6 HM6 HB6
            obtain ⟨P, hPP⟩ : ∃ P, w6.heap.size = P := ⟨_, rfl⟩
            rw [hPP]
            clear hPP
            have d0 := (HT7.out.bel.cell (p := ⟨b, o + k * 2, none⟩) hb).trans E0.out
            have d1 := (HT7.out.bel.cell (p := ⟨b, o + k * 2 + 1, none⟩) hb).trans E1.out
            have d2 := (HT7.out.bel.cell (p := ⟨b', o' + k, none⟩) hb').trans E2.out
            obtain ⟨z0, z1, z2, z3⟩ := row2 HM7.out.blk
            have HPE := Lib.hid (put_bad (m := m) (v := u) (x := (p, q)) (by rw [HF.out]; decide))
            rw [HF.out] at HPE
            clear d0 d1 d2 z0 z1 z2 z3
            have d0 := (HT7.out.bel.cell (p := ⟨b, o + k * 2, none⟩) hb).trans E0.out
            have d1 := (HT7.out.bel.cell (p := ⟨b, o + k * 2 + 1, none⟩) hb).trans E1.out
            have d2 := (HT7.out.bel.cell (p := ⟨b', o' + k, none⟩) hb').trans E2.out
            obtain ⟨z0, z1, z2, z3⟩ := row2 HM7.out.blk
            go_wp2
            have HT8 := Lib.hid (HT7.out.below (show Below w7.heap.size w7 w7.drew from below_drewN (Below.refl _ _) 1))
            have HM8 := Lib.hid (HM7.out.kept (HT7.out.keptS (show Below w7.heap.size w7 w7.drew from below_drewN (Below.refl _ _) 1)))
            refine wp_region_noPanic ?_
            refine wp_region_held_drew (S := (fun w' => w'.cell? ⟨b, o + k * 2, none⟩ = some (.int .u32 p) ∧ w'.cell? ⟨b, o + k * 2 + 1, none⟩ = some (.int .i64 q) ∧ w'.cell? ⟨b', o' + k, none⟩ = some (.int .i64 u))) (by kernel_rfl) (by go_keep) (fun hHeld => ?_)
            refine' wpAnyH_take (i := 0) ?hix12x0 ?hsx12x0 ?hfx12x0 ?hrx12x0 ?hQx12x0 ?hyx12x0 ?hSx12x0 ?hx12x0
            case hix12x0 => (simp only [List.getElem?_toArray, List.getElem?_cons_succ, List.getElem?_cons_zero]; exact rfl)
            case hsx12x0 | hfx12x0 | hrx12x0 => kernel_rfl
            case hQx12x0 => exact fun _ _ _ h => h
            case hyx12x0 => (first | (refine Or.inr ⟨by rfl, ?_⟩; rfl) | (refine Or.inl ⟨by rfl, ?_⟩; (intro w hSw; (try dsimp only at hSw); go_simp); try with_reducible rfl))
            case hSx12x0 => assumption
            try simp only [Act.put, List.setIfInBounds_toArray, List.set_cons_zero, List.set_cons_succ]
            refine' wpAnyH_take (i := 1) ?hix12x1 ?hsx12x1 ?hfx12x1 ?hrx12x1 ?hQx12x1 ?hyx12x1 ?hSx12x1 ?hx12x1
            case hix12x1 => (simp only [List.getElem?_toArray, List.getElem?_cons_succ, List.getElem?_cons_zero]; exact rfl)
            case hsx12x1 | hfx12x1 | hrx12x1 => kernel_rfl
            case hQx12x1 => exact fun _ _ _ h => h
            case hyx12x1 => (first | (refine Or.inr ⟨by rfl, ?_⟩; rfl) | (refine Or.inl ⟨by rfl, ?_⟩; (intro w hSw; (try dsimp only at hSw); go_simp); try with_reducible rfl))
            case hSx12x1 => assumption
            try simp only [Act.put, List.setIfInBounds_toArray, List.set_cons_zero, List.set_cons_succ]
            refine' wpAnyH_take (i := 2) ?hix12x2 ?hsx12x2 ?hfx12x2 ?hrx12x2 ?hQx12x2 ?hyx12x2 ?hSx12x2 ?hx12x2
            case hix12x2 => (simp only [List.getElem?_toArray, List.getElem?_cons_succ, List.getElem?_cons_zero]; exact rfl)
            case hsx12x2 | hfx12x2 | hrx12x2 => kernel_rfl
            case hQx12x2 => exact fun _ _ _ h => h
            case hyx12x2 => (first | (refine Or.inr ⟨by rfl, ?_⟩; rfl) | (refine Or.inl ⟨by rfl, ?_⟩; (intro w hSw; (try dsimp only at hSw); go_simp); try with_reducible rfl))
            case hSx12x2 => assumption
            try simp only [Act.put, List.setIfInBounds_toArray, List.set_cons_zero, List.set_cons_succ]
            refine' wpAnyH_take (i := 3) ?hix12x3 ?hsx12x3 ?hfx12x3 ?hrx12x3 ?hQx12x3 ?hyx12x3 ?hSx12x3 ?hx12x3
            case hix12x3 => (simp only [List.getElem?_toArray, List.getElem?_cons_succ, List.getElem?_cons_zero]; exact rfl)
            case hsx12x3 | hfx12x3 | hrx12x3 => kernel_rfl
            case hQx12x3 => exact fun _ _ _ h => h
            case hyx12x3 => (first | (refine Or.inr ⟨by rfl, ?_⟩; rfl) | (refine Or.inl ⟨by rfl, ?_⟩; (intro w hSw; (try dsimp only at hSw); go_simp); try with_reducible rfl))
            case hSx12x3 => assumption
            try simp only [Act.put, List.setIfInBounds_toArray, List.set_cons_zero, List.set_cons_succ]
            refine' wpAnyH_take (i := 4) ?hix12x4 ?hsx12x4 ?hfx12x4 ?hrx12x4 ?hQx12x4 ?hyx12x4 ?hSx12x4 ?hx12x4
            case hix12x4 => (simp only [List.getElem?_toArray, List.getElem?_cons_succ, List.getElem?_cons_zero]; exact rfl)
            case hsx12x4 | hfx12x4 | hrx12x4 => kernel_rfl
            case hQx12x4 => exact fun _ _ _ h => h
            case hyx12x4 => (first | (refine Or.inr ⟨by rfl, ?_⟩; rfl) | (refine Or.inl ⟨by rfl, ?_⟩; (intro w hSw; (try dsimp only at hSw); go_simp); try with_reducible rfl))
            case hSx12x4 => assumption
            try simp only [Act.put, List.setIfInBounds_toArray, List.set_cons_zero, List.set_cons_succ]
            refine' wpAnyH_take (i := 5) ?hix12x5 ?hsx12x5 ?hfx12x5 ?hrx12x5 ?hQx12x5 ?hyx12x5 ?hSx12x5 ?hx12x5
            case hix12x5 => (simp only [List.getElem?_toArray, List.getElem?_cons_succ, List.getElem?_cons_zero]; exact rfl)
            case hsx12x5 | hfx12x5 | hrx12x5 => kernel_rfl
            case hQx12x5 => exact fun _ _ _ h => h
            case hyx12x5 => (first | (refine Or.inr ⟨by rfl, ?_⟩; rfl) | (refine Or.inl ⟨by rfl, ?_⟩; (intro w hSw; (try dsimp only at hSw); go_simp); try with_reducible rfl))
            case hSx12x5 => assumption
            try simp only [Act.put, List.setIfInBounds_toArray, List.set_cons_zero, List.set_cons_succ]
            refine' wpAnyH_take (i := 6) ?hix12x6 ?hsx12x6 ?hfx12x6 ?hrx12x6 ?hQx12x6 ?hyx12x6 ?hSx12x6 ?hx12x6
            case hix12x6 => (simp only [List.getElem?_toArray, List.getElem?_cons_succ, List.getElem?_cons_zero]; exact rfl)
            case hsx12x6 | hfx12x6 | hrx12x6 => kernel_rfl
            case hQx12x6 => exact fun _ _ _ h => h
            case hyx12x6 => (first | (refine Or.inr ⟨by rfl, ?_⟩; rfl) | (refine Or.inl ⟨by rfl, ?_⟩; (intro w hSw; (try dsimp only at hSw); go_simp); try with_reducible rfl))
            case hSx12x6 => assumption
            try simp only [Act.put, List.setIfInBounds_toArray, List.set_cons_zero, List.set_cons_succ]
            refine' wpAnyH_take (i := 7) ?hix12x7 ?hsx12x7 ?hfx12x7 ?hrx12x7 ?hQx12x7 ?hyx12x7 ?hSx12x7 ?hx12x7
            case hix12x7 => (simp only [List.getElem?_toArray, List.getElem?_cons_succ, List.getElem?_cons_zero]; exact rfl)
            case hsx12x7 | hfx12x7 | hrx12x7 => kernel_rfl
            case hQx12x7 => exact fun _ _ _ h => h
            case hyx12x7 => (first | (refine Or.inr ⟨by rfl, ?_⟩; rfl) | (refine Or.inl ⟨by rfl, ?_⟩; (intro w hSw; (try dsimp only at hSw); go_simp); try with_reducible rfl))
            case hSx12x7 => assumption
            try simp only [Act.put, List.setIfInBounds_toArray, List.set_cons_zero, List.set_cons_succ]
            refine' wpAnyH_take (i := 8) ?hix12x8 ?hsx12x8 ?hfx12x8 ?hrx12x8 ?hQx12x8 ?hyx12x8 ?hSx12x8 ?hx12x8
            case hix12x8 => (simp only [List.getElem?_toArray, List.getElem?_cons_succ, List.getElem?_cons_zero]; exact rfl)
            case hsx12x8 | hfx12x8 | hrx12x8 => kernel_rfl
            case hQx12x8 => exact fun _ _ _ h => h
            case hyx12x8 => (first | (refine Or.inr ⟨by rfl, ?_⟩; rfl) | (refine Or.inl ⟨by rfl, ?_⟩; (intro w hSw; (try dsimp only at hSw); go_simp); try with_reducible rfl))
            case hSx12x8 => assumption
            try simp only [Act.put, List.setIfInBounds_toArray, List.set_cons_zero, List.set_cons_succ]
            refine' wpAnyH_take (i := 10) ?hix12x10 ?hsx12x10 ?hfx12x10 ?hrx12x10 ?hQx12x10 ?hyx12x10 ?hSx12x10 ?hx12x10
            case hix12x10 => (simp only [List.getElem?_toArray, List.getElem?_cons_succ, List.getElem?_cons_zero]; exact rfl)
            case hsx12x10 | hfx12x10 | hrx12x10 => kernel_rfl
            case hQx12x10 => exact fun _ _ _ h => h
            case hyx12x10 => (first | (refine Or.inr ⟨by rfl, ?_⟩; rfl) | (refine Or.inl ⟨by rfl, ?_⟩; (intro w hSw; (try dsimp only at hSw); go_simp); try with_reducible rfl))
            case hSx12x10 => assumption
            try simp only [Act.put, List.setIfInBounds_toArray, List.set_cons_zero, List.set_cons_succ]
            refine wpAnyH_ready (rs := [9]) (by kernel_rfl) (by simp) ?_
            refine' AllReadyH.cons ?hix12x9 (fun K hK => ?hx12x9) AllReadyH.nil
            case hix12x9 => (simp only [List.getElem?_toArray, List.getElem?_cons_succ, List.getElem?_cons_zero]; exact rfl)
            go_simp
            go_at_call 10
            (with_reducible refine (Put_t HT8.out HIx.out HWU.out).mono ?_)
            rw [HPE.out.1, HPE.out.2, errV_ne (k := 1) (by decide)]
            rintro e w9 ⟨rfl, hT9, hk9, -⟩
            have HT9 := Lib.hid hT9
            have HM9 := Lib.hid (HM8.out.kept hk9)
            clear hT9 hk9 d0 d1 d2
            have d0 := (HT9.out.bel.cell (p := ⟨b, o + k * 2, none⟩) hb).trans E0.out
            have d1 := (HT9.out.bel.cell (p := ⟨b, o + k * 2 + 1, none⟩) hb).trans E1.out
            have d2 := (HT9.out.bel.cell (p := ⟨b', o' + k, none⟩) hb').trans E2.out
            have HGW := Lib.hid (HG.out.below HT9.out.bel)
            refine hK.out _ _ (by go_keep) (fun hHeld => ?_)
            clear hK K
            refine wpAnyH_ready (rs := [11]) (by kernel_rfl) (by simp) ?_
            refine' AllReadyH.cons ?hix12x11 (fun K hK => ?hx12x11) AllReadyH.nil
            case hix12x11 => (simp only [List.getElem?_toArray, List.getElem?_cons_succ, List.getElem?_cons_zero]; exact rfl)
            go_simp
            go_at_call 18
            (with_reducible refine (error_is (errV_ne (k := 1) (by decide)) (show ((1 : Int) == 1) = true from rfl) _ HGW.out).mono ?_)
            rintro e w10 ⟨rfl, hb10⟩
            clear HGW
            have HM10 := Lib.hid (HM9.out.kept (HT9.out.keptS hb10))
            have HT10 := Lib.hid (HT9.out.below hb10)
            clear hb10 d0 d1 d2
            have d0 := (HT10.out.bel.cell (p := ⟨b, o + k * 2, none⟩) hb).trans E0.out
            have d1 := (HT10.out.bel.cell (p := ⟨b, o + k * 2 + 1, none⟩) hb).trans E1.out
            have d2 := (HT10.out.bel.cell (p := ⟨b', o' + k, none⟩) hb').trans E2.out
            refine hK.out _ _ (by go_keep) (fun hHeld => ?_)
            clear hK K
            refine' wpAnyH_take (i := 12) ?hix12x12 ?hsx12x12 ?hfx12x12 ?hrx12x12 ?hQx12x12 ?hyx12x12 ?hSx12x12 ?hx12x12
            case hix12x12 => (simp only [List.getElem?_toArray, List.getElem?_cons_succ, List.getElem?_cons_zero]; exact rfl)
            case hsx12x12 | hfx12x12 | hrx12x12 => kernel_rfl
            case hQx12x12 => exact fun _ _ _ h => h
            case hyx12x12 => (first | (refine Or.inr ⟨by rfl, ?_⟩; rfl) | (refine Or.inl ⟨by rfl, ?_⟩; (intro w hSw; (try dsimp only at hSw); go_simp); try with_reducible rfl))
            case hSx12x12 => assumption
            try simp only [Act.put, List.setIfInBounds_toArray, List.set_cons_zero, List.set_cons_succ]
            refine wpAnyH_done (by kernel_rfl) ?_ _
            refine NoPanic.normal ?_
            clear hHeld
            clear d0 d1 d2
            have d0 := (HT10.out.bel.cell (p := ⟨b, o + k * 2, none⟩) hb).trans E0.out
            have d1 := (HT10.out.bel.cell (p := ⟨b, o + k * 2 + 1, none⟩) hb).trans E1.out
            have d2 := (HT10.out.bel.cell (p := ⟨b', o' + k, none⟩) hb').trans E2.out
            obtain ⟨z0, z1, z2, z3⟩ := row2 HM10.out.blk
            go_wp2
            clear d0 d1 d2 z0 z1 z2 z3
            go_roundw
            case rel => exact ⟨k + 1, m, _, _, _, _, _, _, _, by omega, by omega, by go_num, HT10.out, HM10.out⟩
            case measure => simp [intOf]; omega
          case hBx11x =>
            go_simp
            have p1 := Nat.lt_of_lt_of_le hb HT4.out.bel.size
            have p2 := Nat.lt_of_lt_of_le hb' HT4.out.bel.size
            have p3 : M < w4.heap.size := HT4.out.sLt M HM4.out.inS
            have p4 : ¬ b = w4.heap.size := by omega
            have p5 : ¬ b' = w4.heap.size := by omega
            have p6 : ¬ M = w4.heap.size := by omega
            have p7 : ¬ w4.heap.size = b := by omega
            have p8 : ¬ w4.heap.size = b' := by omega
            have p9 : ¬ w4.heap.size = M := by omega
            refine hK.out _ _ (by go_keep) (fun hHeld => ?_)
            clear hK K d0 d1 d2 z0 z1 z2 z3
            have hba : Below w4.heap.size w4 (w4.alloc (tabO none 0 0 none 0 0)).drew := below_drewN (below_1 w4 _) 1
            have hPa : (w4.alloc (tabO none 0 0 none 0 0)).drew.heap[w4.heap.size]? = some (tabO none 0 0 none 0 0) := heap_alloc_new w4 _
            have HT5 := Lib.hid (HT4.out.below hba)
            have HM5 := Lib.hid (HM4.out.kept (HT4.out.keptS hba))
            have HBA := Lib.hid hba
            have HPA := Lib.hid hPa
            clear hba hPa
            generalize (w4.alloc (tabO none 0 0 none 0 0)).drew = wa at *
            refine wpAnyH_ready (rs := [9]) (by kernel_rfl) (by simp) ?_
            refine' AllReadyH.cons ?hiCx11x (fun K hK => ?hCx11x) AllReadyH.nil
            case hiCx11x => (simp only [List.getElem?_toArray, List.getElem?_cons_succ, List.getElem?_cons_zero]; exact rfl)
            go_simp
            go_at_call 19
            (with_reducible refine (PutIn_some (HM5.out.row.r1 HT5.out.sLt) (HM5.out.row.v1 HT5.out.sLt) HLEN.out HWX.out HWU.out).mono ?_)
            rintro e w6 ⟨⟨B, k1, f1, B', k2, f2, bb, rfl⟩, hb6⟩
            have HB6 := Lib.hid hb6
            have HT6 := Lib.hid (HT5.out.below hb6)
            have HM6 := Lib.hid (HM5.out.kept (HT5.out.keptS hb6))
            obtain ⟨t0, t1, t2, t3⟩ := row2 (below_block hb6 (size_of_block HPA.out) HPA.out)
            have d0 := (HT6.out.bel.cell (p := ⟨b, o + k * 2, none⟩) hb).trans E0.out
            have d1 := (HT6.out.bel.cell (p := ⟨b, o + k * 2 + 1, none⟩) hb).trans E1.out
            have d2 := (HT6.out.bel.cell (p := ⟨b', o' + k, none⟩) hb').trans E2.out
            obtain ⟨z0, z1, z2, z3⟩ := row2 HM6.out.blk
            clear hb6
            refine hK.out _ _ (by go_keep) (fun hHeld => ?_)
            clear hK K
            refine' wpAnyH_take (i := 10) ?hix11xB10 ?hsx11xB10 ?hfx11xB10 ?hrx11xB10 ?hQx11xB10 ?hyx11xB10 ?hSx11xB10 ?hx11xB10
            case hix11xB10 => (simp only [List.getElem?_toArray, List.getElem?_cons_succ, List.getElem?_cons_zero]; exact rfl)
            case hsx11xB10 | hfx11xB10 | hrx11xB10 => kernel_rfl
            case hQx11xB10 => exact fun _ _ _ h => h
            case hyx11xB10 => (first | (refine Or.inr ⟨by rfl, ?_⟩; rfl) | (refine Or.inl ⟨by rfl, ?_⟩; (intro w hSw; (try dsimp only at hSw); go_simp); try with_reducible rfl))
            case hSx11xB10 => assumption
            try simp only [Act.put, List.setIfInBounds_toArray, List.set_cons_zero, List.set_cons_succ]
            refine' wpAnyH_take (i := 11) ?hix11xB11 ?hsx11xB11 ?hfx11xB11 ?hrx11xB11 ?hQx11xB11 ?hyx11xB11 ?hSx11xB11 ?hx11xB11
            case hix11xB11 => (simp only [List.getElem?_toArray, List.getElem?_cons_succ, List.getElem?_cons_zero]; exact rfl)
            case hsx11xB11 | hfx11xB11 | hrx11xB11 => kernel_rfl
            case hQx11xB11 => exact fun _ _ _ h => h
            case hyx11xB11 => (first | (refine Or.inr ⟨by rfl, ?_⟩; rfl) | (refine Or.inl ⟨by rfl, ?_⟩; (intro w hSw; (try dsimp only at hSw); go_simp); try with_reducible rfl))
            case hSx11xB11 => assumption
            try simp only [Act.put, List.setIfInBounds_toArray, List.set_cons_zero, List.set_cons_succ]
            refine' wpAnyH_take (i := 12) ?hix11xB12 ?hsx11xB12 ?hfx11xB12 ?hrx11xB12 ?hQx11xB12 ?hyx11xB12 ?hSx11xB12 ?hx11xB12
            case hix11xB12 => (simp only [List.getElem?_toArray, List.getElem?_cons_succ, List.getElem?_cons_zero]; exact rfl)
            case hsx11xB12 | hfx11xB12 | hrx11xB12 => kernel_rfl
            case hQx11xB12 => exact fun _ _ _ h => h
            case hyx11xB12 => (first | (refine Or.inr ⟨by rfl, ?_⟩; rfl) | (refine Or.inl ⟨by rfl, ?_⟩; (intro w hSw; (try dsimp only at hSw); go_simp); try with_reducible rfl))
            case hSx11xB12 => assumption
            try simp only [Act.put, List.setIfInBounds_toArray, List.set_cons_zero, List.set_cons_succ]
            refine wpAnyH_ready (rs := [14]) (by kernel_rfl) (by simp) ?_
            refine' AllReadyH.cons ?hix11xB14 (fun K hK => ?hx11xB14) AllReadyH.nil
            case hix11xB14 => (simp only [List.getElem?_toArray, List.getElem?_cons_succ, List.getElem?_cons_zero]; exact rfl)
            go_simp
            refine hK.out _ _ (by go_keep) (fun hHeld => ?_)
            clear hK K
            refine' wpAnyH_take (i := 15) ?hix11xB15 ?hsx11xB15 ?hfx11xB15 ?hrx11xB15 ?hQx11xB15 ?hyx11xB15 ?hSx11xB15 ?hx11xB15
            case hix11xB15 => (simp only [List.getElem?_toArray, List.getElem?_cons_succ, List.getElem?_cons_zero]; exact rfl)
            case hsx11xB15 | hfx11xB15 | hrx11xB15 => kernel_rfl
            case hQx11xB15 => exact fun _ _ _ h => h
            case hyx11xB15 => (first | (refine Or.inr ⟨by rfl, ?_⟩; rfl) | (refine Or.inl ⟨by rfl, ?_⟩; (intro w hSw; (try dsimp only at hSw); go_simp); try with_reducible rfl))
            case hSx11xB15 => assumption
            try simp only [Act.put, List.setIfInBounds_toArray, List.set_cons_zero, List.set_cons_succ]
            refine wpAnyH_done (by kernel_rfl) ?_ _
            refine NoPanic.normal ?_
            clear hHeld
            clear d0 d1 d2 z0 z1 z2 z3 t0 t1 t2 t3 p1 p2 p3 p4 p5 p6 p7 p8 p9
            have hb7 := laidB HBA.out HB6.out (.slice B k1 f1) (.slice B' k2 f2)
            have HT7 := Lib.hid (HT4.out.below hb7)
            have HM7 := Lib.hid (HM4.out.kept (HT4.out.keptS hb7))
            generalize hwn : (w6.setCell ⟨w4.heap.size, 0, none⟩ (.slice B k1 f1)).setCell ⟨w4.heap.size, 1, none⟩ (.slice B' k2 f2) = w7 at *
            clear hb7 hwn HT5 HM5 HT6 HM6 HB6 HBA HPA
            obtain ⟨P, hPP⟩ : ∃ P, w4.heap.size = P := ⟨_, rfl⟩
            rw [hPP]
            clear hPP
            have d0 := (HT7.out.bel.cell (p := ⟨b, o + k * 2, none⟩) hb).trans E0.out
            have d1 := (HT7.out.bel.cell (p := ⟨b, o + k * 2 + 1, none⟩) hb).trans E1.out
            have d2 := (HT7.out.bel.cell (p := ⟨b', o' + k, none⟩) hb').trans E2.out
            obtain ⟨z0, z1, z2, z3⟩ := row2 HM7.out.blk
            have HPE := Lib.hid (put_bad (m := m) (v := u) (x := (p, q)) (by rw [HF.out]; decide))
            rw [HF.out] at HPE
            clear d0 d1 d2 z0 z1 z2 z3
            have d0 := (HT7.out.bel.cell (p := ⟨b, o + k * 2, none⟩) hb).trans E0.out
            have d1 := (HT7.out.bel.cell (p := ⟨b, o + k * 2 + 1, none⟩) hb).trans E1.out
            have d2 := (HT7.out.bel.cell (p := ⟨b', o' + k, none⟩) hb').trans E2.out
            obtain ⟨z0, z1, z2, z3⟩ := row2 HM7.out.blk
            go_wp2
            have HT8 := Lib.hid (HT7.out.below (show Below w7.heap.size w7 w7.drew from below_drewN (Below.refl _ _) 1))
            have HM8 := Lib.hid (HM7.out.kept (HT7.out.keptS (show Below w7.heap.size w7 w7.drew from below_drewN (Below.refl _ _) 1)))
            refine wp_region_noPanic ?_
            refine wp_region_held_drew (S := (fun w' => w'.cell? ⟨b, o + k * 2, none⟩ = some (.int .u32 p) ∧ w'.cell? ⟨b, o + k * 2 + 1, none⟩ = some (.int .i64 q) ∧ w'.cell? ⟨b', o' + k, none⟩ = some (.int .i64 u))) (by kernel_rfl) (by go_keep) (fun hHeld => ?_)
            refine' wpAnyH_take (i := 0) ?hix13x0 ?hsx13x0 ?hfx13x0 ?hrx13x0 ?hQx13x0 ?hyx13x0 ?hSx13x0 ?hx13x0
            case hix13x0 => (simp only [List.getElem?_toArray, List.getElem?_cons_succ, List.getElem?_cons_zero]; exact rfl)
            case hsx13x0 | hfx13x0 | hrx13x0 => kernel_rfl
            case hQx13x0 => exact fun _ _ _ h => h
            case hyx13x0 => (first | (refine Or.inr ⟨by rfl, ?_⟩; rfl) | (refine Or.inl ⟨by rfl, ?_⟩; (intro w hSw; (try dsimp only at hSw); go_simp); try with_reducible rfl))
            case hSx13x0 => assumption
            try simp only [Act.put, List.setIfInBounds_toArray, List.set_cons_zero, List.set_cons_succ]
            refine' wpAnyH_take (i := 1) ?hix13x1 ?hsx13x1 ?hfx13x1 ?hrx13x1 ?hQx13x1 ?hyx13x1 ?hSx13x1 ?hx13x1
            case hix13x1 => (simp only [List.getElem?_toArray, List.getElem?_cons_succ, List.getElem?_cons_zero]; exact rfl)
            case hsx13x1 | hfx13x1 | hrx13x1 => kernel_rfl
            case hQx13x1 => exact fun _ _ _ h => h
            case hyx13x1 => (first | (refine Or.inr ⟨by rfl, ?_⟩; rfl) | (refine Or.inl ⟨by rfl, ?_⟩; (intro w hSw; (try dsimp only at hSw); go_simp); try with_reducible rfl))
            case hSx13x1 => assumption
            try simp only [Act.put, List.setIfInBounds_toArray, List.set_cons_zero, List.set_cons_succ]
            refine' wpAnyH_take (i := 2) ?hix13x2 ?hsx13x2 ?hfx13x2 ?hrx13x2 ?hQx13x2 ?hyx13x2 ?hSx13x2 ?hx13x2
            case hix13x2 => (simp only [List.getElem?_toArray, List.getElem?_cons_succ, List.getElem?_cons_zero]; exact rfl)
            case hsx13x2 | hfx13x2 | hrx13x2 => kernel_rfl
            case hQx13x2 => exact fun _ _ _ h => h
            case hyx13x2 => (first | (refine Or.inr ⟨by rfl, ?_⟩; rfl) | (refine Or.inl ⟨by rfl, ?_⟩; (intro w hSw; (try dsimp only at hSw); go_simp); try with_reducible rfl))
            case hSx13x2 => assumption
            try simp only [Act.put, List.setIfInBounds_toArray, List.set_cons_zero, List.set_cons_succ]
            refine' wpAnyH_take (i := 3) ?hix13x3 ?hsx13x3 ?hfx13x3 ?hrx13x3 ?hQx13x3 ?hyx13x3 ?hSx13x3 ?hx13x3
            case hix13x3 => (simp only [List.getElem?_toArray, List.getElem?_cons_succ, List.getElem?_cons_zero]; exact rfl)
            case hsx13x3 | hfx13x3 | hrx13x3 => kernel_rfl
            case hQx13x3 => exact fun _ _ _ h => h
            case hyx13x3 => (first | (refine Or.inr ⟨by rfl, ?_⟩; rfl) | (refine Or.inl ⟨by rfl, ?_⟩; (intro w hSw; (try dsimp only at hSw); go_simp); try with_reducible rfl))
            case hSx13x3 => assumption
            try simp only [Act.put, List.setIfInBounds_toArray, List.set_cons_zero, List.set_cons_succ]
            refine' wpAnyH_take (i := 4) ?hix13x4 ?hsx13x4 ?hfx13x4 ?hrx13x4 ?hQx13x4 ?hyx13x4 ?hSx13x4 ?hx13x4
            case hix13x4 => (simp only [List.getElem?_toArray, List.getElem?_cons_succ, List.getElem?_cons_zero]; exact rfl)
            case hsx13x4 | hfx13x4 | hrx13x4 => kernel_rfl
            case hQx13x4 => exact fun _ _ _ h => h
            case hyx13x4 => (first | (refine Or.inr ⟨by rfl, ?_⟩; rfl) | (refine Or.inl ⟨by rfl, ?_⟩; (intro w hSw; (try dsimp only at hSw); go_simp); try with_reducible rfl))
            case hSx13x4 => assumption
            try simp only [Act.put, List.setIfInBounds_toArray, List.set_cons_zero, List.set_cons_succ]
            refine' wpAnyH_take (i := 5) ?hix13x5 ?hsx13x5 ?hfx13x5 ?hrx13x5 ?hQx13x5 ?hyx13x5 ?hSx13x5 ?hx13x5
            case hix13x5 => (simp only [List.getElem?_toArray, List.getElem?_cons_succ, List.getElem?_cons_zero]; exact rfl)
            case hsx13x5 | hfx13x5 | hrx13x5 => kernel_rfl
            case hQx13x5 => exact fun _ _ _ h => h
            case hyx13x5 => (first | (refine Or.inr ⟨by rfl, ?_⟩; rfl) | (refine Or.inl ⟨by rfl, ?_⟩; (intro w hSw; (try dsimp only at hSw); go_simp); try with_reducible rfl))
            case hSx13x5 => assumption
            try simp only [Act.put, List.setIfInBounds_toArray, List.set_cons_zero, List.set_cons_succ]
            refine' wpAnyH_take (i := 6) ?hix13x6 ?hsx13x6 ?hfx13x6 ?hrx13x6 ?hQx13x6 ?hyx13x6 ?hSx13x6 ?hx13x6
            case hix13x6 => (simp only [List.getElem?_toArray, List.getElem?_cons_succ, List.getElem?_cons_zero]; exact rfl)
            case hsx13x6 | hfx13x6 | hrx13x6 => kernel_rfl
            case hQx13x6 => exact fun _ _ _ h => h
            case hyx13x6 => (first | (refine Or.inr ⟨by rfl, ?_⟩; rfl) | (refine Or.inl ⟨by rfl, ?_⟩; (intro w hSw; (try dsimp only at hSw); go_simp); try with_reducible rfl))
            case hSx13x6 => assumption
            try simp only [Act.put, List.setIfInBounds_toArray, List.set_cons_zero, List.set_cons_succ]
            refine' wpAnyH_take (i := 7) ?hix13x7 ?hsx13x7 ?hfx13x7 ?hrx13x7 ?hQx13x7 ?hyx13x7 ?hSx13x7 ?hx13x7
            case hix13x7 => (simp only [List.getElem?_toArray, List.getElem?_cons_succ, List.getElem?_cons_zero]; exact rfl)
            case hsx13x7 | hfx13x7 | hrx13x7 => kernel_rfl
            case hQx13x7 => exact fun _ _ _ h => h
            case hyx13x7 => (first | (refine Or.inr ⟨by rfl, ?_⟩; rfl) | (refine Or.inl ⟨by rfl, ?_⟩; (intro w hSw; (try dsimp only at hSw); go_simp); try with_reducible rfl))
            case hSx13x7 => assumption
            try simp only [Act.put, List.setIfInBounds_toArray, List.set_cons_zero, List.set_cons_succ]
            refine' wpAnyH_take (i := 8) ?hix13x8 ?hsx13x8 ?hfx13x8 ?hrx13x8 ?hQx13x8 ?hyx13x8 ?hSx13x8 ?hx13x8
            case hix13x8 => (simp only [List.getElem?_toArray, List.getElem?_cons_succ, List.getElem?_cons_zero]; exact rfl)
            case hsx13x8 | hfx13x8 | hrx13x8 => kernel_rfl
            case hQx13x8 => exact fun _ _ _ h => h
            case hyx13x8 => (first | (refine Or.inr ⟨by rfl, ?_⟩; rfl) | (refine Or.inl ⟨by rfl, ?_⟩; (intro w hSw; (try dsimp only at hSw); go_simp); try with_reducible rfl))
            case hSx13x8 => assumption
            try simp only [Act.put, List.setIfInBounds_toArray, List.set_cons_zero, List.set_cons_succ]
            refine' wpAnyH_take (i := 10) ?hix13x10 ?hsx13x10 ?hfx13x10 ?hrx13x10 ?hQx13x10 ?hyx13x10 ?hSx13x10 ?hx13x10
            case hix13x10 => (simp only [List.getElem?_toArray, List.getElem?_cons_succ, List.getElem?_cons_zero]; exact rfl)
            case hsx13x10 | hfx13x10 | hrx13x10 => kernel_rfl
            case hQx13x10 => exact fun _ _ _ h => h
            case hyx13x10 => (first | (refine Or.inr ⟨by rfl, ?_⟩; rfl) | (refine Or.inl ⟨by rfl, ?_⟩; (intro w hSw; (try dsimp only at hSw); go_simp); try with_reducible rfl))
            case hSx13x10 => assumption
            try simp only [Act.put, List.setIfInBounds_toArray, List.set_cons_zero, List.set_cons_succ]
            refine wpAnyH_ready (rs := [9]) (by kernel_rfl) (by simp) ?_
            refine' AllReadyH.cons ?hix13x9 (fun K hK => ?hx13x9) AllReadyH.nil
            case hix13x9 => (simp only [List.getElem?_toArray, List.getElem?_cons_succ, List.getElem?_cons_zero]; exact rfl)
            go_simp
            go_at_call 10
            (with_reducible refine (Put_t HT8.out HIx.out HWU.out).mono ?_)
            rw [HPE.out.1, HPE.out.2, errV_ne (k := 1) (by decide)]
            rintro e w9 ⟨rfl, hT9, hk9, -⟩
            have HT9 := Lib.hid hT9
            have HM9 := Lib.hid (HM8.out.kept hk9)
            clear hT9 hk9 d0 d1 d2
            have d0 := (HT9.out.bel.cell (p := ⟨b, o + k * 2, none⟩) hb).trans E0.out
            have d1 := (HT9.out.bel.cell (p := ⟨b, o + k * 2 + 1, none⟩) hb).trans E1.out
            have d2 := (HT9.out.bel.cell (p := ⟨b', o' + k, none⟩) hb').trans E2.out
            have HGW := Lib.hid (HG.out.below HT9.out.bel)
            refine hK.out _ _ (by go_keep) (fun hHeld => ?_)
            clear hK K
            refine wpAnyH_ready (rs := [11]) (by kernel_rfl) (by simp) ?_
            refine' AllReadyH.cons ?hix13x11 (fun K hK => ?hx13x11) AllReadyH.nil
            case hix13x11 => (simp only [List.getElem?_toArray, List.getElem?_cons_succ, List.getElem?_cons_zero]; exact rfl)
            go_simp
            go_at_call 18
            (with_reducible refine (error_is (errV_ne (k := 1) (by decide)) (show ((1 : Int) == 1) = true from rfl) _ HGW.out).mono ?_)
            rintro e w10 ⟨rfl, hb10⟩
            clear HGW
            have HM10 := Lib.hid (HM9.out.kept (HT9.out.keptS hb10))
            have HT10 := Lib.hid (HT9.out.below hb10)
            clear hb10 d0 d1 d2
            have d0 := (HT10.out.bel.cell (p := ⟨b, o + k * 2, none⟩) hb).trans E0.out
            have d1 := (HT10.out.bel.cell (p := ⟨b, o + k * 2 + 1, none⟩) hb).trans E1.out
            have d2 := (HT10.out.bel.cell (p := ⟨b', o' + k, none⟩) hb').trans E2.out
            refine hK.out _ _ (by go_keep) (fun hHeld => ?_)
            clear hK K
            refine' wpAnyH_take (i := 12) ?hix13x12 ?hsx13x12 ?hfx13x12 ?hrx13x12 ?hQx13x12 ?hyx13x12 ?hSx13x12 ?hx13x12
            case hix13x12 => (simp only [List.getElem?_toArray, List.getElem?_cons_succ, List.getElem?_cons_zero]; exact rfl)
            case hsx13x12 | hfx13x12 | hrx13x12 => kernel_rfl
            case hQx13x12 => exact fun _ _ _ h => h
            case hyx13x12 => (first | (refine Or.inr ⟨by rfl, ?_⟩; rfl) | (refine Or.inl ⟨by rfl, ?_⟩; (intro w hSw; (try dsimp only at hSw); go_simp); try with_reducible rfl))
            case hSx13x12 => assumption
            try simp only [Act.put, List.setIfInBounds_toArray, List.set_cons_zero, List.set_cons_succ]
            refine wpAnyH_done (by kernel_rfl) ?_ _
            refine NoPanic.normal ?_
            clear hHeld
            clear d0 d1 d2
            have d0 := (HT10.out.bel.cell (p := ⟨b, o + k * 2, none⟩) hb).trans E0.out
            have d1 := (HT10.out.bel.cell (p := ⟨b, o + k * 2 + 1, none⟩) hb).trans E1.out
            have d2 := (HT10.out.bel.cell (p := ⟨b', o' + k, none⟩) hb').trans E2.out
            obtain ⟨z0, z1, z2, z3⟩ := row2 HM10.out.blk
            go_wp2
            clear d0 d1 d2 z0 z1 z2 z3
            go_roundw
            case rel => exact ⟨k + 1, m, _, _, _, _, _, _, _, by omega, by omega, by go_num, HT10.out, HM10.out⟩
            case measure => simp [intOf]; omega
        · skip
          go_wp2_with fail
          go_at_call 11
          (with_reducible refine (Drop_t HT4.out HIx.out).mono ?_)
          rw [HGE.out.1, HGE.out.2.2, errV_ne (k := 1) (by decide)]
          rintro e w5 ⟨rfl, hT5, hk5, -⟩
          have HT5 := Lib.hid hT5
          have HM5 := Lib.hid (HM4.out.kept hk5)
          clear hT5 hk5 d0 d1 d2 z0 z1 z2 z3
          have d0 := (HT5.out.bel.cell (p := ⟨b, o + k * 2, none⟩) hb).trans E0.out
          have d1 := (HT5.out.bel.cell (p := ⟨b, o + k * 2 + 1, none⟩) hb).trans E1.out
          have d2 := (HT5.out.bel.cell (p := ⟨b', o' + k, none⟩) hb').trans E2.out
          obtain ⟨z0, z1, z2, z3⟩ := row2 HM5.out.blk
          have HGW := Lib.hid (HG.out.below HT5.out.bel)
          go_wp2_with fail
          go_at_call 18
          (with_reducible refine (error_is (errV_ne (k := 1) (by decide)) (show ((1 : Int) == 1) = true from rfl) _ HGW.out).mono ?_)
          rintro e w6 ⟨rfl, hb6⟩
          clear HGW
          have HT6 := Lib.hid (HT5.out.below hb6)
          have HM6 := Lib.hid (HM5.out.kept (HT5.out.keptS hb6))
          clear hb6 d0 d1 d2 z0 z1 z2 z3
          have d0 := (HT6.out.bel.cell (p := ⟨b, o + k * 2, none⟩) hb).trans E0.out
          have d1 := (HT6.out.bel.cell (p := ⟨b, o + k * 2 + 1, none⟩) hb).trans E1.out
          have d2 := (HT6.out.bel.cell (p := ⟨b', o' + k, none⟩) hb').trans E2.out
          obtain ⟨z0, z1, z2, z3⟩ := row2 HM6.out.blk
          go_wp2
          clear d0 d1 d2 z0 z1 z2 z3
          go_roundw
          case rel => exact ⟨k + 1, m, _, _, _, _, _, _, _, by omega, by omega, by go_num, HT6.out, HM6.out⟩
          case measure => simp [intOf]; omega
      · skip
        have HGE := Lib.hid (get_bad (m := m) (x := (p, q)) (by rw [HF.out]; decide))
        rw [HF.out] at HGE
        go_wp2
        have j0 := fun dd os => cell_regrown d0 dd os
        have j1 := fun dd os => cell_regrown d1 dd os
        have j2 := fun dd os => cell_regrown z0 dd os
        have j3 := fun dd os => cell_regrown z1 dd os
        clear d0 d1 d2 z0 z1 z2 z3
        refine wp_region_quiet_below (by kernel_rfl) (by kernel_rfl) ?_
        repeat (go_big_quiet_step (fail))
        refine wpQuiet_nil ?_
        intro w2 hw'
        obtain ⟨⟨dq, osq⟩, hw''⟩ := hw'
        have hb2 := (show Below w1.heap.size w1 w2 by rw [hw'']; exact below_regrown w1 dq osq)
        have HT2 := Lib.hid (HT1.out.below hb2)
        have HM2 := Lib.hid (HM1.out.kept (HT1.out.keptS hb2))
        clear hb2 hw'' j0 j1 j2 j3
        have d0 := (HT2.out.bel.cell (p := ⟨b, o + k * 2, none⟩) hb).trans E0.out
        have d1 := (HT2.out.bel.cell (p := ⟨b, o + k * 2 + 1, none⟩) hb).trans E1.out
        have d2 := (HT2.out.bel.cell (p := ⟨b', o' + k, none⟩) hb').trans E2.out
        obtain ⟨z0, z1, z2, z3⟩ := row2 HM2.out.blk
        go_wp2_with fail
        go_at_call 17
        (with_reducible refine (Get_t HT2.out HIx.out).mono ?_)
        rw [HGE.out.1, HGE.out.2.1, errV_ne (k := 3) (by decide)]
        rintro e w3 ⟨rfl, hb3⟩
        have HT3 := Lib.hid (HT2.out.below hb3)
        have HM3 := Lib.hid (HM2.out.kept (HT2.out.keptS hb3))
        clear hb3 d0 d1 d2 z0 z1 z2 z3
        have d0 := (HT3.out.bel.cell (p := ⟨b, o + k * 2, none⟩) hb).trans E0.out
        have d1 := (HT3.out.bel.cell (p := ⟨b, o + k * 2 + 1, none⟩) hb).trans E1.out
        have d2 := (HT3.out.bel.cell (p := ⟨b', o' + k, none⟩) hb').trans E2.out
        obtain ⟨z0, z1, z2, z3⟩ := row2 HM3.out.blk
        have HGW := Lib.hid (HG.out.below HT3.out.bel)
        go_wp2_with fail
        go_at_call 18
        (with_reducible refine (error_is (errV_ne (k := 3) (by decide)) (show ((3 : Int) == 3) = true from rfl) _ HGW.out).mono ?_)
        rintro e w4 ⟨rfl, hb4⟩
        clear HGW
        have HT4 := Lib.hid (HT3.out.below hb4)
        have HM4 := Lib.hid (HM3.out.kept (HT3.out.keptS hb4))
        clear hb4 d0 d1 d2 z0 z1 z2 z3
        have d0 := (HT4.out.bel.cell (p := ⟨b, o + k * 2, none⟩) hb).trans E0.out
        have d1 := (HT4.out.bel.cell (p := ⟨b, o + k * 2 + 1, none⟩) hb).trans E1.out
        have d2 := (HT4.out.bel.cell (p := ⟨b', o' + k, none⟩) hb').trans E2.out
        obtain ⟨z0, z1, z2, z3⟩ := row2 HM4.out.blk
        by_cases hu : 0 < u
        · skip
          go_wp2
          refine wp_region_noPanic ?_
          refine wp_region_held_drew (S := (fun w' => w'.cell? ⟨b, o + k * 2, none⟩ = some (.int .u32 p) ∧ w'.cell? ⟨b, o + k * 2 + 1, none⟩ = some (.int .i64 q) ∧ w'.cell? ⟨b', o' + k, none⟩ = some (.int .i64 u) ∧ w'.cell? ⟨M, 0, none⟩ = some (.slice A2 n2 c2) ∧ w'.cell? ⟨M, 1, none⟩ = some (.slice A3 n3 c3))) (by kernel_rfl) (by go_keep) (fun hHeld => ?_)
          refine' wpAnyH_take (i := 0) ?hix14x0 ?hsx14x0 ?hfx14x0 ?hrx14x0 ?hQx14x0 ?hyx14x0 ?hSx14x0 ?hx14x0
          case hix14x0 => (simp only [List.getElem?_toArray, List.getElem?_cons_succ, List.getElem?_cons_zero]; exact rfl)
          case hsx14x0 | hfx14x0 | hrx14x0 => kernel_rfl
          case hQx14x0 => exact fun _ _ _ h => h
          case hyx14x0 => (first | (refine Or.inr ⟨by rfl, ?_⟩; rfl) | (refine Or.inl ⟨by rfl, ?_⟩; (intro w hSw; (try dsimp only at hSw); go_simp); try with_reducible rfl))
          case hSx14x0 => assumption
          try simp only [Act.put, List.setIfInBounds_toArray, List.set_cons_zero, List.set_cons_succ]
          refine' wpAnyH_take (i := 1) ?hix14x1 ?hsx14x1 ?hfx14x1 ?hrx14x1 ?hQx14x1 ?hyx14x1 ?hSx14x1 ?hx14x1
          case hix14x1 => (simp only [List.getElem?_toArray, List.getElem?_cons_succ, List.getElem?_cons_zero]; exact rfl)
          case hsx14x1 | hfx14x1 | hrx14x1 => kernel_rfl
          case hQx14x1 => exact fun _ _ _ h => h
          case hyx14x1 => (first | (refine Or.inr ⟨by rfl, ?_⟩; rfl) | (refine Or.inl ⟨by rfl, ?_⟩; (intro w hSw; (try dsimp only at hSw); go_simp); try with_reducible rfl))
          case hSx14x1 => assumption
          try simp only [Act.put, List.setIfInBounds_toArray, List.set_cons_zero, List.set_cons_succ]
          refine' wpAnyH_take (i := 2) ?hix14x2 ?hsx14x2 ?hfx14x2 ?hrx14x2 ?hQx14x2 ?hyx14x2 ?hSx14x2 ?hx14x2
          case hix14x2 => (simp only [List.getElem?_toArray, List.getElem?_cons_succ, List.getElem?_cons_zero]; exact rfl)
          case hsx14x2 | hfx14x2 | hrx14x2 => kernel_rfl
          case hQx14x2 => exact fun _ _ _ h => h
          case hyx14x2 => (first | (refine Or.inr ⟨by rfl, ?_⟩; rfl) | (refine Or.inl ⟨by rfl, ?_⟩; (intro w hSw; (try dsimp only at hSw); go_simp); try with_reducible rfl))
          case hSx14x2 => assumption
          try simp only [Act.put, List.setIfInBounds_toArray, List.set_cons_zero, List.set_cons_succ]
          refine' wpAnyH_take (i := 3) ?hix14x3 ?hsx14x3 ?hfx14x3 ?hrx14x3 ?hQx14x3 ?hyx14x3 ?hSx14x3 ?hx14x3
          case hix14x3 => (simp only [List.getElem?_toArray, List.getElem?_cons_succ, List.getElem?_cons_zero]; exact rfl)
          case hsx14x3 | hfx14x3 | hrx14x3 => kernel_rfl
          case hQx14x3 => exact fun _ _ _ h => h
          case hyx14x3 => (first | (refine Or.inr ⟨by rfl, ?_⟩; rfl) | (refine Or.inl ⟨by rfl, ?_⟩; (intro w hSw; (try dsimp only at hSw); go_simp); try with_reducible rfl))
          case hSx14x3 => assumption
          try simp only [Act.put, List.setIfInBounds_toArray, List.set_cons_zero, List.set_cons_succ]
          refine' wpAnyH_take (i := 4) ?hix14x4 ?hsx14x4 ?hfx14x4 ?hrx14x4 ?hQx14x4 ?hyx14x4 ?hSx14x4 ?hx14x4
          case hix14x4 => (simp only [List.getElem?_toArray, List.getElem?_cons_succ, List.getElem?_cons_zero]; exact rfl)
          case hsx14x4 | hfx14x4 | hrx14x4 => kernel_rfl
          case hQx14x4 => exact fun _ _ _ h => h
          case hyx14x4 => (first | (refine Or.inr ⟨by rfl, ?_⟩; rfl) | (refine Or.inl ⟨by rfl, ?_⟩; (intro w hSw; (try dsimp only at hSw); go_simp); try with_reducible rfl))
          case hSx14x4 => assumption
          try simp only [Act.put, List.setIfInBounds_toArray, List.set_cons_zero, List.set_cons_succ]
          refine' wpAnyH_take (i := 5) ?hix14x5 ?hsx14x5 ?hfx14x5 ?hrx14x5 ?hQx14x5 ?hyx14x5 ?hSx14x5 ?hx14x5
          case hix14x5 => (simp only [List.getElem?_toArray, List.getElem?_cons_succ, List.getElem?_cons_zero]; exact rfl)
          case hsx14x5 | hfx14x5 | hrx14x5 => kernel_rfl
          case hQx14x5 => exact fun _ _ _ h => h
          case hyx14x5 => (first | (refine Or.inr ⟨by rfl, ?_⟩; rfl) | (refine Or.inl ⟨by rfl, ?_⟩; (intro w hSw; (try dsimp only at hSw); go_simp); try with_reducible rfl))
          case hSx14x5 => assumption
          try simp only [Act.put, List.setIfInBounds_toArray, List.set_cons_zero, List.set_cons_succ]
          refine' wpAnyH_take (i := 6) ?hix14x6 ?hsx14x6 ?hfx14x6 ?hrx14x6 ?hQx14x6 ?hyx14x6 ?hSx14x6 ?hx14x6
          case hix14x6 => (simp only [List.getElem?_toArray, List.getElem?_cons_succ, List.getElem?_cons_zero]; exact rfl)
          case hsx14x6 | hfx14x6 | hrx14x6 => kernel_rfl
          case hQx14x6 => exact fun _ _ _ h => h
          case hyx14x6 => (first | (refine Or.inr ⟨by rfl, ?_⟩; rfl) | (refine Or.inl ⟨by rfl, ?_⟩; (intro w hSw; (try dsimp only at hSw); go_simp); try with_reducible rfl))
          case hSx14x6 => assumption
          try simp only [Act.put, List.setIfInBounds_toArray, List.set_cons_zero, List.set_cons_succ]
          refine' wpAnyH_take (i := 7) ?hix14x7 ?hsx14x7 ?hfx14x7 ?hrx14x7 ?hQx14x7 ?hyx14x7 ?hSx14x7 ?hx14x7
          case hix14x7 => (simp only [List.getElem?_toArray, List.getElem?_cons_succ, List.getElem?_cons_zero]; exact rfl)
          case hsx14x7 | hfx14x7 | hrx14x7 => kernel_rfl
          case hQx14x7 => exact fun _ _ _ h => h
          case hyx14x7 => (first | (refine Or.inr ⟨by rfl, ?_⟩; rfl) | (refine Or.inl ⟨by rfl, ?_⟩; (intro w hSw; (try dsimp only at hSw); go_simp); try with_reducible rfl))
          case hSx14x7 => assumption
          try simp only [Act.put, List.setIfInBounds_toArray, List.set_cons_zero, List.set_cons_succ]
          refine' wpAnyH_take (i := 8) ?hix14x8 ?hsx14x8 ?hfx14x8 ?hrx14x8 ?hQx14x8 ?hyx14x8 ?hSx14x8 ?hx14x8
          case hix14x8 => (simp only [List.getElem?_toArray, List.getElem?_cons_succ, List.getElem?_cons_zero]; exact rfl)
          case hsx14x8 | hfx14x8 | hrx14x8 => kernel_rfl
          case hQx14x8 => exact fun _ _ _ h => h
          case hyx14x8 => (first | (refine Or.inr ⟨by rfl, ?_⟩; rfl) | (refine Or.inl ⟨by rfl, ?_⟩; (intro w hSw; (try dsimp only at hSw); go_simp); try with_reducible rfl))
          case hSx14x8 => assumption
          try simp only [Act.put, List.setIfInBounds_toArray, List.set_cons_zero, List.set_cons_succ]
          refine wpAnyH_ready (rs := [9, 13]) (by kernel_rfl) (by simp) ?_
          refine' AllReadyH.cons ?hiAx14x (fun K hK => ?hAx14x) (AllReadyH.cons ?hiBx14x (fun K hK => ?hBx14x) AllReadyH.nil)
          case hiAx14x => (simp only [List.getElem?_toArray, List.getElem?_cons_succ, List.getElem?_cons_zero]; exact rfl)
          case hiBx14x => (simp only [List.getElem?_toArray, List.getElem?_cons_succ, List.getElem?_cons_zero]; exact rfl)
          case hAx14x =>
            go_simp
            have hbd : Below w4.heap.size w4 w4.drew := below_drewN (Below.refl _ _) 1
            have HT5 := Lib.hid (HT4.out.below hbd)
            have HM5 := Lib.hid (HM4.out.kept (HT4.out.keptS hbd))
            clear hbd
            go_at_call 19
            (with_reducible refine (PutIn_some (HM5.out.row.r1 HT5.out.sLt) (HM5.out.row.v1 HT5.out.sLt) HLEN.out HWX.out HWU.out).mono ?_)
            rintro e w6 ⟨⟨B, k1, f1, B', k2, f2, bb, rfl⟩, hb6⟩
            have HB6 := Lib.hid hb6
            have HT6 := Lib.hid (HT5.out.below hb6)
            have HM6 := Lib.hid (HM5.out.kept (HT5.out.keptS hb6))
            clear d0 d1 d2 z0 z1 z2 z3
            have d0 := (HT6.out.bel.cell (p := ⟨b, o + k * 2, none⟩) hb).trans E0.out
            have d1 := (HT6.out.bel.cell (p := ⟨b, o + k * 2 + 1, none⟩) hb).trans E1.out
            have d2 := (HT6.out.bel.cell (p := ⟨b', o' + k, none⟩) hb').trans E2.out
            obtain ⟨z0, z1, z2, z3⟩ := row2 HM6.out.blk
            have p1 := Nat.lt_of_lt_of_le hb HT6.out.bel.size
            have p2 := Nat.lt_of_lt_of_le hb' HT6.out.bel.size
            have p3 : M < w6.heap.size := HT6.out.sLt M HM6.out.inS
            have p4 : ¬ b = w6.heap.size := by omega
            have p5 : ¬ b' = w6.heap.size := by omega
            have p6 : ¬ M = w6.heap.size := by omega
            have p7 : ¬ w6.heap.size = b := by omega
            have p8 : ¬ w6.heap.size = b' := by omega
            have p9 : ¬ w6.heap.size = M := by omega
            clear hb6
            refine hK.out _ _ (by go_keep) (fun hHeld => ?_)
            clear hK K
            refine' wpAnyH_take (i := 10) ?hix14xA10 ?hsx14xA10 ?hfx14xA10 ?hrx14xA10 ?hQx14xA10 ?hyx14xA10 ?hSx14xA10 ?hx14xA10
            case hix14xA10 => (simp only [List.getElem?_toArray, List.getElem?_cons_succ, List.getElem?_cons_zero]; exact rfl)
            case hsx14xA10 | hfx14xA10 | hrx14xA10 => kernel_rfl
            case hQx14xA10 => exact fun _ _ _ h => h
            case hyx14xA10 => (first | (refine Or.inr ⟨by rfl, ?_⟩; rfl) | (refine Or.inl ⟨by rfl, ?_⟩; (intro w hSw; (try dsimp only at hSw); go_simp); try with_reducible rfl))
            case hSx14xA10 => assumption
            try simp only [Act.put, List.setIfInBounds_toArray, List.set_cons_zero, List.set_cons_succ]
            refine' wpAnyH_take (i := 11) ?hix14xA11 ?hsx14xA11 ?hfx14xA11 ?hrx14xA11 ?hQx14xA11 ?hyx14xA11 ?hSx14xA11 ?hx14xA11
            case hix14xA11 => (simp only [List.getElem?_toArray, List.getElem?_cons_succ, List.getElem?_cons_zero]; exact rfl)
            case hsx14xA11 | hfx14xA11 | hrx14xA11 => kernel_rfl
            case hQx14xA11 => exact fun _ _ _ h => h
            case hyx14xA11 => (first | (refine Or.inr ⟨by rfl, ?_⟩; rfl) | (refine Or.inl ⟨by rfl, ?_⟩; (intro w hSw; (try dsimp only at hSw); go_simp); try with_reducible rfl))
            case hSx14xA11 => assumption
            try simp only [Act.put, List.setIfInBounds_toArray, List.set_cons_zero, List.set_cons_succ]
            refine' wpAnyH_take (i := 12) ?hix14xA12 ?hsx14xA12 ?hfx14xA12 ?hrx14xA12 ?hQx14xA12 ?hyx14xA12 ?hSx14xA12 ?hx14xA12
            case hix14xA12 => (simp only [List.getElem?_toArray, List.getElem?_cons_succ, List.getElem?_cons_zero]; exact rfl)
            case hsx14xA12 | hfx14xA12 | hrx14xA12 => kernel_rfl
            case hQx14xA12 => exact fun _ _ _ h => h
            case hyx14xA12 => (first | (refine Or.inr ⟨by rfl, ?_⟩; rfl) | (refine Or.inl ⟨by rfl, ?_⟩; (intro w hSw; (try dsimp only at hSw); go_simp); try with_reducible rfl))
            case hSx14xA12 => assumption
            try simp only [Act.put, List.setIfInBounds_toArray, List.set_cons_zero, List.set_cons_succ]
            refine wpAnyH_ready (rs := [13]) (by kernel_rfl) (by simp) ?_
            refine' AllReadyH.cons ?hix14xA13 (fun K hK => ?hx14xA13) AllReadyH.nil
            case hix14xA13 => (simp only [List.getElem?_toArray, List.getElem?_cons_succ, List.getElem?_cons_zero]; exact rfl)
            go_simp
            refine hK.out _ _ (by go_keep) (fun hHeld => ?_)
            clear hK K
            refine wpAnyH_ready (rs := [14]) (by kernel_rfl) (by simp) ?_
            refine' AllReadyH.cons ?hix14xA14 (fun K hK => ?hx14xA14) AllReadyH.nil
            case hix14xA14 => (simp only [List.getElem?_toArray, List.getElem?_cons_succ, List.getElem?_cons_zero]; exact rfl)
            go_simp
            refine hK.out _ _ (by go_keep) (fun hHeld => ?_)
            clear hK K
            refine' wpAnyH_take (i := 15) ?hix14xA15 ?hsx14xA15 ?hfx14xA15 ?hrx14xA15 ?hQx14xA15 ?hyx14xA15 ?hSx14xA15 ?hx14xA15
            case hix14xA15 => (simp only [List.getElem?_toArray, List.getElem?_cons_succ, List.getElem?_cons_zero]; exact rfl)
            case hsx14xA15 | hfx14xA15 | hrx14xA15 => kernel_rfl
            case hQx14xA15 => exact fun _ _ _ h => h
            case hyx14xA15 => (first | (refine Or.inr ⟨by rfl, ?_⟩; rfl) | (refine Or.inl ⟨by rfl, ?_⟩; (intro w hSw; (try dsimp only at hSw); go_simp); try with_reducible rfl))
            case hSx14xA15 => assumption
            try simp only [Act.put, List.setIfInBounds_toArray, List.set_cons_zero, List.set_cons_succ]
            refine wpAnyH_done (by kernel_rfl) ?_ _
            refine NoPanic.normal ?_
            clear hHeld
            clear d0 d1 d2 z0 z1 z2 z3 p1 p2 p3 p4 p5 p6 p7 p8 p9
            have hb7 := below_1 w6 (tabO B k1 f1 B' k2 f2)
            have HT7 := Lib.hid (HT6.out.below hb7)
            have HM7 := Lib.hid (HM6.out.kept (HT6.out.keptS hb7))
            generalize hwn : w6.alloc (tabO B k1 f1 B' k2 f2) = w7 at *
            clear hb7 hwn HT5 HM5 HT6 HM6 HB6
            obtain ⟨P, hPP⟩ : ∃ P, w6.heap.size = P := ⟨_, rfl⟩
            rw [hPP]
            clear hPP
            have d0 := (HT7.out.bel.cell (p := ⟨b, o + k * 2, none⟩) hb).trans E0.out
            have d1 := (HT7.out.bel.cell (p := ⟨b, o + k * 2 + 1, none⟩) hb).trans E1.out
            have d2 := (HT7.out.bel.cell (p := ⟨b', o' + k, none⟩) hb').trans E2.out
            obtain ⟨z0, z1, z2, z3⟩ := row2 HM7.out.blk
            have HPE := Lib.hid (put_bad (m := m) (v := u) (x := (p, q)) (by rw [HF.out]; decide))
            rw [HF.out] at HPE
            clear d0 d1 d2 z0 z1 z2 z3
            have d0 := (HT7.out.bel.cell (p := ⟨b, o + k * 2, none⟩) hb).trans E0.out
            have d1 := (HT7.out.bel.cell (p := ⟨b, o + k * 2 + 1, none⟩) hb).trans E1.out
            have d2 := (HT7.out.bel.cell (p := ⟨b', o' + k, none⟩) hb').trans E2.out
            obtain ⟨z0, z1, z2, z3⟩ := row2 HM7.out.blk
            go_wp2
            have HT8 := Lib.hid (HT7.out.below (show Below w7.heap.size w7 w7.drew from below_drewN (Below.refl _ _) 1))
            have HM8 := Lib.hid (HM7.out.kept (HT7.out.keptS (show Below w7.heap.size w7 w7.drew from below_drewN (Below.refl _ _) 1)))
            refine wp_region_noPanic ?_
            refine wp_region_held_drew (S := (fun w' => w'.cell? ⟨b, o + k * 2, none⟩ = some (.int .u32 p) ∧ w'.cell? ⟨b, o + k * 2 + 1, none⟩ = some (.int .i64 q) ∧ w'.cell? ⟨b', o' + k, none⟩ = some (.int .i64 u))) (by kernel_rfl) (by go_keep) (fun hHeld => ?_)
            refine' wpAnyH_take (i := 0) ?hix15x0 ?hsx15x0 ?hfx15x0 ?hrx15x0 ?hQx15x0 ?hyx15x0 ?hSx15x0 ?hx15x0
            case hix15x0 => (simp only [List.getElem?_toArray, List.getElem?_cons_succ, List.getElem?_cons_zero]; exact rfl)
            case hsx15x0 | hfx15x0 | hrx15x0 => kernel_rfl
            case hQx15x0 => exact fun _ _ _ h => h
            case hyx15x0 => (first | (refine Or.inr ⟨by rfl, ?_⟩; rfl) | (refine Or.inl ⟨by rfl, ?_⟩; (intro w hSw; (try dsimp only at hSw); go_simp); try with_reducible rfl))
            case hSx15x0 => assumption
            try simp only [Act.put, List.setIfInBounds_toArray, List.set_cons_zero, List.set_cons_succ]
            refine' wpAnyH_take (i := 1) ?hix15x1 ?hsx15x1 ?hfx15x1 ?hrx15x1 ?hQx15x1 ?hyx15x1 ?hSx15x1 ?hx15x1
            case hix15x1 => (simp only [List.getElem?_toArray, List.getElem?_cons_succ, List.getElem?_cons_zero]; exact rfl)
            case hsx15x1 | hfx15x1 | hrx15x1 => kernel_rfl
            case hQx15x1 => exact fun _ _ _ h => h
            case hyx15x1 => (first | (refine Or.inr ⟨by rfl, ?_⟩; rfl) | (refine Or.inl ⟨by rfl, ?_⟩; (intro w hSw; (try dsimp only at hSw); go_simp); try with_reducible rfl))
            case hSx15x1 => assumption
            try simp only [Act.put, List.setIfInBounds_toArray, List.set_cons_zero, List.set_cons_succ]
            refine' wpAnyH_take (i := 2) ?hix15x2 ?hsx15x2 ?hfx15x2 ?hrx15x2 ?hQx15x2 ?hyx15x2 ?hSx15x2 ?hx15x2
            case hix15x2 => (simp only [List.getElem?_toArray, List.getElem?_cons_succ, List.getElem?_cons_zero]; exact rfl)
            case hsx15x2 | hfx15x2 | hrx15x2 => kernel_rfl
            case hQx15x2 => exact fun _ _ _ h => h
            case hyx15x2 => (first | (refine Or.inr ⟨by rfl, ?_⟩; rfl) | (refine Or.inl ⟨by rfl, ?_⟩; (intro w hSw; (try dsimp only at hSw); go_simp); try with_reducible rfl))
            case hSx15x2 => assumption
            try simp only [Act.put, List.setIfInBounds_toArray, List.set_cons_zero, List.set_cons_succ]
            refine' wpAnyH_take (i := 3) ?hix15x3 ?hsx15x3 ?hfx15x3 ?hrx15x3 ?hQx15x3 ?hyx15x3 ?hSx15x3 ?hx15x3
            case hix15x3 => (simp only [List.getElem?_toArray, List.getElem?_cons_succ, List.getElem?_cons_zero]; exact rfl)
            case hsx15x3 | hfx15x3 | hrx15x3 => kernel_rfl
            case hQx15x3 => exact fun _ _ _ h => h
            case hyx15x3 => (first | (refine Or.inr ⟨by rfl, ?_⟩; rfl) | (refine Or.inl ⟨by rfl, ?_⟩; (intro w hSw; (try dsimp only at hSw); go_simp); try with_reducible rfl))
            case hSx15x3 => assumption
            try simp only [Act.put, List.setIfInBounds_toArray, List.set_cons_zero, List.set_cons_succ]
            refine' wpAnyH_take (i := 4) ?hix15x4 ?hsx15x4 ?hfx15x4 ?hrx15x4 ?hQx15x4 ?hyx15x4 ?hSx15x4 ?hx15x4
            case hix15x4 => (simp only [List.getElem?_toArray, List.getElem?_cons_succ, List.getElem?_cons_zero]; exact rfl)
            case hsx15x4 | hfx15x4 | hrx15x4 => kernel_rfl
            case hQx15x4 => exact fun _ _ _ h => h
            case hyx15x4 => (first | (refine Or.inr ⟨by rfl, ?_⟩; rfl) | (refine Or.inl ⟨by rfl, ?_⟩; (intro w hSw; (try dsimp only at hSw); go_simp); try with_reducible rfl))
            case hSx15x4 => assumption
            try simp only [Act.put, List.setIfInBounds_toArray, List.set_cons_zero, List.set_cons_succ]
            refine' wpAnyH_take (i := 5) ?hix15x5 ?hsx15x5 ?hfx15x5 ?hrx15x5 ?hQx15x5 ?hyx15x5 ?hSx15x5 ?hx15x5
            case hix15x5 => (simp only [List.getElem?_toArray, List.getElem?_cons_succ, List.getElem?_cons_zero]; exact rfl)
            case hsx15x5 | hfx15x5 | hrx15x5 => kernel_rfl
            case hQx15x5 => exact fun _ _ _ h => h
            case hyx15x5 => (first | (refine Or.inr ⟨by rfl, ?_⟩; rfl) | (refine Or.inl ⟨by rfl, ?_⟩; (intro w hSw; (try dsimp only at hSw); go_simp); try with_reducible rfl))
            case hSx15x5 => assumption
            try simp only [Act.put, List.setIfInBounds_toArray, List.set_cons_zero, List.set_cons_succ]
            refine' wpAnyH_take (i := 6) ?hix15x6 ?hsx15x6 ?hfx15x6 ?hrx15x6 ?hQx15x6 ?hyx15x6 ?hSx15x6 ?hx15x6
            case hix15x6 => (simp only [List.getElem?_toArray, List.getElem?_cons_succ, List.getElem?_cons_zero]; exact rfl)
            case hsx15x6 | hfx15x6 | hrx15x6 => kernel_rfl
            case hQx15x6 => exact fun _ _ _ h => h
            case hyx15x6 => (first | (refine Or.inr ⟨by rfl, ?_⟩; rfl) | (refine Or.inl ⟨by rfl, ?_⟩; (intro w hSw; (try dsimp only at hSw); go_simp); try with_reducible rfl))
            case hSx15x6 => assumption
            try simp only [Act.put, List.setIfInBounds_toArray, List.set_cons_zero, List.set_cons_succ]
            refine' wpAnyH_take (i := 7) ?hix15x7 ?hsx15x7 ?hfx15x7 ?hrx15x7 ?hQx15x7 ?hyx15x7 ?hSx15x7 ?hx15x7
            case hix15x7 => (simp only [List.getElem?_toArray, List.getElem?_cons_succ, List.getElem?_cons_zero]; exact rfl)
            case hsx15x7 | hfx15x7 | hrx15x7 => kernel_rfl
            case hQx15x7 => exact fun _ _ _ h => h
            case hyx15x7 => (first | (refine Or.inr ⟨by rfl, ?_⟩; rfl) | (refine Or.inl ⟨by rfl, ?_⟩; (intro w hSw; (try dsimp only at hSw); go_simp); try with_reducible rfl))
            case hSx15x7 => assumption
            try simp only [Act.put, List.setIfInBounds_toArray, List.set_cons_zero, List.set_cons_succ]
            refine' wpAnyH_take (i := 8) ?hix15x8 ?hsx15x8 ?hfx15x8 ?hrx15x8 ?hQx15x8 ?hyx15x8 ?hSx15x8 ?hx15x8
            case hix15x8 => (simp only [List.getElem?_toArray, List.getElem?_cons_succ, List.getElem?_cons_zero]; exact rfl)
            case hsx15x8 | hfx15x8 | hrx15x8 => kernel_rfl
            case hQx15x8 => exact fun _ _ _ h => h
            case hyx15x8 => (first | (refine Or.inr ⟨by rfl, ?_⟩; rfl) | (refine Or.inl ⟨by rfl, ?_⟩; (intro w hSw; (try dsimp only at hSw); go_simp); try with_reducible rfl))
            case hSx15x8 => assumption
            try simp only [Act.put, List.setIfInBounds_toArray, List.set_cons_zero, List.set_cons_succ]
            refine' wpAnyH_take (i := 10) ?hix15x10 ?hsx15x10 ?hfx15x10 ?hrx15x10 ?hQx15x10 ?hyx15x10 ?hSx15x10 ?hx15x10
            case hix15x10 => (simp only [List.getElem?_toArray, List.getElem?_cons_succ, List.getElem?_cons_zero]; exact rfl)
            case hsx15x10 | hfx15x10 | hrx15x10 => kernel_rfl
            case hQx15x10 => exact fun _ _ _ h => h
            case hyx15x10 => (first | (refine Or.inr ⟨by rfl, ?_⟩; rfl) | (refine Or.inl ⟨by rfl, ?_⟩; (intro w hSw; (try dsimp only at hSw); go_simp); try with_reducible rfl))
            case hSx15x10 => assumption
            try simp only [Act.put, List.setIfInBounds_toArray, List.set_cons_zero, List.set_cons_succ]
            refine wpAnyH_ready (rs := [9]) (by kernel_rfl) (by simp) ?_
            refine' AllReadyH.cons ?hix15x9 (fun K hK => ?hx15x9) AllReadyH.nil
            case hix15x9 => (simp only [List.getElem?_toArray, List.getElem?_cons_succ, List.getElem?_cons_zero]; exact rfl)
            go_simp
            go_at_call 10
            (with_reducible refine (Put_t HT8.out HIx.out HWU.out).mono ?_)
            rw [HPE.out.1, HPE.out.2, errV_ne (k := 3) (by decide)]
            rintro e w9 ⟨rfl, hT9, hk9, -⟩
            have HT9 := Lib.hid hT9
            have HM9 := Lib.hid (HM8.out.kept hk9)
            clear hT9 hk9 d0 d1 d2
            have d0 := (HT9.out.bel.cell (p := ⟨b, o + k * 2, none⟩) hb).trans E0.out
            have d1 := (HT9.out.bel.cell (p := ⟨b, o + k * 2 + 1, none⟩) hb).trans E1.out
            have d2 := (HT9.out.bel.cell (p := ⟨b', o' + k, none⟩) hb').trans E2.out
            have HGW := Lib.hid (HG.out.below HT9.out.bel)
            refine hK.out _ _ (by go_keep) (fun hHeld => ?_)
            clear hK K
            refine wpAnyH_ready (rs := [11]) (by kernel_rfl) (by simp) ?_
            refine' AllReadyH.cons ?hix15x11 (fun K hK => ?hx15x11) AllReadyH.nil
            case hix15x11 => (simp only [List.getElem?_toArray, List.getElem?_cons_succ, List.getElem?_cons_zero]; exact rfl)
            go_simp
            go_at_call 18
            (with_reducible refine (error_is (errV_ne (k := 3) (by decide)) (show ((3 : Int) == 3) = true from rfl) _ HGW.out).mono ?_)
            rintro e w10 ⟨rfl, hb10⟩
            clear HGW
            have HM10 := Lib.hid (HM9.out.kept (HT9.out.keptS hb10))
            have HT10 := Lib.hid (HT9.out.below hb10)
            clear hb10 d0 d1 d2
            have d0 := (HT10.out.bel.cell (p := ⟨b, o + k * 2, none⟩) hb).trans E0.out
            have d1 := (HT10.out.bel.cell (p := ⟨b, o + k * 2 + 1, none⟩) hb).trans E1.out
            have d2 := (HT10.out.bel.cell (p := ⟨b', o' + k, none⟩) hb').trans E2.out
            refine hK.out _ _ (by go_keep) (fun hHeld => ?_)
            clear hK K
            refine' wpAnyH_take (i := 12) ?hix15x12 ?hsx15x12 ?hfx15x12 ?hrx15x12 ?hQx15x12 ?hyx15x12 ?hSx15x12 ?hx15x12
            case hix15x12 => (simp only [List.getElem?_toArray, List.getElem?_cons_succ, List.getElem?_cons_zero]; exact rfl)
            case hsx15x12 | hfx15x12 | hrx15x12 => kernel_rfl
            case hQx15x12 => exact fun _ _ _ h => h
            case hyx15x12 => (first | (refine Or.inr ⟨by rfl, ?_⟩; rfl) | (refine Or.inl ⟨by rfl, ?_⟩; (intro w hSw; (try dsimp only at hSw); go_simp); try with_reducible rfl))
            case hSx15x12 => assumption
            try simp only [Act.put, List.setIfInBounds_toArray, List.set_cons_zero, List.set_cons_succ]
            refine wpAnyH_done (by kernel_rfl) ?_ _
            refine NoPanic.normal ?_
            clear hHeld
            clear d0 d1 d2
            have d0 := (HT10.out.bel.cell (p := ⟨b, o + k * 2, none⟩) hb).trans E0.out
            have d1 := (HT10.out.bel.cell (p := ⟨b, o + k * 2 + 1, none⟩) hb).trans E1.out
            have d2 := (HT10.out.bel.cell (p := ⟨b', o' + k, none⟩) hb').trans E2.out
            obtain ⟨z0, z1, z2, z3⟩ := row2 HM10.out.blk
            go_wp2
            clear d0 d1 d2 z0 z1 z2 z3
            go_roundw
            case rel => exact ⟨k + 1, m, _, _, _, _, _, _, _, by omega, by omega, by go_num, HT10.out, HM10.out⟩
            case measure => simp [intOf]; omega
          case hBx14x =>
            go_simp
            have p1 := Nat.lt_of_lt_of_le hb HT4.out.bel.size
            have p2 := Nat.lt_of_lt_of_le hb' HT4.out.bel.size
            have p3 : M < w4.heap.size := HT4.out.sLt M HM4.out.inS
            have p4 : ¬ b = w4.heap.size := by omega
            have p5 : ¬ b' = w4.heap.size := by omega
            have p6 : ¬ M = w4.heap.size := by omega
            have p7 : ¬ w4.heap.size = b := by omega
            have p8 : ¬ w4.heap.size = b' := by omega
            have p9 : ¬ w4.heap.size = M := by omega
            refine hK.out _ _ (by go_keep) (fun hHeld => ?_)
            clear hK K d0 d1 d2 z0 z1 z2 z3
            have hba : Below w4.heap.size w4 (w4.alloc (tabO none 0 0 none 0 0)).drew := below_drewN (below_1 w4 _) 1
            have hPa : (w4.alloc (tabO none 0 0 none 0 0)).drew.heap[w4.heap.size]? = some (tabO none 0 0 none 0 0) := heap_alloc_new w4 _
            have HT5 := Lib.hid (HT4.out.below hba)
            have HM5 := Lib.hid (HM4.out.kept (HT4.out.keptS hba))
            have HBA := Lib.hid hba
            have HPA := Lib.hid hPa
            clear hba hPa
            generalize (w4.alloc (tabO none 0 0 none 0 0)).drew = wa at *
            refine wpAnyH_ready (rs := [9]) (by kernel_rfl) (by simp) ?_
            refine' AllReadyH.cons ?hiCx14x (fun K hK => ?hCx14x) AllReadyH.nil
            case hiCx14x => (simp only [List.getElem?_toArray, List.getElem?_cons_succ, List.getElem?_cons_zero]; exact rfl)
            go_simp
            go_at_call 19
            (with_reducible refine (PutIn_some (HM5.out.row.r1 HT5.out.sLt) (HM5.out.row.v1 HT5.out.sLt) HLEN.out HWX.out HWU.out).mono ?_)
            rintro e w6 ⟨⟨B, k1, f1, B', k2, f2, bb, rfl⟩, hb6⟩
            have HB6 := Lib.hid hb6
            have HT6 := Lib.hid (HT5.out.below hb6)
            have HM6 := Lib.hid (HM5.out.kept (HT5.out.keptS hb6))
            obtain ⟨t0, t1, t2, t3⟩ := row2 (below_block hb6 (size_of_block HPA.out) HPA.out)
            have d0 := (HT6.out.bel.cell (p := ⟨b, o + k * 2, none⟩) hb).trans E0.out
            have d1 := (HT6.out.bel.cell (p := ⟨b, o + k * 2 + 1, none⟩) hb).trans E1.out
            have d2 := (HT6.out.bel.cell (p := ⟨b', o' + k, none⟩) hb').trans E2.out
            obtain ⟨z0, z1, z2, z3⟩ := row2 HM6.out.blk
            clear hb6
            refine hK.out _ _ (by go_keep) (fun hHeld => ?_)
            clear hK K
            refine' wpAnyH_take (i := 10) ?hix14xB10 ?hsx14xB10 ?hfx14xB10 ?hrx14xB10 ?hQx14xB10 ?hyx14xB10 ?hSx14xB10 ?hx14xB10
            case hix14xB10 => (simp only [List.getElem?_toArray, List.getElem?_cons_succ, List.getElem?_cons_zero]; exact rfl)
            case hsx14xB10 | hfx14xB10 | hrx14xB10 => kernel_rfl
            case hQx14xB10 => exact fun _ _ _ h => h
            case hyx14xB10 => (first | (refine Or.inr ⟨by rfl, ?_⟩; rfl) | (refine Or.inl ⟨by rfl, ?_⟩; (intro w hSw; (try dsimp only at hSw); go_simp); try with_reducible rfl))
            case hSx14xB10 => assumption
            try simp only [Act.put, List.setIfInBounds_toArray, List.set_cons_zero, List.set_cons_succ]
            refine' wpAnyH_take (i := 11) ?hix14xB11 ?hsx14xB11 ?hfx14xB11 ?hrx14xB11 ?hQx14xB11 ?hyx14xB11 ?hSx14xB11 ?hx14xB11
            case hix14xB11 => (simp only [List.getElem?_toArray, List.getElem?_cons_succ, List.getElem?_cons_zero]; exact rfl)
            case hsx14xB11 | hfx14xB11 | hrx14xB11 => kernel_rfl
            case hQx14xB11 => exact fun _ _ _ h => h
            case hyx14xB11 => (first | (refine Or.inr ⟨by rfl, ?_⟩; rfl) | (refine Or.inl ⟨by rfl, ?_⟩; (intro w hSw; (try dsimp only at hSw); go_simp); try with_reducible rfl))
            case hSx14xB11 => assumption
            try simp only [Act.put, List.setIfInBounds_toArray, List.set_cons_zero, List.set_cons_succ]
            refine' wpAnyH_take (i := 12) ?hix14xB12 ?hsx14xB12 ?hfx14xB12 ?hrx14xB12 ?hQx14xB12 ?hyx14xB12 ?hSx14xB12 ?hx14xB12
            case hix14xB12 => (simp only [List.getElem?_toArray, List.getElem?_cons_succ, List.getElem?_cons_zero]; exact rfl)
            case hsx14xB12 | hfx14xB12 | hrx14xB12 => kernel_rfl
            case hQx14xB12 => exact fun _ _ _ h => h
            case hyx14xB12 => (first | (refine Or.inr ⟨by rfl, ?_⟩; rfl) | (refine Or.inl ⟨by rfl, ?_⟩; (intro w hSw; (try dsimp only at hSw); go_simp); try with_reducible rfl))
            case hSx14xB12 => assumption
            try simp only [Act.put, List.setIfInBounds_toArray, List.set_cons_zero, List.set_cons_succ]
            refine wpAnyH_ready (rs := [14]) (by kernel_rfl) (by simp) ?_
            refine' AllReadyH.cons ?hix14xB14 (fun K hK => ?hx14xB14) AllReadyH.nil
            case hix14xB14 => (simp only [List.getElem?_toArray, List.getElem?_cons_succ, List.getElem?_cons_zero]; exact rfl)
            go_simp
            refine hK.out _ _ (by go_keep) (fun hHeld => ?_)
            clear hK K
            refine' wpAnyH_take (i := 15) ?hix14xB15 ?hsx14xB15 ?hfx14xB15 ?hrx14xB15 ?hQx14xB15 ?hyx14xB15 ?hSx14xB15 ?hx14xB15
            case hix14xB15 => (simp only [List.getElem?_toArray, List.getElem?_cons_succ, List.getElem?_cons_zero]; exact rfl)
            case hsx14xB15 | hfx14xB15 | hrx14xB15 => kernel_rfl
            case hQx14xB15 => exact fun _ _ _ h => h
            case hyx14xB15 => (first | (refine Or.inr ⟨by rfl, ?_⟩; rfl) | (refine Or.inl ⟨by rfl, ?_⟩; (intro w hSw; (try dsimp only at hSw); go_simp); try with_reducible rfl))
            case hSx14xB15 => assumption
            try simp only [Act.put, List.setIfInBounds_toArray, List.set_cons_zero, List.set_cons_succ]
            refine wpAnyH_done (by kernel_rfl) ?_ _
            refine NoPanic.normal ?_
            clear hHeld
            clear d0 d1 d2 z0 z1 z2 z3 t0 t1 t2 t3 p1 p2 p3 p4 p5 p6 p7 p8 p9
            have hb7 := laidB HBA.out HB6.out (.slice B k1 f1) (.slice B' k2 f2)
            have HT7 := Lib.hid (HT4.out.below hb7)
            have HM7 := Lib.hid (HM4.out.kept (HT4.out.keptS hb7))
            generalize hwn : (w6.setCell ⟨w4.heap.size, 0, none⟩ (.slice B k1 f1)).setCell ⟨w4.heap.size, 1, none⟩ (.slice B' k2 f2) = w7 at *
            clear hb7 hwn HT5 HM5 HT6 HM6 HB6 HBA HPA
            obtain ⟨P, hPP⟩ : ∃ P, w4.heap.size = P := ⟨_, rfl⟩
            rw [hPP]
            clear hPP
            have d0 := (HT7.out.bel.cell (p := ⟨b, o + k * 2, none⟩) hb).trans E0.out
            have d1 := (HT7.out.bel.cell (p := ⟨b, o + k * 2 + 1, none⟩) hb).trans E1.out
            have d2 := (HT7.out.bel.cell (p := ⟨b', o' + k, none⟩) hb').trans E2.out
            obtain ⟨z0, z1, z2, z3⟩ := row2 HM7.out.blk
            have HPE := Lib.hid (put_bad (m := m) (v := u) (x := (p, q)) (by rw [HF.out]; decide))
            rw [HF.out] at HPE
            clear d0 d1 d2 z0 z1 z2 z3
            have d0 := (HT7.out.bel.cell (p := ⟨b, o + k * 2, none⟩) hb).trans E0.out
            have d1 := (HT7.out.bel.cell (p := ⟨b, o + k * 2 + 1, none⟩) hb).trans E1.out
            have d2 := (HT7.out.bel.cell (p := ⟨b', o' + k, none⟩) hb').trans E2.out
            obtain ⟨z0, z1, z2, z3⟩ := row2 HM7.out.blk
            go_wp2
            have HT8 := Lib.hid (HT7.out.below (show Below w7.heap.size w7 w7.drew from below_drewN (Below.refl _ _) 1))
            have HM8 := Lib.hid (HM7.out.kept (HT7.out.keptS (show Below w7.heap.size w7 w7.drew from below_drewN (Below.refl _ _) 1)))
            refine wp_region_noPanic ?_
            refine wp_region_held_drew (S := (fun w' => w'.cell? ⟨b, o + k * 2, none⟩ = some (.int .u32 p) ∧ w'.cell? ⟨b, o + k * 2 + 1, none⟩ = some (.int .i64 q) ∧ w'.cell? ⟨b', o' + k, none⟩ = some (.int .i64 u))) (by kernel_rfl) (by go_keep) (fun hHeld => ?_)
            refine' wpAnyH_take (i := 0) ?hix16x0 ?hsx16x0 ?hfx16x0 ?hrx16x0 ?hQx16x0 ?hyx16x0 ?hSx16x0 ?hx16x0
            case hix16x0 => (simp only [List.getElem?_toArray, List.getElem?_cons_succ, List.getElem?_cons_zero]; exact rfl)
            case hsx16x0 | hfx16x0 | hrx16x0 => kernel_rfl
            case hQx16x0 => exact fun _ _ _ h => h
            case hyx16x0 => (first | (refine Or.inr ⟨by rfl, ?_⟩; rfl) | (refine Or.inl ⟨by rfl, ?_⟩; (intro w hSw; (try dsimp only at hSw); go_simp); try with_reducible rfl))
            case hSx16x0 => assumption
            try simp only [Act.put, List.setIfInBounds_toArray, List.set_cons_zero, List.set_cons_succ]
            refine' wpAnyH_take (i := 1) ?hix16x1 ?hsx16x1 ?hfx16x1 ?hrx16x1 ?hQx16x1 ?hyx16x1 ?hSx16x1 ?hx16x1
            case hix16x1 => (simp only [List.getElem?_toArray, List.getElem?_cons_succ, List.getElem?_cons_zero]; exact rfl)
            case hsx16x1 | hfx16x1 | hrx16x1 => kernel_rfl
            case hQx16x1 => exact fun _ _ _ h => h
            case hyx16x1 => (first | (refine Or.inr ⟨by rfl, ?_⟩; rfl) | (refine Or.inl ⟨by rfl, ?_⟩; (intro w hSw; (try dsimp only at hSw); go_simp); try with_reducible rfl))
            case hSx16x1 => assumption
            try simp only [Act.put, List.setIfInBounds_toArray, List.set_cons_zero, List.set_cons_succ]
            refine' wpAnyH_take (i := 2) ?hix16x2 ?hsx16x2 ?hfx16x2 ?hrx16x2 ?hQx16x2 ?hyx16x2 ?hSx16x2 ?hx16x2
            case hix16x2 => (simp only [List.getElem?_toArray, List.getElem?_cons_succ, List.getElem?_cons_zero]; exact rfl)
            case hsx16x2 | hfx16x2 | hrx16x2 => kernel_rfl
            case hQx16x2 => exact fun _ _ _ h => h
            case hyx16x2 => (first | (refine Or.inr ⟨by rfl, ?_⟩; rfl) | (refine Or.inl ⟨by rfl, ?_⟩; (intro w hSw; (try dsimp only at hSw); go_simp); try with_reducible rfl))
            case hSx16x2 => assumption
            try simp only [Act.put, List.setIfInBounds_toArray, List.set_cons_zero, List.set_cons_succ]
            refine' wpAnyH_take (i := 3) ?hix16x3 ?hsx16x3 ?hfx16x3 ?hrx16x3 ?hQx16x3 ?hyx16x3 ?hSx16x3 ?hx16x3
            case hix16x3 => (simp only [List.getElem?_toArray, List.getElem?_cons_succ, List.getElem?_cons_zero]; exact rfl)
            case hsx16x3 | hfx16x3 | hrx16x3 => kernel_rfl
            case hQx16x3 => exact fun _ _ _ h => h
            case hyx16x3 => (first | (refine Or.inr ⟨by rfl, ?_⟩; rfl) | (refine Or.inl ⟨by rfl, ?_⟩; (intro w hSw; (try dsimp only at hSw); go_simp); try with_reducible rfl))
            case hSx16x3 => assumption
            try simp only [Act.put, List.setIfInBounds_toArray, List.set_cons_zero, List.set_cons_succ]
            refine' wpAnyH_take (i := 4) ?hix16x4 ?hsx16x4 ?hfx16x4 ?hrx16x4 ?hQx16x4 ?hyx16x4 ?hSx16x4 ?hx16x4
            case hix16x4 => (simp only [List.getElem?_toArray, List.getElem?_cons_succ, List.getElem?_cons_zero]; exact rfl)
            case hsx16x4 | hfx16x4 | hrx16x4 => kernel_rfl
            case hQx16x4 => exact fun _ _ _ h => h
            case hyx16x4 => (first | (refine Or.inr ⟨by rfl, ?_⟩; rfl) | (refine Or.inl ⟨by rfl, ?_⟩; (intro w hSw; (try dsimp only at hSw); go_simp); try with_reducible rfl))
            case hSx16x4 => assumption
            try simp only [Act.put, List.setIfInBounds_toArray, List.set_cons_zero, List.set_cons_succ]
            refine' wpAnyH_take (i := 5) ?hix16x5 ?hsx16x5 ?hfx16x5 ?hrx16x5 ?hQx16x5 ?hyx16x5 ?hSx16x5 ?hx16x5
            case hix16x5 => (simp only [List.getElem?_toArray, List.getElem?_cons_succ, List.getElem?_cons_zero]; exact rfl)
            case hsx16x5 | hfx16x5 | hrx16x5 => kernel_rfl
            case hQx16x5 => exact fun _ _ _ h => h
            case hyx16x5 => (first | (refine Or.inr ⟨by rfl, ?_⟩; rfl) | (refine Or.inl ⟨by rfl, ?_⟩; (intro w hSw; (try dsimp only at hSw); go_simp); try with_reducible rfl))
            case hSx16x5 => assumption
            try simp only [Act.put, List.setIfInBounds_toArray, List.set_cons_zero, List.set_cons_succ]
            refine' wpAnyH_take (i := 6) ?hix16x6 ?hsx16x6 ?hfx16x6 ?hrx16x6 ?hQx16x6 ?hyx16x6 ?hSx16x6 ?hx16x6
            case hix16x6 => (simp only [List.getElem?_toArray, List.getElem?_cons_succ, List.getElem?_cons_zero]; exact rfl)
            case hsx16x6 | hfx16x6 | hrx16x6 => kernel_rfl
            case hQx16x6 => exact fun _ _ _ h => h
            case hyx16x6 => (first | (refine Or.inr ⟨by rfl, ?_⟩; rfl) | (refine Or.inl ⟨by rfl, ?_⟩; (intro w hSw; (try dsimp only at hSw); go_simp); try with_reducible rfl))
            case hSx16x6 => assumption
            try simp only [Act.put, List.setIfInBounds_toArray, List.set_cons_zero, List.set_cons_succ]
            refine' wpAnyH_take (i := 7) ?hix16x7 ?hsx16x7 ?hfx16x7 ?hrx16x7 ?hQx16x7 ?hyx16x7 ?hSx16x7 ?hx16x7
            case hix16x7 => (simp only [List.getElem?_toArray, List.getElem?_cons_succ, List.getElem?_cons_zero]; exact rfl)
            case hsx16x7 | hfx16x7 | hrx16x7 => kernel_rfl
            case hQx16x7 => exact fun _ _ _ h => h
            case hyx16x7 => (first | (refine Or.inr ⟨by rfl, ?_⟩; rfl) | (refine Or.inl ⟨by rfl, ?_⟩; (intro w hSw; (try dsimp only at hSw); go_simp); try with_reducible rfl))
            case hSx16x7 => assumption
            try simp only [Act.put, List.setIfInBounds_toArray, List.set_cons_zero, List.set_cons_succ]
            refine' wpAnyH_take (i := 8) ?hix16x8 ?hsx16x8 ?hfx16x8 ?hrx16x8 ?hQx16x8 ?hyx16x8 ?hSx16x8 ?hx16x8
            case hix16x8 => (simp only [List.getElem?_toArray, List.getElem?_cons_succ, List.getElem?_cons_zero]; exact rfl)
            case hsx16x8 | hfx16x8 | hrx16x8 => kernel_rfl
            case hQx16x8 => exact fun _ _ _ h => h
            case hyx16x8 => (first | (refine Or.inr ⟨by rfl, ?_⟩; rfl) | (refine Or.inl ⟨by rfl, ?_⟩; (intro w hSw; (try dsimp only at hSw); go_simp); try with_reducible rfl))
            case hSx16x8 => assumption
            try simp only [Act.put, List.setIfInBounds_toArray, List.set_cons_zero, List.set_cons_succ]
            refine' wpAnyH_take (i := 10) ?hix16x10 ?hsx16x10 ?hfx16x10 ?hrx16x10 ?hQx16x10 ?hyx16x10 ?hSx16x10 ?hx16x10
            case hix16x10 => (simp only [List.getElem?_toArray, List.getElem?_cons_succ, List.getElem?_cons_zero]; exact rfl)
            case hsx16x10 | hfx16x10 | hrx16x10 => kernel_rfl
            case hQx16x10 => exact fun _ _ _ h => h
            case hyx16x10 => (first | (refine Or.inr ⟨by rfl, ?_⟩; rfl) | (refine Or.inl ⟨by rfl, ?_⟩; (intro w hSw; (try dsimp only at hSw); go_simp); try with_reducible rfl))
            case hSx16x10 => assumption
            try simp only [Act.put, List.setIfInBounds_toArray, List.set_cons_zero, List.set_cons_succ]
            refine wpAnyH_ready (rs := [9]) (by kernel_rfl) (by simp) ?_
            refine' AllReadyH.cons ?hix16x9 (fun K hK => ?hx16x9) AllReadyH.nil
            case hix16x9 => (simp only [List.getElem?_toArray, List.getElem?_cons_succ, List.getElem?_cons_zero]; exact rfl)
            go_simp
            go_at_call 10
            (with_reducible refine (Put_t HT8.out HIx.out HWU.out).mono ?_)
            rw [HPE.out.1, HPE.out.2, errV_ne (k := 3) (by decide)]
            rintro e w9 ⟨rfl, hT9, hk9, -⟩
            have HT9 := Lib.hid hT9
            have HM9 := Lib.hid (HM8.out.kept hk9)
            clear hT9 hk9 d0 d1 d2
            have d0 := (HT9.out.bel.cell (p := ⟨b, o + k * 2, none⟩) hb).trans E0.out
            have d1 := (HT9.out.bel.cell (p := ⟨b, o + k * 2 + 1, none⟩) hb).trans E1.out
            have d2 := (HT9.out.bel.cell (p := ⟨b', o' + k, none⟩) hb').trans E2.out
            have HGW := Lib.hid (HG.out.below HT9.out.bel)
            refine hK.out _ _ (by go_keep) (fun hHeld => ?_)
            clear hK K
            refine wpAnyH_ready (rs := [11]) (by kernel_rfl) (by simp) ?_
            refine' AllReadyH.cons ?hix16x11 (fun K hK => ?hx16x11) AllReadyH.nil
            case hix16x11 => (simp only [List.getElem?_toArray, List.getElem?_cons_succ, List.getElem?_cons_zero]; exact rfl)
            go_simp
            go_at_call 18
            (with_reducible refine (error_is (errV_ne (k := 3) (by decide)) (show ((3 : Int) == 3) = true from rfl) _ HGW.out).mono ?_)
            rintro e w10 ⟨rfl, hb10⟩
            clear HGW
            have HM10 := Lib.hid (HM9.out.kept (HT9.out.keptS hb10))
            have HT10 := Lib.hid (HT9.out.below hb10)
            clear hb10 d0 d1 d2
            have d0 := (HT10.out.bel.cell (p := ⟨b, o + k * 2, none⟩) hb).trans E0.out
            have d1 := (HT10.out.bel.cell (p := ⟨b, o + k * 2 + 1, none⟩) hb).trans E1.out
            have d2 := (HT10.out.bel.cell (p := ⟨b', o' + k, none⟩) hb').trans E2.out
            refine hK.out _ _ (by go_keep) (fun hHeld => ?_)
            clear hK K
            refine' wpAnyH_take (i := 12) ?hix16x12 ?hsx16x12 ?hfx16x12 ?hrx16x12 ?hQx16x12 ?hyx16x12 ?hSx16x12 ?hx16x12
            case hix16x12 => (simp only [List.getElem?_toArray, List.getElem?_cons_succ, List.getElem?_cons_zero]; exact rfl)
            case hsx16x12 | hfx16x12 | hrx16x12 => kernel_rfl
            case hQx16x12 => exact fun _ _ _ h => h
            case hyx16x12 => (first | (refine Or.inr ⟨by rfl, ?_⟩; rfl) | (refine Or.inl ⟨by rfl, ?_⟩; (intro w hSw; (try dsimp only at hSw); go_simp); try with_reducible rfl))
            case hSx16x12 => assumption
            try simp only [Act.put, List.setIfInBounds_toArray, List.set_cons_zero, List.set_cons_succ]
            refine wpAnyH_done (by kernel_rfl) ?_ _
            refine NoPanic.normal ?_
            clear hHeld
            clear d0 d1 d2
            have d0 := (HT10.out.bel.cell (p := ⟨b, o + k * 2, none⟩) hb).trans E0.out
            have d1 := (HT10.out.bel.cell (p := ⟨b, o + k * 2 + 1, none⟩) hb).trans E1.out
            have d2 := (HT10.out.bel.cell (p := ⟨b', o' + k, none⟩) hb').trans E2.out
            obtain ⟨z0, z1, z2, z3⟩ := row2 HM10.out.blk
            go_wp2
            clear d0 d1 d2 z0 z1 z2 z3
            go_roundw
            case rel => exact ⟨k + 1, m, _, _, _, _, _, _, _, by omega, by omega, by go_num, HT10.out, HM10.out⟩
            case measure => simp [intOf]; omega
        · skip
          go_wp2_with fail
          go_at_call 11
          (with_reducible refine (Drop_t HT4.out HIx.out).mono ?_)
          rw [HGE.out.1, HGE.out.2.2, errV_ne (k := 3) (by decide)]
          rintro e w5 ⟨rfl, hT5, hk5, -⟩
          have HT5 := Lib.hid hT5
          have HM5 := Lib.hid (HM4.out.kept hk5)
          clear hT5 hk5 d0 d1 d2 z0 z1 z2 z3
          have d0 := (HT5.out.bel.cell (p := ⟨b, o + k * 2, none⟩) hb).trans E0.out
          have d1 := (HT5.out.bel.cell (p := ⟨b, o + k * 2 + 1, none⟩) hb).trans E1.out
          have d2 := (HT5.out.bel.cell (p := ⟨b', o' + k, none⟩) hb').trans E2.out
          obtain ⟨z0, z1, z2, z3⟩ := row2 HM5.out.blk
          have HGW := Lib.hid (HG.out.below HT5.out.bel)
          go_wp2_with fail
          go_at_call 18
          (with_reducible refine (error_is (errV_ne (k := 3) (by decide)) (show ((3 : Int) == 3) = true from rfl) _ HGW.out).mono ?_)
          rintro e w6 ⟨rfl, hb6⟩
          clear HGW
          have HT6 := Lib.hid (HT5.out.below hb6)
          have HM6 := Lib.hid (HM5.out.kept (HT5.out.keptS hb6))
          clear hb6 d0 d1 d2 z0 z1 z2 z3
          have d0 := (HT6.out.bel.cell (p := ⟨b, o + k * 2, none⟩) hb).trans E0.out
          have d1 := (HT6.out.bel.cell (p := ⟨b, o + k * 2 + 1, none⟩) hb).trans E1.out
          have d2 := (HT6.out.bel.cell (p := ⟨b', o' + k, none⟩) hb').trans E2.out
          obtain ⟨z0, z1, z2, z3⟩ := row2 HM6.out.blk
          go_wp2
          clear d0 d1 d2 z0 z1 z2 z3
          go_roundw
          case rel => exact ⟨k + 1, m, _, _, _, _, _, _, _, by omega, by omega, by go_num, HT6.out, HM6.out⟩
          case measure => simp [intOf]; omega
    · have hend : ¬ (k : Int) < (n : Int) ∨ ((k : Int) < (n : Int) ∧ ¬ (k : Int) < (n0 : Int)) := by omega
      obtain ⟨z0, z1, z2, z3⟩ := row2 HM0.out.blk
      rcases hend with h1 | ⟨h1, h2⟩
      · skip
        go_wp2_with fail
        go_at_call 21
        (with_reducible refine (FindIn_any (HM0.out.row.r1 HT0.out.sLt) HA.out).mono ?_)
        rcases find_same HT0.out.ok (a := a) with ⟨hfn, hfl⟩ | ⟨j, v, i, hfn, hfl, hmi⟩
        · skip
          rw [hfl]
          rintro e w1 ⟨rfl, hb1⟩
          rw [show idxV none = -1 from rfl]
          have HFN := Lib.hid hfn
          have hb2 := hb1.trans ((below_1 w1 (.cells #[.int .u32 0, .int .i64 0] 32)).mono hb1.size)
          have HT2 := Lib.hid (HT0.out.below hb2)
          have HM2 := Lib.hid (HM0.out.kept (HT0.out.keptS hb2))
          have HG1 := Lib.hid (heap_alloc_new w1 (.cells #[.int .u32 0, .int .i64 0] 32))
          clear hb1 hb2 hfn hfl
          go_wp2_with fail
          go_at_call 12
          (with_reducible refine (Find_t HT2.out HA.out HFN.out).mono ?_)
          rintro e w3 ⟨rfl, hb3⟩
          rw [show findV a none = .tuple #[.agg #[.int .u32 0, .int .i64 0], .int .i64 0, .iface 41 (.int .i64 2)] from rfl]
          have hb4 := hb3.trans ((below_1 w3 (.cells #[.int .u32 0, .int .i64 0] 32)).mono hb3.size)
          have HG2 := Lib.hid (below_block hb4 (size_of_block HG1.out) HG1.out)
          have HG3 := Lib.hid (heap_alloc_new w3 (.cells #[.int .u32 0, .int .i64 0] 32))
          have HT4 := Lib.hid (HT2.out.below hb4)
          have HM4 := Lib.hid (HM2.out.kept (HT2.out.keptS hb4))
          go_wp2_with fail
          obtain ⟨G3, hG3⟩ : ∃ G3, w3.heap.size = G3 := ⟨_, rfl⟩
          rw [hG3] at HG3
          try rw [hG3]
          generalize hw4 : w3.alloc (.cells #[.int .u32 0, .int .i64 0] 32) = w4 at *
          clear hb3 hb4 hw4
          have HGW := Lib.hid (HG.out.below HT4.out.bel)
          go_at_call 18
          (with_reducible refine (error_is (errV_ne (k := 2) (by decide)) (show ((2 : Int) == 2) = true from rfl) _ HGW.out).mono ?_)
          rintro e w5 ⟨rfl, hb5⟩
          have HG25 := Lib.hid (below_block hb5 (size_of_block HG2.out) HG2.out)
          have HG35 := Lib.hid (below_block hb5 (size_of_block HG3.out) HG3.out)
          have HT5 := Lib.hid (HT4.out.below hb5)
          have HM5 := Lib.hid (HM4.out.kept (HT4.out.keptS hb5))
          clear hb5 HGW HG2 HG3 HT4 HM4
          obtain ⟨z0, z1, z2, z3⟩ := row2 HM5.out.blk
          try rw [hG3]
          go_wp2
          have hbd : Below w5.heap.size w5 w5.drew := below_drewN (Below.refl _ _) 1
          have HT6 := Lib.hid (HT5.out.below hbd)
          have HM6 := Lib.hid (HM5.out.kept (HT5.out.keptS hbd))
          have HG26 := Lib.hid (below_block hbd (size_of_block HG25.out) HG25.out)
          have HG36 := Lib.hid (below_block hbd (size_of_block HG35.out) HG35.out)
          clear hbd
          refine wp_region_noPanic ?_
          refine wp_region_held_drew (S := (fun w' => w'.cell? ⟨M, 0, none⟩ = some (.slice A2 n2 c2))) (by kernel_rfl) (by go_keep) (fun hHeld => ?_)
          refine' wpAnyH_take (i := 0) ?hix17x0 ?hsx17x0 ?hfx17x0 ?hrx17x0 ?hQx17x0 ?hyx17x0 ?hSx17x0 ?hx17x0
          case hix17x0 => (simp only [List.getElem?_toArray, List.getElem?_cons_succ, List.getElem?_cons_zero]; exact rfl)
          case hsx17x0 | hfx17x0 | hrx17x0 => kernel_rfl
          case hQx17x0 => exact fun _ _ _ h => h
          case hyx17x0 => (first | (refine Or.inr ⟨by rfl, ?_⟩; rfl) | (refine Or.inl ⟨by rfl, ?_⟩; (intro w hSw; (try dsimp only at hSw); go_simp); try with_reducible rfl))
          case hSx17x0 => assumption
          try simp only [Act.put, List.setIfInBounds_toArray, List.set_cons_zero, List.set_cons_succ]
          refine' wpAnyH_take (i := 2) ?hix17x2 ?hsx17x2 ?hfx17x2 ?hrx17x2 ?hQx17x2 ?hyx17x2 ?hSx17x2 ?hx17x2
          case hix17x2 => (simp only [List.getElem?_toArray, List.getElem?_cons_succ, List.getElem?_cons_zero]; exact rfl)
          case hsx17x2 | hfx17x2 | hrx17x2 => kernel_rfl
          case hQx17x2 => exact fun _ _ _ h => h
          case hyx17x2 => (first | (refine Or.inr ⟨by rfl, ?_⟩; rfl) | (refine Or.inl ⟨by rfl, ?_⟩; (intro w hSw; (try dsimp only at hSw); go_simp); try with_reducible rfl))
          case hSx17x2 => assumption
          try simp only [Act.put, List.setIfInBounds_toArray, List.set_cons_zero, List.set_cons_succ]
          refine' wpAnyH_take (i := 3) ?hix17x3 ?hsx17x3 ?hfx17x3 ?hrx17x3 ?hQx17x3 ?hyx17x3 ?hSx17x3 ?hx17x3
          case hix17x3 => (simp only [List.getElem?_toArray, List.getElem?_cons_succ, List.getElem?_cons_zero]; exact rfl)
          case hsx17x3 | hfx17x3 | hrx17x3 => kernel_rfl
          case hQx17x3 => exact fun _ _ _ h => h
          case hyx17x3 => (first | (refine Or.inr ⟨by rfl, ?_⟩; rfl) | (refine Or.inl ⟨by rfl, ?_⟩; (intro w hSw; (try dsimp only at hSw); go_simp); try with_reducible rfl))
          case hSx17x3 => assumption
          try simp only [Act.put, List.setIfInBounds_toArray, List.set_cons_zero, List.set_cons_succ]
          refine wpAnyH_ready (rs := [1]) (by kernel_rfl) (by simp) ?_
          refine' AllReadyH.cons ?hix17x1 (fun K hK => ?hx17x1) AllReadyH.nil
          case hix17x1 => (simp only [List.getElem?_toArray, List.getElem?_cons_succ, List.getElem?_cons_zero]; exact rfl)
          go_simp
          go_at_call 23
          (with_reducible refine (List_t HT6.out).mono ?_)
          rintro e w7 ⟨v7, rfl, ho7, hb7⟩
          have HR7 := Lib.hid (show R1 rdNets w7 v7 (allM m) from ho7.read)
          have HG27 := Lib.hid (below_block hb7 (size_of_block HG26.out) HG26.out)
          have HG37 := Lib.hid (below_block hb7 (size_of_block HG36.out) HG36.out)
          have HT7 := Lib.hid (HT6.out.below hb7)
          have HM7 := Lib.hid (HM6.out.kept (HT6.out.keptS hb7))
          obtain ⟨A7, c7, rfl⟩ := ho7.form
          obtain ⟨L7, hL7⟩ : ∃ L7, (allM m).length = L7 := ⟨_, rfl⟩
          rw [hL7] at HR7 ⊢
          clear ho7 hb7 hL7 z0 z1 z2 z3
          obtain ⟨z0, z1, z2, z3⟩ := row2 HM7.out.blk
          refine hK.out _ _ (by go_keep) (fun hHeld => ?_)
          clear hK K
          refine wpAnyH_ready (rs := [4]) (by kernel_rfl) (by simp) ?_
          refine' AllReadyH.cons ?hix17x4 (fun K hK => ?hx17x4) AllReadyH.nil
          case hix17x4 => (simp only [List.getElem?_toArray, List.getElem?_cons_succ, List.getElem?_cons_zero]; exact rfl)
          go_simp
          go_at_call 24
          (with_reducible refine (Ordered_any (HM7.out.row.r1 HT7.out.sLt) (by have h1 := HLEN.out; unfold keysM; rw [List.length_map]; omega)).mono ?_)
          rintro e w8 ⟨v8, rfl, ho8, hb8⟩
          rw [ord_all HT7.out.ok] at ho8
          have HR8 := Lib.hid (show R1 rdNets w8 v8 (allM m) from ho8.read)
          have HR78 := Lib.hid (HR7.out.below hb8)
          have HG28 := Lib.hid (below_block hb8 (size_of_block HG27.out) HG27.out)
          have HG38 := Lib.hid (below_block hb8 (size_of_block HG37.out) HG37.out)
          have HT8 := Lib.hid (HT7.out.below hb8)
          have HM8 := Lib.hid (HM7.out.kept (HT7.out.keptS hb8))
          obtain ⟨A8, c8, rfl⟩ := ho8.form
          obtain ⟨L8, hL8⟩ : ∃ L8, (allM m).length = L8 := ⟨_, rfl⟩
          rw [hL8] at HR8 ⊢
          clear ho8 hb8 hL8 z0 z1 z2 z3
          obtain ⟨z0, z1, z2, z3⟩ := row2 HM8.out.blk
          refine hK.out _ _ (by go_keep) (fun hHeld => ?_)
          clear hK K
          refine wpAnyH_ready (rs := [5]) (by kernel_rfl) (by simp) ?_
          refine' AllReadyH.cons ?hix17x5 (fun K hK => ?hx17x5) AllReadyH.nil
          case hix17x5 => (simp only [List.getElem?_toArray, List.getElem?_cons_succ, List.getElem?_cons_zero]; exact rfl)
          go_simp
          go_at_call 22
          have HQ7 := Lib.hid (show rdNets w8 (· < w8.heap.size) [.slice A7 L7 c7] (allM m) from HR78.out)
          have HQ8 := Lib.hid (show rdNets w8 (· < w8.heap.size) [.slice A8 L8 c8] (allM m) from HR8.out)
          (with_reducible refine (Nets_any HQ7.out HQ8.out (by simp : decide (allM m = allM m) = true)).mono ?_)
          rintro e w9 ⟨rfl, d9, hw9⟩
          have hb9 : Below w8.heap.size w8 w9 := by rw [hw9]; exact below_drewN (Below.refl _ _) _
          have HB9 := Lib.hid (HT8.out.below hb9).bel
          have HG29 := below_block hb9 (size_of_block HG28.out) HG28.out
          have HG39 := below_block hb9 (size_of_block HG38.out) HG38.out
          have HM9 := HM8.out.kept (HT8.out.keptS hb9)
          clear hb9 hw9 z0 z1 z2 z3
          obtain ⟨z0, z1, z2, z3⟩ := row2 HM9.blk
          refine hK.out _ _ (by go_keep) (fun hHeld => ?_)
          clear hK K
          refine' wpAnyH_take (i := 6) ?hix17x6 ?hsx17x6 ?hfx17x6 ?hrx17x6 ?hQx17x6 ?hyx17x6 ?hSx17x6 ?hx17x6
          case hix17x6 => (simp only [List.getElem?_toArray, List.getElem?_cons_succ, List.getElem?_cons_zero]; exact rfl)
          case hsx17x6 | hfx17x6 | hrx17x6 => kernel_rfl
          case hQx17x6 => exact fun _ _ _ h => h
          case hyx17x6 => (first | (refine Or.inr ⟨by rfl, ?_⟩; rfl) | (refine Or.inl ⟨by rfl, ?_⟩; (intro w hSw; (try dsimp only at hSw); go_simp); try with_reducible rfl))
          case hSx17x6 => assumption
          try simp only [Act.put, List.setIfInBounds_toArray, List.set_cons_zero, List.set_cons_succ]
          refine wpAnyH_done (by kernel_rfl) ?_ _
          refine NoPanic.normal ?_
          clear hHeld
          obtain ⟨x0, x1, x2, x3⟩ := row2 HG29
          obtain ⟨y0, y1, y2, y3⟩ := row2 HG39
          clear HG29 HG39 HM9
          go_wp2
          go_ret
          exact ⟨rfl, HB9.out⟩
        · skip
          rw [hfl]
          rintro e w1 ⟨rfl, hb1⟩
          rw [show idxV (some (i, trimN (a, 32) j)) = (i : Int) from rfl]
          have HFN := Lib.hid hfn
          have hi : i < n2 := by
            have h1 := (List.getElem?_eq_some_iff.1 hmi).1
            have h2 := HLN.out.1
            omega
          have hi3 : i < n3 := by
            have h2 := HLN.out.2
            have h3 := HLN.out.1
            omega
          have HT1 := Lib.hid (HT0.out.below hb1)
          have HM1 := Lib.hid (HM0.out.kept (HT0.out.keptS hb1))
          obtain ⟨bb, oo, ⟨X, Y⟩, rfl, hbb, HXY, hwXY, x0, x1⟩ := RdSlice.atN HM1.out.row.nets hi
          obtain ⟨b3, o3, v', rfl, hb3, HVJ, hwv, x2⟩ := RdSlice.atI HM1.out.row.vals hi3
          obtain rfl : v' = v := by
            have h1 := HVJ.out
            rw [(keys_at hmi).2] at h1
            exact (Option.some.inj h1).symm
          have hXY : trimN (a, 32) j = (X, Y) := by
            have h1 := HXY.out
            rw [(keys_at hmi).1] at h1
            exact Option.some.inj h1
          have HFV : Hid (findV a (some (j, v')) = .tuple #[.agg #[.int .u32 X, .int .i64 Y], .int .i64 v', .nilIface]) := Lib.hid (by
            have h1 : fl (lowI j) a = X := congrArg Prod.fst hXY
            have h2 : (j : Int) = Y := congrArg Prod.snd hXY
            rw [← h1, ← h2]; rfl)
          have j4 : ¬ ((i : Int) < 0) := by omega
          have j5 : (0 : Int) ≤ (i : Int) := by omega
          have j6 : (i : Int) < (n3 : Int) := by omega
          have j7 : (i : Int) < (n2 : Int) := by omega
          obtain ⟨z0, z1, z2, z3⟩ := row2 HM1.out.blk
          have q1 : bb < w1.heap.size := HT1.out.sLt bb hbb.1
          have q2 : b3 < w1.heap.size := HT1.out.sLt b3 hb3.1
          have q3 : M < w1.heap.size := HT1.out.sLt M HM1.out.inS
          have q4 : ¬ bb = w1.heap.size := by omega
          have q5 : ¬ b3 = w1.heap.size := by omega
          have q6 : ¬ M = w1.heap.size := by omega
          have q7 : ¬ w1.heap.size = bb := by omega
          have q8 : ¬ w1.heap.size = b3 := by omega
          have q9 : ¬ w1.heap.size = M := by omega
          have hb2 := hb1.trans ((below_1 w1 (.cells #[.int .u32 X, .int .i64 Y] 32)).mono hb1.size)
          have HT2 := Lib.hid (HT0.out.below hb2)
          have HM2 := Lib.hid (HM0.out.kept (HT0.out.keptS hb2))
          have HG1 := Lib.hid (heap_alloc_new w1 (.cells #[.int .u32 X, .int .i64 Y] 32))
          clear hb1 hb2 hfn hfl hXY hwXY hwv HVJ HXY hmi
          go_upto_region 38 with (fail)
          clear q1 q2 q3 q4 q5 q6 q7 q8 q9 x0 x1 x2 z0 z1 z2 z3 hi hi3 hbb hb3 HT1 HM1
          generalize hA2 : (some ⟨bb, oo, none⟩ : Option Addr) = A2 at *
          generalize hA3 : (some ⟨b3, o3, none⟩ : Option Addr) = A3 at *
          clear hA2 hA3
          go_wp2_with fail
          go_at_call 12
          (with_reducible refine (Find_t HT2.out HA.out HFN.out).mono ?_)
          rintro e w3 ⟨rfl, hb3⟩
          rw [show findV a (some (j, v')) = .tuple #[.agg #[.int .u32 X, .int .i64 Y], .int .i64 v', .nilIface] from HFV.out]
          have hb4 := hb3.trans ((below_1 w3 (.cells #[.int .u32 X, .int .i64 Y] 32)).mono hb3.size)
          have HG2 := Lib.hid (below_block hb4 (size_of_block HG1.out) HG1.out)
          have HG3 := Lib.hid (heap_alloc_new w3 (.cells #[.int .u32 X, .int .i64 Y] 32))
          have HT4 := Lib.hid (HT2.out.below hb4)
          have HM4 := Lib.hid (HM2.out.kept (HT2.out.keptS hb4))
          go_wp2_with fail
          obtain ⟨G3, hG3⟩ : ∃ G3, w3.heap.size = G3 := ⟨_, rfl⟩
          rw [hG3] at HG3
          try rw [hG3]
          generalize hw4 : w3.alloc (.cells #[.int .u32 X, .int .i64 Y] 32) = w4 at *
          clear hb3 hb4 hw4
          have HGW := Lib.hid (HG.out.below HT4.out.bel)
          go_at_call 18
          (with_reducible refine (error_is (errV_zero) (show ((0 : Int) == 0) = true from rfl) _ HGW.out).mono ?_)
          rintro e w5 ⟨rfl, hb5⟩
          have HG25 := Lib.hid (below_block hb5 (size_of_block HG2.out) HG2.out)
          have HG35 := Lib.hid (below_block hb5 (size_of_block HG3.out) HG3.out)
          have HT5 := Lib.hid (HT4.out.below hb5)
          have HM5 := Lib.hid (HM4.out.kept (HT4.out.keptS hb5))
          clear hb5 HGW HG2 HG3 HT4 HM4
          obtain ⟨z0, z1, z2, z3⟩ := row2 HM5.out.blk
          try rw [hG3]
          go_wp2
          have hbd : Below w5.heap.size w5 w5.drew := below_drewN (Below.refl _ _) 1
          have HT6 := Lib.hid (HT5.out.below hbd)
          have HM6 := Lib.hid (HM5.out.kept (HT5.out.keptS hbd))
          have HG26 := Lib.hid (below_block hbd (size_of_block HG25.out) HG25.out)
          have HG36 := Lib.hid (below_block hbd (size_of_block HG35.out) HG35.out)
          clear hbd
          refine wp_region_noPanic ?_
          refine wp_region_held_drew (S := (fun w' => w'.cell? ⟨M, 0, none⟩ = some (.slice A2 n2 c2))) (by kernel_rfl) (by go_keep) (fun hHeld => ?_)
          refine' wpAnyH_take (i := 0) ?hix18x0 ?hsx18x0 ?hfx18x0 ?hrx18x0 ?hQx18x0 ?hyx18x0 ?hSx18x0 ?hx18x0
          case hix18x0 => (simp only [List.getElem?_toArray, List.getElem?_cons_succ, List.getElem?_cons_zero]; exact rfl)
          case hsx18x0 | hfx18x0 | hrx18x0 => kernel_rfl
          case hQx18x0 => exact fun _ _ _ h => h
          case hyx18x0 => (first | (refine Or.inr ⟨by rfl, ?_⟩; rfl) | (refine Or.inl ⟨by rfl, ?_⟩; (intro w hSw; (try dsimp only at hSw); go_simp); try with_reducible rfl))
          case hSx18x0 => assumption
          try simp only [Act.put, List.setIfInBounds_toArray, List.set_cons_zero, List.set_cons_succ]
          refine' wpAnyH_take (i := 2) ?hix18x2 ?hsx18x2 ?hfx18x2 ?hrx18x2 ?hQx18x2 ?hyx18x2 ?hSx18x2 ?hx18x2
          case hix18x2 => (simp only [List.getElem?_toArray, List.getElem?_cons_succ, List.getElem?_cons_zero]; exact rfl)
          case hsx18x2 | hfx18x2 | hrx18x2 => kernel_rfl
          case hQx18x2 => exact fun _ _ _ h => h
          case hyx18x2 => (first | (refine Or.inr ⟨by rfl, ?_⟩; rfl) | (refine Or.inl ⟨by rfl, ?_⟩; (intro w hSw; (try dsimp only at hSw); go_simp); try with_reducible rfl))
          case hSx18x2 => assumption
          try simp only [Act.put, List.setIfInBounds_toArray, List.set_cons_zero, List.set_cons_succ]
          refine' wpAnyH_take (i := 3) ?hix18x3 ?hsx18x3 ?hfx18x3 ?hrx18x3 ?hQx18x3 ?hyx18x3 ?hSx18x3 ?hx18x3
          case hix18x3 => (simp only [List.getElem?_toArray, List.getElem?_cons_succ, List.getElem?_cons_zero]; exact rfl)
          case hsx18x3 | hfx18x3 | hrx18x3 => kernel_rfl
          case hQx18x3 => exact fun _ _ _ h => h
          case hyx18x3 => (first | (refine Or.inr ⟨by rfl, ?_⟩; rfl) | (refine Or.inl ⟨by rfl, ?_⟩; (intro w hSw; (try dsimp only at hSw); go_simp); try with_reducible rfl))
          case hSx18x3 => assumption
          try simp only [Act.put, List.setIfInBounds_toArray, List.set_cons_zero, List.set_cons_succ]
          refine wpAnyH_ready (rs := [1]) (by kernel_rfl) (by simp) ?_
          refine' AllReadyH.cons ?hix18x1 (fun K hK => ?hx18x1) AllReadyH.nil
          case hix18x1 => (simp only [List.getElem?_toArray, List.getElem?_cons_succ, List.getElem?_cons_zero]; exact rfl)
          go_simp
          go_at_call 23
          (with_reducible refine (List_t HT6.out).mono ?_)
          rintro e w7 ⟨v7, rfl, ho7, hb7⟩
          have HR7 := Lib.hid (show R1 rdNets w7 v7 (allM m) from ho7.read)
          have HG27 := Lib.hid (below_block hb7 (size_of_block HG26.out) HG26.out)
          have HG37 := Lib.hid (below_block hb7 (size_of_block HG36.out) HG36.out)
          have HT7 := Lib.hid (HT6.out.below hb7)
          have HM7 := Lib.hid (HM6.out.kept (HT6.out.keptS hb7))
          obtain ⟨A7, c7, rfl⟩ := ho7.form
          obtain ⟨L7, hL7⟩ : ∃ L7, (allM m).length = L7 := ⟨_, rfl⟩
          rw [hL7] at HR7 ⊢
          clear ho7 hb7 hL7 z0 z1 z2 z3
          obtain ⟨z0, z1, z2, z3⟩ := row2 HM7.out.blk
          refine hK.out _ _ (by go_keep) (fun hHeld => ?_)
          clear hK K
          refine wpAnyH_ready (rs := [4]) (by kernel_rfl) (by simp) ?_
          refine' AllReadyH.cons ?hix18x4 (fun K hK => ?hx18x4) AllReadyH.nil
          case hix18x4 => (simp only [List.getElem?_toArray, List.getElem?_cons_succ, List.getElem?_cons_zero]; exact rfl)
          go_simp
          go_at_call 24
          (with_reducible refine (Ordered_any (HM7.out.row.r1 HT7.out.sLt) (by have h1 := HLEN.out; unfold keysM; rw [List.length_map]; omega)).mono ?_)
          rintro e w8 ⟨v8, rfl, ho8, hb8⟩
          rw [ord_all HT7.out.ok] at ho8
          have HR8 := Lib.hid (show R1 rdNets w8 v8 (allM m) from ho8.read)
          have HR78 := Lib.hid (HR7.out.below hb8)
          have HG28 := Lib.hid (below_block hb8 (size_of_block HG27.out) HG27.out)
          have HG38 := Lib.hid (below_block hb8 (size_of_block HG37.out) HG37.out)
          have HT8 := Lib.hid (HT7.out.below hb8)
          have HM8 := Lib.hid (HM7.out.kept (HT7.out.keptS hb8))
          obtain ⟨A8, c8, rfl⟩ := ho8.form
          obtain ⟨L8, hL8⟩ : ∃ L8, (allM m).length = L8 := ⟨_, rfl⟩
          rw [hL8] at HR8 ⊢
          clear ho8 hb8 hL8 z0 z1 z2 z3
          obtain ⟨z0, z1, z2, z3⟩ := row2 HM8.out.blk
          refine hK.out _ _ (by go_keep) (fun hHeld => ?_)
          clear hK K
          refine wpAnyH_ready (rs := [5]) (by kernel_rfl) (by simp) ?_
          refine' AllReadyH.cons ?hix18x5 (fun K hK => ?hx18x5) AllReadyH.nil
          case hix18x5 => (simp only [List.getElem?_toArray, List.getElem?_cons_succ, List.getElem?_cons_zero]; exact rfl)
          go_simp
          go_at_call 22
          have HQ7 := Lib.hid (show rdNets w8 (· < w8.heap.size) [.slice A7 L7 c7] (allM m) from HR78.out)
          have HQ8 := Lib.hid (show rdNets w8 (· < w8.heap.size) [.slice A8 L8 c8] (allM m) from HR8.out)
          (with_reducible refine (Nets_any HQ7.out HQ8.out (by simp : decide (allM m = allM m) = true)).mono ?_)
          rintro e w9 ⟨rfl, d9, hw9⟩
          have hb9 : Below w8.heap.size w8 w9 := by rw [hw9]; exact below_drewN (Below.refl _ _) _
          have HB9 := Lib.hid (HT8.out.below hb9).bel
          have HG29 := below_block hb9 (size_of_block HG28.out) HG28.out
          have HG39 := below_block hb9 (size_of_block HG38.out) HG38.out
          have HM9 := HM8.out.kept (HT8.out.keptS hb9)
          clear hb9 hw9 z0 z1 z2 z3
          obtain ⟨z0, z1, z2, z3⟩ := row2 HM9.blk
          refine hK.out _ _ (by go_keep) (fun hHeld => ?_)
          clear hK K
          refine' wpAnyH_take (i := 6) ?hix18x6 ?hsx18x6 ?hfx18x6 ?hrx18x6 ?hQx18x6 ?hyx18x6 ?hSx18x6 ?hx18x6
          case hix18x6 => (simp only [List.getElem?_toArray, List.getElem?_cons_succ, List.getElem?_cons_zero]; exact rfl)
          case hsx18x6 | hfx18x6 | hrx18x6 => kernel_rfl
          case hQx18x6 => exact fun _ _ _ h => h
          case hyx18x6 => (first | (refine Or.inr ⟨by rfl, ?_⟩; rfl) | (refine Or.inl ⟨by rfl, ?_⟩; (intro w hSw; (try dsimp only at hSw); go_simp); try with_reducible rfl))
          case hSx18x6 => assumption
          try simp only [Act.put, List.setIfInBounds_toArray, List.set_cons_zero, List.set_cons_succ]
          refine wpAnyH_done (by kernel_rfl) ?_ _
          refine NoPanic.normal ?_
          clear hHeld
          obtain ⟨x0, x1, x2, x3⟩ := row2 HG29
          obtain ⟨y0, y1, y2, y3⟩ := row2 HG39
          clear HG29 HG39 HM9
          go_wp2
          go_ret
          exact ⟨rfl, HB9.out⟩
      · skip
        go_wp2_with fail
        go_at_call 21
        (with_reducible refine (FindIn_any (HM0.out.row.r1 HT0.out.sLt) HA.out).mono ?_)
        rcases find_same HT0.out.ok (a := a) with ⟨hfn, hfl⟩ | ⟨j, v, i, hfn, hfl, hmi⟩
        · skip
          rw [hfl]
          rintro e w1 ⟨rfl, hb1⟩
          rw [show idxV none = -1 from rfl]
          have HFN := Lib.hid hfn
          have hb2 := hb1.trans ((below_1 w1 (.cells #[.int .u32 0, .int .i64 0] 32)).mono hb1.size)
          have HT2 := Lib.hid (HT0.out.below hb2)
          have HM2 := Lib.hid (HM0.out.kept (HT0.out.keptS hb2))
          have HG1 := Lib.hid (heap_alloc_new w1 (.cells #[.int .u32 0, .int .i64 0] 32))
          clear hb1 hb2 hfn hfl
          go_wp2_with fail
          go_at_call 12
          (with_reducible refine (Find_t HT2.out HA.out HFN.out).mono ?_)
          rintro e w3 ⟨rfl, hb3⟩
          rw [show findV a none = .tuple #[.agg #[.int .u32 0, .int .i64 0], .int .i64 0, .iface 41 (.int .i64 2)] from rfl]
          have hb4 := hb3.trans ((below_1 w3 (.cells #[.int .u32 0, .int .i64 0] 32)).mono hb3.size)
          have HG2 := Lib.hid (below_block hb4 (size_of_block HG1.out) HG1.out)
          have HG3 := Lib.hid (heap_alloc_new w3 (.cells #[.int .u32 0, .int .i64 0] 32))
          have HT4 := Lib.hid (HT2.out.below hb4)
          have HM4 := Lib.hid (HM2.out.kept (HT2.out.keptS hb4))
          go_wp2_with fail
          obtain ⟨G3, hG3⟩ : ∃ G3, w3.heap.size = G3 := ⟨_, rfl⟩
          rw [hG3] at HG3
          try rw [hG3]
          generalize hw4 : w3.alloc (.cells #[.int .u32 0, .int .i64 0] 32) = w4 at *
          clear hb3 hb4 hw4
          have HGW := Lib.hid (HG.out.below HT4.out.bel)
          go_at_call 18
          (with_reducible refine (error_is (errV_ne (k := 2) (by decide)) (show ((2 : Int) == 2) = true from rfl) _ HGW.out).mono ?_)
          rintro e w5 ⟨rfl, hb5⟩
          have HG25 := Lib.hid (below_block hb5 (size_of_block HG2.out) HG2.out)
          have HG35 := Lib.hid (below_block hb5 (size_of_block HG3.out) HG3.out)
          have HT5 := Lib.hid (HT4.out.below hb5)
          have HM5 := Lib.hid (HM4.out.kept (HT4.out.keptS hb5))
          clear hb5 HGW HG2 HG3 HT4 HM4
          obtain ⟨z0, z1, z2, z3⟩ := row2 HM5.out.blk
          try rw [hG3]
          go_wp2
          have hbd : Below w5.heap.size w5 w5.drew := below_drewN (Below.refl _ _) 1
          have HT6 := Lib.hid (HT5.out.below hbd)
          have HM6 := Lib.hid (HM5.out.kept (HT5.out.keptS hbd))
          have HG26 := Lib.hid (below_block hbd (size_of_block HG25.out) HG25.out)
          have HG36 := Lib.hid (below_block hbd (size_of_block HG35.out) HG35.out)
          clear hbd
          refine wp_region_noPanic ?_
          refine wp_region_held_drew (S := (fun w' => w'.cell? ⟨M, 0, none⟩ = some (.slice A2 n2 c2))) (by kernel_rfl) (by go_keep) (fun hHeld => ?_)
          refine' wpAnyH_take (i := 0) ?hix19x0 ?hsx19x0 ?hfx19x0 ?hrx19x0 ?hQx19x0 ?hyx19x0 ?hSx19x0 ?hx19x0
          case hix19x0 => (simp only [List.getElem?_toArray, List.getElem?_cons_succ, List.getElem?_cons_zero]; exact rfl)
          case hsx19x0 | hfx19x0 | hrx19x0 => kernel_rfl
          case hQx19x0 => exact fun _ _ _ h => h
          case hyx19x0 => (first | (refine Or.inr ⟨by rfl, ?_⟩; rfl) | (refine Or.inl ⟨by rfl, ?_⟩; (intro w hSw; (try dsimp only at hSw); go_simp); try with_reducible rfl))
          case hSx19x0 => assumption
          try simp only [Act.put, List.setIfInBounds_toArray, List.set_cons_zero, List.set_cons_succ]
          refine' wpAnyH_take (i := 2) ?hix19x2 ?hsx19x2 ?hfx19x2 ?hrx19x2 ?hQx19x2 ?hyx19x2 ?hSx19x2 ?hx19x2
          case hix19x2 => (simp only [List.getElem?_toArray, List.getElem?_cons_succ, List.getElem?_cons_zero]; exact rfl)
          case hsx19x2 | hfx19x2 | hrx19x2 => kernel_rfl
          case hQx19x2 => exact fun _ _ _ h => h
          case hyx19x2 => (first | (refine Or.inr ⟨by rfl, ?_⟩; rfl) | (refine Or.inl ⟨by rfl, ?_⟩; (intro w hSw; (try dsimp only at hSw); go_simp); try with_reducible rfl))
          case hSx19x2 => assumption
          try simp only [Act.put, List.setIfInBounds_toArray, List.set_cons_zero, List.set_cons_succ]
          refine' wpAnyH_take (i := 3) ?hix19x3 ?hsx19x3 ?hfx19x3 ?hrx19x3 ?hQx19x3 ?hyx19x3 ?hSx19x3 ?hx19x3
          case hix19x3 => (simp only [List.getElem?_toArray, List.getElem?_cons_succ, List.getElem?_cons_zero]; exact rfl)
          case hsx19x3 | hfx19x3 | hrx19x3 => kernel_rfl
          case hQx19x3 => exact fun _ _ _ h => h
          case hyx19x3 => (first | (refine Or.inr ⟨by rfl, ?_⟩; rfl) | (refine Or.inl ⟨by rfl, ?_⟩; (intro w hSw; (try dsimp only at hSw); go_simp); try with_reducible rfl))
          case hSx19x3 => assumption
          try simp only [Act.put, List.setIfInBounds_toArray, List.set_cons_zero, List.set_cons_succ]
          refine wpAnyH_ready (rs := [1]) (by kernel_rfl) (by simp) ?_
          refine' AllReadyH.cons ?hix19x1 (fun K hK => ?hx19x1) AllReadyH.nil
          case hix19x1 => (simp only [List.getElem?_toArray, List.getElem?_cons_succ, List.getElem?_cons_zero]; exact rfl)
          go_simp
          go_at_call 23
          (with_reducible refine (List_t HT6.out).mono ?_)
          rintro e w7 ⟨v7, rfl, ho7, hb7⟩
          have HR7 := Lib.hid (show R1 rdNets w7 v7 (allM m) from ho7.read)
          have HG27 := Lib.hid (below_block hb7 (size_of_block HG26.out) HG26.out)
          have HG37 := Lib.hid (below_block hb7 (size_of_block HG36.out) HG36.out)
          have HT7 := Lib.hid (HT6.out.below hb7)
          have HM7 := Lib.hid (HM6.out.kept (HT6.out.keptS hb7))
          obtain ⟨A7, c7, rfl⟩ := ho7.form
          obtain ⟨L7, hL7⟩ : ∃ L7, (allM m).length = L7 := ⟨_, rfl⟩
          rw [hL7] at HR7 ⊢
          clear ho7 hb7 hL7 z0 z1 z2 z3
          obtain ⟨z0, z1, z2, z3⟩ := row2 HM7.out.blk
          refine hK.out _ _ (by go_keep) (fun hHeld => ?_)
          clear hK K
          refine wpAnyH_ready (rs := [4]) (by kernel_rfl) (by simp) ?_
          refine' AllReadyH.cons ?hix19x4 (fun K hK => ?hx19x4) AllReadyH.nil
          case hix19x4 => (simp only [List.getElem?_toArray, List.getElem?_cons_succ, List.getElem?_cons_zero]; exact rfl)
          go_simp
          go_at_call 24
          (with_reducible refine (Ordered_any (HM7.out.row.r1 HT7.out.sLt) (by have h1 := HLEN.out; unfold keysM; rw [List.length_map]; omega)).mono ?_)
          rintro e w8 ⟨v8, rfl, ho8, hb8⟩
          rw [ord_all HT7.out.ok] at ho8
          have HR8 := Lib.hid (show R1 rdNets w8 v8 (allM m) from ho8.read)
          have HR78 := Lib.hid (HR7.out.below hb8)
          have HG28 := Lib.hid (below_block hb8 (size_of_block HG27.out) HG27.out)
          have HG38 := Lib.hid (below_block hb8 (size_of_block HG37.out) HG37.out)
          have HT8 := Lib.hid (HT7.out.below hb8)
          have HM8 := Lib.hid (HM7.out.kept (HT7.out.keptS hb8))
          obtain ⟨A8, c8, rfl⟩ := ho8.form
          obtain ⟨L8, hL8⟩ : ∃ L8, (allM m).length = L8 := ⟨_, rfl⟩
          rw [hL8] at HR8 ⊢
          clear ho8 hb8 hL8 z0 z1 z2 z3
          obtain ⟨z0, z1, z2, z3⟩ := row2 HM8.out.blk
          refine hK.out _ _ (by go_keep) (fun hHeld => ?_)
          clear hK K
          refine wpAnyH_ready (rs := [5]) (by kernel_rfl) (by simp) ?_
          refine' AllReadyH.cons ?hix19x5 (fun K hK => ?hx19x5) AllReadyH.nil
          case hix19x5 => (simp only [List.getElem?_toArray, List.getElem?_cons_succ, List.getElem?_cons_zero]; exact rfl)
          go_simp
          go_at_call 22
          have HQ7 := Lib.hid (show rdNets w8 (· < w8.heap.size) [.slice A7 L7 c7] (allM m) from HR78.out)
          have HQ8 := Lib.hid (show rdNets w8 (· < w8.heap.size) [.slice A8 L8 c8] (allM m) from HR8.out)
          (with_reducible refine (Nets_any HQ7.out HQ8.out (by simp : decide (allM m = allM m) = true)).mono ?_)
          rintro e w9 ⟨rfl, d9, hw9⟩
          have hb9 : Below w8.heap.size w8 w9 := by rw [hw9]; exact below_drewN (Below.refl _ _) _
          have HB9 := Lib.hid (HT8.out.below hb9).bel
          have HG29 := below_block hb9 (size_of_block HG28.out) HG28.out
          have HG39 := below_block hb9 (size_of_block HG38.out) HG38.out
          have HM9 := HM8.out.kept (HT8.out.keptS hb9)
          clear hb9 hw9 z0 z1 z2 z3
          obtain ⟨z0, z1, z2, z3⟩ := row2 HM9.blk
          refine hK.out _ _ (by go_keep) (fun hHeld => ?_)
          clear hK K
          refine' wpAnyH_take (i := 6) ?hix19x6 ?hsx19x6 ?hfx19x6 ?hrx19x6 ?hQx19x6 ?hyx19x6 ?hSx19x6 ?hx19x6
          case hix19x6 => (simp only [List.getElem?_toArray, List.getElem?_cons_succ, List.getElem?_cons_zero]; exact rfl)
          case hsx19x6 | hfx19x6 | hrx19x6 => kernel_rfl
          case hQx19x6 => exact fun _ _ _ h => h
          case hyx19x6 => (first | (refine Or.inr ⟨by rfl, ?_⟩; rfl) | (refine Or.inl ⟨by rfl, ?_⟩; (intro w hSw; (try dsimp only at hSw); go_simp); try with_reducible rfl))
          case hSx19x6 => assumption
          try simp only [Act.put, List.setIfInBounds_toArray, List.set_cons_zero, List.set_cons_succ]
          refine wpAnyH_done (by kernel_rfl) ?_ _
          refine NoPanic.normal ?_
          clear hHeld
          obtain ⟨x0, x1, x2, x3⟩ := row2 HG29
          obtain ⟨y0, y1, y2, y3⟩ := row2 HG39
          clear HG29 HG39 HM9
          go_wp2
          go_ret
          exact ⟨rfl, HB9.out⟩
        · skip
          rw [hfl]
          rintro e w1 ⟨rfl, hb1⟩
          rw [show idxV (some (i, trimN (a, 32) j)) = (i : Int) from rfl]
          have HFN := Lib.hid hfn
          have hi : i < n2 := by
            have h1 := (List.getElem?_eq_some_iff.1 hmi).1
            have h2 := HLN.out.1
            omega
          have hi3 : i < n3 := by
            have h2 := HLN.out.2
            have h3 := HLN.out.1
            omega
          have HT1 := Lib.hid (HT0.out.below hb1)
          have HM1 := Lib.hid (HM0.out.kept (HT0.out.keptS hb1))
          obtain ⟨bb, oo, ⟨X, Y⟩, rfl, hbb, HXY, hwXY, x0, x1⟩ := RdSlice.atN HM1.out.row.nets hi
          obtain ⟨b3, o3, v', rfl, hb3, HVJ, hwv, x2⟩ := RdSlice.atI HM1.out.row.vals hi3
          obtain rfl : v' = v := by
            have h1 := HVJ.out
            rw [(keys_at hmi).2] at h1
            exact (Option.some.inj h1).symm
          have hXY : trimN (a, 32) j = (X, Y) := by
            have h1 := HXY.out
            rw [(keys_at hmi).1] at h1
            exact Option.some.inj h1
          have HFV : Hid (findV a (some (j, v')) = .tuple #[.agg #[.int .u32 X, .int .i64 Y], .int .i64 v', .nilIface]) := Lib.hid (by
            have h1 : fl (lowI j) a = X := congrArg Prod.fst hXY
            have h2 : (j : Int) = Y := congrArg Prod.snd hXY
            rw [← h1, ← h2]; rfl)
          have j4 : ¬ ((i : Int) < 0) := by omega
          have j5 : (0 : Int) ≤ (i : Int) := by omega
          have j6 : (i : Int) < (n3 : Int) := by omega
          have j7 : (i : Int) < (n2 : Int) := by omega
          obtain ⟨z0, z1, z2, z3⟩ := row2 HM1.out.blk
          have q1 : bb < w1.heap.size := HT1.out.sLt bb hbb.1
          have q2 : b3 < w1.heap.size := HT1.out.sLt b3 hb3.1
          have q3 : M < w1.heap.size := HT1.out.sLt M HM1.out.inS
          have q4 : ¬ bb = w1.heap.size := by omega
          have q5 : ¬ b3 = w1.heap.size := by omega
          have q6 : ¬ M = w1.heap.size := by omega
          have q7 : ¬ w1.heap.size = bb := by omega
          have q8 : ¬ w1.heap.size = b3 := by omega
          have q9 : ¬ w1.heap.size = M := by omega
          have hb2 := hb1.trans ((below_1 w1 (.cells #[.int .u32 X, .int .i64 Y] 32)).mono hb1.size)
          have HT2 := Lib.hid (HT0.out.below hb2)
          have HM2 := Lib.hid (HM0.out.kept (HT0.out.keptS hb2))
          have HG1 := Lib.hid (heap_alloc_new w1 (.cells #[.int .u32 X, .int .i64 Y] 32))
          clear hb1 hb2 hfn hfl hXY hwXY hwv HVJ HXY hmi
          go_upto_region 38 with (fail)
          clear q1 q2 q3 q4 q5 q6 q7 q8 q9 x0 x1 x2 z0 z1 z2 z3 hi hi3 hbb hb3 HT1 HM1
          generalize hA2 : (some ⟨bb, oo, none⟩ : Option Addr) = A2 at *
          generalize hA3 : (some ⟨b3, o3, none⟩ : Option Addr) = A3 at *
          clear hA2 hA3
          go_wp2_with fail
          go_at_call 12
          (with_reducible refine (Find_t HT2.out HA.out HFN.out).mono ?_)
          rintro e w3 ⟨rfl, hb3⟩
          rw [show findV a (some (j, v')) = .tuple #[.agg #[.int .u32 X, .int .i64 Y], .int .i64 v', .nilIface] from HFV.out]
          have hb4 := hb3.trans ((below_1 w3 (.cells #[.int .u32 X, .int .i64 Y] 32)).mono hb3.size)
          have HG2 := Lib.hid (below_block hb4 (size_of_block HG1.out) HG1.out)
          have HG3 := Lib.hid (heap_alloc_new w3 (.cells #[.int .u32 X, .int .i64 Y] 32))
          have HT4 := Lib.hid (HT2.out.below hb4)
          have HM4 := Lib.hid (HM2.out.kept (HT2.out.keptS hb4))
          go_wp2_with fail
          obtain ⟨G3, hG3⟩ : ∃ G3, w3.heap.size = G3 := ⟨_, rfl⟩
          rw [hG3] at HG3
          try rw [hG3]
          generalize hw4 : w3.alloc (.cells #[.int .u32 X, .int .i64 Y] 32) = w4 at *
          clear hb3 hb4 hw4
          have HGW := Lib.hid (HG.out.below HT4.out.bel)
          go_at_call 18
          (with_reducible refine (error_is (errV_zero) (show ((0 : Int) == 0) = true from rfl) _ HGW.out).mono ?_)
          rintro e w5 ⟨rfl, hb5⟩
          have HG25 := Lib.hid (below_block hb5 (size_of_block HG2.out) HG2.out)
          have HG35 := Lib.hid (below_block hb5 (size_of_block HG3.out) HG3.out)
          have HT5 := Lib.hid (HT4.out.below hb5)
          have HM5 := Lib.hid (HM4.out.kept (HT4.out.keptS hb5))
          clear hb5 HGW HG2 HG3 HT4 HM4
          obtain ⟨z0, z1, z2, z3⟩ := row2 HM5.out.blk
          try rw [hG3]
          go_wp2
          have hbd : Below w5.heap.size w5 w5.drew := below_drewN (Below.refl _ _) 1
          have HT6 := Lib.hid (HT5.out.below hbd)
          have HM6 := Lib.hid (HM5.out.kept (HT5.out.keptS hbd))
          have HG26 := Lib.hid (below_block hbd (size_of_block HG25.out) HG25.out)
          have HG36 := Lib.hid (below_block hbd (size_of_block HG35.out) HG35.out)
          clear hbd
          refine wp_region_noPanic ?_
          refine wp_region_held_drew (S := (fun w' => w'.cell? ⟨M, 0, none⟩ = some (.slice A2 n2 c2))) (by kernel_rfl) (by go_keep) (fun hHeld => ?_)
          refine' wpAnyH_take (i := 0) ?hix20x0 ?hsx20x0 ?hfx20x0 ?hrx20x0 ?hQx20x0 ?hyx20x0 ?hSx20x0 ?hx20x0
          case hix20x0 => (simp only [List.getElem?_toArray, List.getElem?_cons_succ, List.getElem?_cons_zero]; exact rfl)
          case hsx20x0 | hfx20x0 | hrx20x0 => kernel_rfl
          case hQx20x0 => exact fun _ _ _ h => h
          case hyx20x0 => (first | (refine Or.inr ⟨by rfl, ?_⟩; rfl) | (refine Or.inl ⟨by rfl, ?_⟩; (intro w hSw; (try dsimp only at hSw); go_simp); try with_reducible rfl))
          case hSx20x0 => assumption
          try simp only [Act.put, List.setIfInBounds_toArray, List.set_cons_zero, List.set_cons_succ]
          refine' wpAnyH_take (i := 2) ?hix20x2 ?hsx20x2 ?hfx20x2 ?hrx20x2 ?hQx20x2 ?hyx20x2 ?hSx20x2 ?hx20x2
          case hix20x2 => (simp only [List.getElem?_toArray, List.getElem?_cons_succ, List.getElem?_cons_zero]; exact rfl)
          case hsx20x2 | hfx20x2 | hrx20x2 => kernel_rfl
          case hQx20x2 => exact fun _ _ _ h => h
          case hyx20x2 => (first | (refine Or.inr ⟨by rfl, ?_⟩; rfl) | (refine Or.inl ⟨by rfl, ?_⟩; (intro w hSw; (try dsimp only at hSw); go_simp); try with_reducible rfl))
          case hSx20x2 => assumption
          try simp only [Act.put, List.setIfInBounds_toArray, List.set_cons_zero, List.set_cons_succ]
          refine' wpAnyH_take (i := 3) ?hix20x3 ?hsx20x3 ?hfx20x3 ?hrx20x3 ?hQx20x3 ?hyx20x3 ?hSx20x3 ?hx20x3
          case hix20x3 => (simp only [List.getElem?_toArray, List.getElem?_cons_succ, List.getElem?_cons_zero]; exact rfl)
          case hsx20x3 | hfx20x3 | hrx20x3 => kernel_rfl
          case hQx20x3 => exact fun _ _ _ h => h
          case hyx20x3 => (first | (refine Or.inr ⟨by rfl, ?_⟩; rfl) | (refine Or.inl ⟨by rfl, ?_⟩; (intro w hSw; (try dsimp only at hSw); go_simp); try with_reducible rfl))
          case hSx20x3 => assumption
          try simp only [Act.put, List.setIfInBounds_toArray, List.set_cons_zero, List.set_cons_succ]
          refine wpAnyH_ready (rs := [1]) (by kernel_rfl) (by simp) ?_
          refine' AllReadyH.cons ?hix20x1 (fun K hK => ?hx20x1) AllReadyH.nil
          case hix20x1 => (simp only [List.getElem?_toArray, List.getElem?_cons_succ, List.getElem?_cons_zero]; exact rfl)
          go_simp
          go_at_call 23
          (with_reducible refine (List_t HT6.out).mono ?_)
          rintro e w7 ⟨v7, rfl, ho7, hb7⟩
          have HR7 := Lib.hid (show R1 rdNets w7 v7 (allM m) from ho7.read)
          have HG27 := Lib.hid (below_block hb7 (size_of_block HG26.out) HG26.out)
          have HG37 := Lib.hid (below_block hb7 (size_of_block HG36.out) HG36.out)
          have HT7 := Lib.hid (HT6.out.below hb7)
          have HM7 := Lib.hid (HM6.out.kept (HT6.out.keptS hb7))
          obtain ⟨A7, c7, rfl⟩ := ho7.form
          obtain ⟨L7, hL7⟩ : ∃ L7, (allM m).length = L7 := ⟨_, rfl⟩
          rw [hL7] at HR7 ⊢
          clear ho7 hb7 hL7 z0 z1 z2 z3
          obtain ⟨z0, z1, z2, z3⟩ := row2 HM7.out.blk
          refine hK.out _ _ (by go_keep) (fun hHeld => ?_)
          clear hK K
          refine wpAnyH_ready (rs := [4]) (by kernel_rfl) (by simp) ?_
          refine' AllReadyH.cons ?hix20x4 (fun K hK => ?hx20x4) AllReadyH.nil
          case hix20x4 => (simp only [List.getElem?_toArray, List.getElem?_cons_succ, List.getElem?_cons_zero]; exact rfl)
          go_simp
          go_at_call 24
          (with_reducible refine (Ordered_any (HM7.out.row.r1 HT7.out.sLt) (by have h1 := HLEN.out; unfold keysM; rw [List.length_map]; omega)).mono ?_)
          rintro e w8 ⟨v8, rfl, ho8, hb8⟩
          rw [ord_all HT7.out.ok] at ho8
          have HR8 := Lib.hid (show R1 rdNets w8 v8 (allM m) from ho8.read)
          have HR78 := Lib.hid (HR7.out.below hb8)
          have HG28 := Lib.hid (below_block hb8 (size_of_block HG27.out) HG27.out)
          have HG38 := Lib.hid (below_block hb8 (size_of_block HG37.out) HG37.out)
          have HT8 := Lib.hid (HT7.out.below hb8)
          have HM8 := Lib.hid (HM7.out.kept (HT7.out.keptS hb8))
          obtain ⟨A8, c8, rfl⟩ := ho8.form
          obtain ⟨L8, hL8⟩ : ∃ L8, (allM m).length = L8 := ⟨_, rfl⟩
          rw [hL8] at HR8 ⊢
          clear ho8 hb8 hL8 z0 z1 z2 z3
          obtain ⟨z0, z1, z2, z3⟩ := row2 HM8.out.blk
          refine hK.out _ _ (by go_keep) (fun hHeld => ?_)
          clear hK K
          refine wpAnyH_ready (rs := [5]) (by kernel_rfl) (by simp) ?_
          refine' AllReadyH.cons ?hix20x5 (fun K hK => ?hx20x5) AllReadyH.nil
          case hix20x5 => (simp only [List.getElem?_toArray, List.getElem?_cons_succ, List.getElem?_cons_zero]; exact rfl)
          go_simp
          go_at_call 22
          have HQ7 := Lib.hid (show rdNets w8 (· < w8.heap.size) [.slice A7 L7 c7] (allM m) from HR78.out)
          have HQ8 := Lib.hid (show rdNets w8 (· < w8.heap.size) [.slice A8 L8 c8] (allM m) from HR8.out)
          (with_reducible refine (Nets_any HQ7.out HQ8.out (by simp : decide (allM m = allM m) = true)).mono ?_)
          rintro e w9 ⟨rfl, d9, hw9⟩
          have hb9 : Below w8.heap.size w8 w9 := by rw [hw9]; exact below_drewN (Below.refl _ _) _
          have HB9 := Lib.hid (HT8.out.below hb9).bel
          have HG29 := below_block hb9 (size_of_block HG28.out) HG28.out
          have HG39 := below_block hb9 (size_of_block HG38.out) HG38.out
          have HM9 := HM8.out.kept (HT8.out.keptS hb9)
          clear hb9 hw9 z0 z1 z2 z3
          obtain ⟨z0, z1, z2, z3⟩ := row2 HM9.blk
          refine hK.out _ _ (by go_keep) (fun hHeld => ?_)
          clear hK K
          refine' wpAnyH_take (i := 6) ?hix20x6 ?hsx20x6 ?hfx20x6 ?hrx20x6 ?hQx20x6 ?hyx20x6 ?hSx20x6 ?hx20x6
          case hix20x6 => (simp only [List.getElem?_toArray, List.getElem?_cons_succ, List.getElem?_cons_zero]; exact rfl)
          case hsx20x6 | hfx20x6 | hrx20x6 => kernel_rfl
          case hQx20x6 => exact fun _ _ _ h => h
          case hyx20x6 => (first | (refine Or.inr ⟨by rfl, ?_⟩; rfl) | (refine Or.inl ⟨by rfl, ?_⟩; (intro w hSw; (try dsimp only at hSw); go_simp); try with_reducible rfl))
          case hSx20x6 => assumption
          try simp only [Act.put, List.setIfInBounds_toArray, List.set_cons_zero, List.set_cons_succ]
          refine wpAnyH_done (by kernel_rfl) ?_ _
          refine NoPanic.normal ?_
          clear hHeld
          obtain ⟨x0, x1, x2, x3⟩ := row2 HG29
          obtain ⟨y0, y1, y2, y3⟩ := row2 HG39
          clear HG29 HG39 HM9
          go_wp2
          go_ret
          exact ⟨rfl, HB9.out⟩
theorem TrieTells_walk (w : World) (A : Option Addr) (n c : Nat) (l : List Nt) (rr : RV rdNets w (.slice A n c) l) (q : l.length * 16 ≤ reachBytes ∧ ∀ x ∈ l, True ∧ True) (A1 : Option Addr) (n1 c1 : Nat) (vs : List Int) (rr1 : RV rdInts w (.slice A1 n1 c1) vs) (q1 : vs.length * 8 ≤ reachBytes ∧ ∀ x ∈ vs, True) (a : Int) (ba : 0 ≤ a ∧ a ≤ 4294967295) (hg : HErr w) :
    Calls Tryd.prog 4 #[.slice A n c, .slice A1 n1 c1, .int .u32 a] w fun e w' => e = .returned (.bool true) ∧ Below w.heap.size w w' :=
  TrieTells_any rr rr1 ba hg
end Go.Proofs.YtplojnlmofbneaaDoor
