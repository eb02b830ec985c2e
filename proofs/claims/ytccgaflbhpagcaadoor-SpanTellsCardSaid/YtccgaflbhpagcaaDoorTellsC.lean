/- SpanTells: the walk, where nothing is wrong. -/
import Derived.Test.YtccgaflbhpagcaaDoorTellsA
namespace Go.Proofs.YtccgaflbhpagcaaDoor
open Go.ChangeShapes Go.WideShapes Go.ChangeAt Go.RowKit Sp
set_option linter.unusedVariables false
set_option linter.unusedSimpArgs false
set_option maxRecDepth 100000 in
set_option maxHeartbeats 16000000 in
theorem SpanTells_good {w : World} {n : Nat} {A : Option Addr} {c m : Nat} {l : List Lnk} (hl : R1 rdLinks w (.slice A m c) l) (hok : OkL n l) (h1 : 1 ≤ n) (h8 : n ≤ 8) (he : HErr w) :
    Calls Tryd.prog 3 #[.int .i64 n, .slice A m c] w fun e w' => e = .returned (.bool true) ∧ Below w.heap.size w w' := by
  obtain ⟨B, hlast⟩ := last_ex hok h8
  have hf := hlast.fin (ok_arcs hok) h8 (sym_arcs l)
  have hinv := hlast.inv (ok_arcs hok)
  have h64 := len64 hok h8
  obtain ⟨hm, hle, hcm⟩ := RdSlice.len hl
  have hm64 : m ≤ 64 := by omega
  have HM := Lib.hid hm
  have HOK := Lib.hid hok
  have HF := Lib.hid hf
  have HLA := Lib.hid hlast
  have HBD : Hid (∀ k, k < n → (at_ B k).2.1 ≤ 1000) := Lib.hid (fun k hk => by have := inv_rng (ok_arcs hok) hinv hk; omega)
  have HBL := Lib.hid hinv.len
  have HWF := Lib.hid (fun (k : Nat) (hk : k < n) => inv_wf hok h8 hinv hk (c := 1) (by omega) (by omega))
  have HRG := Lib.hid (fun (k : Nat) (hk : k < n) => inv_rng (ok_arcs hok) hinv hk)
  have HG := Lib.hid (graphE_sub hok h1 h8 (List.Sublist.refl l))
  have HL := Lib.hid hl
  have HE := Lib.hid he
  clear hl he hok hf hinv hlast hm hle hcm
  go_enter Tryd.func3, Tryd.ntmps3
  go_wp2_with fail
  go_at_call 4
  (with_reducible refine (spanned_any _).mono ?_)
  rintro e w1 ⟨rfl, hb1⟩
  have HB1 := Lib.hid hb1
  have s1 := hb1.size
  have HL1 := Lib.hid (HL.out.below hb1)
  have HE1 := Lib.hid (HE.out.below hb1)
  clear hb1
  go_wp2_with fail
  go_at_call 5
  (with_reducible refine (GFault_any HL1.out HG.out).mono ?_)
  rintro e w2 ⟨rfl, hb2⟩
  have HB2 := Lib.hid (HB1.out.trans (hb2.mono s1))
  have HL2 := Lib.hid (HL1.out.below hb2)
  have HE2 := Lib.hid (HE1.out.below hb2)
  clear hb2 HL HE HL1 HE1 HB1 s1
  go_wp2
  go_loopw [7, 8, 10] (fun v u t wr => ∃ k : Nat, k ≤ n ∧ t = .int .i64 k ∧ OwnI 3 wr w2.heap.size v ((B.take k).map fun x => x.1) ∧ OwnI 3 wr w2.heap.size u ((B.take k).map fun x => x.2.2) ∧ Apart v u ∧ Below w2.heap.size w2 wr)
    (fun _ _ t _ => n - (intOf t).toNat)
  case atStart => exact ⟨0, Nat.zero_le _, rfl, OwnI.nil_ _ _ _, OwnI.nil_ _ _ _, (fun g hg => by cases hg), Below.refl _ _⟩
  case round =>
    obtain ⟨k, hk, rfl, hown, hown2, hap, hb⟩ := hrel
    have HO := Lib.hid hown
    have HO2 := Lib.hid hown2
    have HAP := Lib.hid hap
    have HB := Lib.hid hb
    have s2 := hb.size
    clear hown hown2 hap hb
    by_cases hlt : k < n
    · have HX := Lib.hid (at_get (B := B) (i := k) (by rw [HBL.out]; exact hlt))
      obtain ⟨x, hx⟩ : ∃ x, at_ B k = x := ⟨_, rfl⟩
      have hr1 := HRG.out k hlt
      have HRC := Lib.hid (RootOf_any (HL2.out.below HB.out) HOK.out HF.out hlt h8)
      have hxx := HX.out
      rw [hx] at HRC hr1 hxx
      obtain ⟨xr, xf, xu⟩ := x
      simp only at HRC hr1
      obtain ⟨r0, r1, r2, r3, r4, r5⟩ := hr1
      have HXX := Lib.hid hxx
      have HX1 := Lib.hid hx
      have HW1 := Lib.hid (show (Lit.int .i64 xr).wf = true from WalkArith.wf_i64 (by omega))
      have HW2 := Lib.hid (show (Lit.int .i64 xu).wf = true from WalkArith.wf_i64 (by omega))
      have hlen : ((B.take k).map fun x => x.1).length ≤ 5864062014000 := by rw [List.length_map, List.length_take]; omega
      have hlen2 : ((B.take k).map fun x => x.2.2).length ≤ 5864062014000 := by rw [List.length_map, List.length_take]; omega
      clear hx hxx HX
      go_wp2_with fail
      go_at_call 6
      (with_reducible refine HRC.out.mono ?_)
      rintro e w3 ⟨rfl, hb3⟩
      have HO3 := Lib.hid (HO.out.below hb3)
      have HO23 := Lib.hid (HO2.out.below hb3)
      have HB3 := Lib.hid (HB.out.trans (hb3.mono s2))
      have s3 := HB3.out.size
      clear hb3 HO HO2 HB HRC
      go_wp2_with (first
        | (at_builtin; go_loud (refine wpList_append_int rfl (.tmp 35) (.tmp 40) 26 3 Tryd.underlying26 int_info_ rfl w2.heap.size _ _ rfl (HO3.out.alloc _) w3.heap.size xr 3 rfl (heap_alloc_new w3 _) HW1.out hlen (by simp; omega) ?_); intro v4 w4 hown4 hgrow4)
        | fail)
      have s4 := hgrow4.size
      simp at s4
      have HO4 := Lib.hid hown4
      have HO24 := Lib.hid ((HO23.out.alloc _).grow hgrow4 HAP.out)
      have HAP4 := Lib.hid (HAP.out.grow hgrow4 (HO23.out.alloc _).1)
      have HB4 := Lib.hid (hgrow4.below (HB3.out.alloc s3 _) (HO3.out.alloc _).1 (Nat.le_refl _) (by simp; omega))
      have s5 := HB4.out.size
      clear hown4 hgrow4 HO3 HO23 HAP HB3
      have HUC := Lib.hid (UpOf_any (HL2.out.below HB4.out) HOK.out HF.out hlt h8 HBD.out)
      rw [HX1.out] at HUC
      go_wp2_with fail
      go_at_call 7
      (with_reducible refine HUC.out.mono ?_)
      rintro e w5 ⟨rfl, hb5⟩
      have HO5 := Lib.hid (HO4.out.below hb5)
      have HO25 := Lib.hid (HO24.out.below hb5)
      have HB5 := Lib.hid (HB4.out.trans (hb5.mono s5))
      have s6 := HB5.out.size
      clear hb5 HO4 HO24 HB4 HUC
      go_wp2_with (first
        | (at_builtin; go_loud (refine wpList_append_int rfl (.tmp 42) (.tmp 47) 26 3 Tryd.underlying26 int_info_ rfl w2.heap.size _ _ rfl (HO25.out.alloc _) w5.heap.size xu 3 rfl (heap_alloc_new w5 _) HW2.out hlen2 (by simp; omega) ?_); intro v6 w6 hown6 hgrow6)
        | fail)
      have s7 := hgrow6.size
      simp at s7
      have HAP4s := Lib.hid HAP4.out.symm
      have HT1 := Lib.hid (take_succ_of HXX.out)
      go_roundw
      case rel =>
        refine ⟨k + 1, by omega, by go_num, ?_, ?_, ?_, ?_⟩
        · rw [HT1.out, List.map_append]; exact (HO5.out.alloc _).grow hgrow6 HAP4s.out
        · rw [HT1.out, List.map_append]; exact hown6
        · exact (HAP4s.out.grow hgrow6 (HO5.out.alloc _).1).symm
        · exact hgrow6.below (HB5.out.alloc s6 _) (HO25.out.alloc _).1 (Nat.le_refl _) (by simp; omega)
      case measure => simp [intOf]; omega
    · have ek : k = n := by omega
      subst ek
      have e : B.take k = B := List.take_of_length_le (by rw [HBL.out]; exact Nat.le_refl _)
      rw [e] at HO HO2
      have HL3 := Lib.hid (HL2.out.below HB.out)
      have HE3 := Lib.hid (HE2.out.below HB.out)
      have HB3 := Lib.hid (HB2.out.trans (HB.out.mono HB2.out.size))
      have HR7 := Lib.hid HO.out.read
      have hr8 := HO2.out.read
      obtain ⟨A8, c8, rfl⟩ := hr8.form
      rw [List.length_map, HBL.out] at hr8
      have HR8 : Hid (R1 (RdSlice 1 (rdInt .i64)) wr (.slice A8 k c8) (B.map fun x => x.2.2)) := Lib.hid hr8
      obtain ⟨b8, o8, rfl, -⟩ := HR8.out.where_ (by omega)
      rw [List.length_map, HBL.out]
      clear e HO HO2 HAP HB HL2 HE2 HB2 hr8
      obtain ⟨wo, rfl⟩ : ∃ wo : World, wo = wr := ⟨_, rfl⟩
      go_wp2
      go_loopw [9, 11] (fun v t w4 => ∃ j : Nat, j ≤ m ∧ t = .int .i64 j ∧ OwnT 29 w4 wo.heap.size v (treeOf B (l.take j)) ∧ Below wo.heap.size wo w4)
        (fun _ t _ => m - (intOf t).toNat)
      case atStart => exact ⟨0, Nat.zero_le _, rfl, OwnT.nil_ _ _ _, Below.refl _ _⟩
      case round =>
        obtain ⟨j, hj, rfl, hown, hb⟩ := hrel
        have HO := Lib.hid hown
        have HB := Lib.hid hb
        have s2 := hb.size
        clear hown hb
        by_cases hlt2 : j < m
        · obtain ⟨g, o, x0, x1, z, rfl, hbb, HX, ⟨wx, wy, wz⟩, d0, d1, d2⟩ := RdSlice.atL HL3.out hlt2
          have hrg := HOK.out.rng _ (List.mem_of_getElem? HX.out)
          simp only at hrg
          obtain ⟨a, rfl⟩ := Int.eq_ofNat_of_zero_le hrg.1
          obtain ⟨b, rfl⟩ := Int.eq_ofNat_of_zero_le hrg.2.2.1
          have ha : a < k := by omega
          have hb' : b < k := by omega
          have c0 := (HB.out.cell hbb).trans d0
          have c1 := (HB.out.cell hbb).trans d1
          have c2 := (HB.out.cell hbb).trans d2
          have HR8' := Lib.hid (HR8.out.below HB.out)
          have u0 := HR8'.out.cellI (map_at2 (f := fun x => x.2.2) (v := a) (B := B) (by rw [HBL.out]; exact ha))
          have u1 := HR8'.out.cellI (map_at2 (f := fun x => x.2.2) (v := b) (B := B) (by rw [HBL.out]; exact hb'))
          have HS := Lib.hid (tree_snoc (B := B) HX.out)
          have HW := Lib.hid (show wf3 (a : Int) (b : Int) z from ⟨wx, wy, wz⟩)
          have HUS := Lib.hid (used_of (B := B) (a := a) (b := b) (c := z))
          have hlen : (treeOf B (l.take j)).length ≤ 5864062014000 := by
            have h1 := List.length_filter_le (usedB B) (l.take j)
            rw [List.length_take] at h1
            show (List.filter _ _).length ≤ _
            omega
          generalize hua : (at_ B a).2.2 = ua at u0 HUS
          generalize hub : (at_ B b).2.2 = ub at u1 HUS
          clear hua hub hrg d0 d1 d2 wx wy wz
          have i0 : (0 : Int) ≤ (j : Int) := by omega
          have i1 : (j : Int) < (m : Int) := by omega
          cases t1 : (ua == (b : Int)) <;> cases t2 : (ub == (a : Int))
          all_goals
            have HUS2 : Hid (usedB B ((a : Int), (b : Int), z) = ((ua == (b : Int)) || (ub == (a : Int)))) := Lib.hid (HUS.out.trans (by congr 1 <;> exact (Bool.eq_iff_iff.2 (by simp))))
            rw [t1, t2] at HUS2
            go_wp2
            go_quiet (fail)
            first
              | (have HS2 := Lib.hid (HS.out.trans (by rw [if_neg (by rw [HUS2.out]; simp), List.append_nil]))
                 go_wp2
                 go_roundw
                 case rel => exact ⟨j + 1, by omega, by go_num, by rw [HS2.out]; exact HO.out.below (below_drewN (Below.refl _ _) _), below_drewN HB.out _⟩
                 case measure => simp [intOf]; omega)
              | (have HS2 : Hid (treeOf B (l.take (j + 1)) = treeOf B (l.take j) ++ [((a : Int), (b : Int), z)]) := Lib.hid (HS.out.trans (by rw [if_pos (by rw [HUS2.out]; rfl)]))
                 have HO5 := Lib.hid (HO.out.below (below_drewN (Below.refl _ _) nq))
                 go_wp2_with (first
                   | (at_builtin; go_loud (refine wpList_append_three rfl _ _ 22 29 Tryd.underlying22 link_info rfl wo.heap.size _ _ rfl (HO5.out.alloc _) wr.heap.size ((a : Int), (b : Int), z) 29 rfl (heap_alloc_new (wr.drewN nq) _) HW.out hlen (by simp; omega) ?_); intro v' w6 hown6 hgrow6)
                   | go_in)
                 have s6 := hgrow6.size
                 simp at s6
                 go_roundw
                 case rel => exact ⟨j + 1, by omega, by go_num, by rw [HS2.out]; exact hown6, hgrow6.below ((below_drewN HB.out nq).alloc s2 _) (HO5.out.alloc _).1 (Nat.le_refl _) (by simp; omega)⟩
                 case measure => simp [intOf]; omega)
              | fail
        · have ej : j = m := by omega
          subst ej
          have e : l.take j = l := List.take_of_length_le (by rw [← HM.out]; exact Nat.le_refl _)
          rw [e] at HO
          have HU := Lib.hid (show Bun w wr A j c l _ _ _ _ _ _ from ⟨HB3.out.trans (HB.out.mono HB3.out.size), HL3.out.below HB.out, HE3.out.below HB.out, HR7.out.below HB.out, HR8.out.below HB.out, HO.out.read⟩)
          clear e HO HB HL3 HE3 HB3 HR7 HR8
          go_wp2_with fail
          go_at_call 8
          (with_reducible refine (Roots_yes HU.out.lk HOK.out h1 h8).mono ?_)
          rintro e w1 ⟨va, C, rfl, hva, hla, hb1⟩
          obtain rfl : B = C := HLA.out.one (ok_arcs HOK.out) h8 hla
          have HU2 := Lib.hid (HU.out.below hb1)
          clear HU
          have HU := HU2
          clear HU2
          have HVA := Lib.hid hva
          clear hva hla hb1
          go_wp2_with fail
          go_at_call 9
          (with_reducible refine (error_is errV_zero (beq_self_eq_true 0) _ HU.out.er).mono ?_)
          rintro e w1 ⟨rfl, hb1⟩
          have HU2 := Lib.hid (HU.out.below hb1)
          have HVB := Lib.hid (HVA.out.below hb1)
          clear HU
          have HU := HU2
          clear HU2 hb1 HVA
          go_wp2_with fail
          go_at_call 10
          (with_reducible refine (Ints_same HVB.out HU.out.r7).mono ?_)
          rintro e w1 ⟨rfl, d, rfl⟩
          have HU2 := Lib.hid (HU.out.drewN d)
          clear HU HVB
          have HU := HU2
          clear HU2
          go_wp2_with fail
          go_at_call 11
          (with_reducible refine (Ups_yes HU.out.lk HOK.out h1 h8).mono ?_)
          rintro e w1 ⟨va, C, rfl, hva, hla, hb1⟩
          obtain rfl : B = C := HLA.out.one (ok_arcs HOK.out) h8 hla
          have HU2 := Lib.hid (HU.out.below hb1)
          clear HU
          have HU := HU2
          clear HU2
          have HVA := Lib.hid hva
          clear hva hla hb1
          go_wp2_with fail
          go_at_call 9
          (with_reducible refine (error_is errV_zero (beq_self_eq_true 0) _ HU.out.er).mono ?_)
          rintro e w1 ⟨rfl, hb1⟩
          have HU2 := Lib.hid (HU.out.below hb1)
          have HVB := Lib.hid (HVA.out.below hb1)
          clear HU
          have HU := HU2
          clear HU2 hb1 HVA
          go_wp2_with fail
          go_at_call 10
          (with_reducible refine (Ints_same HVB.out HU.out.r8).mono ?_)
          rintro e w1 ⟨rfl, d, rfl⟩
          have HU2 := Lib.hid (HU.out.drewN d)
          clear HU HVB
          have HU := HU2
          clear HU2
          go_wp2_with fail
          go_at_call 12
          (with_reducible refine (Tree_yes HU.out.lk HOK.out h1 h8).mono ?_)
          rintro e w1 ⟨va, C, rfl, hva, hla, hb1⟩
          obtain rfl : B = C := HLA.out.one (ok_arcs HOK.out) h8 hla
          have HU2 := Lib.hid (HU.out.below hb1)
          clear HU
          have HU := HU2
          clear HU2
          have HVA := Lib.hid hva
          clear hva hla hb1
          go_wp2_with fail
          go_at_call 9
          (with_reducible refine (error_is errV_zero (beq_self_eq_true 0) _ HU.out.er).mono ?_)
          rintro e w1 ⟨rfl, hb1⟩
          have HU2 := Lib.hid (HU.out.below hb1)
          have HVB := Lib.hid (HVA.out.below hb1)
          clear HU
          have HU := HU2
          clear HU2 hb1 HVA
          go_wp2_with fail
          go_at_call 13
          (with_reducible refine (Links_v HVB.out HU.out.r9).mono ?_)
          rintro e w1 ⟨rfl, d, rfl⟩
          have HU2 := Lib.hid (HU.out.drewN d)
          clear HU HVB
          have HU := HU2
          clear HU2
          go_wp2
          go_ret
          exact ⟨rfl, HU.out.bel⟩
end Go.Proofs.YtccgaflbhpagcaaDoor
