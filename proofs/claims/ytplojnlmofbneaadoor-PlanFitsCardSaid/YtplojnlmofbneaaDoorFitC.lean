/- plan.Fit, as a contract. -/
import Derived.Test.YtplojnlmofbneaaDoorFitB
namespace Go.Proofs.YtplojnlmofbneaaDoor
open Go.ChangeShapes Go.WideShapes Go.ChangeAt Go.RowKit
set_option linter.unusedVariables false
set_option linter.unusedSimpArgs false
theorem info_int0 : (Tryd.prog.info? 3).map (fun i => (i.zero, i.size, i.bytes)) = some (some (.int .i64 0), 1, 8) := by kernel_rfl
set_option maxHeartbeats 1000000 in
theorem Fit_no {a n : Int} {A : Option Addr} {m c : Nat} {L : List Int} {w : World} (ha : is32 a) (hL : R1 (RdSlice 1 (rdInt .i64)) w (.slice A m c) L) (hf : fitF (a, n) L ≠ 0) :
    Calls Tryd.prog 29 #[.agg #[.int .u32 a, .int .i64 n], .slice A m c] w fun e w' => e = .returned (.tuple #[.slice none 0 0, errV (fitF (a, n) L)]) ∧ Below w.heap.size w w' := by
  have HA := Lib.hid ha
  have HL := Lib.hid ((hL.alloc (.cells #[.int .u32 a, .int .i64 n] 32)).alloc (.cells #[.slice A m c] 38))
  by_cases h0 : roomF (a, n) L = 0
  · have hv : roomV (a, n) L < 0 := by
      unfold fitF at hf
      rw [if_neg (by rw [h0]; decide)] at hf
      by_cases h : roomV (a, n) L < 0
      · exact h
      · rw [if_neg h] at hf; exact absurd rfl hf
    have HF : Hid (fitF (a, n) L = 4) := Lib.hid (by unfold fitF; rw [if_neg (by rw [h0]; decide), if_pos hv])
    rw [HF.out, errV_ne (by decide)]
    have H0 := Lib.hid h0
    obtain ⟨q, hq⟩ : ∃ q, roomV (a, n) L = q := ⟨_, rfl⟩
    have HQ := Lib.hid hq
    rw [hq] at hv
    clear hf hL h0 hq
    go_enter Tryd.func29, Tryd.ntmps29
    go_wp2_with fail
    (with_reducible refine (Room_any HA.out HL.out).mono ?_)
    rintro e w1 ⟨rfl, hb1⟩
    rw [H0.out, if_pos rfl, HQ.out, errV_zero]
    have HB1 := Lib.hid ((below_2 w _ _).trans (hb1.mono (by simp; omega)))
    clear hb1
    go_wp2
    go_ret2
    exact ⟨rfl, HB1.out⟩
  · have HF : Hid (fitF (a, n) L = roomF (a, n) L) := Lib.hid (by unfold fitF; rw [if_pos h0])
    rw [HF.out]
    have H0 := Lib.hid h0
    clear hf hL h0
    go_enter Tryd.func29, Tryd.ntmps29
    go_wp2_with fail
    (with_reducible refine (Room_any HA.out HL.out).mono ?_)
    rintro e w1 ⟨rfl, hb1⟩
    rw [if_neg H0.out, errV_ne H0.out]
    have HB1 := Lib.hid ((below_2 w _ _).trans (hb1.mono (by simp; omega)))
    clear hb1
    go_wp2
    go_ret2
    exact ⟨by rw [errV_ne H0.out]; rfl, HB1.out⟩
def FitPost (w : World) (a : Int) (n : Nat) (L : List Int) (e : Ending) (w' : World) : Prop := ∃ W g, (W.Perm (idsN L.length) ∧ Srtd (keyL L) W) ∧ e = .returned (.tuple #[.slice (some ⟨g, 0, none⟩) L.length L.length, .nilIface]) ∧ OutN w' g (putAll L W a (List.replicate L.length (0, 0))) ∧ Below w.heap.size w w' ∧ w.heap.size ≤ g
theorem fit_room {x : Nt} {L : List Int} (h : fitF x L = 0) : roomF x L = 0 ∧ 0 ≤ roomV x L := by
  unfold fitF at h
  by_cases h0 : roomF x L = 0
  · rw [if_neg (by rw [h0]; decide)] at h
    by_cases h1 : roomV x L < 0
    · rw [if_pos h1] at h; cases h
    · exact ⟨h0, by omega⟩
  · rw [if_pos h0] at h; exact absurd h h0
theorem room_parts {x : Nt} {L : List Int} (h : roomF x L = 0) : netF x = 0 ∧ L.length ≤ 64 ∧ badL L = false := by
  unfold roomF at h
  by_cases h0 : netF x = 0
  · rw [if_neg (by rw [h0]; decide)] at h
    by_cases h1 : 64 < L.length
    · rw [if_pos h1] at h; cases h
    · rw [if_neg h1] at h
      by_cases h2 : badL L = true
      · rw [if_pos h2] at h; cases h
      · exact ⟨h0, by omega, by simpa using h2⟩
  · rw [if_pos h0] at h; exact absurd h h0
theorem sumL_perm {l l' : List Int} (h : l.Perm l') : sumL l = sumL l' := by
  have key : ∀ (l : List Int) (s : Int), (l.map fun k => lowI k.toNat).foldl (· + ·) s = s + (l.map fun k => lowI k.toNat).foldl (· + ·) 0 := by
    intro l
    induction l with
    | nil => intro s; simp
    | cons k r ih => intro s; simp only [List.map_cons, List.foldl_cons]; rw [ih (s + _), ih (0 + _)]; omega
  have cons : ∀ k r, sumL (k :: r) = lowI k.toNat + sumL r := fun k r => by unfold sumL; simp only [List.map_cons, List.foldl_cons]; rw [key]; omega
  induction h with
  | nil => rfl
  | cons x _ ih => rw [cons, cons, ih]
  | swap x y l => rw [cons, cons, cons, cons]; omega
  | trans _ _ h1 h2 => rw [h1, h2]
theorem sumL_cons (k : Int) (r : List Int) : sumL (k :: r) = lowI k.toNat + sumL r := by
  have h : (k :: r).Perm (r ++ [k]) := List.perm_append_comm (l₁ := [k]) (l₂ := r)
  rw [sumL_perm h, sumL_snoc]; omega
theorem map_key_ids (L : List Int) : (idsN L.length).map (keyL L) = L := by
  unfold idsN
  rw [List.map_map]
  apply List.ext_getElem
  · simp
  · intro i h1 h2
    simp [keyL, List.getD_eq_getElem?_getD, List.getElem?_eq_getElem h2]
theorem sumK_perm {L W : List Int} (h : W.Perm (idsN L.length)) : sumK L W = sumL L := by
  unfold sumK
  rw [sumL_perm (h.map (keyL L)), map_key_ids]
theorem key_range {L : List Int} (h : badL L = false) {i : Int} (h0 : 0 ≤ i) (h1 : i < L.length) : 0 ≤ keyL L i ∧ keyL L i ≤ 32 := by
  obtain ⟨j, rfl⟩ := Int.eq_ofNat_of_zero_le h0
  have hj : j < L.length := by omega
  have hk := keyL_at (L := L) (List.getElem?_eq_getElem hj)
  rw [hk]
  have := List.any_eq_false.1 h L[j] (List.getElem_mem hj)
  simp at this
  omega
set_option maxRecDepth 100000 in
set_option maxHeartbeats 8000000 in
theorem Fit_yes {a : Int} {n : Nat} {A : Option Addr} {m c : Nat} {L : List Int} {w : World} (ha : is32 a) (hL : R1 (RdSlice 1 (rdInt .i64)) w (.slice A m c) L) (hf : fitF (a, (n : Int)) L = 0) (hs : a + lowI n ≤ 4294967296) :
    Calls Tryd.prog 29 #[.agg #[.int .u32 a, .int .i64 n], .slice A m c] w (FitPost w a n L) := by
  have HA := Lib.hid ha
  have HL := Lib.hid ((hL.alloc (.cells #[.int .u32 a, .int .i64 n] 32)).alloc (.cells #[.slice A m c] 38))
  obtain ⟨h0, hv⟩ := fit_room hf
  obtain ⟨h1, h64, hbad⟩ := room_parts h0
  have hm := (RdSlice.len hL).1
  have H0 := Lib.hid h0
  obtain ⟨q, hq⟩ : ∃ q, roomV (a, (n : Int)) L = q := ⟨_, rfl⟩
  rw [hq] at hv
  have HQ := Lib.hid hq
  have hqn : decide (q < 0) = false := by simp; omega
  have HM := Lib.hid hm
  have hm64 : m ≤ 64 := by omega
  have HBad := Lib.hid hbad
  have HSum : Hid (a + sumL L ≤ 4294967296) := Lib.hid (by unfold roomV at hq; simp only [Int.toNat_natCast] at hq; omega)
  clear hf hL h0 hq h1 h64 hm hbad hs
  go_enter Tryd.func29, Tryd.ntmps29
  go_wp2_with fail
  (with_reducible refine (Room_any HA.out HL.out).mono ?_)
  rintro e w1 ⟨rfl, hb1⟩
  rw [H0.out, if_pos rfl, HQ.out, errV_zero]
  obtain ⟨bx0, bx1⟩ := box2 hb1
  have HX0 := Lib.hid bx0
  have HX1 := Lib.hid bx1
  obtain ⟨d0, d1, _, _⟩ := row2 bx0
  have e0 : w1.cell? ⟨w.heap.size + 1, 0, none⟩ = some (.slice A m c) := by rw [cell_of_row _ _ _ _ _ (0, 0) bx1]; rfl
  have HL1 := Lib.hid (HL.out.below hb1)
  have HB1 := Lib.hid ((below_2 w _ _).trans (hb1.mono (by simp; omega)))
  have hz1 : w.heap.size + 2 ≤ w1.heap.size := by have := hb1.size; simp at this; omega
  clear hb1 bx0 bx1
  go_wp2
  go_loopw [8, 28] (fun v i wr => ∃ k : Nat, k ≤ m ∧ i = .int .i64 (k : Int) ∧ Hid (k = 0 → v = .slice none 0 0) ∧ OwnI 3 wr w1.heap.size v (idsN k) ∧ Below w1.heap.size w1 wr) (fun _ i _ => m - (intOf i).toNat)
  case atStart => exact ⟨0, Nat.zero_le _, rfl, Lib.hid (fun _ => rfl), OwnI.nil_ _ _ _, Below.refl _ _⟩
  case round =>
    obtain ⟨k, hk, rfl, HNIL, hown, hbr⟩ := hrel
    have HO := Lib.hid hown
    have HBR := Lib.hid hbr
    have hzr := hbr.size
    by_cases hlt : k < m
    · have HWF := Lib.hid (WalkArith.wf_i64 (n := (k : Int)) (by omega))
      have hlen : (idsN k).length ≤ 5864062014000 := by rw [idsN_len]; omega
      obtain ⟨A8, c8, rfl⟩ := hown.form
      obtain ⟨M8, hM8⟩ : ∃ M8, (idsN k).length = M8 := ⟨_, rfl⟩
      rw [hM8] at HO HNIL ⊢
      clear hown hbr hM8
      go_wp2_with (first
        | (at_builtin; go_loud (refine wpList_append_int rfl _ _ 38 3 Tryd.underlying38 info_int0 rfl w1.heap.size _ _ rfl (HO.out.alloc _) wr.heap.size (k : Int) 3 rfl (heap_alloc_new wr _) HWF.out hlen (by simp; omega) ?_); intro v' w2 hown2 hgrow2)
        | fail)
      have HB2 := Lib.hid (hgrow2.below (HBR.out.alloc hzr (.cells #[.int .i64 (k : Int)] 3)) (HO.out.alloc _).1 (Nat.le_refl _) (by simp; omega))
      have HO2 : Hid (OwnI 3 w2 w1.heap.size v' (idsN (k + 1))) := Lib.hid (by rw [idsN_succ]; exact hown2)
      clear hown2 hgrow2
      go_roundw
      case rel => exact ⟨k + 1, by omega, by go_num, Lib.hid (fun h => by omega), HO2.out, HB2.out⟩
      case measure => simp [intOf]; try omega
    · have hkm : k = m := by omega
      have HKM := Lib.hid hkm
      have ⟨A8, c8, hv8⟩ := hown.form
      rw [idsN_len, hkm] at hv8
      subst hv8
      have HO2 : Hid (OwnI 3 wr w1.heap.size (.slice A8 m c8) (idsN m)) := Lib.hid (by rw [← HKM.out]; rw [← HKM.out] at HO; exact HO.out)
      have HNIL2 : Hid (m = 0 → (Value.slice A8 m c8) = .slice none 0 0) := Lib.hid (fun h => HNIL.out (by omega))
      clear hown hbr HNIL HO hkm
      go_upto_region 12 with (fail)
      go_cut [] (fun wx => ∃ W, (W.Perm (idsN m) ∧ Srtd (keyL L) W) ∧ R1 (RdSlice 1 (rdInt .i64)) wx (.slice A8 m c8) W ∧ Below w1.heap.size w1 wx)
      case first =>
        by_cases hm0 : m = 0
        · have e := HNIL2.out hm0
          simp only [Value.slice.injEq] at e
          obtain ⟨rfl, rfl, rfl⟩ := e
          go_wp2_with fail
          (with_reducible refine (SortStable_nil _ _).mono ?_)
          rintro e w2 ⟨rfl, rfl⟩
          go_wp2
          go_meet
          exact ⟨[], ⟨List.Perm.refl _, srtd_nil⟩, RdSlice.nil_, HBR.out⟩
        · obtain ⟨g, cap, e, hg, hcap, hrw⟩ := HO2.out.rw (by rw [idsN_len]; omega)
          rw [idsN_len] at e hcap
          simp only [Value.slice.injEq, true_and] at e
          obtain ⟨rfl, rfl⟩ := e
          have hGb := below_block HBR.out (size_of_block HX1.out) HX1.out
          have hCC : CmpC wr g (w.heap.size + 1) m (keyL L) := by
            have hLg : RdSlice 1 (rdInt .i64) wr (· < g) [.slice A m c] L := by
              have h1 : RdSlice 1 (rdInt .i64) w1 (· < w1.heap.size) [.slice A m c] L := HL1.out
              have h2 := RdLaw.keep h1 (w' := wr) (fun p hp => HBR.out.cell hp)
              exact RdLaw.mono h2 (fun b hb => by omega)
            have h := cmpC_lens hGb (by omega) hLg
            rwa [← HM.out] at h
          have HSS := Lib.hid (SortStable_any (w0 := wr) (w := wr) (c := c8) (N := m) ⟨Below.refl _ _, hrw⟩ hCC (idsN_in m) (idsN_asc m) (idsN_len m).symm (by omega))
          have HRW := Lib.hid (And.intro hg hcap)
          clear hrw hCC hGb hg hcap hm0
          go_wp2_with fail
          (with_reducible refine HSS.out.mono ?_)
          rintro e w2 ⟨rfl, W, hW, hS⟩
          have HW := Lib.hid (And.intro hW hS)
          clear hW hS
          go_wp2
          go_meet
          obtain ⟨hW, hS⟩ := HW.out
          obtain ⟨hg, hcap⟩ := HRW.out
          refine ⟨W, hW, hS.row.read (by rw [hW.1.length_eq, idsN_len]) hcap.1 hcap.2 (fun x hx => WalkArith.wf_i64 (by have := idsN_mem.1 (hW.1.mem_iff.1 hx); omega)), HBR.out.trans (hS.bel.mono hg)⟩
      case rest =>
        obtain ⟨W, hW, hR, hbc⟩ := hcut
        have HW := Lib.hid hW
        have HR := Lib.hid hR
        have HBC := Lib.hid hbc
        have hbx0 := below_block hbc (size_of_block HX0.out) HX0.out
        have hbx1 := below_block hbc (size_of_block HX1.out) HX1.out
        obtain ⟨k0, k1, _, _⟩ := row2 hbx0
        have k2 : wc.cell? ⟨w.heap.size + 1, 0, none⟩ = some (.slice A m c) := by rw [cell_of_row _ _ _ _ _ (0, 0) hbx1]; rfl
        have hmk := run_make_nets m (by omega)
        have hzc := hbc.size
        have HY1 := Lib.hid hbx1
        have hq1 : w.heap.size < wc.heap.size := by omega
        have hq2 : w.heap.size + 1 < wc.heap.size := by omega
        have hq3 : ¬ w.heap.size = wc.heap.size := by omega
        have hq4 : ¬ w.heap.size + 1 = wc.heap.size := by omega
        have HOut := Lib.hid (OutN.zero wc m 32)
        have HBz := Lib.hid (below_1 wc (.cells (madeCells #[.int .u32 0, .int .i64 0] (m * 2)) 32))
        clear hW hR hbc hbx0 hbx1
        go_wp2
        go_loopw [11, 13, 47] (fun av iv cv wr => ∃ (k : Nat) (p : Int) (ns : List Nt), k ≤ m ∧ cv = .int .i64 (k : Int) ∧ av = .int .i64 p ∧ 0 ≤ p ∧ p ≤ 4294967296 ∧ Hid (p + sumK L (W.drop k) ≤ 4294967296 ∧ putAll L (W.drop k) p ns = putAll L W a (List.replicate m (0, 0)) ∧ ns.length = m) ∧ OutN wr wc.heap.size ns ∧ Below wc.heap.size wc wr) (fun _ _ cv _ => m - (intOf cv).toNat)
        case atStart =>
          have ha2 := HA.out.2
          have ha1 := HA.out.1
          refine ⟨0, a, List.replicate m (0, 0), Nat.zero_le _, rfl, by rw [wrap64_id (by omega) (by omega)], HA.out.1, by have := HA.out.2; omega, Lib.hid ⟨?_, rfl, by simp⟩, HOut.out, HBz.out⟩
          have h := sumK_perm (L := L) (W := W) (by rw [← HM.out]; exact HW.out.1)
          rw [List.drop_zero, h]; exact HSum.out
        case round =>
          clear HOut HBz HSum
          obtain ⟨k, p, ns, hk, rfl, rfl, hp0, hp1, HP, hout, hbr⟩ := hrel
          have HOut := Lib.hid hout
          have HBr := Lib.hid hbr
          have hzr := hbr.size
          clear hout hbr
          by_cases hlt2 : k < m
          · obtain ⟨b, o, x, rfl, hbb, HX, wx, c0⟩ := HR.out.atI hlt2
            have hxm := idsN_mem.1 (HW.out.1.mem_iff.1 (List.mem_of_getElem? HX.out))
            obtain ⟨i, rfl⟩ := Int.eq_ofNat_of_zero_le hxm.1
            have him : i < m := by omega
            have hLc : RdSlice 1 (rdInt .i64) wc (· < w1.heap.size) [.slice A m c] L := RdLaw.keep (show RdSlice 1 (rdInt .i64) w1 (· < w1.heap.size) [.slice A m c] L from HL1.out) (fun p hp => HBC.out.cell hp)
            obtain ⟨b', o', y, rfl, hbb', HY, wy, c1⟩ := hLc.atI him
            have HKy : Hid (keyL L (i : Int) = y) := Lib.hid (keyL_at HY.out)
            have hyr := key_range HBad.out (i := (i : Int)) (by omega) (by rw [← HM.out]; omega)
            rw [HKy.out] at hyr
            obtain ⟨z, rfl⟩ := Int.eq_ofNat_of_zero_le hyr.1
            have hz32 : z ≤ 32 := by omega
            have HWK0 := Lib.hid (wrap_low z)
            have hl1 := lowI_le z
            have hl2 := lowI_pos z
            obtain ⟨S, hS⟩ : ∃ S, lowI z = S := ⟨_, rfl⟩
            rw [hS] at hl1 hl2
            have HSt : Hid (p + S ≤ 4294967296 ∧ p + S + sumK L (W.drop (k + 1)) ≤ 4294967296 ∧ putAll L (W.drop (k + 1)) (p + S) (ns.set i (p, (z : Int))) = putAll L W a (List.replicate m (0, 0)) ∧ (ns.set i (p, (z : Int))).length = m) := Lib.hid (by
              obtain ⟨h1, h2, h3⟩ := HP.out
              rw [drop_at HX.out] at h1 h2
              unfold sumK at h1
              rw [List.map_cons, sumL_cons, HKy.out, Int.toNat_natCast, hS] at h1
              simp only [putAll] at h2
              rw [HKy.out, Int.toNat_natCast, Int.toNat_natCast, hS] at h2
              have h4 := (sumL_bound ((W.drop (k + 1)).map (keyL L))).1
              refine ⟨by omega, by unfold sumK; omega, h2, by simp [h3]⟩)
            have hps : p + S ≤ 4294967296 := HSt.out.1
            have HWK : Hid (wrap64 ((2 : Int) ^ (32 - z)) = S) := Lib.hid (by rw [← hS]; exact HWK0.out)
            have HWS : Hid (wrap64 (p + S) = p + S) := Lib.hid (wrap64_id (by omega) (by omega))
            have HWU : Hid (IntKind.u32.wrap p = p) := Lib.hid (IntWalk.u32_in p ⟨by omega, by omega⟩)
            have hgx : ∃ q, ns[i]? = some q := ⟨_, List.getElem?_eq_getElem (by rw [HP.out.2.2]; exact him)⟩
            obtain ⟨qn, hqn2⟩ := hgx
            obtain ⟨o0, o1, o2, o3⟩ := HOut.out.cells hqn2
            have r0 := (HBr.out.cell (p := ⟨b, o + k, none⟩) hbb).trans c0
            have r1 := (HBr.out.cell (p := ⟨b', o' + i, none⟩) (by simp only; omega)).trans c1
            have r2 := (HBr.out.cell (p := ⟨w.heap.size + 1, 0, none⟩) hq2).trans k2
            have HN := Lib.hid (HOut.out.set i p (z : Int) (by rw [HP.out.2.2]; exact him))
            clear hxm hLc hyr hS HWK0 hqn2 c0 c1 wx wy
            go_wp2
            go_roundw
            case rel => exact ⟨k + 1, p + S, _, by omega, by go_num, by rw [HWK.out, HWS.out], by omega, hps, Lib.hid HSt.out.2, HN.out, (HBr.out.setCell (Nat.le_refl _) _).setCell (Nat.le_refl _) _⟩
            case measure => simp [intOf]; try omega
          · have HF : Hid (ns = putAll L W a (List.replicate m (0, 0))) := Lib.hid (by
              have h := HP.out.2.1
              have hl : W.length = m := by rw [HW.out.1.length_eq, idsN_len]
              rw [drop_all W (by omega)] at h
              exact h)
            go_wp2
            go_ret2
            exact ⟨W, wc.heap.size, by rw [← HM.out]; exact HW.out, by rw [← HM.out]; rfl, by rw [← HM.out, ← HF.out]; exact HOut.out, HB1.out.trans ((HBC.out.trans (HBr.out.mono hzc)).mono (by omega)), by omega⟩
end Go.Proofs.YtplojnlmofbneaaDoor
