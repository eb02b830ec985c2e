/- waywardenref2.LongOf. -/
import Derived.Test.YtccgaflbhpagcaaDoorSpanR
import Derived.Test.YtccgaflbhpagcaaDoorRepeat
import Derived.StillTailTactics
import Derived.BigQuiet
namespace Go.Proofs.YtccgaflbhpagcaaDoor
open Go.ChangeShapes Go.WideShapes Go.ChangeAt Go.RowKit Sp
set_option linter.unusedVariables false
set_option linter.unusedSimpArgs false
def ldB (l : List Lnk) (k : Nat) (D0 : List Int) : List Int := (l.take k).foldl longS D0
theorem ldB_snoc {l : List Lnk} {k : Nat} {x : Lnk} (h : l[k]? = some x) (D0 : List Int) : ldB l (k + 1) D0 = longS (ldB l k D0) x := by
  unfold ldB; rw [take_succ_of h, List.foldl_append]; rfl
theorem dGet_at {D : List Int} {i : Nat} (h : i < D.length) : D[i]? = some (dGet D i) := by
  unfold dGet; rw [List.getD_eq_getElem?_getD, List.getElem?_eq_getElem h]; rfl
theorem wf1000 {z : Int} (h : 0 ≤ z ∧ z ≤ 1000) : (Lit.int .i64 z).wf = true := WalkArith.wf_i64 (by omega)
theorem ldB_lng {n r : Nat} {l : List Lnk} {B : List Bel} {D : List Int} (ok : OkL n l) (hf : Fin n (arcsOf l) B) (h : Lng n B r D) (k : Nat) : Lng n B r (ldB l k D) := (h.fold ok hf (m := l.take k) (fun x hx => List.mem_of_mem_take hx)).1
set_option maxRecDepth 100000 in
set_option maxHeartbeats 8000000 in
theorem LongOf_any {w : World} {n r : Nat} {A : Option Addr} {m c : Nat} {l : List Lnk} {B : List Bel} (hl : R1 rdLinks w (.slice A m c) l) (hok : OkL n l) (hf : Fin n (arcsOf l) B) (hr : r < n) (hrr : (at_ B r).1 = (r : Int)) (h8 : n ≤ 8) (hbd : ∀ k, k < n → (at_ B k).2.1 ≤ 1000) :
    Calls Tryd.prog 14 #[.int .i64 n, .slice A m c, .int .i64 r] w fun e w' => ∃ v D, e = .returned v ∧ OwnI 3 w' w.heap.size v D ∧ LngT n B r n D ∧ Below w.heap.size w w' := by
  obtain ⟨hm, hle, hcm⟩ := RdSlice.len hl
  have hm0 : m ≤ 9223372036854775807 := by unfold maxLen at hcm; omega
  have HL := Lib.hid hl
  have HM := Lib.hid hm
  have HOK := Lib.hid hok
  have HF := Lib.hid hf
  have HST := Lib.hid (LngT.start hok hf hr hrr h8 hbd)
  have hw1 := Lib.hid (wf1000 (z := 1000) (by omega))
  have hw0 := Lib.hid (wf1000 (z := 0) (by omega))
  clear hl hm hle hcm hok hf hrr hbd
  go_enter Tryd.func14, Tryd.ntmps14
  go_wp2_with fail
  go_at_call 21
  (with_reducible refine (Repeat_any hw1.out (by omega)).mono ?_)
  rintro e w1 ⟨v1, rfl, hown, hb1⟩
  obtain ⟨gd, cd, rfl, hgb, hgl⟩ := hown.some_ (by simp; omega)
  rw [List.length_replicate] at hown ⊢
  obtain ⟨c0, f0⟩ := hown.at_ (k := r) (x := 1000) (by simp [hr])
  have HO := Lib.hid (hown.set (k := r) hw0.out)
  have HB : Hid (Below w.heap.size w (w1.setCell ⟨gd, r, none⟩ (.int .i64 0))) := Lib.hid (hb1.setCell hgb _)
  have s1 := hb1.size
  clear hown hb1
  go_wp2
  go_loopw [8] (fun t wr => ∃ (k : Nat) (D : List Int), k ≤ n ∧ t = .int .i64 k ∧ LngT n B r k D ∧ OwnI 3 wr w.heap.size (.slice (some ⟨gd, 0, none⟩) n cd) D ∧ Below w.heap.size w wr) (fun t _ => n - (intOf t).toNat)
  case atStart => exact ⟨0, _, Nat.zero_le _, rfl, HST.out, HO.out, HB.out⟩
  case round =>
    obtain ⟨k, D, hk, rfl, hlt, hown, hb⟩ := hrel
    have HT := Lib.hid hlt
    have HO2 := Lib.hid hown
    have HB2 := Lib.hid hb
    clear hlt hown hb HO HB c0 f0
    by_cases hkn : k < n
    · go_wp2
      go_loopw [9] (fun t wr => ∃ j : Nat, j ≤ m ∧ t = .int .i64 j ∧ OwnI 3 wr w.heap.size (.slice (some ⟨gd, 0, none⟩) n cd) (ldB l j D) ∧ Below w.heap.size w wr) (fun t _ => m - (intOf t).toNat)
      case atStart => exact ⟨0, Nat.zero_le _, rfl, HO2.out, HB2.out⟩
      case round =>
        obtain ⟨j, hj, rfl, hown, hb⟩ := hrel
        have HO3 := Lib.hid hown
        have HB3 := Lib.hid hb
        clear hown hb
        by_cases hlt2 : j < m
        · obtain ⟨g, o, x0, x1, z, rfl, hbb, HX, -, d0, d1, d2⟩ := RdSlice.atL HL.out hlt2
          have hmem := List.mem_of_getElem? HX.out
          have hrg := HOK.out.rng _ hmem
          simp only at hrg
          obtain ⟨a, rfl⟩ := Int.eq_ofNat_of_zero_le hrg.1
          obtain ⟨b, rfl⟩ := Int.eq_ofNat_of_zero_le hrg.2.2.1
          have ha : a < n := by omega
          have hb' : b < n := by omega
          have hz1 : 1 ≤ z := hrg.2.2.2.2.1
          have hz2 : z ≤ 15 := hrg.2.2.2.2.2.1
          have hne : ¬ a = b := by have := hrg.2.2.2.2.2.2; omega
          have hne2 : ¬ b = a := fun e => hne e.symm
          have hlng := ldB_lng HOK.out HF.out HT.out.lng j
          have hDl := hlng.len
          obtain ⟨la, ua⟩ := hlng.bd a ha
          obtain ⟨lb, ub⟩ := hlng.bd b hb'
          obtain ⟨e0, f0⟩ := HO3.out.at_ (dGet_at (i := a) (by rw [hDl]; exact ha))
          obtain ⟨e1, f1⟩ := HO3.out.at_ (dGet_at (i := b) (by rw [hDl]; exact hb'))
          have hgw : g < w.heap.size := hbb
          have hgne : ¬ g = gd := by omega
          have hgne2 : ¬ gd = g := by omega
          have c0 := (HB3.out.cell hbb).trans d0
          have c1 := (HB3.out.cell hbb).trans d1
          have c2 := (HB3.out.cell hbb).trans d2
          have HS := Lib.hid (ldB_snoc HX.out D)
          have HDA := Lib.hid (show dGet (relD (ldB l j D) a b z) a = min (dGet (ldB l j D) a) (dGet (ldB l j D) b + z) from (dGet_set (by rw [hDl]; exact ha)).trans (if_pos rfl))
          have HDB2 := Lib.hid (show dGet (relD (ldB l j D) a b z) b = dGet (ldB l j D) b from (dGet_set (by rw [hDl]; exact ha)).trans (if_neg hne2))
          have d0' := d0
          have d1' := d1
          have d2' := d2
          have HDL : Hid ((ldB l j D).length = n) := Lib.hid hDl
          have HDB := Lib.hid (dGet_at (D := ldB l j D) (i := b) (by rw [hDl]; exact hb'))
          clear hrg d0 d1 d2 hlng hDl hmem
          have HLS : Hid (longS (ldB l j D) ((a : Int), (b : Int), z) = ((ldB l j D).set a (min (dGet (ldB l j D) a) (dGet (ldB l j D) b + z))).set b (min (dGet (ldB l j D) b) (min (dGet (ldB l j D) a) (dGet (ldB l j D) b + z) + z))) := Lib.hid (by
            unfold longS
            simp only [Int.toNat_natCast]
            show List.set _ _ (min (dGet (relD (ldB l j D) a b z) b) (dGet (relD (ldB l j D) a b z) a + z)) = _
            rw [HDA.out, HDB2.out]; rfl)
          clear HDA HDB2
          generalize hda : dGet (ldB l j D) a = da at *
          generalize hdb : dGet (ldB l j D) b = db at *
          clear hda hdb
          have i0 : (0 : Int) ≤ (j : Int) := by omega
          have i1 : (j : Int) < (m : Int) := by omega
          by_cases hx : db + z < da
          · have hy : ¬ db + z + z < db := by omega
            have HL2 := Lib.hid (HLS.out.trans (show _ = ((ldB l j D).set a (db + z)).set b (db) by rw [show min da (db + z) = db + z by omega, show min db (db + z + z) = db by omega]))
            clear HLS
            have hwr : IntKind.i64.wrap (db + z) = db + z := by rw [IntKind.wrap_i64]; omega
            have hwr2 : IntKind.i64.wrap (db + z + z) = db + z + z := by rw [IntKind.wrap_i64]; omega
            go_wp2
            go_still_tail 30, (by kernel_rfl)
            change wpList _ _ _ _ _ wr.drew
            go_wp2
            have HO4 : Hid (OwnI 3 (wr.setCell ⟨gd, a, none⟩ (.int .i64 (db + z))).drew w.heap.size (.slice (some ⟨gd, 0, none⟩) n cd) ((ldB l j D).set a (db + z))) := Lib.hid ((HO3.out.set (wf1000 (by omega))).below (below_drewN (Below.refl _ _) 1))
            have HB4 : Hid (Below w.heap.size w (wr.setCell ⟨gd, a, none⟩ (.int .i64 (db + z))).drew) := Lib.hid (below_drewN (HB3.out.setCell hgb _) 1)
            have c3 := (HB4.out.cell hbb).trans d0'
            have c4 := (HB4.out.cell hbb).trans d1'
            have c5 := (HB4.out.cell hbb).trans d2'
            obtain ⟨e2, f2⟩ := HO4.out.at_ (k := a) (x := db + z) (by rw [List.getElem?_set_self (by rw [HDL.out]; exact ha)])
            obtain ⟨e3, f3⟩ := HO4.out.at_ (k := b) (x := db) (by rw [List.getElem?_set_ne hne]; exact HDB.out)
            generalize (wr.setCell ⟨gd, a, none⟩ (.int .i64 (db + z))).drew = wq at *
            clear c0 c1 c2 e0 e1 f0 f1
            go_still_tail 30, (by kernel_rfl)
            change wpList _ _ _ _ _ wq.drew
            go_wp2
            go_roundw
            case rel => exact ⟨j + 1, by omega, by go_num, by rw [HS.out, HL2.out]; exact (HO4.out.set (wf1000 (by omega))).below (below_drewN (Below.refl _ _) 1), below_drewN (HB4.out.setCell hgb _) 1⟩
            case measure => simp [intOf]; omega
          · by_cases hy : da + z < db
            · have hx1 := hx
              have HL2 := Lib.hid (HLS.out.trans (show _ = ((ldB l j D).set a (da)).set b (da + z) by rw [show min da (db + z) = da by omega, show min db (da + z) = da + z by omega]))
              clear HLS
              have hwr : IntKind.i64.wrap (db + z) = db + z := by rw [IntKind.wrap_i64]; omega
              have hwr2 : IntKind.i64.wrap (da + z) = da + z := by rw [IntKind.wrap_i64]; omega
              go_wp2
              go_still_tail 30, (by kernel_rfl)
              change wpList _ _ _ _ _ wr.drew
              go_wp2
              have HO4 : Hid (OwnI 3 (wr.setCell ⟨gd, a, none⟩ (.int .i64 (da))).drew w.heap.size (.slice (some ⟨gd, 0, none⟩) n cd) ((ldB l j D).set a (da))) := Lib.hid ((HO3.out.set (wf1000 (by omega))).below (below_drewN (Below.refl _ _) 1))
              have HB4 : Hid (Below w.heap.size w (wr.setCell ⟨gd, a, none⟩ (.int .i64 (da))).drew) := Lib.hid (below_drewN (HB3.out.setCell hgb _) 1)
              have c3 := (HB4.out.cell hbb).trans d0'
              have c4 := (HB4.out.cell hbb).trans d1'
              have c5 := (HB4.out.cell hbb).trans d2'
              obtain ⟨e2, f2⟩ := HO4.out.at_ (k := a) (x := da) (by rw [List.getElem?_set_self (by rw [HDL.out]; exact ha)])
              obtain ⟨e3, f3⟩ := HO4.out.at_ (k := b) (x := db) (by rw [List.getElem?_set_ne hne]; exact HDB.out)
              generalize (wr.setCell ⟨gd, a, none⟩ (.int .i64 (da))).drew = wq at *
              clear c0 c1 c2 e0 e1 f0 f1
              go_still_tail 30, (by kernel_rfl)
              change wpList _ _ _ _ _ wq.drew
              go_wp2
              go_roundw
              case rel => exact ⟨j + 1, by omega, by go_num, by rw [HS.out, HL2.out]; exact (HO4.out.set (wf1000 (by omega))).below (below_drewN (Below.refl _ _) 1), below_drewN (HB4.out.setCell hgb _) 1⟩
              case measure => simp [intOf]; omega
            · have hx1 := hx
              have HL2 := Lib.hid (HLS.out.trans (show _ = ((ldB l j D).set a (da)).set b (db) by rw [show min da (db + z) = da by omega, show min db (da + z) = db by omega]))
              clear HLS
              have hwr : IntKind.i64.wrap (db + z) = db + z := by rw [IntKind.wrap_i64]; omega
              have hwr2 : IntKind.i64.wrap (da + z) = da + z := by rw [IntKind.wrap_i64]; omega
              go_wp2
              go_still_tail 30, (by kernel_rfl)
              change wpList _ _ _ _ _ wr.drew
              go_wp2
              have HO4 : Hid (OwnI 3 (wr.setCell ⟨gd, a, none⟩ (.int .i64 (da))).drew w.heap.size (.slice (some ⟨gd, 0, none⟩) n cd) ((ldB l j D).set a (da))) := Lib.hid ((HO3.out.set (wf1000 (by omega))).below (below_drewN (Below.refl _ _) 1))
              have HB4 : Hid (Below w.heap.size w (wr.setCell ⟨gd, a, none⟩ (.int .i64 (da))).drew) := Lib.hid (below_drewN (HB3.out.setCell hgb _) 1)
              have c3 := (HB4.out.cell hbb).trans d0'
              have c4 := (HB4.out.cell hbb).trans d1'
              have c5 := (HB4.out.cell hbb).trans d2'
              obtain ⟨e2, f2⟩ := HO4.out.at_ (k := a) (x := da) (by rw [List.getElem?_set_self (by rw [HDL.out]; exact ha)])
              obtain ⟨e3, f3⟩ := HO4.out.at_ (k := b) (x := db) (by rw [List.getElem?_set_ne hne]; exact HDB.out)
              generalize (wr.setCell ⟨gd, a, none⟩ (.int .i64 (da))).drew = wq at *
              clear c0 c1 c2 e0 e1 f0 f1
              go_still_tail 30, (by kernel_rfl)
              change wpList _ _ _ _ _ wq.drew
              go_wp2
              go_roundw
              case rel => exact ⟨j + 1, by omega, by go_num, by rw [HS.out, HL2.out]; exact (HO4.out.set (wf1000 (by omega))).below (below_drewN (Below.refl _ _) 1), below_drewN (HB4.out.setCell hgb _) 1⟩
              case measure => simp [intOf]; omega
        · have ej : j = m := by omega
          subst ej
          have e : l.take j = l := List.take_of_length_le (by rw [HM.out]; exact Nat.le_refl _)
          have HE : Hid (ldB l j D = longR l D) := Lib.hid (by unfold ldB; rw [e]; rfl)
          have HRN := Lib.hid (HT.out.round HOK.out HF.out)
          clear e
          go_wp2
          go_roundw
          case rel => exact ⟨k + 1, _, by omega, by go_num, HRN.out, by rw [← HE.out]; exact HO3.out, HB3.out⟩
          case measure => simp [intOf]; omega
    · have ek : k = n := by omega
      subst ek
      go_wp2
      go_ret
      exact ⟨_, D, rfl, HO2.out, HT.out, HB2.out⟩
end Go.Proofs.YtccgaflbhpagcaaDoor
