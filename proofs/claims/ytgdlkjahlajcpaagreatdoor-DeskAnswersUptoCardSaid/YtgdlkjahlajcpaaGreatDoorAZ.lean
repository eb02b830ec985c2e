/- DeskAnswers: the desk answers as the reference does. The walk. -/
import Derived.Test.YtgdlkjahlajcpaaGreatDoorAT
import Derived.Test.YtgdlkjahlajcpaaGreatDoorAY
import Derived.Lib.QuietBelow
import Derived.BigQuiet
import Derived.Deep.RegionHeld3
import Derived.Deep.DeepCutAuto
namespace Go.Proofs.YtgdlkjahlajcpaaGreatDoor
open Go.ChangeShapes Go.WideShapes Go.ChangeAt Go.RowKit
set_option linter.unusedVariables false
set_option linter.unusedSimpArgs false

theorem runA_snoc (P0 : List (List UInt8)) {LL : List (List UInt8)} {k : Nat} {x t : List UInt8} (h : LL[k]? = some x) (ht : ansT (lineA (tabA [] (LL.take k)) x).1 = t) : P0 ++ (runA [] (LL.take k) ++ [t]) = P0 ++ runA [] (LL.take (k + 1)) := by
  rw [runA_take h, ht]
def IsAt (A : Option Addr) (g : Nat) : Prop := A = some ⟨g, 0, none⟩
theorem round_lt {w : World} {T base : Nat} {v : Value} {xs : List (List UInt8)} (h : T < w.heap.size) (ho : OwnS w base v xs) : ∀ b, (b = T ∨ v.ownBlock = some b) → b < w.heap.size := by
  intro b hb
  rcases hb with rfl | hb
  · exact h
  · exact (ho.blk b hb).2
theorem below_grow {w0 w w' : World} {T : Nat} {v v' : Value} (h : Below T w0 w) (hg : Grow w v w' v') (hv : ∀ b, v.ownBlock = some b → T ≤ b) (hT : T ≤ w0.heap.size := by omega) : Below T w0 w' :=
  ⟨by rw [hg.1.os, h.os], by rw [hg.1.tape, h.tape], by rw [hg.1.output, h.output], Nat.le_trans h.size hg.size, fun i hi => (hg.1.block i (Nat.lt_of_lt_of_le hi (Nat.le_trans hT h.size)) fun e => by have := hv i e.symm; omega).trans (h.block i hi)⟩
theorem TabR.box {M : Nat → Prop} {w : World} {m : Tab} {A A' : Option Addr} {n c n' c' : Nat} {G : Nat} (h : TabR (fun b => M b ∨ b = G) w m A n c A' n' c') (u v : Value) : TabR M ((w.setCell ⟨G, 0, none⟩ u).setCell ⟨G, 1, none⟩ v) m A n c A' n' c' :=
  (h.store (.inr rfl) u v).swap fun b _ hb => .inl hb

set_option maxRecDepth 100000 in
set_option maxHeartbeats 8000000 in
theorem DeskAnswers_walk (W : World) (s : ByteArray) (cs : s.size ≤ reachBytes) (hw : HStr W) (hk : s.size + 1 ≤ 1048576) :
    Calls Tryz.prog 3 #[.string s] W fun e w' => e = .returned (.bool true) ∧ Below W.heap.size W w' := by
  have HW := Lib.hid hw
  have hs2 : s.size ≤ 2097152 := by omega
  clear hw cs hk
  obtain ⟨PP, hPP⟩ : ∃ PP : Ending → World → Prop, (fun e w' => e = .returned (.bool true) ∧ Below W.heap.size W w') = PP := ⟨_, rfl⟩
  have HPP := Lib.hid hPP
  rw [hPP]
  clear hPP
  go_enter Tryz.func3, Tryz.ntmps3
  go_wp2_with fail
  go_at_call 6
  refine (RunA_r (t := put5 ++ 10 :: find1) HW.out ?hsz rfl).mono ?_
  case hsz => decide
  rintro e w1 ⟨A1, c1, m1, rfl, hm1, hc1, HR1, hb1⟩
  rw [fact_answers] at hm1 HR1
  obtain rfl : m1 = 2 := hm1
  have HB1 := Lib.hid hb1
  clear hb1
  go_wp2_with fail
  go_at_call 5
  have hr2 : RdT (w1.alloc (.cells #[.string ⟨#[111, 107]⟩, .string ⟨#[49, 48, 46, 48, 46, 48, 46, 48, 47, 56, 32, 53]⟩] 9)) (some ⟨w1.heap.size, 0, none⟩) 2 [okT, netB ++ [32, 53]] := rdA_two w1 okT (netB ++ [32, 53])
  have hr1 := HR1.out.below (below_1 w1 (.cells #[.string ⟨#[111, 107]⟩, .string ⟨#[49, 48, 46, 48, 46, 48, 46, 48, 47, 56, 32, 53]⟩] 9))
  (with_reducible refine (Texts_same hr1 hr2 (by omega)).mono ?_)
  rintro e w2 ⟨rfl, hb2⟩
  have HB2 := Lib.hid ((HB1.out.alloc HB1.out.size _).trans (hb2.mono (by have := HB1.out.size; simp; omega)))
  clear hb2 HR1 hr1 hr2
  go_wp2_with fail
  go_at_call 7
  (with_reducible refine (RCut_d s 10 10 rfl _ hs2).mono ?_)
  rintro e w3 ⟨L, g, cap, hL, rfl, hcap, hcs, hg, hb3⟩
  obtain ⟨M, hM⟩ : ∃ M, L.length = M + 1 := by
    have h1 := congrArg List.length hL
    rw [List.length_map, segs_length] at h1
    exact ⟨_, h1⟩
  have hM2 : M ≤ 2097152 := by
    have h1 := congrArg List.length hL
    rw [List.length_map, segs_length, hM] at h1
    have h2 := List.count_le_length (a := (10 : UInt8)) (l := s.data.toList)
    rw [size_data] at h2; omega
  obtain ⟨p, hp⟩ : ∃ p, L[M]? = some p := ⟨L[M]'(by omega), List.getElem?_eq_getElem _⟩
  have HLS : Hid (∀ (k : Nat) (p : ByteArray), L[k]? = some p → p.size ≤ 2097152) := Lib.hid (fun k p h => Nat.le_trans (piece_size hL h) hs2)
  have HLN := Lib.hid (lines_take hL hM hp)
  have HCS := Lib.hid hcs
  have HB3 := Lib.hid (HB2.out.trans (hb3.mono HB2.out.size))
  have HM := Lib.hid hM
  have hcell : w3.cell? ⟨g, M, none⟩ = some (.string p) := hcs M p hp
  have hn := nL_le M p
  obtain ⟨n, hn2⟩ : ∃ n, nL M p = n := ⟨_, rfl⟩
  have HN2 := Lib.hid hn2
  rw [hn2] at HLN hn
  obtain ⟨hn0, hn1⟩ := hn
  rw [hM] at hcap ⊢
  have hcap1 : ¬ ((cap : Int) < (M : Int)) := by omega
  have hcap2 : (M : Int) ≤ (cap : Int) := by omega
  clear hL hM hcs hb3 hp hn2
  go_upto_if 22 with fail
  go_cut [4] (fun v wx => v = .slice (some ⟨g, 0, none⟩) n cap ∧ wx = w3)
  case first =>
    by_cases hp0 : p.data.toList = []
    · have hnM : n = M := by rw [← HN2.out]; unfold nL; rw [if_pos hp0]
      have ht : p.toList.isEmpty = true := by rw [ByteArray.toList_eq, hp0]; rfl
      have hi1 : ¬ ((M : Int) + 1 < (M : Int)) := by omega
      subst hnM
      clear hp0
      go_wp2
      all_goals first | (rename_i hx; rw [ht] at hx; exact absurd hx (by decide)) | (go_meet; exact ⟨rfl, rfl⟩)
    · have hnM : n = M + 1 := by rw [← HN2.out]; unfold nL; rw [if_neg hp0]
      have ht : p.toList.isEmpty = false := by
        rw [ByteArray.toList_eq]
        cases e : p.data.toList with
        | nil => exact absurd e hp0
        | cons _ _ => rfl
      subst hnM
      clear hp0
      go_wp2
      all_goals first | (rename_i hx; rw [ht] at hx; exact absurd hx (by decide)) | (go_meet; exact ⟨rfl, rfl⟩)
  case rest =>
    obtain ⟨rfl, hw0⟩ := hcut
    subst hw0
    obtain ⟨w4, hw4⟩ : ∃ w4, w4 = wc := ⟨_, rfl⟩
    subst hw4
    obtain ⟨T, hT⟩ : ∃ T, w4.heap.size = T := ⟨_, rfl⟩
    have HTE := Lib.hid hT
    have hgT : g < T := by omega
    have hnc : n ≤ cap := by omega
    have HN0 : Hid ((linesA s.data.toList).length = n) := Lib.hid (by rw [HLN.out, List.length_map, List.length_take, HM.out]; omega)
    have HAT : Hid (∀ k, k < n → ∃ q : ByteArray, L[k]? = some q ∧ (linesA s.data.toList)[k]? = some q.data.toList) := Lib.hid (fun k hk => by
      obtain ⟨q, hq⟩ : ∃ q, L[k]? = some q := ⟨L[k]'(by rw [HM.out]; omega), List.getElem?_eq_getElem _⟩
      exact ⟨q, hq, by rw [HLN.out, List.getElem?_map, List.getElem?_take_of_lt hk, hq]; rfl⟩)
    go_upto_region 7 with fail
    (try rw [hT])
    generalize hw5 : w4.alloc (.cells #[.slice none 0 0, .slice none 0 0] 29) = w5 at *
    have hb5 : Below T w4 w5 := by rw [← hw5, ← hT]; exact below_1 _ _
    have hnew : w5.heap[T]? = some (tbO none 0 0 none 0 0) := by rw [← hw5, ← hT]; exact heap_alloc_new _ _
    have HB5 := Lib.hid hb5
    have HT5 := Lib.hid hnew
    have hz5 := size_of_block hnew
    clear hw5 hb5 hnew hT
    go_upto_if 30 with fail
    go_cut [4, 5] (fun v4 v5 wx => ∃ (A4 : Option Addr) (n4 cap4 : Nat) (P0 LL : List (List UInt8)), v4 = .slice A4 n4 cap4 ∧ n4 ≤ 100 ∧ n4 ≤ cap4 ∧ Hid (LL.length = n4) ∧ Hid (∀ k, k < n4 → ∃ q : ByteArray, LL[k]? = some q.data.toList ∧ q.size ≤ 2097152 ∧ IsAt A4 g ∧ w4.cell? ⟨g, k, none⟩ = some (.string q)) ∧ Hid (deskA s.data.toList = P0 ++ runA [] LL) ∧ Hid (OwnS wx (T + 1) v5 P0) ∧ P0.length ≤ 1 ∧ Hid (wx.heap[T]? = some (tbO none 0 0 none 0 0)) ∧ Hid (Below T w4 wx))
    case first =>
      by_cases h100 : 100 < n
      · have h100' : (100 : Int) < (n : Int) := by omega
        have hD : deskA s.data.toList = [nameE 4] := by
          unfold deskA
          rw [if_pos (by rw [HN0.out]; omega)]
        have HD := Lib.hid hD
        clear hD h100
        go_wp2
        all_goals first | (go_meet; exact ⟨none, 0, 0, [nameE 4], [], rfl, by omega, by omega, Lib.hid rfl, Lib.hid (fun k hk => absurd hk (by omega)), HD, Lib.hid ((OwnS.one w5 (nameE 4)).mono hz5), by simp, Lib.hid (below_block (below_1 w5 _) hz5 HT5.out), Lib.hid (HB5.out.trans ((below_1 w5 _).mono (by omega)))⟩)
      · have h100' : ¬ (100 : Int) < (n : Int) := by omega
        have hD : deskA s.data.toList = [] ++ runA [] (linesA s.data.toList) := by
          unfold deskA
          rw [if_neg (by rw [HN0.out]; omega)]; rfl
        have HD := Lib.hid hD
        have HCE : Hid (∀ k, k < n → ∃ q : ByteArray, (linesA s.data.toList)[k]? = some q.data.toList ∧ q.size ≤ 2097152 ∧ IsAt (some ⟨g, 0, none⟩) g ∧ w4.cell? ⟨g, k, none⟩ = some (.string q)) := Lib.hid (fun k hk => by
          obtain ⟨q, h1, h2⟩ := HAT.out k hk
          exact ⟨q, h2, HLS.out k q h1, rfl, HCS.out k q h1⟩)
        clear hD
        go_wp2
        all_goals first | (go_meet; exact ⟨_, _, _, [], linesA s.data.toList, rfl, by omega, by omega, HN0, HCE, HD, Lib.hid (OwnS.nil_ _ _), by simp, HT5, HB5⟩)
    case rest =>
      obtain ⟨A4, n4, cap4, P0, LL, rfl, hn4, hnc4, HLL, HCE, HD, HO0, hP0, HT0, HB0⟩ := hcut
      have hT4 : T ≤ w4.heap.size := by have := HTE.out; omega
      go_wp2
      go_loopw [5, 7] (fun v j wr => ∃ (k : Nat), k ≤ n4 ∧ j = .int .i64 k ∧ Hid (OwnS wr (T + 1) v (P0 ++ runA [] (LL.take k))) ∧ Hid (Below T w4 wr) ∧ Hid (∃ A n c A' n' c', wr.heap[T]? = some (tbO A n c A' n' c') ∧ TabR (fun b => b = T ∨ v.ownBlock = some b) wr (tabA [] (LL.take k)) A n c A' n' c')) (fun _ j _ => n4 - (intOf j).toNat)
      case atStart => exact ⟨0, Nat.zero_le _, rfl, Lib.hid (by have h := HO0.out; simpa [runA] using h), HB0, Lib.hid ⟨_, _, _, _, _, _, HT0.out, by have h := TabR.nil_ (fun b => b = T ∨ u5.ownBlock = some b) wc; simpa [tabA] using h⟩⟩
      case round =>
        obtain ⟨k, hk, rfl, HOr, HBr, HTT⟩ := hrel
        by_cases hlt : k < n4
        · obtain ⟨A, n, c, A', n', c', hTb, hTR⟩ := HTT.out
          obtain ⟨q, hq2, hqs, hA4, hcq⟩ := HCE.out k hlt
          have hA5 : A4 = some ⟨g, 0, none⟩ := hA4
          clear hA4
          subst hA5
          have HCQ := Lib.hid hcq
          have HTr := Lib.hid hTb
          have HRr := Lib.hid hTR
          have HTA := Lib.hid (tabA_take hq2 [])
          have HOK : Hid (DOk (tabA [] (LL.take k))) := Lib.hid (tabA_ok _ DOk.nil)
          have hrl : (P0 ++ runA [] (LL.take k)).length ≤ 1000000000 := by rw [List.length_append, runA_length, List.length_take]; omega
          clear HTT hTb hTR hcq
          obtain ⟨t0, t1, _, _⟩ := row2 HTr.out
          have y0 := (HBr.out.cell (p := ⟨g, k, none⟩) hgT).trans HCQ.out
          go_wp2
          refine wp_region_noPanic ?_
          refine wp_region_held_drew (S := (fun w' => w'.cell? ⟨T, 0, none⟩ = some (.slice A n c) ∧ w'.cell? ⟨T, 1, none⟩ = some (.slice A' n' c') ∧ w'.cell? ⟨g, k, none⟩ = some (.string q))) (by kernel_rfl) (by go_keep) (fun hHeld => ?_)
          generalize hud : wr.drew = z0 at *
          have hb : Below wr.heap.size wr z0 := by rw [← hud]; exact below_drewN (Below.refl _ _) 1
          clear t0 t1 y0
          have HBz0 := Lib.hid (HBr.out.trans (hb.mono (by have := HBr.out.size; omega)))
          have HTz0 := Lib.hid (below_block hb (size_of_block HTr.out) HTr.out)
          have HOz0 := Lib.hid (HOr.out.below hb)
          have HRz0 := Lib.hid (HRr.out.below hb)
          clear hb hud
          obtain ⟨t0, t1, _, _⟩ := row2 HTz0.out
          have y0 := (HBz0.out.cell (p := ⟨g, k, none⟩) hgT).trans HCQ.out
          refine' wpAnyH_take (i := 0) ?hit1 ?hst1 ?hft1 ?hrt1 ?hQt1 ?hyt1 ?hSt1 ?ht1
          case hit1 => (simp only [List.getElem?_toArray, List.getElem?_cons_succ, List.getElem?_cons_zero]; exact rfl)
          case hst1 => kernel_rfl
          case hft1 => kernel_rfl
          case hrt1 => kernel_rfl
          case hQt1 => exact fun _ _ _ h => h
          case hyt1 => (first | (refine Or.inr ⟨by rfl, ?_⟩; rfl) | (refine Or.inl ⟨by rfl, ?_⟩; (intro w hSw; (try dsimp only at hSw); go_simp); try with_reducible rfl))
          case hSt1 => assumption
          try simp only [Act.put, List.setIfInBounds_toArray, List.set_cons_zero, List.set_cons_succ]
          refine' wpAnyH_take (i := 1) ?hit2 ?hst2 ?hft2 ?hrt2 ?hQt2 ?hyt2 ?hSt2 ?ht2
          case hit2 => (simp only [List.getElem?_toArray, List.getElem?_cons_succ, List.getElem?_cons_zero]; exact rfl)
          case hst2 => kernel_rfl
          case hft2 => kernel_rfl
          case hrt2 => kernel_rfl
          case hQt2 => exact fun _ _ _ h => h
          case hyt2 => (first | (refine Or.inr ⟨by rfl, ?_⟩; rfl) | (refine Or.inl ⟨by rfl, ?_⟩; (intro w hSw; (try dsimp only at hSw); go_simp); try with_reducible rfl))
          case hSt2 => assumption
          try simp only [Act.put, List.setIfInBounds_toArray, List.set_cons_zero, List.set_cons_succ]
          refine' wpAnyH_take (i := 2) ?hit3 ?hst3 ?hft3 ?hrt3 ?hQt3 ?hyt3 ?hSt3 ?ht3
          case hit3 => (simp only [List.getElem?_toArray, List.getElem?_cons_succ, List.getElem?_cons_zero]; exact rfl)
          case hst3 => kernel_rfl
          case hft3 => kernel_rfl
          case hrt3 => kernel_rfl
          case hQt3 => exact fun _ _ _ h => h
          case hyt3 => (first | (refine Or.inr ⟨by rfl, ?_⟩; rfl) | (refine Or.inl ⟨by rfl, ?_⟩; (intro w hSw; (try dsimp only at hSw); go_simp); try with_reducible rfl))
          case hSt3 => assumption
          try simp only [Act.put, List.setIfInBounds_toArray, List.set_cons_zero, List.set_cons_succ]
          refine' wpAnyH_take (i := 3) ?hit4 ?hst4 ?hft4 ?hrt4 ?hQt4 ?hyt4 ?hSt4 ?ht4
          case hit4 => (simp only [List.getElem?_toArray, List.getElem?_cons_succ, List.getElem?_cons_zero]; exact rfl)
          case hst4 => kernel_rfl
          case hft4 => kernel_rfl
          case hrt4 => kernel_rfl
          case hQt4 => exact fun _ _ _ h => h
          case hyt4 => (first | (refine Or.inr ⟨by rfl, ?_⟩; rfl) | (refine Or.inl ⟨by rfl, ?_⟩; (intro w hSw; (try dsimp only at hSw); go_simp); try with_reducible rfl))
          case hSt4 => assumption
          try simp only [Act.put, List.setIfInBounds_toArray, List.set_cons_zero, List.set_cons_succ]
          refine' wpAnyH_take (i := 4) ?hit5 ?hst5 ?hft5 ?hrt5 ?hQt5 ?hyt5 ?hSt5 ?ht5
          case hit5 => (simp only [List.getElem?_toArray, List.getElem?_cons_succ, List.getElem?_cons_zero]; exact rfl)
          case hst5 => kernel_rfl
          case hft5 => kernel_rfl
          case hrt5 => kernel_rfl
          case hQt5 => exact fun _ _ _ h => h
          case hyt5 => (first | (refine Or.inr ⟨by rfl, ?_⟩; rfl) | (refine Or.inl ⟨by rfl, ?_⟩; (intro w hSw; (try dsimp only at hSw); go_simp); try with_reducible rfl))
          case hSt5 => assumption
          try simp only [Act.put, List.setIfInBounds_toArray, List.set_cons_zero, List.set_cons_succ]
          refine wpAnyH_ready (rs := [5, 9]) (by kernel_rfl) (by simp) ?_
          refine' AllReadyH.cons ?hi6 (fun K hK => ?hg6) (AllReadyH.cons ?hi7 (fun K hK => ?hg7) AllReadyH.nil)
          case hi6 => (simp only [List.getElem?_toArray, List.getElem?_cons_succ, List.getElem?_cons_zero]; exact rfl)
          case hi7 => (simp only [List.getElem?_toArray, List.getElem?_cons_succ, List.getElem?_cons_zero]; exact rfl)
          case hg6 =>
            go_simp
            go_at_call 8
            (with_reducible refine (Answered_any HRz0.out (fun b hb => round_lt (size_of_block HTz0.out) HOz0.out b hb) HOK.out hqs).mono ?_)
            rintro e z1 ⟨B, kb, d, B', kb', d', rfl, hR, hb⟩
            rw [← HTA.out] at hR
            have HN := Lib.hid hR
            clear hR
            clear t0 t1 y0
            have HBz1 := Lib.hid (HBz0.out.trans (hb.mono (by have := HBz0.out.size; omega)))
            have HTz1 := Lib.hid (below_block hb (size_of_block HTz0.out) HTz0.out)
            have HOz1 := Lib.hid (HOz0.out.below hb)
            clear hb
            obtain ⟨t, ht⟩ : ∃ t, ansT (lineA (tabA [] (LL.take k)) q.data.toList).1 = t := ⟨_, rfl⟩
            have HRA := Lib.hid (runA_snoc P0 hq2 ht)
            rw [ht]
            clear ht
            obtain ⟨t0, t1, _, _⟩ := row2 HTz1.out
            have y0 := (HBz1.out.cell (p := ⟨g, k, none⟩) hgT).trans HCQ.out
            refine hK.out _ _ (by go_keep) (fun hHeld => ?_)
            clear hK K
            refine' wpAnyH_take (i := 6) ?hit8 ?hst8 ?hft8 ?hrt8 ?hQt8 ?hyt8 ?hSt8 ?ht8
            case hit8 => (simp only [List.getElem?_toArray, List.getElem?_cons_succ, List.getElem?_cons_zero]; exact rfl)
            case hst8 => kernel_rfl
            case hft8 => kernel_rfl
            case hrt8 => kernel_rfl
            case hQt8 => exact fun _ _ _ h => h
            case hyt8 => (first | (refine Or.inr ⟨by rfl, ?_⟩; rfl) | (refine Or.inl ⟨by rfl, ?_⟩; (intro w hSw; (try dsimp only at hSw); go_simp); try with_reducible rfl))
            case hSt8 => assumption
            try simp only [Act.put, List.setIfInBounds_toArray, List.set_cons_zero, List.set_cons_succ]
            refine' wpAnyH_take (i := 7) ?hit9 ?hst9 ?hft9 ?hrt9 ?hQt9 ?hyt9 ?hSt9 ?ht9
            case hit9 => (simp only [List.getElem?_toArray, List.getElem?_cons_succ, List.getElem?_cons_zero]; exact rfl)
            case hst9 => kernel_rfl
            case hft9 => kernel_rfl
            case hrt9 => kernel_rfl
            case hQt9 => exact fun _ _ _ h => h
            case hyt9 => (first | (refine Or.inr ⟨by rfl, ?_⟩; rfl) | (refine Or.inl ⟨by rfl, ?_⟩; (intro w hSw; (try dsimp only at hSw); go_simp); try with_reducible rfl))
            case hSt9 => assumption
            try simp only [Act.put, List.setIfInBounds_toArray, List.set_cons_zero, List.set_cons_succ]
            refine' wpAnyH_take (i := 8) ?hit10 ?hst10 ?hft10 ?hrt10 ?hQt10 ?hyt10 ?hSt10 ?ht10
            case hit10 => (simp only [List.getElem?_toArray, List.getElem?_cons_succ, List.getElem?_cons_zero]; exact rfl)
            case hst10 => kernel_rfl
            case hft10 => kernel_rfl
            case hrt10 => kernel_rfl
            case hQt10 => exact fun _ _ _ h => h
            case hyt10 => (first | (refine Or.inr ⟨by rfl, ?_⟩; rfl) | (refine Or.inl ⟨by rfl, ?_⟩; (intro w hSw; (try dsimp only at hSw); go_simp); try with_reducible rfl))
            case hSt10 => assumption
            try simp only [Act.put, List.setIfInBounds_toArray, List.set_cons_zero, List.set_cons_succ]
            refine wpAnyH_ready (rs := [9]) (by kernel_rfl) (by simp) ?_
            refine' AllReadyH.cons ?hi11 (fun K hK => ?hg11) AllReadyH.nil
            case hi11 => (simp only [List.getElem?_toArray, List.getElem?_cons_succ, List.getElem?_cons_zero]; exact rfl)
            go_simp
            have hb := below_1 z1 (.cells #[.slice none 0 0, .slice none 0 0] 29)
            have hnew := heap_alloc_new z1 (.cells #[.slice none 0 0, .slice none 0 0] 29)
            obtain ⟨G, hG⟩ : ∃ G, z1.heap.size = G := ⟨_, rfl⟩
            have hTG : T < G := by rw [← hG]; exact size_of_block HTz1.out
            have hTG1 : ¬ G = T := by omega
            have hTG2 : ¬ T = G := by omega
            have hTG3 : ¬ g = G := by omega
            have hTG4 : ¬ G = g := by omega
            have HGO : Hid (∀ b, u5.ownBlock = some b → b ≠ G) := Lib.hid (fun b hb => by have := (HOz1.out.blk b hb).2; omega)
            have hsw := (HN.out.swap (M' := fun b => (b = T ∨ u5.ownBlock = some b) ∨ b = G) (fun b hb h => h.resolve_right (by omega))).below hb
            rw [hG] at hnew
            (try rw [hG])
            generalize hwn : z1.alloc (.cells #[.slice none 0 0, .slice none 0 0] 29) = z2 at *
            clear t0 t1 y0
            have HBz2 := Lib.hid (HBz1.out.trans (hb.mono (by have := HBz1.out.size; omega)))
            have HTz2 := Lib.hid (below_block hb (size_of_block HTz1.out) HTz1.out)
            have HOz2 := Lib.hid (HOz1.out.below hb)
            have HGz2 := Lib.hid hnew
            have HN2 := Lib.hid hsw
            clear HN
            clear hwn hnew hG hb hsw
            obtain ⟨t0, t1, _, _⟩ := row2 HTz2.out
            have y0 := (HBz2.out.cell (p := ⟨g, k, none⟩) hgT).trans HCQ.out
            obtain ⟨b0, b1, _, _⟩ := row2 HGz2.out
            refine hK.out _ _ (by go_keep) (fun hHeld => ?_)
            clear hK K
            refine wpAnyH_ready (rs := [10]) (by kernel_rfl) (by simp) ?_
            refine' AllReadyH.cons ?hi12 (fun K hK => ?hg12) AllReadyH.nil
            case hi12 => (simp only [List.getElem?_toArray, List.getElem?_cons_succ, List.getElem?_cons_zero]; exact rfl)
            go_simp
            have hg2 := set2_block (.slice B kb d) (.slice B' kb' d') HGz2.out
            have ht2 : ((z2.setCell ⟨G, 0, none⟩ (.slice B kb d)).setCell ⟨G, 1, none⟩ (.slice B' kb' d')).heap[T]? = _ := ((heap_setCell_other _ _ _ _ (show T ≠ G by omega)).trans (heap_setCell_other _ _ _ _ (show T ≠ G by omega))).trans HTz2.out
            have hb2 : Below T w4 ((z2.setCell ⟨G, 0, none⟩ (.slice B kb d)).setCell ⟨G, 1, none⟩ (.slice B' kb' d')) := (HBz2.out.setCell (p := ⟨G, 0, none⟩) (by show T ≤ G; omega) _).setCell (p := ⟨G, 1, none⟩) (by show T ≤ G; omega) _
            have ho2 := HOz2.out.kept (w' := ((z2.setCell ⟨G, 0, none⟩ (.slice B kb d)).setCell ⟨G, 1, none⟩ (.slice B' kb' d'))) (fun b hb => (heap_setCell_other _ _ _ _ (HGO.out b hb)).trans (heap_setCell_other _ _ _ _ (HGO.out b hb)))
            have hn2 := HN2.out.box (.slice B kb d) (.slice B' kb' d')
            clear t0 t1 y0 b0 b1
            generalize hwn : ((z2.setCell ⟨G, 0, none⟩ (.slice B kb d)).setCell ⟨G, 1, none⟩ (.slice B' kb' d')) = z3 at *
            have HBz3 := Lib.hid hb2
            have HTz3 := Lib.hid ht2
            have HGz3 := Lib.hid hg2
            have HOz3 := Lib.hid ho2
            have HN3 := Lib.hid hn2
            clear hwn hg2 ht2 hb2 ho2 hn2
            obtain ⟨t0, t1, _, _⟩ := row2 HTz3.out
            have y0 := (HBz3.out.cell (p := ⟨g, k, none⟩) hgT).trans HCQ.out
            obtain ⟨b0, b1, _, _⟩ := row2 HGz3.out
            refine hK.out _ _ (by go_keep) (fun hHeld => ?_)
            clear hK K
            refine' wpAnyH_take (i := 11) ?hit13 ?hst13 ?hft13 ?hrt13 ?hQt13 ?hyt13 ?hSt13 ?ht13
            case hit13 => (simp only [List.getElem?_toArray, List.getElem?_cons_succ, List.getElem?_cons_zero]; exact rfl)
            case hst13 => kernel_rfl
            case hft13 => kernel_rfl
            case hrt13 => kernel_rfl
            case hQt13 => exact fun _ _ _ h => h
            case hyt13 => (first | (refine Or.inr ⟨by rfl, ?_⟩; rfl) | (refine Or.inl ⟨by rfl, ?_⟩; (intro w hSw; (try dsimp only at hSw); go_simp); try with_reducible rfl))
            case hSt13 => assumption
            try simp only [Act.put, List.setIfInBounds_toArray, List.set_cons_zero, List.set_cons_succ]
            refine wpAnyH_done (by kernel_rfl) ?_ _
            refine NoPanic.normal ?_
            clear hHeld
            go_upto_region 15 with fail
            have ht5 := set2_block (.slice B kb d) (.slice B' kb' d') HTz3.out
            have hb5 : Below T w4 ((z3.setCell ⟨T, 0, none⟩ (.slice B kb d)).setCell ⟨T, 1, none⟩ (.slice B' kb' d')) := (HBz3.out.setCell (p := ⟨T, 0, none⟩) (Nat.le_refl _) _).setCell (p := ⟨T, 1, none⟩) (Nat.le_refl _) _
            have ho5 := HOz3.out.store (a := .slice B kb d) (b := .slice B' kb' d')
            have hn5 := HN3.out.store (.inl rfl) (.slice B kb d) (.slice B' kb' d')
            clear t0 t1 y0 b0 b1
            generalize hwn : ((z3.setCell ⟨T, 0, none⟩ (.slice B kb d)).setCell ⟨T, 1, none⟩ (.slice B' kb' d')) = z5 at *
            have HB5 := Lib.hid hb5
            have HT5 := Lib.hid ht5
            have HO5 := Lib.hid ho5
            have HN5 := Lib.hid hn5
            have hz5 : T + 1 ≤ z5.heap.size := size_of_block ht5
            clear hwn ht5 hb5 ho5 hn5
            go_wp2_with (first
              | (at_builtin; refine wpList_append_text rfl _ _ 23 Tryz.underlying23 rfl (T + 1) u5 _ rfl (HO5.out.alloc _) z5.heap.size t 9 rfl (heap_alloc_new z5 _) hrl ?hbs ?_)
              | fail)
            case hbs => simp; omega
            intro v' z6 hO6 hG6
            (try rw [List.append_assoc] at hO6)
            rw [HRA.out] at hO6
            have HO6 := Lib.hid hO6
            have HT6 := Lib.hid ((hG6.1.block T (by simp; omega) (fun e => by have := (HO5.out.blk T e.symm).1; omega)).trans (below_block (below_1 z5 (.cells #[strV t] 9)) (size_of_block HT5.out) HT5.out))
            have HN6 := Lib.hid ((HN5.out.below (below_1 z5 (.cells #[strV t] 9))).grown hG6 (fun b hb => .inr hb) (round_own hG6.2))
            have HB6 : Hid (Below T w4 z6) := Lib.hid (below_grow (HB5.out.alloc (by omega) _) hG6 (fun b hb => by have := (HO5.out.blk b hb).1; omega))
            clear hO6 hG6
            go_wp2
            exact ⟨⟨k + 1, by omega, by go_num, HO6, HB6, Lib.hid ⟨_, _, _, _, _, _, HT6.out, HN6.out⟩⟩, by simp [intOf]; omega⟩
          case hg7 =>
            go_simp
            have hb := below_1 z0 (.cells #[.slice none 0 0, .slice none 0 0] 29)
            have hnew := heap_alloc_new z0 (.cells #[.slice none 0 0, .slice none 0 0] 29)
            obtain ⟨G, hG⟩ : ∃ G, z0.heap.size = G := ⟨_, rfl⟩
            have hTG : T < G := by rw [← hG]; exact size_of_block HTz0.out
            have hTG1 : ¬ G = T := by omega
            have hTG2 : ¬ T = G := by omega
            have hTG3 : ¬ g = G := by omega
            have hTG4 : ¬ G = g := by omega
            have HGO : Hid (∀ b, u5.ownBlock = some b → b ≠ G) := Lib.hid (fun b hb => by have := (HOz0.out.blk b hb).2; omega)
            have hsw := (HRz0.out.swap (M' := fun b => (b = T ∨ u5.ownBlock = some b) ∨ b = G) (fun b hb h => h.resolve_right (by omega))).below hb
            rw [hG] at hnew
            (try rw [hG])
            generalize hwn : z0.alloc (.cells #[.slice none 0 0, .slice none 0 0] 29) = z1 at *
            clear t0 t1 y0
            have HBz1 := Lib.hid (HBz0.out.trans (hb.mono (by have := HBz0.out.size; omega)))
            have HTz1 := Lib.hid (below_block hb (size_of_block HTz0.out) HTz0.out)
            have HOz1 := Lib.hid (HOz0.out.below hb)
            have HGz1 := Lib.hid hnew
            have HRz1 := Lib.hid hsw
            clear hwn hnew hG hb hsw
            obtain ⟨t0, t1, _, _⟩ := row2 HTz1.out
            have y0 := (HBz1.out.cell (p := ⟨g, k, none⟩) hgT).trans HCQ.out
            obtain ⟨b0, b1, _, _⟩ := row2 HGz1.out
            refine hK.out _ _ (by go_keep) (fun hHeld => ?_)
            clear hK K
            refine wpAnyH_ready (rs := [5]) (by kernel_rfl) (by simp) ?_
            refine' AllReadyH.cons ?hi14 (fun K hK => ?hg14) AllReadyH.nil
            case hi14 => (simp only [List.getElem?_toArray, List.getElem?_cons_succ, List.getElem?_cons_zero]; exact rfl)
            go_simp
            go_at_call 8
            (with_reducible refine (Answered_any HRz1.out (fun b hb => hb.elim (round_lt (size_of_block HTz1.out) HOz1.out b) (fun e => by rw [e]; exact size_of_block HGz1.out)) HOK.out hqs).mono ?_)
            rintro e z2 ⟨B, kb, d, B', kb', d', rfl, hR, hb⟩
            rw [← HTA.out] at hR
            have HN := Lib.hid hR
            clear hR
            clear t0 t1 y0 b0 b1
            have HBz2 := Lib.hid (HBz1.out.trans (hb.mono (by have := HBz1.out.size; omega)))
            have HTz2 := Lib.hid (below_block hb (size_of_block HTz1.out) HTz1.out)
            have HOz2 := Lib.hid (HOz1.out.below hb)
            have HGz2 := Lib.hid (below_block hb (size_of_block HGz1.out) HGz1.out)
            clear hb
            obtain ⟨t, ht⟩ : ∃ t, ansT (lineA (tabA [] (LL.take k)) q.data.toList).1 = t := ⟨_, rfl⟩
            have HRA := Lib.hid (runA_snoc P0 hq2 ht)
            rw [ht]
            clear ht
            obtain ⟨t0, t1, _, _⟩ := row2 HTz2.out
            have y0 := (HBz2.out.cell (p := ⟨g, k, none⟩) hgT).trans HCQ.out
            obtain ⟨b0, b1, _, _⟩ := row2 HGz2.out
            refine hK.out _ _ (by go_keep) (fun hHeld => ?_)
            clear hK K
            refine' wpAnyH_take (i := 6) ?hit15 ?hst15 ?hft15 ?hrt15 ?hQt15 ?hyt15 ?hSt15 ?ht15
            case hit15 => (simp only [List.getElem?_toArray, List.getElem?_cons_succ, List.getElem?_cons_zero]; exact rfl)
            case hst15 => kernel_rfl
            case hft15 => kernel_rfl
            case hrt15 => kernel_rfl
            case hQt15 => exact fun _ _ _ h => h
            case hyt15 => (first | (refine Or.inr ⟨by rfl, ?_⟩; rfl) | (refine Or.inl ⟨by rfl, ?_⟩; (intro w hSw; (try dsimp only at hSw); go_simp); try with_reducible rfl))
            case hSt15 => assumption
            try simp only [Act.put, List.setIfInBounds_toArray, List.set_cons_zero, List.set_cons_succ]
            refine' wpAnyH_take (i := 7) ?hit16 ?hst16 ?hft16 ?hrt16 ?hQt16 ?hyt16 ?hSt16 ?ht16
            case hit16 => (simp only [List.getElem?_toArray, List.getElem?_cons_succ, List.getElem?_cons_zero]; exact rfl)
            case hst16 => kernel_rfl
            case hft16 => kernel_rfl
            case hrt16 => kernel_rfl
            case hQt16 => exact fun _ _ _ h => h
            case hyt16 => (first | (refine Or.inr ⟨by rfl, ?_⟩; rfl) | (refine Or.inl ⟨by rfl, ?_⟩; (intro w hSw; (try dsimp only at hSw); go_simp); try with_reducible rfl))
            case hSt16 => assumption
            try simp only [Act.put, List.setIfInBounds_toArray, List.set_cons_zero, List.set_cons_succ]
            refine' wpAnyH_take (i := 8) ?hit17 ?hst17 ?hft17 ?hrt17 ?hQt17 ?hyt17 ?hSt17 ?ht17
            case hit17 => (simp only [List.getElem?_toArray, List.getElem?_cons_succ, List.getElem?_cons_zero]; exact rfl)
            case hst17 => kernel_rfl
            case hft17 => kernel_rfl
            case hrt17 => kernel_rfl
            case hQt17 => exact fun _ _ _ h => h
            case hyt17 => (first | (refine Or.inr ⟨by rfl, ?_⟩; rfl) | (refine Or.inl ⟨by rfl, ?_⟩; (intro w hSw; (try dsimp only at hSw); go_simp); try with_reducible rfl))
            case hSt17 => assumption
            try simp only [Act.put, List.setIfInBounds_toArray, List.set_cons_zero, List.set_cons_succ]
            have HN2 := HN
            clear HN
            refine wpAnyH_ready (rs := [10]) (by kernel_rfl) (by simp) ?_
            refine' AllReadyH.cons ?hi18 (fun K hK => ?hg18) AllReadyH.nil
            case hi18 => (simp only [List.getElem?_toArray, List.getElem?_cons_succ, List.getElem?_cons_zero]; exact rfl)
            go_simp
            have hg2 := set2_block (.slice B kb d) (.slice B' kb' d') HGz2.out
            have ht2 : ((z2.setCell ⟨G, 0, none⟩ (.slice B kb d)).setCell ⟨G, 1, none⟩ (.slice B' kb' d')).heap[T]? = _ := ((heap_setCell_other _ _ _ _ (show T ≠ G by omega)).trans (heap_setCell_other _ _ _ _ (show T ≠ G by omega))).trans HTz2.out
            have hb2 : Below T w4 ((z2.setCell ⟨G, 0, none⟩ (.slice B kb d)).setCell ⟨G, 1, none⟩ (.slice B' kb' d')) := (HBz2.out.setCell (p := ⟨G, 0, none⟩) (by show T ≤ G; omega) _).setCell (p := ⟨G, 1, none⟩) (by show T ≤ G; omega) _
            have ho2 := HOz2.out.kept (w' := ((z2.setCell ⟨G, 0, none⟩ (.slice B kb d)).setCell ⟨G, 1, none⟩ (.slice B' kb' d'))) (fun b hb => (heap_setCell_other _ _ _ _ (HGO.out b hb)).trans (heap_setCell_other _ _ _ _ (HGO.out b hb)))
            have hn2 := HN2.out.box (.slice B kb d) (.slice B' kb' d')
            clear t0 t1 y0 b0 b1
            generalize hwn : ((z2.setCell ⟨G, 0, none⟩ (.slice B kb d)).setCell ⟨G, 1, none⟩ (.slice B' kb' d')) = z3 at *
            have HBz3 := Lib.hid hb2
            have HTz3 := Lib.hid ht2
            have HGz3 := Lib.hid hg2
            have HOz3 := Lib.hid ho2
            have HN3 := Lib.hid hn2
            clear hwn hg2 ht2 hb2 ho2 hn2
            obtain ⟨t0, t1, _, _⟩ := row2 HTz3.out
            have y0 := (HBz3.out.cell (p := ⟨g, k, none⟩) hgT).trans HCQ.out
            obtain ⟨b0, b1, _, _⟩ := row2 HGz3.out
            refine hK.out _ _ (by go_keep) (fun hHeld => ?_)
            clear hK K
            refine' wpAnyH_take (i := 11) ?hit19 ?hst19 ?hft19 ?hrt19 ?hQt19 ?hyt19 ?hSt19 ?ht19
            case hit19 => (simp only [List.getElem?_toArray, List.getElem?_cons_succ, List.getElem?_cons_zero]; exact rfl)
            case hst19 => kernel_rfl
            case hft19 => kernel_rfl
            case hrt19 => kernel_rfl
            case hQt19 => exact fun _ _ _ h => h
            case hyt19 => (first | (refine Or.inr ⟨by rfl, ?_⟩; rfl) | (refine Or.inl ⟨by rfl, ?_⟩; (intro w hSw; (try dsimp only at hSw); go_simp); try with_reducible rfl))
            case hSt19 => assumption
            try simp only [Act.put, List.setIfInBounds_toArray, List.set_cons_zero, List.set_cons_succ]
            refine wpAnyH_done (by kernel_rfl) ?_ _
            refine NoPanic.normal ?_
            clear hHeld
            go_upto_region 15 with fail
            have ht5 := set2_block (.slice B kb d) (.slice B' kb' d') HTz3.out
            have hb5 : Below T w4 ((z3.setCell ⟨T, 0, none⟩ (.slice B kb d)).setCell ⟨T, 1, none⟩ (.slice B' kb' d')) := (HBz3.out.setCell (p := ⟨T, 0, none⟩) (Nat.le_refl _) _).setCell (p := ⟨T, 1, none⟩) (Nat.le_refl _) _
            have ho5 := HOz3.out.store (a := .slice B kb d) (b := .slice B' kb' d')
            have hn5 := HN3.out.store (.inl rfl) (.slice B kb d) (.slice B' kb' d')
            clear t0 t1 y0 b0 b1
            generalize hwn : ((z3.setCell ⟨T, 0, none⟩ (.slice B kb d)).setCell ⟨T, 1, none⟩ (.slice B' kb' d')) = z5 at *
            have HB5 := Lib.hid hb5
            have HT5 := Lib.hid ht5
            have HO5 := Lib.hid ho5
            have HN5 := Lib.hid hn5
            have hz5 : T + 1 ≤ z5.heap.size := size_of_block ht5
            clear hwn ht5 hb5 ho5 hn5
            go_wp2_with (first
              | (at_builtin; refine wpList_append_text rfl _ _ 23 Tryz.underlying23 rfl (T + 1) u5 _ rfl (HO5.out.alloc _) z5.heap.size t 9 rfl (heap_alloc_new z5 _) hrl ?hbs ?_)
              | fail)
            case hbs => simp; omega
            intro v' z6 hO6 hG6
            (try rw [List.append_assoc] at hO6)
            rw [HRA.out] at hO6
            have HO6 := Lib.hid hO6
            have HT6 := Lib.hid ((hG6.1.block T (by simp; omega) (fun e => by have := (HO5.out.blk T e.symm).1; omega)).trans (below_block (below_1 z5 (.cells #[strV t] 9)) (size_of_block HT5.out) HT5.out))
            have HN6 := Lib.hid ((HN5.out.below (below_1 z5 (.cells #[strV t] 9))).grown hG6 (fun b hb => .inr hb) (round_own hG6.2))
            have HB6 : Hid (Below T w4 z6) := Lib.hid (below_grow (HB5.out.alloc (by omega) _) hG6 (fun b hb => by have := (HO5.out.blk b hb).1; omega))
            clear hO6 hG6
            go_wp2
            exact ⟨⟨k + 1, by omega, by go_num, HO6, HB6, Lib.hid ⟨_, _, _, _, _, _, HT6.out, HN6.out⟩⟩, by simp [intOf]; omega⟩
        · have : k = n4 := by omega
          subst this
          have hall : LL.take k = LL := List.take_of_length_le (by rw [HLL.out]; exact Nat.le_refl _)
          have ho := HOr.out
          rw [hall, ← HD.out] at ho
          have hdl := deskA_len s.data.toList
          obtain ⟨h1, h2, h3⟩ := (show True ∧ True ∧ True from ⟨trivial, trivial, trivial⟩)
          obtain ⟨A5, c5, hv5⟩ := ho.form
          rw [hv5] at ho
          obtain ⟨hrd, _, _⟩ := ho.rd
          subst hv5
          obtain ⟨N5, hN5⟩ : ∃ N, (deskA s.data.toList).length = N := ⟨_, rfl⟩
          rw [hN5] at hrd hdl ⊢
          have HNE := Lib.hid hN5
          have HRD := Lib.hid hrd
          have hbw : Below W.heap.size W wr := HB3.out.trans (HBr.out.mono (by have := HB3.out.size; have := HTE.out; omega))
          have HBW := Lib.hid hbw
          clear hN5 hrd ho hall hbw HTT
          go_wp2_with fail
          go_at_call 6
          refine (RunA_r (t := s.data.toList) (HW.out.on HBW.out) hs2 rfl).mono ?_
          rintro e z1 ⟨Ar, cr, nr, rfl, hnr, hcr, HRR, hbz⟩
          obtain rfl : nr = N5 := hnr.trans HNE.out
          have HRD1 := Lib.hid (HRD.out.below hbz)
          have HBZ := Lib.hid (HBW.out.trans (hbz.mono HBW.out.size))
          clear hbz hnr
          go_wp2_with fail
          go_at_call 5
          (with_reducible refine (Texts_same HRR.out HRD1.out (by omega)).mono ?_)
          rintro e z2 ⟨rfl, hbz⟩
          have HBZ2 := Lib.hid (HBZ.out.trans (hbz.mono HBZ.out.size))
          clear hbz
          go_wp2
          rw [← HPP.out]
          exact ⟨rfl, HBZ2.out⟩
end Go.Proofs.YtgdlkjahlajcpaaGreatDoor
