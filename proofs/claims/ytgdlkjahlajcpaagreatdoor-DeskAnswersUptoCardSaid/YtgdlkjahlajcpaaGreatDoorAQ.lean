/- The ways of the reference's Answered, 1. -/
import Derived.Test.YtgdlkjahlajcpaaGreatDoorAP
namespace Go.Proofs.YtgdlkjahlajcpaaGreatDoor
open Go.ChangeShapes Go.WideShapes Go.ChangeAt Go.RowKit
set_option linter.unusedVariables false
set_option linter.unusedSimpArgs false
theorem is32_z : is32 0 := by unfold is32; omega
theorem find_str2 {X Y : ByteArray} {t u : List UInt8} (hX : X.data.toList = t) (hY : Y.data.toList = u) : Value.string (X ++ ⟨#[32]⟩ ++ Y) = strV (t ++ 32 :: u) := by
  have e : (X ++ ⟨#[32]⟩ ++ Y).data.toList = t ++ 32 :: u := by rw [Joins.data_append, Joins.data_append, hX, hY]; simp
  rw [← e]
section
variable {M : Nat → Prop} {W : World} {m : Tab} {A A' : Option Addr} {n c n' c' : Nat} {s : ByteArray} {L : List ByteArray}
set_option maxRecDepth 100000 in
set_option maxHeartbeats 8000000 in
theorem Ans_list (hT : TabR M W m A n c A' n' c') (hM : ∀ b, M b → b < W.heap.size) (hd : DOk m) (hs : s.size ≤ 2097152) (hL : L.map (·.data.toList) = segs 32 s.data.toList) (k0 : s.data.toList = [108, 105, 115, 116]) :
    Calls Tryz.prog 8 #[.agg #[.slice A n c, .slice A' n' c'], .string s] W (AnsPost M W (.ok (netsT (allM m)), m)) := by
  have HT := Lib.hid hT
  have HOK := Lib.hid hd.ok
  have HNUM := Lib.hid hd.num
  have HLEN : Hid (m.length ≤ 64) := Lib.hid hd.ok.len
  have HL := Lib.hid hL
  have HMW := Lib.hid hM
  obtain ⟨PP, hPP⟩ : ∃ PP, AnsPost M W (.ok (netsT (allM m)), m) = PP := ⟨_, rfl⟩
  have HPP := Lib.hid hPP
  rw [hPP]
  have hwsz := fun (k : Nat) (p : ByteArray) (h : L[k]? = some p) => Nat.le_trans (piece_size hL h) hs
  clear hT hM hd hL hPP hwsz
  have q0 : (s.toList == [108, 105, 115, 116]) = true := by rw [ByteArray.toList_eq]; simpa using k0
  clear k0
  go_enter Tryz.func8, Tryz.ntmps8
  go_wp2_with fail
  go_at_call 7
  (with_reducible refine (RCut_c s 32 32 rfl _ hs).mono ?_)
  rintro e w1 ⟨L', g, cap, hL', rfl, hcs, hg, hb⟩
  obtain rfl : L' = L := list_bytes (hL'.trans HL.out.symm)
  have ABw1 := Lib.hid ((AB.start W A n c A' n' c').below hb)
  have CBw1 : Hid (Below w1.heap.size w1 w1) := Lib.hid (Below.refl _ _)
  clear hcs hb hL'
  obtain ⟨t0, t1, _, _⟩ := row2 ABw1.out.tb
  obtain ⟨r0, r1, r2, r3⟩ := row2 ABw1.out.rs
  obtain ⟨N, hN⟩ : ∃ N, L'.length = N := ⟨_, rfl⟩
  rw [hN]
  clear hN
  go_wp2
  refine wp_region_noPanic ?_
  refine wp_region_held_drew (S := (fun w' => w'.cell? ⟨W.heap.size, 0, none⟩ = some (.slice A n c) ∧ w'.cell? ⟨W.heap.size, 1, none⟩ = some (.slice A' n' c'))) (by kernel_rfl) (by go_keep) (fun hHeld => ?_)
  generalize hud : w1.drew = u1 at *
  have hb : Below w1.heap.size w1 u1 := by rw [← hud]; exact below_drewN (Below.refl _ _) 1
  clear t0 t1 r0 r1 r2 r3
  have ABu1 := Lib.hid (ABw1.out.below hb)
  have CBu1 := Lib.hid (CBw1.out.trans (hb.mono CBw1.out.size))
  clear hb
  clear hud
  obtain ⟨t0, t1, _, _⟩ := row2 ABu1.out.tb
  obtain ⟨r0, r1, r2, r3⟩ := row2 ABu1.out.rs
  refine' wpAnyH_take (i := 0) ?hit2 ?hst2 ?hft2 ?hrt2 ?hQt2 ?hyt2 ?hSt2 ?ht2
  case hit2 => (simp only [List.getElem?_toArray, List.getElem?_cons_succ, List.getElem?_cons_zero]; exact rfl)
  case hst2 => kernel_rfl
  case hft2 => kernel_rfl
  case hrt2 => kernel_rfl
  case hQt2 => exact fun _ _ _ h => h
  case hyt2 => (first | (refine Or.inr ⟨by rfl, ?_⟩; rfl) | (refine Or.inl ⟨by rfl, ?_⟩; (intro w hSw; (try dsimp only at hSw); go_simp); try with_reducible rfl))
  case hSt2 => assumption
  try simp only [Act.put, List.setIfInBounds_toArray, List.set_cons_zero, List.set_cons_succ]
  refine' wpAnyH_take (i := 1) ?hit3 ?hst3 ?hft3 ?hrt3 ?hQt3 ?hyt3 ?hSt3 ?ht3
  case hit3 => (simp only [List.getElem?_toArray, List.getElem?_cons_succ, List.getElem?_cons_zero]; exact rfl)
  case hst3 => kernel_rfl
  case hft3 => kernel_rfl
  case hrt3 => kernel_rfl
  case hQt3 => exact fun _ _ _ h => h
  case hyt3 => (first | (refine Or.inr ⟨by rfl, ?_⟩; rfl) | (refine Or.inl ⟨by rfl, ?_⟩; (intro w hSw; (try dsimp only at hSw); go_simp); try with_reducible rfl))
  case hSt3 => assumption
  try simp only [Act.put, List.setIfInBounds_toArray, List.set_cons_zero, List.set_cons_succ]
  refine' wpAnyH_take (i := 2) ?hit4 ?hst4 ?hft4 ?hrt4 ?hQt4 ?hyt4 ?hSt4 ?ht4
  case hit4 => (simp only [List.getElem?_toArray, List.getElem?_cons_succ, List.getElem?_cons_zero]; exact rfl)
  case hst4 => kernel_rfl
  case hft4 => kernel_rfl
  case hrt4 => kernel_rfl
  case hQt4 => exact fun _ _ _ h => h
  case hyt4 => (first | (refine Or.inr ⟨by rfl, ?_⟩; rfl) | (refine Or.inl ⟨by rfl, ?_⟩; (intro w hSw; (try dsimp only at hSw); go_simp); try with_reducible rfl))
  case hSt4 => assumption
  try simp only [Act.put, List.setIfInBounds_toArray, List.set_cons_zero, List.set_cons_succ]
  refine wpAnyH_ready (rs := [3]) (by kernel_rfl) (by simp) ?_
  refine' AllReadyH.cons ?hi5 (fun K hK => ?hg5) AllReadyH.nil
  case hi5 => (simp only [List.getElem?_toArray, List.getElem?_cons_succ, List.getElem?_cons_zero]; exact rfl)
  go_simp
  go_at_call 14
  (with_reducible refine (Ordered_any (HT.out.below ABu1.out.bel).nets (by unfold keysM; rw [List.length_map]; have := HLEN.out; omega)).mono ?_)
  rintro e w3 ⟨v, rfl, hown, hb⟩
  clear t0 t1 r0 r1 r2 r3
  have ABw3 := Lib.hid (ABu1.out.below hb)
  have CBw3 := Lib.hid (CBu1.out.trans (hb.mono CBu1.out.size))
  clear hb
  have hord := ord_all HOK.out
  rw [hord] at hown
  obtain ⟨B, d, hv⟩ := hown.form
  subst hv
  have HO := Lib.hid hown.read
  clear hown hord
  obtain ⟨t0, t1, _, _⟩ := row2 ABw3.out.tb
  obtain ⟨r0, r1, r2, r3⟩ := row2 ABw3.out.rs
  refine hK.out _ _ (by go_keep) (fun hHeld => ?_)
  clear hK K
  refine wpAnyH_ready (rs := [4]) (by kernel_rfl) (by simp) ?_
  refine' AllReadyH.cons ?hi6 (fun K hK => ?hg6) AllReadyH.nil
  case hi6 => (simp only [List.getElem?_toArray, List.getElem?_cons_succ, List.getElem?_cons_zero]; exact rfl)
  go_simp
  go_at_call 13
  (with_reducible refine (RTexts_any HO.out (Nat.le_trans (all_nets HOK.out).2 (by omega)) (all_nets HOK.out).1).mono ?_)
  rintro e w4 ⟨rfl, hb⟩
  clear t0 t1 r0 r1 r2 r3
  have ABw4 := Lib.hid (ABw3.out.below hb)
  have CBw4 := Lib.hid (CBw3.out.trans (hb.mono CBw3.out.size))
  clear hb
  obtain ⟨t0, t1, _, _⟩ := row2 ABw4.out.tb
  obtain ⟨r0, r1, r2, r3⟩ := row2 ABw4.out.rs
  refine hK.out _ _ (by go_keep) (fun hHeld => ?_)
  clear hK K
  refine wpAnyH_ready (rs := [5]) (by kernel_rfl) (by simp) ?_
  refine' AllReadyH.cons ?hi7 (fun K hK => ?hg7) AllReadyH.nil
  case hi7 => (simp only [List.getElem?_toArray, List.getElem?_cons_succ, List.getElem?_cons_zero]; exact rfl)
  go_simp
  have hend := ABw4.out.laid (.slice A n c) (.slice A' n' c')
  generalize hsw : ((w4.setCell ⟨W.heap.size + 1, 0, none⟩ (.slice A n c)).setCell ⟨W.heap.size + 1, 1, none⟩ (.slice A' n' c')) = s8 at *
  clear hsw
  clear t0 t1 r0 r1 r2 r3
  obtain ⟨t0, t1, _, _⟩ := row2 hend.tb
  refine hK.out _ _ (by go_keep) (fun hHeld => ?_)
  clear hK K
  refine' wpAnyH_take (i := 6) ?hit9 ?hst9 ?hft9 ?hrt9 ?hQt9 ?hyt9 ?hSt9 ?ht9
  case hit9 => (simp only [List.getElem?_toArray, List.getElem?_cons_succ, List.getElem?_cons_zero]; exact rfl)
  case hst9 => kernel_rfl
  case hft9 => kernel_rfl
  case hrt9 => kernel_rfl
  case hQt9 => exact fun _ _ _ h => h
  case hyt9 => (first | (refine Or.inr ⟨by rfl, ?_⟩; rfl) | (refine Or.inl ⟨by rfl, ?_⟩; (intro w hSw; (try dsimp only at hSw); go_simp); try with_reducible rfl))
  case hSt9 => assumption
  try simp only [Act.put, List.setIfInBounds_toArray, List.set_cons_zero, List.set_cons_succ]
  refine wpAnyH_done (by kernel_rfl) ?_ _
  refine NoPanic.normal ?_
  clear hHeld
  go_wp2
  exact ans_end hend.rs rfl rfl rfl (by rw [← HPP.out]; exact AnsPost.same hend HT.out)
set_option maxRecDepth 100000 in
set_option maxHeartbeats 8000000 in
theorem Ans_cover (hT : TabR M W m A n c A' n' c') (hM : ∀ b, M b → b < W.heap.size) (hd : DOk m) (hs : s.size ≤ 2097152) (hL : L.map (·.data.toList) = segs 32 s.data.toList) (k0 : s.data.toList ≠ [108, 105, 115, 116]) (k1 : s.data.toList = [99, 111, 118, 101, 114]) :
    Calls Tryz.prog 8 #[.agg #[.slice A n c, .slice A' n' c'], .string s] W (AnsPost M W (.ok (netsT (coverV (allM m))), m)) := by
  have HT := Lib.hid hT
  have HOK := Lib.hid hd.ok
  have HNUM := Lib.hid hd.num
  have HLEN : Hid (m.length ≤ 64) := Lib.hid hd.ok.len
  have HL := Lib.hid hL
  have HMW := Lib.hid hM
  obtain ⟨PP, hPP⟩ : ∃ PP, AnsPost M W (.ok (netsT (coverV (allM m))), m) = PP := ⟨_, rfl⟩
  have HPP := Lib.hid hPP
  rw [hPP]
  have hwsz := fun (k : Nat) (p : ByteArray) (h : L[k]? = some p) => Nat.le_trans (piece_size hL h) hs
  clear hT hM hd hL hPP hwsz
  have q0 : (s.toList == [108, 105, 115, 116]) = false := by rw [ByteArray.toList_eq]; simpa using k0
  have q1 : (s.toList == [99, 111, 118, 101, 114]) = true := by rw [ByteArray.toList_eq]; simpa using k1
  clear k0 k1
  go_enter Tryz.func8, Tryz.ntmps8
  go_wp2_with fail
  go_at_call 7
  (with_reducible refine (RCut_c s 32 32 rfl _ hs).mono ?_)
  rintro e w1 ⟨L', g, cap, hL', rfl, hcs, hg, hb⟩
  obtain rfl : L' = L := list_bytes (hL'.trans HL.out.symm)
  have ABw1 := Lib.hid ((AB.start W A n c A' n' c').below hb)
  have CBw1 : Hid (Below w1.heap.size w1 w1) := Lib.hid (Below.refl _ _)
  clear hcs hb hL'
  obtain ⟨t0, t1, _, _⟩ := row2 ABw1.out.tb
  obtain ⟨r0, r1, r2, r3⟩ := row2 ABw1.out.rs
  obtain ⟨N, hN⟩ : ∃ N, L'.length = N := ⟨_, rfl⟩
  rw [hN]
  clear hN
  go_wp2
  refine wp_region_noPanic ?_
  refine wp_region_held_drew (S := (fun w' => w'.cell? ⟨W.heap.size, 0, none⟩ = some (.slice A n c) ∧ w'.cell? ⟨W.heap.size, 1, none⟩ = some (.slice A' n' c'))) (by kernel_rfl) (by go_keep) (fun hHeld => ?_)
  generalize hud : w1.drew = u10 at *
  have hb : Below w1.heap.size w1 u10 := by rw [← hud]; exact below_drewN (Below.refl _ _) 1
  clear t0 t1 r0 r1 r2 r3
  have ABu10 := Lib.hid (ABw1.out.below hb)
  have CBu10 := Lib.hid (CBw1.out.trans (hb.mono CBw1.out.size))
  clear hb
  clear hud
  obtain ⟨t0, t1, _, _⟩ := row2 ABu10.out.tb
  obtain ⟨r0, r1, r2, r3⟩ := row2 ABu10.out.rs
  refine' wpAnyH_take (i := 0) ?hit11 ?hst11 ?hft11 ?hrt11 ?hQt11 ?hyt11 ?hSt11 ?ht11
  case hit11 => (simp only [List.getElem?_toArray, List.getElem?_cons_succ, List.getElem?_cons_zero]; exact rfl)
  case hst11 => kernel_rfl
  case hft11 => kernel_rfl
  case hrt11 => kernel_rfl
  case hQt11 => exact fun _ _ _ h => h
  case hyt11 => (first | (refine Or.inr ⟨by rfl, ?_⟩; rfl) | (refine Or.inl ⟨by rfl, ?_⟩; (intro w hSw; (try dsimp only at hSw); go_simp); try with_reducible rfl))
  case hSt11 => assumption
  try simp only [Act.put, List.setIfInBounds_toArray, List.set_cons_zero, List.set_cons_succ]
  refine' wpAnyH_take (i := 1) ?hit12 ?hst12 ?hft12 ?hrt12 ?hQt12 ?hyt12 ?hSt12 ?ht12
  case hit12 => (simp only [List.getElem?_toArray, List.getElem?_cons_succ, List.getElem?_cons_zero]; exact rfl)
  case hst12 => kernel_rfl
  case hft12 => kernel_rfl
  case hrt12 => kernel_rfl
  case hQt12 => exact fun _ _ _ h => h
  case hyt12 => (first | (refine Or.inr ⟨by rfl, ?_⟩; rfl) | (refine Or.inl ⟨by rfl, ?_⟩; (intro w hSw; (try dsimp only at hSw); go_simp); try with_reducible rfl))
  case hSt12 => assumption
  try simp only [Act.put, List.setIfInBounds_toArray, List.set_cons_zero, List.set_cons_succ]
  refine' wpAnyH_take (i := 2) ?hit13 ?hst13 ?hft13 ?hrt13 ?hQt13 ?hyt13 ?hSt13 ?ht13
  case hit13 => (simp only [List.getElem?_toArray, List.getElem?_cons_succ, List.getElem?_cons_zero]; exact rfl)
  case hst13 => kernel_rfl
  case hft13 => kernel_rfl
  case hrt13 => kernel_rfl
  case hQt13 => exact fun _ _ _ h => h
  case hyt13 => (first | (refine Or.inr ⟨by rfl, ?_⟩; rfl) | (refine Or.inl ⟨by rfl, ?_⟩; (intro w hSw; (try dsimp only at hSw); go_simp); try with_reducible rfl))
  case hSt13 => assumption
  try simp only [Act.put, List.setIfInBounds_toArray, List.set_cons_zero, List.set_cons_succ]
  refine' wpAnyH_take (i := 3) ?hit14 ?hst14 ?hft14 ?hrt14 ?hQt14 ?hyt14 ?hSt14 ?ht14
  case hit14 => (simp only [List.getElem?_toArray, List.getElem?_cons_succ, List.getElem?_cons_zero]; exact rfl)
  case hst14 => kernel_rfl
  case hft14 => kernel_rfl
  case hrt14 => kernel_rfl
  case hQt14 => exact fun _ _ _ h => h
  case hyt14 => (first | (refine Or.inr ⟨by rfl, ?_⟩; rfl) | (refine Or.inl ⟨by rfl, ?_⟩; (intro w hSw; (try dsimp only at hSw); go_simp); try with_reducible rfl))
  case hSt14 => assumption
  try simp only [Act.put, List.setIfInBounds_toArray, List.set_cons_zero, List.set_cons_succ]
  refine wpAnyH_ready (rs := [4]) (by kernel_rfl) (by simp) ?_
  refine' AllReadyH.cons ?hi15 (fun K hK => ?hg15) AllReadyH.nil
  case hi15 => (simp only [List.getElem?_toArray, List.getElem?_cons_succ, List.getElem?_cons_zero]; exact rfl)
  go_simp
  go_at_call 15
  (with_reducible refine (CoverOf_any (l := keysM m) (n := n) (c := c) (fun x hx => (keys_nets HOK.out x hx).1) 32 u10 A 0 0 (HT.out.below ABu10.out.bel).nets is32_z (by decide) (by decide) (Nat.le_refl _)).mono ?_)
  rintro e w3 ⟨v, rfl, hown, hb⟩
  clear t0 t1 r0 r1 r2 r3
  have ABw3 := Lib.hid (ABu10.out.below hb)
  have CBw3 := Lib.hid (CBu10.out.trans (hb.mono CBu10.out.size))
  clear hb
  rw [cover_keys HOK.out] at hown
  obtain ⟨B, d, hv⟩ := hown.form
  subst hv
  have HO := Lib.hid hown.read
  clear hown
  obtain ⟨t0, t1, _, _⟩ := row2 ABw3.out.tb
  obtain ⟨r0, r1, r2, r3⟩ := row2 ABw3.out.rs
  refine hK.out _ _ (by go_keep) (fun hHeld => ?_)
  clear hK K
  refine wpAnyH_ready (rs := [5]) (by kernel_rfl) (by simp) ?_
  refine' AllReadyH.cons ?hi16 (fun K hK => ?hg16) AllReadyH.nil
  case hi16 => (simp only [List.getElem?_toArray, List.getElem?_cons_succ, List.getElem?_cons_zero]; exact rfl)
  go_simp
  go_at_call 13
  (with_reducible refine (RTexts_any HO.out (Nat.le_trans (cov_len fun x hx => ((all_nets HOK.out).1 x hx).1) (Nat.le_trans (all_nets HOK.out).2 (by omega))) (fun x hx => ⟨cover_valid (fun x hx => ((all_nets HOK.out).1 x hx).1) x hx, cover_32 (fun x hx => ((all_nets HOK.out).1 x hx).2) x hx⟩)).mono ?_)
  rintro e w4 ⟨rfl, hb⟩
  clear t0 t1 r0 r1 r2 r3
  have ABw4 := Lib.hid (ABw3.out.below hb)
  have CBw4 := Lib.hid (CBw3.out.trans (hb.mono CBw3.out.size))
  clear hb
  obtain ⟨t0, t1, _, _⟩ := row2 ABw4.out.tb
  obtain ⟨r0, r1, r2, r3⟩ := row2 ABw4.out.rs
  refine hK.out _ _ (by go_keep) (fun hHeld => ?_)
  clear hK K
  refine wpAnyH_ready (rs := [6]) (by kernel_rfl) (by simp) ?_
  refine' AllReadyH.cons ?hi17 (fun K hK => ?hg17) AllReadyH.nil
  case hi17 => (simp only [List.getElem?_toArray, List.getElem?_cons_succ, List.getElem?_cons_zero]; exact rfl)
  go_simp
  have hend := ABw4.out.laid (.slice A n c) (.slice A' n' c')
  generalize hsw : ((w4.setCell ⟨W.heap.size + 1, 0, none⟩ (.slice A n c)).setCell ⟨W.heap.size + 1, 1, none⟩ (.slice A' n' c')) = s18 at *
  clear hsw
  clear t0 t1 r0 r1 r2 r3
  obtain ⟨t0, t1, _, _⟩ := row2 hend.tb
  refine hK.out _ _ (by go_keep) (fun hHeld => ?_)
  clear hK K
  refine' wpAnyH_take (i := 7) ?hit19 ?hst19 ?hft19 ?hrt19 ?hQt19 ?hyt19 ?hSt19 ?ht19
  case hit19 => (simp only [List.getElem?_toArray, List.getElem?_cons_succ, List.getElem?_cons_zero]; exact rfl)
  case hst19 => kernel_rfl
  case hft19 => kernel_rfl
  case hrt19 => kernel_rfl
  case hQt19 => exact fun _ _ _ h => h
  case hyt19 => (first | (refine Or.inr ⟨by rfl, ?_⟩; rfl) | (refine Or.inl ⟨by rfl, ?_⟩; (intro w hSw; (try dsimp only at hSw); go_simp); try with_reducible rfl))
  case hSt19 => assumption
  try simp only [Act.put, List.setIfInBounds_toArray, List.set_cons_zero, List.set_cons_succ]
  refine wpAnyH_done (by kernel_rfl) ?_ _
  refine NoPanic.normal ?_
  clear hHeld
  go_wp2
  exact ans_end hend.rs rfl rfl rfl (by rw [← HPP.out]; exact AnsPost.same hend HT.out)
set_option maxRecDepth 100000 in
set_option maxHeartbeats 8000000 in
theorem Ans_one {W0 : ByteArray} (hT : TabR M W m A n c A' n' c') (hM : ∀ b, M b → b < W.heap.size) (hd : DOk m) (hs : s.size ≤ 2097152) (hL : [W0].map (·.data.toList) = segs 32 s.data.toList) (k0 : s.data.toList ≠ [108, 105, 115, 116]) (k1 : s.data.toList ≠ [99, 111, 118, 101, 114]) :
    Calls Tryz.prog 8 #[.agg #[.slice A n c, .slice A' n' c'], .string s] W (AnsPost M W (.error 7, m)) := by
  have HT := Lib.hid hT
  have HOK := Lib.hid hd.ok
  have HNUM := Lib.hid hd.num
  have HLEN : Hid (m.length ≤ 64) := Lib.hid hd.ok.len
  have HL := Lib.hid hL
  have HMW := Lib.hid hM
  obtain ⟨PP, hPP⟩ : ∃ PP, AnsPost M W (.error 7, m) = PP := ⟨_, rfl⟩
  have HPP := Lib.hid hPP
  rw [hPP]
  have hwsz := fun (k : Nat) (p : ByteArray) (h : [W0][k]? = some p) => Nat.le_trans (piece_size hL h) hs
  have hw0 : W0.size ≤ 2097152 := hwsz 0 W0 rfl
  clear hT hM hd hL hPP hwsz
  have q0 : (s.toList == [108, 105, 115, 116]) = false := by rw [ByteArray.toList_eq]; simpa using k0
  have q1 : (s.toList == [99, 111, 118, 101, 114]) = false := by rw [ByteArray.toList_eq]; simpa using k1
  clear k0 k1
  go_enter Tryz.func8, Tryz.ntmps8
  go_wp2_with fail
  go_at_call 7
  (with_reducible refine (RCut_c s 32 32 rfl _ hs).mono ?_)
  rintro e w1 ⟨L', g, cap, hL', rfl, hcs, hg, hb⟩
  obtain rfl : L' = [W0] := list_bytes (hL'.trans HL.out.symm)
  have ABw1 := Lib.hid ((AB.start W A n c A' n' c').below hb)
  have CBw1 : Hid (Below w1.heap.size w1 w1) := Lib.hid (Below.refl _ _)
  have Y0 : Hid (w1.cell? ⟨g, 0, none⟩ = some (.string W0)) := Lib.hid (hcs 0 _ rfl)
  clear hcs hb hL'
  obtain ⟨t0, t1, _, _⟩ := row2 ABw1.out.tb
  obtain ⟨r0, r1, r2, r3⟩ := row2 ABw1.out.rs
  have y0 := (CBw1.out.cell (p := ⟨g, 0, none⟩) hg).trans Y0.out
  rw [show ([W0] : List ByteArray).length = 1 from rfl]
  go_wp2
  have hend := (ABw1.out.laid (.slice A n c) (.slice A' n' c'))
  exact ans_end hend.rs rfl rfl rfl (by rw [← HPP.out]; exact AnsPost.same hend HT.out)
set_option maxRecDepth 100000 in
set_option maxHeartbeats 8000000 in
theorem Ans_findbad {W0 W1 : ByteArray} (hT : TabR M W m A n c A' n' c') (hM : ∀ b, M b → b < W.heap.size) (hd : DOk m) (hs : s.size ≤ 2097152) (hL : [W0, W1].map (·.data.toList) = segs 32 s.data.toList) (k0 : s.data.toList ≠ [108, 105, 115, 116]) (k1 : s.data.toList ≠ [99, 111, 118, 101, 114]) (k2 : W0.data.toList = [102, 105, 110, 100]) (hno : ∀ a : Nat, a < 4294967296 → W1.data.toList ≠ addrT a) :
    Calls Tryz.prog 8 #[.agg #[.slice A n c, .slice A' n' c'], .string s] W (AnsPost M W (.error 7, m)) := by
  have HT := Lib.hid hT
  have HOK := Lib.hid hd.ok
  have HNUM := Lib.hid hd.num
  have HLEN : Hid (m.length ≤ 64) := Lib.hid hd.ok.len
  have HL := Lib.hid hL
  have HMW := Lib.hid hM
  obtain ⟨PP, hPP⟩ : ∃ PP, AnsPost M W (.error 7, m) = PP := ⟨_, rfl⟩
  have HPP := Lib.hid hPP
  rw [hPP]
  have hwsz := fun (k : Nat) (p : ByteArray) (h : [W0, W1][k]? = some p) => Nat.le_trans (piece_size hL h) hs
  have hw0 : W0.size ≤ 2097152 := hwsz 0 W0 rfl
  have hw1 : W1.size ≤ 2097152 := hwsz 1 W1 rfl
  clear hT hM hd hL hPP hwsz
  have q0 : (s.toList == [108, 105, 115, 116]) = false := by rw [ByteArray.toList_eq]; simpa using k0
  have q1 : (s.toList == [99, 111, 118, 101, 114]) = false := by rw [ByteArray.toList_eq]; simpa using k1
  have q2 : (W0.toList == [102, 105, 110, 100]) = true := by rw [ByteArray.toList_eq]; simpa using k2
  clear k0 k1 k2
  go_enter Tryz.func8, Tryz.ntmps8
  go_wp2_with fail
  go_at_call 7
  (with_reducible refine (RCut_c s 32 32 rfl _ hs).mono ?_)
  rintro e w1 ⟨L', g, cap, hL', rfl, hcs, hg, hb⟩
  obtain rfl : L' = [W0, W1] := list_bytes (hL'.trans HL.out.symm)
  have ABw1 := Lib.hid ((AB.start W A n c A' n' c').below hb)
  have CBw1 : Hid (Below w1.heap.size w1 w1) := Lib.hid (Below.refl _ _)
  have Y0 : Hid (w1.cell? ⟨g, 0, none⟩ = some (.string W0)) := Lib.hid (hcs 0 _ rfl)
  have Y1 : Hid (w1.cell? ⟨g, 1, none⟩ = some (.string W1)) := Lib.hid (hcs 1 _ rfl)
  clear hcs hb hL'
  obtain ⟨t0, t1, _, _⟩ := row2 ABw1.out.tb
  obtain ⟨r0, r1, r2, r3⟩ := row2 ABw1.out.rs
  have y0 := (CBw1.out.cell (p := ⟨g, 0, none⟩) hg).trans Y0.out
  have y1 := (CBw1.out.cell (p := ⟨g, 1, none⟩) hg).trans Y1.out
  rw [show ([W0, W1] : List ByteArray).length = 2 from rfl]
  have HNO := Lib.hid hno
  clear hno
  go_wp2_with fail
  go_at_call 16
  (with_reducible refine (AddrOf_no W1 _ hw1 HNO.out).mono ?_)
  rintro e w2 ⟨rfl, hb⟩
  clear t0 t1 r0 r1 r2 r3 y0 y1
  have ABw2 := Lib.hid (ABw1.out.below hb)
  have CBw2 := Lib.hid (CBw1.out.trans (hb.mono CBw1.out.size))
  clear hb
  obtain ⟨t0, t1, _, _⟩ := row2 ABw2.out.tb
  obtain ⟨r0, r1, r2, r3⟩ := row2 ABw2.out.rs
  have y0 := (CBw2.out.cell (p := ⟨g, 0, none⟩) hg).trans Y0.out
  have y1 := (CBw2.out.cell (p := ⟨g, 1, none⟩) hg).trans Y1.out
  go_wp2
  have hend := (ABw2.out.laid (.slice A n c) (.slice A' n' c'))
  exact ans_end hend.rs rfl rfl rfl (by rw [← HPP.out]; exact AnsPost.same hend HT.out)
set_option maxRecDepth 100000 in
set_option maxHeartbeats 8000000 in
theorem Ans_sumbad {W0 W1 : ByteArray} (hT : TabR M W m A n c A' n' c') (hM : ∀ b, M b → b < W.heap.size) (hd : DOk m) (hs : s.size ≤ 2097152) (hL : [W0, W1].map (·.data.toList) = segs 32 s.data.toList) (k0 : s.data.toList ≠ [108, 105, 115, 116]) (k1 : s.data.toList ≠ [99, 111, 118, 101, 114]) (k2 : W0.data.toList ≠ [102, 105, 110, 100]) (k3 : W0.data.toList = [115, 117, 109]) (hno : ∀ a : Nat, a < 4294967296 → W1.data.toList ≠ addrT a) :
    Calls Tryz.prog 8 #[.agg #[.slice A n c, .slice A' n' c'], .string s] W (AnsPost M W (.error 7, m)) := by
  have HT := Lib.hid hT
  have HOK := Lib.hid hd.ok
  have HNUM := Lib.hid hd.num
  have HLEN : Hid (m.length ≤ 64) := Lib.hid hd.ok.len
  have HL := Lib.hid hL
  have HMW := Lib.hid hM
  obtain ⟨PP, hPP⟩ : ∃ PP, AnsPost M W (.error 7, m) = PP := ⟨_, rfl⟩
  have HPP := Lib.hid hPP
  rw [hPP]
  have hwsz := fun (k : Nat) (p : ByteArray) (h : [W0, W1][k]? = some p) => Nat.le_trans (piece_size hL h) hs
  have hw0 : W0.size ≤ 2097152 := hwsz 0 W0 rfl
  have hw1 : W1.size ≤ 2097152 := hwsz 1 W1 rfl
  clear hT hM hd hL hPP hwsz
  have q0 : (s.toList == [108, 105, 115, 116]) = false := by rw [ByteArray.toList_eq]; simpa using k0
  have q1 : (s.toList == [99, 111, 118, 101, 114]) = false := by rw [ByteArray.toList_eq]; simpa using k1
  have q2 : (W0.toList == [102, 105, 110, 100]) = false := by rw [ByteArray.toList_eq]; simpa using k2
  have q3 : (W0.toList == [115, 117, 109]) = true := by rw [ByteArray.toList_eq]; simpa using k3
  clear k0 k1 k2 k3
  go_enter Tryz.func8, Tryz.ntmps8
  go_wp2_with fail
  go_at_call 7
  (with_reducible refine (RCut_c s 32 32 rfl _ hs).mono ?_)
  rintro e w1 ⟨L', g, cap, hL', rfl, hcs, hg, hb⟩
  obtain rfl : L' = [W0, W1] := list_bytes (hL'.trans HL.out.symm)
  have ABw1 := Lib.hid ((AB.start W A n c A' n' c').below hb)
  have CBw1 : Hid (Below w1.heap.size w1 w1) := Lib.hid (Below.refl _ _)
  have Y0 : Hid (w1.cell? ⟨g, 0, none⟩ = some (.string W0)) := Lib.hid (hcs 0 _ rfl)
  have Y1 : Hid (w1.cell? ⟨g, 1, none⟩ = some (.string W1)) := Lib.hid (hcs 1 _ rfl)
  clear hcs hb hL'
  obtain ⟨t0, t1, _, _⟩ := row2 ABw1.out.tb
  obtain ⟨r0, r1, r2, r3⟩ := row2 ABw1.out.rs
  have y0 := (CBw1.out.cell (p := ⟨g, 0, none⟩) hg).trans Y0.out
  have y1 := (CBw1.out.cell (p := ⟨g, 1, none⟩) hg).trans Y1.out
  rw [show ([W0, W1] : List ByteArray).length = 2 from rfl]
  have HNO := Lib.hid hno
  clear hno
  go_wp2_with fail
  go_at_call 16
  (with_reducible refine (AddrOf_no W1 _ hw1 HNO.out).mono ?_)
  rintro e w2 ⟨rfl, hb⟩
  clear t0 t1 r0 r1 r2 r3 y0 y1
  have ABw2 := Lib.hid (ABw1.out.below hb)
  have CBw2 := Lib.hid (CBw1.out.trans (hb.mono CBw1.out.size))
  clear hb
  obtain ⟨t0, t1, _, _⟩ := row2 ABw2.out.tb
  obtain ⟨r0, r1, r2, r3⟩ := row2 ABw2.out.rs
  have y0 := (CBw2.out.cell (p := ⟨g, 0, none⟩) hg).trans Y0.out
  have y1 := (CBw2.out.cell (p := ⟨g, 1, none⟩) hg).trans Y1.out
  go_wp2
  have hend := (ABw2.out.laid (.slice A n c) (.slice A' n' c'))
  exact ans_end hend.rs rfl rfl rfl (by rw [← HPP.out]; exact AnsPost.same hend HT.out)
set_option maxRecDepth 100000 in
set_option maxHeartbeats 8000000 in
theorem Ans_sum {W0 W1 : ByteArray} (hT : TabR M W m A n c A' n' c') (hM : ∀ b, M b → b < W.heap.size) (hd : DOk m) (hs : s.size ≤ 2097152) (hL : [W0, W1].map (·.data.toList) = segs 32 s.data.toList) (k0 : s.data.toList ≠ [108, 105, 115, 116]) (k1 : s.data.toList ≠ [99, 111, 118, 101, 114]) (k2 : W0.data.toList ≠ [102, 105, 110, 100]) (k3 : W0.data.toList = [115, 117, 109]) {a : Nat} (ha : a < 4294967296) (hsa : W1.data.toList = addrT a) {q : Nat} (hq : q ≤ 65535) (hqs : S16 (sumL (a : Int)) = q) :
    Calls Tryz.prog 8 #[.agg #[.slice A n c, .slice A' n' c'], .string s] W (AnsPost M W (.ok (dd q), m)) := by
  have HT := Lib.hid hT
  have HOK := Lib.hid hd.ok
  have HNUM := Lib.hid hd.num
  have HLEN : Hid (m.length ≤ 64) := Lib.hid hd.ok.len
  have HL := Lib.hid hL
  have HMW := Lib.hid hM
  obtain ⟨PP, hPP⟩ : ∃ PP, AnsPost M W (.ok (dd q), m) = PP := ⟨_, rfl⟩
  have HPP := Lib.hid hPP
  rw [hPP]
  have hwsz := fun (k : Nat) (p : ByteArray) (h : [W0, W1][k]? = some p) => Nat.le_trans (piece_size hL h) hs
  have hw0 : W0.size ≤ 2097152 := hwsz 0 W0 rfl
  have hw1 : W1.size ≤ 2097152 := hwsz 1 W1 rfl
  clear hT hM hd hL hPP hwsz
  have q0 : (s.toList == [108, 105, 115, 116]) = false := by rw [ByteArray.toList_eq]; simpa using k0
  have q1 : (s.toList == [99, 111, 118, 101, 114]) = false := by rw [ByteArray.toList_eq]; simpa using k1
  have q2 : (W0.toList == [102, 105, 110, 100]) = false := by rw [ByteArray.toList_eq]; simpa using k2
  have q3 : (W0.toList == [115, 117, 109]) = true := by rw [ByteArray.toList_eq]; simpa using k3
  clear k0 k1 k2 k3
  go_enter Tryz.func8, Tryz.ntmps8
  go_wp2_with fail
  go_at_call 7
  (with_reducible refine (RCut_c s 32 32 rfl _ hs).mono ?_)
  rintro e w1 ⟨L', g, cap, hL', rfl, hcs, hg, hb⟩
  obtain rfl : L' = [W0, W1] := list_bytes (hL'.trans HL.out.symm)
  have ABw1 := Lib.hid ((AB.start W A n c A' n' c').below hb)
  have CBw1 : Hid (Below w1.heap.size w1 w1) := Lib.hid (Below.refl _ _)
  have Y0 : Hid (w1.cell? ⟨g, 0, none⟩ = some (.string W0)) := Lib.hid (hcs 0 _ rfl)
  have Y1 : Hid (w1.cell? ⟨g, 1, none⟩ = some (.string W1)) := Lib.hid (hcs 1 _ rfl)
  clear hcs hb hL'
  obtain ⟨t0, t1, _, _⟩ := row2 ABw1.out.tb
  obtain ⟨r0, r1, r2, r3⟩ := row2 ABw1.out.rs
  have y0 := (CBw1.out.cell (p := ⟨g, 0, none⟩) hg).trans Y0.out
  have y1 := (CBw1.out.cell (p := ⟨g, 1, none⟩) hg).trans Y1.out
  rw [show ([W0, W1] : List ByteArray).length = 2 from rfl]
  have HS := Lib.hid hsa
  have HQ := Lib.hid hqs
  have HI : Hid (is32 (a : Int)) := Lib.hid ⟨by omega, by omega⟩
  clear hsa hqs
  go_wp2_with fail
  go_at_call 16
  (with_reducible refine (AddrOf_yes a W1 _ ha HS.out).mono ?_)
  rintro e w2 ⟨rfl, hb⟩
  clear t0 t1 r0 r1 r2 r3 y0 y1
  have ABw2 := Lib.hid (ABw1.out.below hb)
  have CBw2 := Lib.hid (CBw1.out.trans (hb.mono CBw1.out.size))
  clear hb
  obtain ⟨t0, t1, _, _⟩ := row2 ABw2.out.tb
  obtain ⟨r0, r1, r2, r3⟩ := row2 ABw2.out.rs
  have y0 := (CBw2.out.cell (p := ⟨g, 0, none⟩) hg).trans Y0.out
  have y1 := (CBw2.out.cell (p := ⟨g, 1, none⟩) hg).trans Y1.out
  go_wp2
  refine wp_region_noPanic ?_
  refine wp_region_held_drew (S := (fun w' => w'.cell? ⟨W.heap.size, 0, none⟩ = some (.slice A n c) ∧ w'.cell? ⟨W.heap.size, 1, none⟩ = some (.slice A' n' c'))) (by kernel_rfl) (by go_keep) (fun hHeld => ?_)
  generalize hud : w2.drew = u20 at *
  have hb : Below w2.heap.size w2 u20 := by rw [← hud]; exact below_drewN (Below.refl _ _) 1
  clear t0 t1 r0 r1 r2 r3 y0 y1
  have ABu20 := Lib.hid (ABw2.out.below hb)
  have CBu20 := Lib.hid (CBw2.out.trans (hb.mono CBw2.out.size))
  clear hb
  clear hud
  obtain ⟨t0, t1, _, _⟩ := row2 ABu20.out.tb
  obtain ⟨r0, r1, r2, r3⟩ := row2 ABu20.out.rs
  have y0 := (CBu20.out.cell (p := ⟨g, 0, none⟩) hg).trans Y0.out
  have y1 := (CBu20.out.cell (p := ⟨g, 1, none⟩) hg).trans Y1.out
  refine' wpAnyH_take (i := 0) ?hit21 ?hst21 ?hft21 ?hrt21 ?hQt21 ?hyt21 ?hSt21 ?ht21
  case hit21 => (simp only [List.getElem?_toArray, List.getElem?_cons_succ, List.getElem?_cons_zero]; exact rfl)
  case hst21 => kernel_rfl
  case hft21 => kernel_rfl
  case hrt21 => kernel_rfl
  case hQt21 => exact fun _ _ _ h => h
  case hyt21 => (first | (refine Or.inr ⟨by rfl, ?_⟩; rfl) | (refine Or.inl ⟨by rfl, ?_⟩; (intro w hSw; (try dsimp only at hSw); go_simp); try with_reducible rfl))
  case hSt21 => assumption
  try simp only [Act.put, List.setIfInBounds_toArray, List.set_cons_zero, List.set_cons_succ]
  refine' wpAnyH_take (i := 1) ?hit22 ?hst22 ?hft22 ?hrt22 ?hQt22 ?hyt22 ?hSt22 ?ht22
  case hit22 => (simp only [List.getElem?_toArray, List.getElem?_cons_succ, List.getElem?_cons_zero]; exact rfl)
  case hst22 => kernel_rfl
  case hft22 => kernel_rfl
  case hrt22 => kernel_rfl
  case hQt22 => exact fun _ _ _ h => h
  case hyt22 => (first | (refine Or.inr ⟨by rfl, ?_⟩; rfl) | (refine Or.inl ⟨by rfl, ?_⟩; (intro w hSw; (try dsimp only at hSw); go_simp); try with_reducible rfl))
  case hSt22 => assumption
  try simp only [Act.put, List.setIfInBounds_toArray, List.set_cons_zero, List.set_cons_succ]
  refine wpAnyH_ready (rs := [2]) (by kernel_rfl) (by simp) ?_
  refine' AllReadyH.cons ?hi23 (fun K hK => ?hg23) AllReadyH.nil
  case hi23 => (simp only [List.getElem?_toArray, List.getElem?_cons_succ, List.getElem?_cons_zero]; exact rfl)
  go_simp
  go_at_call 19
  (with_reducible refine (Four_b (a : Int) _ HI.out).mono ?_)
  rintro e w3 ⟨rfl, hw3⟩
  have hb : Below u20.heap.size u20 w3 := by rw [hw3]; exact below_1 _ _
  have HBY : Hid (Bytes w3 (u20.heap.size + 1) (some ⟨u20.heap.size, 0, none⟩) (sumL (a : Int))) := Lib.hid (by rw [hw3]; exact Bytes.new u20 5 _ (sumL (a : Int)) (sum_cells (a : Int)) (sumL_byte (a : Int) HI.out))
  clear hw3
  clear t0 t1 r0 r1 r2 r3 y0 y1
  have ABw3 := Lib.hid (ABu20.out.below hb)
  have CBw3 := Lib.hid (CBu20.out.trans (hb.mono CBu20.out.size))
  clear hb
  obtain ⟨t0, t1, _, _⟩ := row2 ABw3.out.tb
  obtain ⟨r0, r1, r2, r3⟩ := row2 ABw3.out.rs
  have y0 := (CBw3.out.cell (p := ⟨g, 0, none⟩) hg).trans Y0.out
  have y1 := (CBw3.out.cell (p := ⟨g, 1, none⟩) hg).trans Y1.out
  refine hK.out _ _ (by go_keep) (fun hHeld => ?_)
  clear hK K
  refine wpAnyH_ready (rs := [3]) (by kernel_rfl) (by simp) ?_
  refine' AllReadyH.cons ?hi24 (fun K hK => ?hg24) AllReadyH.nil
  case hi24 => (simp only [List.getElem?_toArray, List.getElem?_cons_succ, List.getElem?_cons_zero]; exact rfl)
  go_simp
  go_at_call 18
  (with_reducible refine (SumOf_any _ 4 4 (sumL (a : Int)) _ _ HBY.out rfl (by omega)).mono ?_)
  rintro e w4 ⟨rfl, rfl⟩
  rw [HQ.out]
  refine hK.out _ _ (by go_keep) (fun hHeld => ?_)
  clear hK K
  refine wpAnyH_ready (rs := [4]) (by kernel_rfl) (by simp) ?_
  refine' AllReadyH.cons ?hi25 (fun K hK => ?hg25) AllReadyH.nil
  case hi25 => (simp only [List.getElem?_toArray, List.getElem?_cons_succ, List.getElem?_cons_zero]; exact rfl)
  go_simp
  go_at_call 17
  (with_reducible refine (Digits_n q q _ (Nat.le_refl _) (by omega)).mono ?_)
  rintro e w5 ⟨rfl, hb⟩
  clear t0 t1 r0 r1 r2 r3 y0 y1
  have ABw5 := Lib.hid (ABw3.out.below hb)
  have CBw5 := Lib.hid (CBw3.out.trans (hb.mono CBw3.out.size))
  clear hb
  obtain ⟨t0, t1, _, _⟩ := row2 ABw5.out.tb
  obtain ⟨r0, r1, r2, r3⟩ := row2 ABw5.out.rs
  have y0 := (CBw5.out.cell (p := ⟨g, 0, none⟩) hg).trans Y0.out
  have y1 := (CBw5.out.cell (p := ⟨g, 1, none⟩) hg).trans Y1.out
  refine hK.out _ _ (by go_keep) (fun hHeld => ?_)
  clear hK K
  refine wpAnyH_ready (rs := [5]) (by kernel_rfl) (by simp) ?_
  refine' AllReadyH.cons ?hi26 (fun K hK => ?hg26) AllReadyH.nil
  case hi26 => (simp only [List.getElem?_toArray, List.getElem?_cons_succ, List.getElem?_cons_zero]; exact rfl)
  go_simp
  have hend := ABw5.out.laid (.slice A n c) (.slice A' n' c')
  generalize hsw : ((w5.setCell ⟨W.heap.size + 1, 0, none⟩ (.slice A n c)).setCell ⟨W.heap.size + 1, 1, none⟩ (.slice A' n' c')) = s27 at *
  clear hsw
  clear t0 t1 r0 r1 r2 r3 y0 y1
  obtain ⟨t0, t1, _, _⟩ := row2 hend.tb
  refine hK.out _ _ (by go_keep) (fun hHeld => ?_)
  clear hK K
  refine' wpAnyH_take (i := 6) ?hit28 ?hst28 ?hft28 ?hrt28 ?hQt28 ?hyt28 ?hSt28 ?ht28
  case hit28 => (simp only [List.getElem?_toArray, List.getElem?_cons_succ, List.getElem?_cons_zero]; exact rfl)
  case hst28 => kernel_rfl
  case hft28 => kernel_rfl
  case hrt28 => kernel_rfl
  case hQt28 => exact fun _ _ _ h => h
  case hyt28 => (first | (refine Or.inr ⟨by rfl, ?_⟩; rfl) | (refine Or.inl ⟨by rfl, ?_⟩; (intro w hSw; (try dsimp only at hSw); go_simp); try with_reducible rfl))
  case hSt28 => assumption
  try simp only [Act.put, List.setIfInBounds_toArray, List.set_cons_zero, List.set_cons_succ]
  refine wpAnyH_done (by kernel_rfl) ?_ _
  refine NoPanic.normal ?_
  clear hHeld
  go_wp2
  exact ans_end hend.rs rfl rfl rfl (by rw [← HPP.out]; exact AnsPost.same hend HT.out)
set_option maxRecDepth 100000 in
set_option maxHeartbeats 8000000 in
theorem Ans_findnone {W0 W1 : ByteArray} (hT : TabR M W m A n c A' n' c') (hM : ∀ b, M b → b < W.heap.size) (hd : DOk m) (hs : s.size ≤ 2097152) (hL : [W0, W1].map (·.data.toList) = segs 32 s.data.toList) (k0 : s.data.toList ≠ [108, 105, 115, 116]) (k1 : s.data.toList ≠ [99, 111, 118, 101, 114]) (k2 : W0.data.toList = [102, 105, 110, 100]) (k3 : W0.data.toList ≠ [115, 117, 109]) {a : Nat} (ha : a < 4294967296) (hsa : W1.data.toList = addrT a) (hf : findL (a : Int) (keysM m) 0 none = none) :
    Calls Tryz.prog 8 #[.agg #[.slice A n c, .slice A' n' c'], .string s] W (AnsPost M W (.error 2, m)) := by
  have HT := Lib.hid hT
  have HOK := Lib.hid hd.ok
  have HNUM := Lib.hid hd.num
  have HLEN : Hid (m.length ≤ 64) := Lib.hid hd.ok.len
  have HL := Lib.hid hL
  have HMW := Lib.hid hM
  obtain ⟨PP, hPP⟩ : ∃ PP, AnsPost M W (.error 2, m) = PP := ⟨_, rfl⟩
  have HPP := Lib.hid hPP
  rw [hPP]
  have hwsz := fun (k : Nat) (p : ByteArray) (h : [W0, W1][k]? = some p) => Nat.le_trans (piece_size hL h) hs
  have hw0 : W0.size ≤ 2097152 := hwsz 0 W0 rfl
  have hw1 : W1.size ≤ 2097152 := hwsz 1 W1 rfl
  clear hT hM hd hL hPP hwsz
  have q0 : (s.toList == [108, 105, 115, 116]) = false := by rw [ByteArray.toList_eq]; simpa using k0
  have q1 : (s.toList == [99, 111, 118, 101, 114]) = false := by rw [ByteArray.toList_eq]; simpa using k1
  have q2 : (W0.toList == [102, 105, 110, 100]) = true := by rw [ByteArray.toList_eq]; simpa using k2
  have q3 : (W0.toList == [115, 117, 109]) = false := by rw [ByteArray.toList_eq]; simpa using k3
  clear k0 k1 k2 k3
  go_enter Tryz.func8, Tryz.ntmps8
  go_wp2_with fail
  go_at_call 7
  (with_reducible refine (RCut_c s 32 32 rfl _ hs).mono ?_)
  rintro e w1 ⟨L', g, cap, hL', rfl, hcs, hg, hb⟩
  obtain rfl : L' = [W0, W1] := list_bytes (hL'.trans HL.out.symm)
  have ABw1 := Lib.hid ((AB.start W A n c A' n' c').below hb)
  have CBw1 : Hid (Below w1.heap.size w1 w1) := Lib.hid (Below.refl _ _)
  have Y0 : Hid (w1.cell? ⟨g, 0, none⟩ = some (.string W0)) := Lib.hid (hcs 0 _ rfl)
  have Y1 : Hid (w1.cell? ⟨g, 1, none⟩ = some (.string W1)) := Lib.hid (hcs 1 _ rfl)
  clear hcs hb hL'
  obtain ⟨t0, t1, _, _⟩ := row2 ABw1.out.tb
  obtain ⟨r0, r1, r2, r3⟩ := row2 ABw1.out.rs
  have y0 := (CBw1.out.cell (p := ⟨g, 0, none⟩) hg).trans Y0.out
  have y1 := (CBw1.out.cell (p := ⟨g, 1, none⟩) hg).trans Y1.out
  rw [show ([W0, W1] : List ByteArray).length = 2 from rfl]
  have HS := Lib.hid hsa
  have HF := Lib.hid hf
  have HI : Hid (is32 (a : Int)) := Lib.hid ⟨by omega, by omega⟩
  clear hsa hf
  go_wp2_with fail
  go_at_call 16
  (with_reducible refine (AddrOf_yes a W1 _ ha HS.out).mono ?_)
  rintro e w2 ⟨rfl, hb⟩
  clear t0 t1 r0 r1 r2 r3 y0 y1
  have ABw2 := Lib.hid (ABw1.out.below hb)
  have CBw2 := Lib.hid (CBw1.out.trans (hb.mono CBw1.out.size))
  clear hb
  obtain ⟨t0, t1, _, _⟩ := row2 ABw2.out.tb
  obtain ⟨r0, r1, r2, r3⟩ := row2 ABw2.out.rs
  have y0 := (CBw2.out.cell (p := ⟨g, 0, none⟩) hg).trans Y0.out
  have y1 := (CBw2.out.cell (p := ⟨g, 1, none⟩) hg).trans Y1.out
  go_wp2_with fail
  go_at_call 20
  (with_reducible refine (FindIn_any (HT.out.below ABw2.out.bel).nets HI.out).mono ?_)
  rintro e w3 ⟨rfl, hb⟩
  clear t0 t1 r0 r1 r2 r3 y0 y1
  have ABw3 := Lib.hid (ABw2.out.below hb)
  have CBw3 := Lib.hid (CBw2.out.trans (hb.mono CBw2.out.size))
  clear hb
  rw [HF.out, show idxV none = -1 from rfl]
  obtain ⟨t0, t1, _, _⟩ := row2 ABw3.out.tb
  obtain ⟨r0, r1, r2, r3⟩ := row2 ABw3.out.rs
  have y0 := (CBw3.out.cell (p := ⟨g, 0, none⟩) hg).trans Y0.out
  have y1 := (CBw3.out.cell (p := ⟨g, 1, none⟩) hg).trans Y1.out
  go_wp2
  have hend := (ABw3.out.laid (.slice A n c) (.slice A' n' c'))
  exact ans_end hend.rs rfl rfl rfl (by rw [← HPP.out]; exact AnsPost.same hend HT.out)
set_option maxRecDepth 100000 in
set_option maxHeartbeats 8000000 in
theorem Ans_find {W0 W1 : ByteArray} (hT : TabR M W m A n c A' n' c') (hM : ∀ b, M b → b < W.heap.size) (hd : DOk m) (hs : s.size ≤ 2097152) (hL : [W0, W1].map (·.data.toList) = segs 32 s.data.toList) (k0 : s.data.toList ≠ [108, 105, 115, 116]) (k1 : s.data.toList ≠ [99, 111, 118, 101, 114]) (k2 : W0.data.toList = [102, 105, 110, 100]) (k3 : W0.data.toList ≠ [115, 117, 109]) {a p q i v : Nat} (ha : a < 4294967296) (hsa : W1.data.toList = addrT a) (hp : p < 4294967296) (hq : q ≤ 32) (hv : v ≤ 1073741824) (hf : findL (a : Int) (keysM m) 0 none = some (i, ((p : Int), (q : Int)))) (hi : m[i]? = some (((p : Int), (q : Int)), (v : Int))) :
    Calls Tryz.prog 8 #[.agg #[.slice A n c, .slice A' n' c'], .string s] W (AnsPost M W (.ok (netT p q ++ 32 :: dd v), m)) := by
  have HT := Lib.hid hT
  have HOK := Lib.hid hd.ok
  have HNUM := Lib.hid hd.num
  have HLEN : Hid (m.length ≤ 64) := Lib.hid hd.ok.len
  have HL := Lib.hid hL
  have HMW := Lib.hid hM
  obtain ⟨PP, hPP⟩ : ∃ PP, AnsPost M W (.ok (netT p q ++ 32 :: dd v), m) = PP := ⟨_, rfl⟩
  have HPP := Lib.hid hPP
  rw [hPP]
  have hwsz := fun (k : Nat) (p : ByteArray) (h : [W0, W1][k]? = some p) => Nat.le_trans (piece_size hL h) hs
  have hw0 : W0.size ≤ 2097152 := hwsz 0 W0 rfl
  have hw1 : W1.size ≤ 2097152 := hwsz 1 W1 rfl
  clear hT hM hd hL hPP hwsz
  have q0 : (s.toList == [108, 105, 115, 116]) = false := by rw [ByteArray.toList_eq]; simpa using k0
  have q1 : (s.toList == [99, 111, 118, 101, 114]) = false := by rw [ByteArray.toList_eq]; simpa using k1
  have q2 : (W0.toList == [102, 105, 110, 100]) = true := by rw [ByteArray.toList_eq]; simpa using k2
  have q3 : (W0.toList == [115, 117, 109]) = false := by rw [ByteArray.toList_eq]; simpa using k3
  clear k0 k1 k2 k3
  go_enter Tryz.func8, Tryz.ntmps8
  go_wp2_with fail
  go_at_call 7
  (with_reducible refine (RCut_c s 32 32 rfl _ hs).mono ?_)
  rintro e w1 ⟨L', g, cap, hL', rfl, hcs, hg, hb⟩
  obtain rfl : L' = [W0, W1] := list_bytes (hL'.trans HL.out.symm)
  have ABw1 := Lib.hid ((AB.start W A n c A' n' c').below hb)
  have CBw1 : Hid (Below w1.heap.size w1 w1) := Lib.hid (Below.refl _ _)
  have Y0 : Hid (w1.cell? ⟨g, 0, none⟩ = some (.string W0)) := Lib.hid (hcs 0 _ rfl)
  have Y1 : Hid (w1.cell? ⟨g, 1, none⟩ = some (.string W1)) := Lib.hid (hcs 1 _ rfl)
  clear hcs hb hL'
  obtain ⟨t0, t1, _, _⟩ := row2 ABw1.out.tb
  obtain ⟨r0, r1, r2, r3⟩ := row2 ABw1.out.rs
  have y0 := (CBw1.out.cell (p := ⟨g, 0, none⟩) hg).trans Y0.out
  have y1 := (CBw1.out.cell (p := ⟨g, 1, none⟩) hg).trans Y1.out
  rw [show ([W0, W1] : List ByteArray).length = 2 from rfl]
  have HS := Lib.hid hsa
  have HF := Lib.hid hf
  have HI : Hid (is32 (a : Int)) := Lib.hid ⟨by omega, by omega⟩
  have HMI := Lib.hid hi
  obtain ⟨X, hXe⟩ : ∃ X : ByteArray, X = ⟨(netT p q).toArray⟩ := ⟨_, rfl⟩
  obtain ⟨Y, hYe⟩ : ∃ Y : ByteArray, Y = ⟨(dd v).toArray⟩ := ⟨_, rfl⟩
  have hXl : X.size ≤ 19 := by rw [hXe, str_size]; exact netT_length p q hp hq
  have hYl : Y.size ≤ 10 := by rw [hYe, str_size]; exact (dd_len10 hv).2
  have hn1 : ¬ 9223372036854775807 < X.size + 1 := by omega
  have hn2 : ¬ 9223372036854775807 < X.size + 1 + Y.size := by omega
  have HRS : Hid (Value.string (X ++ ⟨#[32]⟩ ++ Y) = strV (netT p q ++ 32 :: dd v)) := Lib.hid (find_str2 (by rw [hXe]) (by rw [hYe]))
  have HX := Lib.hid hXe
  have HY := Lib.hid hYe
  clear hsa hf hi hXe hYe
  go_wp2_with fail
  go_at_call 16
  (with_reducible refine (AddrOf_yes a W1 _ ha HS.out).mono ?_)
  rintro e w2 ⟨rfl, hb⟩
  clear t0 t1 r0 r1 r2 r3 y0 y1
  have ABw2 := Lib.hid (ABw1.out.below hb)
  have CBw2 := Lib.hid (CBw1.out.trans (hb.mono CBw1.out.size))
  clear hb
  obtain ⟨t0, t1, _, _⟩ := row2 ABw2.out.tb
  obtain ⟨r0, r1, r2, r3⟩ := row2 ABw2.out.rs
  have y0 := (CBw2.out.cell (p := ⟨g, 0, none⟩) hg).trans Y0.out
  have y1 := (CBw2.out.cell (p := ⟨g, 1, none⟩) hg).trans Y1.out
  go_wp2_with fail
  go_at_call 20
  (with_reducible refine (FindIn_any (HT.out.below ABw2.out.bel).nets HI.out).mono ?_)
  rintro e w3 ⟨rfl, hb⟩
  clear t0 t1 r0 r1 r2 r3 y0 y1
  have ABw3 := Lib.hid (ABw2.out.below hb)
  have CBw3 := Lib.hid (CBw2.out.trans (hb.mono CBw2.out.size))
  clear hb
  rw [HF.out, show idxV (some (i, ((p : Int), (q : Int)))) = (i : Int) from rfl]
  obtain ⟨t0, t1, _, _⟩ := row2 ABw3.out.tb
  obtain ⟨r0, r1, r2, r3⟩ := row2 ABw3.out.rs
  have y0 := (CBw3.out.cell (p := ⟨g, 0, none⟩) hg).trans Y0.out
  have y1 := (CBw3.out.cell (p := ⟨g, 1, none⟩) hg).trans Y1.out
  have hln := (RdSlice.len HT.out.nets).1
  have hlv := (RdSlice.len HT.out.vals).1
  have him : i < m.length := (List.getElem?_eq_some_iff.1 HMI.out).1
  have hin : i < n := by rw [hln]; unfold keysM; rw [List.length_map]; exact him
  have hiv : i < n' := by rw [hlv]; unfold valsM; rw [List.length_map]; exact him
  have hkv := keys_at HMI.out
  obtain ⟨bn, on, ⟨x, x'⟩, hA, hbn, HXX, _, cn0, cn1⟩ := RdSlice.atN HT.out.nets hin
  have exx : (x, x') = ((p : Int), (q : Int)) := Option.some.inj (HXX.out.symm.trans hkv.1)
  obtain ⟨rfl, rfl⟩ := Prod.mk.inj exx
  subst hA
  have HCN0 := Lib.hid cn0
  have HCN1 := Lib.hid cn1
  clear cn0 cn1 HXX exx
  obtain ⟨bv, ov, z, hA', hbv, HZZ, _, cv0⟩ := RdSlice.atI HT.out.vals hiv
  have ezz : z = (v : Int) := Option.some.inj (HZZ.out.symm.trans hkv.2)
  subst ezz
  subst hA'
  have i0 : (0 : Int) ≤ (i : Int) := by omega
  have i1 : (i : Int) < (n : Int) := by omega
  have i2 : (i : Int) < (n' : Int) := by omega
  have i3 : ¬ (i : Int) < 0 := by omega
  have HCV0 := Lib.hid cv0
  clear cv0 hln hlv hkv HZZ him
  clear t0 t1 r0 r1 r2 r3 y0 y1
  obtain ⟨t0, t1, _, _⟩ := row2 ABw3.out.tb
  obtain ⟨r0, r1, r2, r3⟩ := row2 ABw3.out.rs
  have y0 := (CBw3.out.cell (p := ⟨g, 0, none⟩) hg).trans Y0.out
  have y1 := (CBw3.out.cell (p := ⟨g, 1, none⟩) hg).trans Y1.out
  have x0 := (ABw3.out.bel.cell (p := ⟨bn, on + i * 2, none⟩) hbn).trans HCN0.out
  have x1 := (ABw3.out.bel.cell (p := ⟨bn, on + i * 2 + 1, none⟩) hbn).trans HCN1.out
  have x2 := (ABw3.out.bel.cell (p := ⟨bv, ov + i, none⟩) hbv).trans HCV0.out
  go_wp2
  refine wp_region_noPanic ?_
  refine wp_region_held_drew (S := (fun w' => w'.cell? ⟨W.heap.size, 0, none⟩ = some (.slice (some ⟨bn, on, none⟩) n c) ∧ w'.cell? ⟨W.heap.size, 1, none⟩ = some (.slice (some ⟨bv, ov, none⟩) n' c') ∧ w'.cell? ⟨bn, on + i * 2, none⟩ = some (.int .u32 (p : Int)) ∧ w'.cell? ⟨bn, on + i * 2 + 1, none⟩ = some (.int .i64 (q : Int)) ∧ w'.cell? ⟨bv, ov + i, none⟩ = some (.int .i64 (v : Int)))) (by kernel_rfl) (by go_keep) (fun hHeld => ?_)
  generalize hud : w3.drew = u29 at *
  have hb : Below w3.heap.size w3 u29 := by rw [← hud]; exact below_drewN (Below.refl _ _) 1
  clear t0 t1 r0 r1 r2 r3 y0 y1 x0 x1 x2
  have ABu29 := Lib.hid (ABw3.out.below hb)
  have CBu29 := Lib.hid (CBw3.out.trans (hb.mono CBw3.out.size))
  clear hb
  clear hud
  obtain ⟨t0, t1, _, _⟩ := row2 ABu29.out.tb
  obtain ⟨r0, r1, r2, r3⟩ := row2 ABu29.out.rs
  have y0 := (CBu29.out.cell (p := ⟨g, 0, none⟩) hg).trans Y0.out
  have y1 := (CBu29.out.cell (p := ⟨g, 1, none⟩) hg).trans Y1.out
  have x0 := (ABu29.out.bel.cell (p := ⟨bn, on + i * 2, none⟩) hbn).trans HCN0.out
  have x1 := (ABu29.out.bel.cell (p := ⟨bn, on + i * 2 + 1, none⟩) hbn).trans HCN1.out
  have x2 := (ABu29.out.bel.cell (p := ⟨bv, ov + i, none⟩) hbv).trans HCV0.out
  refine' wpAnyH_take (i := 0) ?hit30 ?hst30 ?hft30 ?hrt30 ?hQt30 ?hyt30 ?hSt30 ?ht30
  case hit30 => (simp only [List.getElem?_toArray, List.getElem?_cons_succ, List.getElem?_cons_zero]; exact rfl)
  case hst30 => kernel_rfl
  case hft30 => kernel_rfl
  case hrt30 => kernel_rfl
  case hQt30 => exact fun _ _ _ h => h
  case hyt30 => (first | (refine Or.inr ⟨by rfl, ?_⟩; rfl) | (refine Or.inl ⟨by rfl, ?_⟩; (intro w hSw; (try dsimp only at hSw); go_simp); try with_reducible rfl))
  case hSt30 => assumption
  try simp only [Act.put, List.setIfInBounds_toArray, List.set_cons_zero, List.set_cons_succ]
  refine' wpAnyH_take (i := 1) ?hit31 ?hst31 ?hft31 ?hrt31 ?hQt31 ?hyt31 ?hSt31 ?ht31
  case hit31 => (simp only [List.getElem?_toArray, List.getElem?_cons_succ, List.getElem?_cons_zero]; exact rfl)
  case hst31 => kernel_rfl
  case hft31 => kernel_rfl
  case hrt31 => kernel_rfl
  case hQt31 => exact fun _ _ _ h => h
  case hyt31 => (first | (refine Or.inr ⟨by rfl, ?_⟩; rfl) | (refine Or.inl ⟨by rfl, ?_⟩; (intro w hSw; (try dsimp only at hSw); go_simp); try with_reducible rfl))
  case hSt31 => assumption
  try simp only [Act.put, List.setIfInBounds_toArray, List.set_cons_zero, List.set_cons_succ]
  refine' wpAnyH_take (i := 2) ?hit32 ?hst32 ?hft32 ?hrt32 ?hQt32 ?hyt32 ?hSt32 ?ht32
  case hit32 => (simp only [List.getElem?_toArray, List.getElem?_cons_succ, List.getElem?_cons_zero]; exact rfl)
  case hst32 => kernel_rfl
  case hft32 => kernel_rfl
  case hrt32 => kernel_rfl
  case hQt32 => exact fun _ _ _ h => h
  case hyt32 => (first | (refine Or.inr ⟨by rfl, ?_⟩; rfl) | (refine Or.inl ⟨by rfl, ?_⟩; (intro w hSw; (try dsimp only at hSw); go_simp); try with_reducible rfl))
  case hSt32 => assumption
  try simp only [Act.put, List.setIfInBounds_toArray, List.set_cons_zero, List.set_cons_succ]
  refine' wpAnyH_take (i := 3) ?hit33 ?hst33 ?hft33 ?hrt33 ?hQt33 ?hyt33 ?hSt33 ?ht33
  case hit33 => (simp only [List.getElem?_toArray, List.getElem?_cons_succ, List.getElem?_cons_zero]; exact rfl)
  case hst33 => kernel_rfl
  case hft33 => kernel_rfl
  case hrt33 => kernel_rfl
  case hQt33 => exact fun _ _ _ h => h
  case hyt33 => (first | (refine Or.inr ⟨by rfl, ?_⟩; rfl) | (refine Or.inl ⟨by rfl, ?_⟩; (intro w hSw; (try dsimp only at hSw); go_simp); try with_reducible rfl))
  case hSt33 => assumption
  try simp only [Act.put, List.setIfInBounds_toArray, List.set_cons_zero, List.set_cons_succ]
  refine' wpAnyH_take (i := 4) ?hit34 ?hst34 ?hft34 ?hrt34 ?hQt34 ?hyt34 ?hSt34 ?ht34
  case hit34 => (simp only [List.getElem?_toArray, List.getElem?_cons_succ, List.getElem?_cons_zero]; exact rfl)
  case hst34 => kernel_rfl
  case hft34 => kernel_rfl
  case hrt34 => kernel_rfl
  case hQt34 => exact fun _ _ _ h => h
  case hyt34 => (first | (refine Or.inr ⟨by rfl, ?_⟩; rfl) | (refine Or.inl ⟨by rfl, ?_⟩; (intro w hSw; (try dsimp only at hSw); go_simp); try with_reducible rfl))
  case hSt34 => assumption
  try simp only [Act.put, List.setIfInBounds_toArray, List.set_cons_zero, List.set_cons_succ]
  refine' wpAnyH_take (i := 5) ?hit35 ?hst35 ?hft35 ?hrt35 ?hQt35 ?hyt35 ?hSt35 ?ht35
  case hit35 => (simp only [List.getElem?_toArray, List.getElem?_cons_succ, List.getElem?_cons_zero]; exact rfl)
  case hst35 => kernel_rfl
  case hft35 => kernel_rfl
  case hrt35 => kernel_rfl
  case hQt35 => exact fun _ _ _ h => h
  case hyt35 => (first | (refine Or.inr ⟨by rfl, ?_⟩; rfl) | (refine Or.inl ⟨by rfl, ?_⟩; (intro w hSw; (try dsimp only at hSw); go_simp); try with_reducible rfl))
  case hSt35 => assumption
  try simp only [Act.put, List.setIfInBounds_toArray, List.set_cons_zero, List.set_cons_succ]
  refine' wpAnyH_take (i := 8) ?hit36 ?hst36 ?hft36 ?hrt36 ?hQt36 ?hyt36 ?hSt36 ?ht36
  case hit36 => (simp only [List.getElem?_toArray, List.getElem?_cons_succ, List.getElem?_cons_zero]; exact rfl)
  case hst36 => kernel_rfl
  case hft36 => kernel_rfl
  case hrt36 => kernel_rfl
  case hQt36 => exact fun _ _ _ h => h
  case hyt36 => (first | (refine Or.inr ⟨by rfl, ?_⟩; rfl) | (refine Or.inl ⟨by rfl, ?_⟩; (intro w hSw; (try dsimp only at hSw); go_simp); try with_reducible rfl))
  case hSt36 => assumption
  try simp only [Act.put, List.setIfInBounds_toArray, List.set_cons_zero, List.set_cons_succ]
  refine' wpAnyH_take (i := 9) ?hit37 ?hst37 ?hft37 ?hrt37 ?hQt37 ?hyt37 ?hSt37 ?ht37
  case hit37 => (simp only [List.getElem?_toArray, List.getElem?_cons_succ, List.getElem?_cons_zero]; exact rfl)
  case hst37 => kernel_rfl
  case hft37 => kernel_rfl
  case hrt37 => kernel_rfl
  case hQt37 => exact fun _ _ _ h => h
  case hyt37 => (first | (refine Or.inr ⟨by rfl, ?_⟩; rfl) | (refine Or.inl ⟨by rfl, ?_⟩; (intro w hSw; (try dsimp only at hSw); go_simp); try with_reducible rfl))
  case hSt37 => assumption
  try simp only [Act.put, List.setIfInBounds_toArray, List.set_cons_zero, List.set_cons_succ]
  refine' wpAnyH_take (i := 10) ?hit38 ?hst38 ?hft38 ?hrt38 ?hQt38 ?hyt38 ?hSt38 ?ht38
  case hit38 => (simp only [List.getElem?_toArray, List.getElem?_cons_succ, List.getElem?_cons_zero]; exact rfl)
  case hst38 => kernel_rfl
  case hft38 => kernel_rfl
  case hrt38 => kernel_rfl
  case hQt38 => exact fun _ _ _ h => h
  case hyt38 => (first | (refine Or.inr ⟨by rfl, ?_⟩; rfl) | (refine Or.inl ⟨by rfl, ?_⟩; (intro w hSw; (try dsimp only at hSw); go_simp); try with_reducible rfl))
  case hSt38 => assumption
  try simp only [Act.put, List.setIfInBounds_toArray, List.set_cons_zero, List.set_cons_succ]
  refine' wpAnyH_take (i := 11) ?hit39 ?hst39 ?hft39 ?hrt39 ?hQt39 ?hyt39 ?hSt39 ?ht39
  case hit39 => (simp only [List.getElem?_toArray, List.getElem?_cons_succ, List.getElem?_cons_zero]; exact rfl)
  case hst39 => kernel_rfl
  case hft39 => kernel_rfl
  case hrt39 => kernel_rfl
  case hQt39 => exact fun _ _ _ h => h
  case hyt39 => (first | (refine Or.inr ⟨by rfl, ?_⟩; rfl) | (refine Or.inl ⟨by rfl, ?_⟩; (intro w hSw; (try dsimp only at hSw); go_simp); try with_reducible rfl))
  case hSt39 => assumption
  try simp only [Act.put, List.setIfInBounds_toArray, List.set_cons_zero, List.set_cons_succ]
  refine' wpAnyH_take (i := 12) ?hit40 ?hst40 ?hft40 ?hrt40 ?hQt40 ?hyt40 ?hSt40 ?ht40
  case hit40 => (simp only [List.getElem?_toArray, List.getElem?_cons_succ, List.getElem?_cons_zero]; exact rfl)
  case hst40 => kernel_rfl
  case hft40 => kernel_rfl
  case hrt40 => kernel_rfl
  case hQt40 => exact fun _ _ _ h => h
  case hyt40 => (first | (refine Or.inr ⟨by rfl, ?_⟩; rfl) | (refine Or.inl ⟨by rfl, ?_⟩; (intro w hSw; (try dsimp only at hSw); go_simp); try with_reducible rfl))
  case hSt40 => assumption
  try simp only [Act.put, List.setIfInBounds_toArray, List.set_cons_zero, List.set_cons_succ]
  refine wpAnyH_ready (rs := [6]) (by kernel_rfl) (by simp) ?_
  refine' AllReadyH.cons ?hi41 (fun K hK => ?hg41) AllReadyH.nil
  case hi41 => (simp only [List.getElem?_toArray, List.getElem?_cons_succ, List.getElem?_cons_zero]; exact rfl)
  go_simp
  go_at_call 21
  (with_reducible refine (RNetText_any p q _ hp hq).mono ?_)
  rintro e w4 ⟨rfl, hb⟩
  clear t0 t1 r0 r1 r2 r3 y0 y1 x0 x1 x2
  have ABw4 := Lib.hid (ABu29.out.below hb)
  have CBw4 := Lib.hid (CBu29.out.trans (hb.mono CBu29.out.size))
  clear hb
  rw [show strV (netT p q) = .string X from by rw [HX.out]]
  obtain ⟨t0, t1, _, _⟩ := row2 ABw4.out.tb
  obtain ⟨r0, r1, r2, r3⟩ := row2 ABw4.out.rs
  have y0 := (CBw4.out.cell (p := ⟨g, 0, none⟩) hg).trans Y0.out
  have y1 := (CBw4.out.cell (p := ⟨g, 1, none⟩) hg).trans Y1.out
  have x0 := (ABw4.out.bel.cell (p := ⟨bn, on + i * 2, none⟩) hbn).trans HCN0.out
  have x1 := (ABw4.out.bel.cell (p := ⟨bn, on + i * 2 + 1, none⟩) hbn).trans HCN1.out
  have x2 := (ABw4.out.bel.cell (p := ⟨bv, ov + i, none⟩) hbv).trans HCV0.out
  refine hK.out _ _ (by go_keep) (fun hHeld => ?_)
  clear hK K
  refine' wpAnyH_take (i := 7) ?hit42 ?hst42 ?hft42 ?hrt42 ?hQt42 ?hyt42 ?hSt42 ?ht42
  case hit42 => (simp only [List.getElem?_toArray, List.getElem?_cons_succ, List.getElem?_cons_zero]; exact rfl)
  case hst42 => kernel_rfl
  case hft42 => kernel_rfl
  case hrt42 => kernel_rfl
  case hQt42 => exact fun _ _ _ h => h
  case hyt42 => (first | (refine Or.inr ⟨by rfl, ?_⟩; rfl) | (refine Or.inl ⟨by rfl, ?_⟩; (intro w hSw; (try dsimp only at hSw); go_simp); try with_reducible rfl))
  case hSt42 => assumption
  try simp only [Act.put, List.setIfInBounds_toArray, List.set_cons_zero, List.set_cons_succ]
  refine wpAnyH_ready (rs := [13]) (by kernel_rfl) (by simp) ?_
  refine' AllReadyH.cons ?hi43 (fun K hK => ?hg43) AllReadyH.nil
  case hi43 => (simp only [List.getElem?_toArray, List.getElem?_cons_succ, List.getElem?_cons_zero]; exact rfl)
  go_simp
  go_at_call 17
  (with_reducible refine (Digits_n v v _ (Nat.le_refl _) (by omega)).mono ?_)
  rintro e w5 ⟨rfl, hb⟩
  clear t0 t1 r0 r1 r2 r3 y0 y1 x0 x1 x2
  have ABw5 := Lib.hid (ABw4.out.below hb)
  have CBw5 := Lib.hid (CBw4.out.trans (hb.mono CBw4.out.size))
  clear hb
  rw [show Value.string ⟨(dd v).toArray⟩ = .string Y from by rw [HY.out]]
  obtain ⟨t0, t1, _, _⟩ := row2 ABw5.out.tb
  obtain ⟨r0, r1, r2, r3⟩ := row2 ABw5.out.rs
  have y0 := (CBw5.out.cell (p := ⟨g, 0, none⟩) hg).trans Y0.out
  have y1 := (CBw5.out.cell (p := ⟨g, 1, none⟩) hg).trans Y1.out
  have x0 := (ABw5.out.bel.cell (p := ⟨bn, on + i * 2, none⟩) hbn).trans HCN0.out
  have x1 := (ABw5.out.bel.cell (p := ⟨bn, on + i * 2 + 1, none⟩) hbn).trans HCN1.out
  have x2 := (ABw5.out.bel.cell (p := ⟨bv, ov + i, none⟩) hbv).trans HCV0.out
  refine hK.out _ _ (by go_keep) (fun hHeld => ?_)
  clear hK K
  refine' wpAnyH_take (i := 14) ?hit44 ?hst44 ?hft44 ?hrt44 ?hQt44 ?hyt44 ?hSt44 ?ht44
  case hit44 => (simp only [List.getElem?_toArray, List.getElem?_cons_succ, List.getElem?_cons_zero]; exact rfl)
  case hst44 => kernel_rfl
  case hft44 => kernel_rfl
  case hrt44 => kernel_rfl
  case hQt44 => exact fun _ _ _ h => h
  case hyt44 => (first | (refine Or.inr ⟨by rfl, ?_⟩; rfl) | (refine Or.inl ⟨by rfl, ?_⟩; (intro w hSw; (try dsimp only at hSw); go_simp); try with_reducible rfl))
  case hSt44 => assumption
  try simp only [Act.put, List.setIfInBounds_toArray, List.set_cons_zero, List.set_cons_succ]
  refine wpAnyH_ready (rs := [15]) (by kernel_rfl) (by simp) ?_
  refine' AllReadyH.cons ?hi45 (fun K hK => ?hg45) AllReadyH.nil
  case hi45 => (simp only [List.getElem?_toArray, List.getElem?_cons_succ, List.getElem?_cons_zero]; exact rfl)
  go_simp
  have hend := ABw5.out.laid (.slice (some ⟨bn, on, none⟩) n c) (.slice (some ⟨bv, ov, none⟩) n' c')
  generalize hsw : ((w5.setCell ⟨W.heap.size + 1, 0, none⟩ (.slice (some ⟨bn, on, none⟩) n c)).setCell ⟨W.heap.size + 1, 1, none⟩ (.slice (some ⟨bv, ov, none⟩) n' c')) = s46 at *
  clear hsw
  clear t0 t1 r0 r1 r2 r3 y0 y1 x0 x1 x2
  obtain ⟨t0, t1, _, _⟩ := row2 hend.tb
  have xx0 := (hend.bel.cell (p := ⟨bn, on + i * 2, none⟩) hbn).trans HCN0.out
  have xx1 := (hend.bel.cell (p := ⟨bn, on + i * 2 + 1, none⟩) hbn).trans HCN1.out
  have xx2 := (hend.bel.cell (p := ⟨bv, ov + i, none⟩) hbv).trans HCV0.out
  refine hK.out _ _ (by go_keep) (fun hHeld => ?_)
  clear hK K
  refine' wpAnyH_take (i := 16) ?hit47 ?hst47 ?hft47 ?hrt47 ?hQt47 ?hyt47 ?hSt47 ?ht47
  case hit47 => (simp only [List.getElem?_toArray, List.getElem?_cons_succ, List.getElem?_cons_zero]; exact rfl)
  case hst47 => kernel_rfl
  case hft47 => kernel_rfl
  case hrt47 => kernel_rfl
  case hQt47 => exact fun _ _ _ h => h
  case hyt47 => (first | (refine Or.inr ⟨by rfl, ?_⟩; rfl) | (refine Or.inl ⟨by rfl, ?_⟩; (intro w hSw; (try dsimp only at hSw); go_simp); try with_reducible rfl))
  case hSt47 => assumption
  try simp only [Act.put, List.setIfInBounds_toArray, List.set_cons_zero, List.set_cons_succ]
  refine wpAnyH_done (by kernel_rfl) ?_ _
  refine NoPanic.normal ?_
  clear hHeld
  go_wp2
  exact ans_end hend.rs rfl rfl rfl (by rw [← HPP.out, show Value.string (X ++ ⟨#[32]⟩ ++ Y) = strV (netT p q ++ 32 :: dd v) from HRS.out]; exact AnsPost.same hend HT.out)
end
end Go.Proofs.YtgdlkjahlajcpaaGreatDoor
