/- pref.Common, as a contract in plain numbers. -/
import Derived.Test.YtplojnlmofbneaaDoorPrefW
import Derived.WalkLawsBesides
import Derived.Deep.RegionHeld3
namespace Go.Proofs.YtplojnlmofbneaaDoor
open Go.ChangeShapes Go.WideShapes Go.ChangeAt Go.RowKit
set_option linter.unusedVariables false
set_option linter.unusedSimpArgs false

/-- the end of a function of two parameters in cells and two results, the first one a net in a cell -/
theorem common_end {W : World} {R : Nat} {a : Act} {v0 v1 e : Value} {t : TypeId} {K : Ending → World → Prop} (h : W.heap[R]? = some (.cells #[v0, v1] t (0, 0))) (h2 : a.tmps[4]?.getD undef = .pointer (some ⟨R, 0, none⟩)) (h3 : a.tmps[5]?.getD undef = e) (hd : a.defers = [])
    (hK : K (.returned (.tuple #[.agg #[v0, v1], e])) W) : bodyPost Tryd.prog Tryd.f39 K .ret a W := by
  have e0 : W.cell? ⟨R, 0, none⟩ = some v0 := by rw [cell_of_row _ R _ _ _ (0, 0) h]; rfl
  have e1 : W.cell? ⟨R, 1, none⟩ = some v1 := by rw [cell_of_row _ R _ _ _ (0, 0) h]; rfl
  exact bodyPost_ret (by simp [results, Tryd.results39, go_sem, h2, h3, e0, e1]) hd hK
theorem LZ_net (a b : Int) (w : World) (ha : is32 a) (hb : is32 b) :
    Calls Tryd.prog 59 #[.int .u32 (bits .xor .u32 a b)] w fun e w' => e = .returned (.int .i64 ((lzN a b : Nat) : Int)) ∧ w = w' := by
  obtain ⟨x, rfl⟩ := Int.eq_ofNat_of_zero_le ha.1
  obtain ⟨y, rfl⟩ := Int.eq_ofNat_of_zero_le hb.1
  have hx := ha.2; have hy := hb.2
  rw [u32_xor_nat x y (by omega) (by omega)]
  have hlt : x ^^^ y < 4294967296 := Nat.xor_lt_two_pow (n := 32) (by omega) (by omega)
  have hbl : blen (x ^^^ y) ≤ 32 := blen_lt.2 hlt
  have e : ((lzN (x : Int) (y : Int) : Nat) : Int) = 32 - (blen (x ^^^ y) : Int) := by unfold lzN; simp only [Int.toNat_natCast]; omega
  rw [e]
  exact LeadingZeros32_any _ w hlt
set_option maxHeartbeats 400000 in
theorem Common_bad1 {a n b m : Int} (w : World) (ha : is32 a) (h : netF (a, n) ≠ 0) :
    Calls Tryd.prog 39 #[.agg #[.int .u32 a, .int .i64 n], .agg #[.int .u32 b, .int .i64 m]] w fun e w' => e = .returned (.tuple #[.agg #[.int .u32 0, .int .i64 0], .iface 41 (.int .i64 (netF (a, n)))]) ∧ Below w.heap.size w w' := by
  obtain ⟨h0, h1⟩ := ha
  have HZ := Lib.hid h
  clear h
  go_enter Tryd.func39, Tryd.ntmps39
  go_wp2_with (first
    | (go_at_call 25; refine (Check_bad _ h0 h1 HZ.out).mono ?_; rintro e w1 ⟨rfl, hb1⟩; obtain ⟨blk0, blk1, blk2⟩ := box3 hb1; obtain ⟨q0, q1, g0, g1⟩ := row2 blk2; have BLK2 := Lib.hid blk2; clear blk0 blk1 blk2; have HB1 := Lib.hid ((below_3 w _ _ _).trans (hb1.mono (by simp; omega))); have hz1 := HB1.out.size; clear hb1)
    | fail)
  exact common_end (set2_block _ _ BLK2.out) rfl rfl rfl ⟨rfl, (HB1.out.setCell (by simp; omega) _).setCell (by simp; omega) _⟩
set_option maxHeartbeats 1000000 in
theorem Common_bad2 {a n b m : Int} (w : World) (ha : is32 a) (hb : is32 b) (h : netF (a, n) = 0) (h2 : netF (b, m) ≠ 0) :
    Calls Tryd.prog 39 #[.agg #[.int .u32 a, .int .i64 n], .agg #[.int .u32 b, .int .i64 m]] w fun e w' => e = .returned (.tuple #[.agg #[.int .u32 0, .int .i64 0], .iface 41 (.int .i64 (netF (b, m)))]) ∧ Below w.heap.size w w' := by
  obtain ⟨h0, h1⟩ := ha
  have HZ := Lib.hid h
  have HZ2 := Lib.hid h2
  clear h h2
  obtain ⟨h2, h3⟩ := hb
  have tok : Hid True := Lib.hid trivial
  go_enter Tryd.func39, Tryd.ntmps39
  go_wp2_with fail
  go_at_call 25; (with_reducible refine (Check_ok _ h0 h1 HZ.out).mono ?_); rintro e w1 ⟨rfl, hb1⟩; obtain ⟨blk0, blk1, blk2⟩ := box3 hb1
  obtain ⟨d0, d1, _, _⟩ := row2 blk0; obtain ⟨r0, r1, f0, f1⟩ := row2 blk1; obtain ⟨q0, q1, g0, g1⟩ := row2 blk2; have BLK0 := Lib.hid blk0; have BLK1 := Lib.hid blk1; have BLK2 := Lib.hid blk2; clear blk0 blk1 blk2; have HB1 := Lib.hid ((below_3 w _ _ _).trans (hb1.mono (by simp; omega))); have hz1 := HB1.out.size; clear hb1
  go_wp2_with (first
    | (go_at_call 25; (with_reducible refine (Check_bad _ h2 h3 HZ2.out).mono ?_); rintro e w2 ⟨rfl, hb2⟩; have blk0 := below_block hb2 (size_of_block BLK0.out) BLK0.out; have blk1 := below_block hb2 (size_of_block BLK1.out) BLK1.out; have blk2 := below_block hb2 (size_of_block BLK2.out) BLK2.out; obtain ⟨d0, d1, _, _⟩ := row2 blk0; obtain ⟨r0, r1, f0, f1⟩ := row2 blk1; obtain ⟨q0, q1, g0, g1⟩ := row2 blk2; have CLK0 := Lib.hid blk0; have CLK1 := Lib.hid blk1; have CLK2 := Lib.hid blk2; clear blk0 blk1 blk2; have HB2 := Lib.hid (HB1.out.trans (hb2.mono (by omega))); have hz2 := HB2.out.size; clear hb2)
    | fail)
  exact common_end (set2_block _ _ CLK2.out) rfl rfl rfl ⟨rfl, (HB2.out.setCell (by simp; omega) _).setCell (by simp; omega) _⟩
set_option maxHeartbeats 2000000 in
theorem Common_ok {a b : Int} {n m : Nat} (w : World) (ha : is32 a) (hb : is32 b) (h : netF (a, (n : Int)) = 0) (h2 : netF (b, (m : Int)) = 0) :
    Calls Tryd.prog 39 #[.agg #[.int .u32 a, .int .i64 n], .agg #[.int .u32 b, .int .i64 m]] w fun e w' => e = .returned (.tuple #[netV (comN (a, (n : Int)) (b, (m : Int))), .nilIface]) ∧ Below w.heap.size w w' := by
  have HLZ := Lib.hid (fun w => LZ_net a b w ha hb)
  have HA := Lib.hid ha
  have HL : Hid (comL (a, (n : Int)) (b, (m : Int)) = min (min n m) (lzN a b)) := Lib.hid rfl
  have hL := lzN_le a b
  obtain ⟨h0, h1⟩ := ha
  have HZ := Lib.hid h
  have HZ2 := Lib.hid h2
  clear h h2
  obtain ⟨h2, h3⟩ := hb
  generalize lzN a b = L at *
  go_enter Tryd.func39, Tryd.ntmps39
  go_wp2_with fail
  go_at_call 25; (with_reducible refine (Check_ok _ h0 h1 HZ.out).mono ?_); rintro e w1 ⟨rfl, hb1⟩; obtain ⟨blk0, blk1, blk2⟩ := box3 hb1
  obtain ⟨d0, d1, _, _⟩ := row2 blk0; obtain ⟨r0, r1, f0, f1⟩ := row2 blk1; obtain ⟨q0, q1, g0, g1⟩ := row2 blk2; have BLK0 := Lib.hid blk0; have BLK1 := Lib.hid blk1; have BLK2 := Lib.hid blk2; clear blk0 blk1 blk2; have HB1 := Lib.hid ((below_3 w _ _ _).trans (hb1.mono (by simp; omega))); have hz1 := HB1.out.size; clear hb1
  go_wp2_with (first
    | (go_at_call 25; (with_reducible refine (Check_ok _ h2 h3 HZ2.out).mono ?_); rintro e w2 ⟨rfl, hb2⟩; have blk0 := below_block hb2 (size_of_block BLK0.out) BLK0.out; have blk1 := below_block hb2 (size_of_block BLK1.out) BLK1.out; have blk2 := below_block hb2 (size_of_block BLK2.out) BLK2.out; obtain ⟨d0, d1, _, _⟩ := row2 blk0; obtain ⟨r0, r1, f0, f1⟩ := row2 blk1; obtain ⟨q0, q1, g0, g1⟩ := row2 blk2; have CLK0 := Lib.hid blk0; have CLK1 := Lib.hid blk1; have CLK2 := Lib.hid blk2; clear blk0 blk1 blk2; have HB2 := Lib.hid (HB1.out.trans (hb2.mono (by omega))); have hz2 := HB2.out.size; clear hb2)
    | fail)
  have hn2 : ¬ (w.heap.size + 1 + 1 = w.heap.size) := by omega
  have hn3 : ¬ (w.heap.size = w.heap.size + 1 + 1) := by omega
  refine wp_region_noPanic ?_
  refine wp_region_held_drew (S := (fun w' => w'.cell? ⟨w.heap.size, 0, none⟩ = some (.int .u32 a) ∧ w'.cell? ⟨w.heap.size, 1, none⟩ = some (.int .i64 n) ∧ w'.cell? ⟨w.heap.size + 1, 0, none⟩ = some (.int .u32 b) ∧ w'.cell? ⟨w.heap.size + 1, 1, none⟩ = some (.int .i64 m))) (by kernel_rfl) (by go_keep) (fun hHeld => ?_)
  refine' wpAnyH_take (i := 0) ?hia0 ?hsa0 ?hfa0 ?hra0 ?hQa0 ?hya0 ?hSa0 ?ha0
  case hia0 => (simp only [List.getElem?_toArray, List.getElem?_cons_succ, List.getElem?_cons_zero]; exact rfl)
  case hsa0 => kernel_rfl
  case hfa0 => kernel_rfl
  case hra0 => kernel_rfl
  case hQa0 => exact fun _ _ _ h => h
  case hya0 => (first | (refine Or.inr ⟨by rfl, ?_⟩; rfl) | (refine Or.inl ⟨by rfl, ?_⟩; (intro w hSw; (try dsimp only at hSw); go_simp); try with_reducible rfl))
  case hSa0 => assumption
  try simp only [Act.put, List.setIfInBounds_toArray, List.set_cons_zero, List.set_cons_succ]
  refine' wpAnyH_take (i := 1) ?hia1 ?hsa1 ?hfa1 ?hra1 ?hQa1 ?hya1 ?hSa1 ?ha1
  case hia1 => (simp only [List.getElem?_toArray, List.getElem?_cons_succ, List.getElem?_cons_zero]; exact rfl)
  case hsa1 => kernel_rfl
  case hfa1 => kernel_rfl
  case hra1 => kernel_rfl
  case hQa1 => exact fun _ _ _ h => h
  case hya1 => (first | (refine Or.inr ⟨by rfl, ?_⟩; rfl) | (refine Or.inl ⟨by rfl, ?_⟩; (intro w hSw; (try dsimp only at hSw); go_simp); try with_reducible rfl))
  case hSa1 => assumption
  try simp only [Act.put, List.setIfInBounds_toArray, List.set_cons_zero, List.set_cons_succ]
  refine' wpAnyH_take (i := 2) ?hia2 ?hsa2 ?hfa2 ?hra2 ?hQa2 ?hya2 ?hSa2 ?ha2
  case hia2 => (simp only [List.getElem?_toArray, List.getElem?_cons_succ, List.getElem?_cons_zero]; exact rfl)
  case hsa2 => kernel_rfl
  case hfa2 => kernel_rfl
  case hra2 => kernel_rfl
  case hQa2 => exact fun _ _ _ h => h
  case hya2 => (first | (refine Or.inr ⟨by rfl, ?_⟩; rfl) | (refine Or.inl ⟨by rfl, ?_⟩; (intro w hSw; (try dsimp only at hSw); go_simp); try with_reducible rfl))
  case hSa2 => assumption
  try simp only [Act.put, List.setIfInBounds_toArray, List.set_cons_zero, List.set_cons_succ]
  refine' wpAnyH_take (i := 3) ?hia3 ?hsa3 ?hfa3 ?hra3 ?hQa3 ?hya3 ?hSa3 ?ha3
  case hia3 => (simp only [List.getElem?_toArray, List.getElem?_cons_succ, List.getElem?_cons_zero]; exact rfl)
  case hsa3 => kernel_rfl
  case hfa3 => kernel_rfl
  case hra3 => kernel_rfl
  case hQa3 => exact fun _ _ _ h => h
  case hya3 => (first | (refine Or.inr ⟨by rfl, ?_⟩; rfl) | (refine Or.inl ⟨by rfl, ?_⟩; (intro w hSw; (try dsimp only at hSw); go_simp); try with_reducible rfl))
  case hSa3 => assumption
  try simp only [Act.put, List.setIfInBounds_toArray, List.set_cons_zero, List.set_cons_succ]
  refine' wpAnyH_take (i := 4) ?hia4 ?hsa4 ?hfa4 ?hra4 ?hQa4 ?hya4 ?hSa4 ?ha4
  case hia4 => (simp only [List.getElem?_toArray, List.getElem?_cons_succ, List.getElem?_cons_zero]; exact rfl)
  case hsa4 => kernel_rfl
  case hfa4 => kernel_rfl
  case hra4 => kernel_rfl
  case hQa4 => exact fun _ _ _ h => h
  case hya4 => (first | (refine Or.inr ⟨by rfl, ?_⟩; rfl) | (refine Or.inl ⟨by rfl, ?_⟩; (intro w hSw; (try dsimp only at hSw); go_simp); try with_reducible rfl))
  case hSa4 => assumption
  try simp only [Act.put, List.setIfInBounds_toArray, List.set_cons_zero, List.set_cons_succ]
  refine' wpAnyH_take (i := 5) ?hia5 ?hsa5 ?hfa5 ?hra5 ?hQa5 ?hya5 ?hSa5 ?ha5
  case hia5 => (simp only [List.getElem?_toArray, List.getElem?_cons_succ, List.getElem?_cons_zero]; exact rfl)
  case hsa5 => kernel_rfl
  case hfa5 => kernel_rfl
  case hra5 => kernel_rfl
  case hQa5 => exact fun _ _ _ h => h
  case hya5 => (first | (refine Or.inr ⟨by rfl, ?_⟩; rfl) | (refine Or.inl ⟨by rfl, ?_⟩; (intro w hSw; (try dsimp only at hSw); go_simp); try with_reducible rfl))
  case hSa5 => assumption
  try simp only [Act.put, List.setIfInBounds_toArray, List.set_cons_zero, List.set_cons_succ]
  refine' wpAnyH_take (i := 6) ?hia6 ?hsa6 ?hfa6 ?hra6 ?hQa6 ?hya6 ?hSa6 ?ha6
  case hia6 => (simp only [List.getElem?_toArray, List.getElem?_cons_succ, List.getElem?_cons_zero]; exact rfl)
  case hsa6 => kernel_rfl
  case hfa6 => kernel_rfl
  case hra6 => kernel_rfl
  case hQa6 => exact fun _ _ _ h => h
  case hya6 => (first | (refine Or.inr ⟨by rfl, ?_⟩; rfl) | (refine Or.inl ⟨by rfl, ?_⟩; (intro w hSw; (try dsimp only at hSw); go_simp); try with_reducible rfl))
  case hSa6 => assumption
  try simp only [Act.put, List.setIfInBounds_toArray, List.set_cons_zero, List.set_cons_succ]
  refine' wpAnyH_take (i := 7) ?hia7 ?hsa7 ?hfa7 ?hra7 ?hQa7 ?hya7 ?hSa7 ?ha7
  case hia7 => (simp only [List.getElem?_toArray, List.getElem?_cons_succ, List.getElem?_cons_zero]; exact rfl)
  case hsa7 => kernel_rfl
  case hfa7 => kernel_rfl
  case hra7 => kernel_rfl
  case hQa7 => exact fun _ _ _ h => h
  case hya7 => (first | (refine Or.inr ⟨by rfl, ?_⟩; rfl) | (refine Or.inl ⟨by rfl, ?_⟩; (intro w hSw; (try dsimp only at hSw); go_simp); try with_reducible rfl))
  case hSa7 => assumption
  try simp only [Act.put, List.setIfInBounds_toArray, List.set_cons_zero, List.set_cons_succ]
  refine' wpAnyH_take (i := 8) ?hia8 ?hsa8 ?hfa8 ?hra8 ?hQa8 ?hya8 ?hSa8 ?ha8
  case hia8 => (simp only [List.getElem?_toArray, List.getElem?_cons_succ, List.getElem?_cons_zero]; exact rfl)
  case hsa8 => kernel_rfl
  case hfa8 => kernel_rfl
  case hra8 => kernel_rfl
  case hQa8 => exact fun _ _ _ h => h
  case hya8 => (first | (refine Or.inr ⟨by rfl, ?_⟩; rfl) | (refine Or.inl ⟨by rfl, ?_⟩; (intro w hSw; (try dsimp only at hSw); go_simp); try with_reducible rfl))
  case hSa8 => assumption
  try simp only [Act.put, List.setIfInBounds_toArray, List.set_cons_zero, List.set_cons_succ]
  refine' wpAnyH_take (i := 9) ?hia9 ?hsa9 ?hfa9 ?hra9 ?hQa9 ?hya9 ?hSa9 ?ha9
  case hia9 => (simp only [List.getElem?_toArray, List.getElem?_cons_succ, List.getElem?_cons_zero]; exact rfl)
  case hsa9 => kernel_rfl
  case hfa9 => kernel_rfl
  case hra9 => kernel_rfl
  case hQa9 => exact fun _ _ _ h => h
  case hya9 => (first | (refine Or.inr ⟨by rfl, ?_⟩; rfl) | (refine Or.inl ⟨by rfl, ?_⟩; (intro w hSw; (try dsimp only at hSw); go_simp); try with_reducible rfl))
  case hSa9 => assumption
  try simp only [Act.put, List.setIfInBounds_toArray, List.set_cons_zero, List.set_cons_succ]
  refine wpAnyH_ready (rs := [10]) (by kernel_rfl) (by simp) ?_
  refine' AllReadyH.cons ?hia10 (fun K hK => ?ha10) AllReadyH.nil
  case hia10 => (simp only [List.getElem?_toArray, List.getElem?_cons_succ, List.getElem?_cons_zero]; exact rfl)
  (go_simp; go_at_call 59; refine (HLZ.out _).mono ?_; rintro e w' ⟨rfl, rfl⟩)
  refine hK.out _ _ (by go_keep) (fun hHeld => ?_)
  clear hK K
  refine' wpAnyH_take (i := 11) ?hia11 ?hsa11 ?hfa11 ?hra11 ?hQa11 ?hya11 ?hSa11 ?ha11
  case hia11 => (simp only [List.getElem?_toArray, List.getElem?_cons_succ, List.getElem?_cons_zero]; exact rfl)
  case hsa11 => kernel_rfl
  case hfa11 => kernel_rfl
  case hra11 => kernel_rfl
  case hQa11 => exact fun _ _ _ h => h
  case hya11 => (first | (refine Or.inr ⟨by rfl, ?_⟩; rfl) | (refine Or.inl ⟨by rfl, ?_⟩; (intro w hSw; (try dsimp only at hSw); go_simp); try with_reducible rfl))
  case hSa11 => assumption
  try simp only [Act.put, List.setIfInBounds_toArray, List.set_cons_zero, List.set_cons_succ]
  have HIF : Hid ((if (L : Int) < if m < n then (m : Int) else (n : Int) then (L : Int) else if m < n then (m : Int) else (n : Int)) = ((comL (a, (n : Int)) (b, (m : Int)) : Nat) : Int)) := Lib.hid (by rw [HL.out]; split <;> split <;> omega)
  refine wpAnyH_ready (rs := [12]) (by kernel_rfl) (by simp) ?_
  refine' AllReadyH.cons ?hia12 (fun K hK => ?ha12) AllReadyH.nil
  case hia12 => (simp only [List.getElem?_toArray, List.getElem?_cons_succ, List.getElem?_cons_zero]; exact rfl)
  (go_simp; go_at_call 58; rw [HIF.out]; refine (cut_any a n _ _ HA.out (comL_le _ _)).mono ?_; rintro e w3 ⟨rfl, hb3⟩; have blk0 := below_block hb3 (size_of_block CLK0.out) CLK0.out; have blk1 := below_block hb3 (size_of_block CLK1.out) CLK1.out; have blk2 := below_block hb3 (size_of_block CLK2.out) CLK2.out; obtain ⟨d0, d1, _, _⟩ := row2 blk0; obtain ⟨r0, r1, f0, f1⟩ := row2 blk1; obtain ⟨q0, q1, g0, g1⟩ := row2 blk2; have DLK2 := Lib.hid blk2; clear blk0 blk1 blk2; have HB3 := Lib.hid ((below_drewN HB2.out 1).trans (hb3.mono (by simpa using hz2))); have hz3 := HB3.out.size; clear hb3)
  refine hK.out _ _ (by go_keep) (fun hHeld => ?_)
  clear hK K
  refine wpAnyH_ready (rs := [13]) (by kernel_rfl) (by simp) ?_
  refine' AllReadyH.cons ?hia13 (fun K hK => ?ha13) AllReadyH.nil
  case hia13 => (simp only [List.getElem?_toArray, List.getElem?_cons_succ, List.getElem?_cons_zero]; exact rfl)
  go_simp
  refine hK.out _ _ (by go_keep) (fun hHeld => ?_)
  clear hK K
  refine' wpAnyH_take (i := 14) ?hia14 ?hsa14 ?hfa14 ?hra14 ?hQa14 ?hya14 ?hSa14 ?ha14
  case hia14 => (simp only [List.getElem?_toArray, List.getElem?_cons_succ, List.getElem?_cons_zero]; exact rfl)
  case hsa14 => kernel_rfl
  case hfa14 => kernel_rfl
  case hra14 => kernel_rfl
  case hQa14 => exact fun _ _ _ h => h
  case hya14 => (first | (refine Or.inr ⟨by rfl, ?_⟩; rfl) | (refine Or.inl ⟨by rfl, ?_⟩; (intro w hSw; (try dsimp only at hSw); go_simp); try with_reducible rfl))
  case hSa14 => assumption
  try simp only [Act.put, List.setIfInBounds_toArray, List.set_cons_zero, List.set_cons_succ]
  refine wpAnyH_done (by kernel_rfl) ?_ _
  refine NoPanic.normal ?_
  go_wp2
  exact common_end (e := .nilIface) (set2_block _ _ DLK2.out) rfl rfl rfl ⟨rfl, (HB3.out.setCell (by simp; omega) _).setCell (by simp; omega) _⟩
end Go.Proofs.YtplojnlmofbneaaDoor
