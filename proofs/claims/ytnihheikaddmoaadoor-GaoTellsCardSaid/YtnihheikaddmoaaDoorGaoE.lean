/- gao.Check. -/
import Derived.Test.YtnihheikaddmoaaDoorGaoD
import Derived.Test.YtnihheikaddmoaaDoorSub
import Derived.Deep.RegionHeld3
namespace Go.Proofs.YtnihheikaddmoaaDoor
open Go.ChangeShapes Go.WideShapes Go.ChangeAt Go.RowKit Ga
set_option linter.unusedVariables false
set_option linter.unusedSimpArgs false
theorem dealR_drop {n : Int} {d : List Deal} {k : Nat} {x : Deal} (h : d[k]? = some x) :
    dealR n (d.take k) (d.drop k) = if badD n x = true then 1 else if x.1 = x.2.1 then 3 else if (d.take k).any (pairD x) = true then 5 else dealR n (d.take (k + 1)) (d.drop (k + 1)) := by
  obtain ⟨hk, rfl⟩ := List.getElem?_eq_some_iff.1 h
  rw [List.drop_eq_getElem_cons hk, List.take_add_one, h]
  rfl
def doneI (W : Nat → Nat → Int) (n i : Nat) (D : List Bool) : List Bool := (List.range i).foldl (doneS W n) D
theorem doneI_succ (W : Nat → Nat → Int) (n i : Nat) (D : List Bool) : doneI W n (i + 1) D = doneS W n (doneI W n i D) i := by unfold doneI; rw [List.range_succ, List.foldl_append]; rfl
theorem doneI_len (W : Nat → Nat → Int) (n i : Nat) (D : List Bool) : (doneI W n i D).length = D.length := doneF_len W n _ D
/-- what holds while Check counts who is done -/
structure Cnt (wt w : World) (A : Option Addr) (n c : Nat) (W : Nat → Nat → Int) (D : List Bool) : Prop where
  bel : Below wt.heap.size wt w
  boxw : w.cell? ⟨wt.heap.size, 0, none⟩ = some (.slice A n c)
  boxd : w.cell? ⟨wt.heap.size + 2, 0, none⟩ = some (.slice (some ⟨wt.heap.size + 1, 0, none⟩) n n)
  done : Blk w (wt.heap.size + 1) 4 (bL D)
  len : D.length = n
theorem Cnt.below {wt w w' : World} {A : Option Addr} {n c : Nat} {W : Nat → Nat → Int} {D : List Bool} (h : Cnt wt w A n c W D) (hb : Below w.heap.size w w') : Cnt wt w' A n c W D :=
  ⟨h.bel.trans (hb.mono h.bel.size), (hb.cell (World.block_lt_of_cell? w _ h.boxw)).trans h.boxw, (hb.cell (World.block_lt_of_cell? w _ h.boxd)).trans h.boxd, h.done.below hb h.done.lt, h.len⟩
theorem Cnt.set {wt w : World} {A : Option Addr} {n c : Nat} {W : Nat → Nat → Int} {D : List Bool} (h : Cnt wt w A n c W D) (i : Nat) (b : Bool) : Cnt wt (w.setCell ⟨wt.heap.size + 1, i, none⟩ (.bool b)) A n c W (D.set i b) :=
  ⟨h.bel.setCell (by simp) _, by rw [World.cell?_setCell_far _ _ _ _ (by simp)]; exact h.boxw, by rw [World.cell?_setCell_far _ _ _ _ (by simp)]; exact h.boxd, by rw [← bL_set]; exact h.done.set i _, by rw [List.length_set]; exact h.len⟩
theorem Cnt.cap {wt w : World} {A : Option Addr} {n c gi i : Nat} {W : Nat → Nat → Int} {D : List Bool} (h : Cnt wt w A n c W D) (ht : R1 (RdSlice 1 (RdSlice 1 (rdInt .i64))) wt (.slice A n c) (tabL n W)) (hg : w.cell? ⟨gi, 0, none⟩ = some (.int .i64 i)) :
    Cap2 w wt.heap.size gi (wt.heap.size + 2) A n c (wt.heap.size + 1) i W D := ⟨ht.below h.bel, h.boxw, hg, h.boxd, h.done, h.len⟩
theorem doneS_yes {W : Nat → Nat → Int} {n : Nat} {D : List Bool} {i : Nat} (h : doneG D i = true) : doneS W n D i = D.set i true := by unfold doneS; rw [h]; rfl
theorem doneS_no {W : Nat → Nat → Int} {n : Nat} {D : List Bool} {i : Nat} (h : doneG D i = false) {r : Bool} (hr : openB W n D i = r) : doneS W n D i = D.set i (!r) := by unfold doneS; rw [h, hr]; rfl
set_option maxRecDepth 100000 in
set_option maxHeartbeats 16000000 in
theorem GaoCheck_any {w : World} {n : Int} {A : Option Addr} {m c : Nat} {d : List Deal} (hd : R1 rdDeals w (.slice A m c) d) {e : Int} (he : dealE n d = e) :
    Calls Tryd.prog 7 #[.int .i64 n, .slice A m c] w fun v w' => v = .returned (errV e) ∧ Below w.heap.size w w' := by
  obtain ⟨hm, hle, hcm⟩ := RdSlice.len hd
  have HD := Lib.hid hd
  have HM := Lib.hid hm
  have hm0 : m ≤ 9223372036854775807 := by unfold maxLen at hcm; omega
  have hc0 : c ≤ 9223372036854775807 := by unfold maxLen at hcm; omega
  clear hd hm hcm
  by_cases h1 : n < 1
  · obtain rfl : e = 1 := by rw [← he]; unfold dealE; rw [if_pos (.inl h1)]
    clear he
    go_enter Tryd.func7, Tryd.ntmps7
    go_wp2
    go_ret
    exact ⟨rfl, Below.refl _ _⟩
  by_cases h2 : 8 < n
  · obtain rfl : e = 1 := by rw [← he]; unfold dealE; rw [if_pos (.inr h2)]
    clear he
    go_enter Tryd.func7, Tryd.ntmps7
    go_wp2
    go_ret
    exact ⟨rfl, Below.refl _ _⟩
  obtain ⟨N, rfl⟩ := Int.eq_ofNat_of_zero_le (show 0 ≤ n by omega)
  have hN1 : 1 ≤ N := by omega
  have hN8 : N ≤ 8 := by omega
  have HE0 : Hid ((if dealR N [] d = 0 then (if allDone N d = true then (0 : Int) else 3) else dealR N [] d) = e) := Lib.hid (by have h := he; unfold dealE at h; rw [if_neg (show ¬ ((N : Int) < 1 ∨ 8 < (N : Int)) by omega)] at h; exact h)
  have hmk := run_make_list (P := Tryd.prog) 50 4 _ 1 Tryd.underlying50 (show (Tryd.prog.info? 4).map (fun i => (i.zero, i.size, i.bytes)) = some (some (.bool false), 1, 1) by kernel_rfl) rfl N (by omega) (by omega)
  clear he
  go_enter Tryd.func7, Tryd.ntmps7
  go_wp2
  go_loopw [20] (fun t wr => ∃ k : Nat, k ≤ m ∧ t = .int .i64 k ∧ dealR N (d.take k) (d.drop k) = dealR N [] d ∧ Below w.heap.size w wr) (fun t _ => m - (intOf t).toNat)
  case atStart => exact ⟨0, Nat.zero_le _, rfl, rfl, Below.refl _ _⟩
  case round =>
    obtain ⟨k, hk, rfl, hh, hb⟩ := hrel
    have HH := Lib.hid hh
    have HB := Lib.hid hb
    have s1 := hb.size
    clear hh hb
    by_cases hlt : k < m
    · obtain ⟨b, o, x, y, z, rfl, hbb, HX, -, d0, d1, d2⟩ := RdSlice.atD HD.out hlt
      have c0 := (HB.out.cell hbb).trans d0
      have c1 := (HB.out.cell hbb).trans d1
      have c2 := (HB.out.cell hbb).trans d2
      have hbw : b < w.heap.size := hbb
      have HSTEP := Lib.hid ((dealR_drop (n := N) HX.out).symm.trans HH.out)
      have i0 : (0 : Int) ≤ (k : Int) := by omega
      have i1 : (k : Int) < (m : Int) := by omega
      clear d0 d1 d2
      by_cases hbad : x < 0 ∨ (N : Int) ≤ x ∨ y < 0 ∨ (N : Int) ≤ y ∨ z < 1 ∨ 3 < z
      · have hr1 : dealR N [] d = 1 := by rw [← HSTEP.out, if_pos (by unfold badD; exact decide_eq_true hbad)]
        obtain rfl : e = 1 := by rw [← HE0.out, hr1, if_neg (by omega)]
        have HBAD := Lib.hid hbad
        clear hbad hr1
        go_wp2
        all_goals first
          | (go_ret; exact ⟨rfl, HB.out.alloc s1 _⟩)
          | (exfalso; have := HBAD.out; omega)
      · have hb0 : badD N (x, y, z) = false := by unfold badD; exact decide_eq_false hbad
        have HS1 := Lib.hid ((if_neg (by rw [hb0]; simp)).symm.trans HSTEP.out)
        have t0 : decide (x < 0) = false := decide_eq_false (by omega)
        have t1 : decide ((N : Int) ≤ x) = false := decide_eq_false (by omega)
        have t2 : decide (y < 0) = false := decide_eq_false (by omega)
        have t3 : decide ((N : Int) ≤ y) = false := decide_eq_false (by omega)
        have t4 : decide (z < 1) = false := decide_eq_false (by omega)
        have t5 : decide (3 < z) = false := decide_eq_false (by omega)
        clear hb0 hbad
        cases t6 : (x == y)
        · have hxy : ¬ x = y := by simpa using t6
          have HS2 := Lib.hid ((if_neg hxy).symm.trans HS1.out)
          have HO1 : Hid (Below w.heap.size w (wr.alloc (.cells #[.int .i64 x, .int .i64 y, .int .i64 z] 42))) := Lib.hid (HB.out.alloc s1 _)
          have HP : Hid (rdDeals (wr.alloc (.cells #[.int .i64 x, .int .i64 y, .int .i64 z] 42)) (· < w.heap.size) [.slice (some ⟨b, o, none⟩) k c] (d.take k)) := Lib.hid (RdLaw.keep (RdSlice.pre HD.out k hk) (fun _ hp => HO1.out.cell hp))
          obtain ⟨r, hr⟩ : ∃ r, (d.take k).any (pairD (x, y, z)) = r := ⟨_, rfl⟩
          have HR := Lib.hid hr
          have HCF := Lib.hid (ContainsFunc_D HP.out (fun b hb => Nat.lt_of_lt_of_le hb (by simp; omega)) (heap_alloc_new wr (.cells #[.int .i64 x, .int .i64 y, .int .i64 z] 42)) HR.out)
          have hkc : k ≤ c := by omega
          clear hxy hr
          go_wp2_with fail
          go_at_call 17
          (with_reducible refine HCF.out.mono ?_)
          rintro v w1 ⟨rfl, hb1⟩
          have HB1 := Lib.hid (HO1.out.trans (hb1.mono (by simp; omega)))
          clear hb1
          cases r
          · have HS3 := Lib.hid ((if_neg (by rw [HR.out]; simp)).symm.trans HS2.out)
            go_wp2
            go_roundw
            case rel => exact ⟨k + 1, by omega, by go_num, HS3.out, HB1.out⟩
            case measure => simp [intOf]; omega
          · have hr5 : dealR N [] d = 5 := by rw [← HS2.out, if_pos HR.out]
            obtain rfl : e = 5 := by rw [← HE0.out, hr5, if_neg (by omega)]
            clear hr5
            go_wp2
            go_ret
            exact ⟨rfl, HB1.out⟩
        · have hxy : x = y := by simpa using t6
          have hr3 : dealR N [] d = 3 := by rw [← HS1.out, if_pos hxy]
          obtain rfl : e = 3 := by rw [← HE0.out, hr3, if_neg (by omega)]
          clear hxy hr3
          go_wp2
          go_ret
          exact ⟨rfl, HB.out.alloc s1 _⟩
    · have ek : k = m := by omega
      subst ek
      have hr0 : dealR N [] d = 0 := by rw [← HH.out, List.drop_of_length_le (by rw [HM.out]; exact Nat.le_refl _)]; rfl
      obtain ⟨j1, -, j3⟩ := dealR_ok (n := N) d [] hr0
      have HE1 : Hid ((if allDone N d = true then (0 : Int) else 3) = e) := Lib.hid (by rw [← HE0.out, if_pos hr0])
      have HT := Lib.hid (table_any (HD.out.below HB.out) hN1 hN8 j1 j3)
      clear hr0 j1 j3 HE0 HH
      go_wp2_with fail
      go_at_call 19
      (with_reducible refine HT.out.mono ?_)
      rintro v wt ⟨vt, rfl, htab, hbt⟩
      obtain ⟨At, ct, rfl⟩ := htab.form
      have hlt' : (tabL N (WL d)).length = N := by unfold tabL; simp
      rw [hlt'] at htab ⊢
      have HTAB := Lib.hid htab
      have HBT := Lib.hid (HB.out.trans (hbt.mono s1))
      have st := HBT.out.size
      have HST : Hid (Cnt wt (((wt.alloc (.cells #[.slice At N ct] 48)).alloc (.cells (List.replicate N (Value.bool false)).toArray 4)).alloc (.cells #[.slice (some ⟨wt.heap.size + 1, 0, none⟩) N N] 50)) At N ct (WL d) (List.replicate N false)) := Lib.hid (by
        obtain ⟨b1, b2, b3⟩ := box3 (w := wt) (o1 := .cells #[.slice At N ct] 48) (o2 := .cells (List.replicate N (Value.bool false)).toArray 4) (o3 := .cells #[.slice (some ⟨wt.heap.size + 1, 0, none⟩) N N] 50) (Below.refl _ _)
        exact ⟨(((Below.refl _ _).alloc (Nat.le_refl _) _).alloc (by simp) _).alloc (by simp; omega) _, row1 b1, row1 b3, by unfold Blk; rw [← bL_rep]; exact b2, by simp⟩)
      clear htab hbt hlt' HT
      go_wp2
      go_loopw [75] (fun t wr => ∃ r : Nat, r ≤ N ∧ t = .int .i64 r ∧ Cnt wt wr At N ct (WL d) (doneN (WL d) N r (List.replicate N false))) (fun t _ => N - (intOf t).toNat)
      case atStart => exact ⟨0, Nat.zero_le _, rfl, HST.out⟩
      case round =>
        obtain ⟨r, hr, rfl, hcnt⟩ := hrel
        have HC := Lib.hid hcnt
        clear hcnt hmk
        obtain ⟨D, hD⟩ : ∃ D, doneN (WL d) N r (List.replicate N false) = D := ⟨_, rfl⟩
        rw [hD] at HC
        have HDD := Lib.hid hD
        clear hD
        by_cases hrl : r < N
        · go_wp2
          go_loopw [78] (fun t wr => ∃ i : Nat, i ≤ N ∧ t = .int .i64 i ∧ Cnt wt wr At N ct (WL d) (doneI (WL d) N i D)) (fun t _ => N - (intOf t).toNat)
          case atStart => exact ⟨0, Nat.zero_le _, rfl, HC.out⟩
          case round =>
            obtain ⟨i, hi, rfl, hcnt⟩ := hrel
            have HC2 := Lib.hid hcnt
            clear hcnt
            by_cases hil : i < N
            · have HS := Lib.hid (doneI_succ (WL d) N i D)
              obtain ⟨E, hE⟩ : ∃ E, doneI (WL d) N i D = E := ⟨_, rfl⟩
              rw [hE] at HS HC2
              have hw4 : Below wr.heap.size wr (wr.alloc (.cells #[.int .i64 i] 3)) := (Below.refl _ _).alloc (Nat.le_refl _) _
              have HC4 := Lib.hid (HC2.out.below hw4)
              have b9 := row1 (heap_alloc_new wr (.cells #[.int .i64 i] 3))
              have hel := HC2.out.len
              have bw := HC4.out.boxw
              have bd := HC4.out.boxd
              have e0 := HC4.out.done.get (bL_get (i := i) (by rw [hel]; exact hil))
              have f0 := HC4.out.done.free i
              have hsz : wt.heap.size + 3 ≤ wr.heap.size := World.block_lt_of_cell? wr _ HC2.out.boxd
              have i0 : (0 : Int) ≤ (i : Int) := by omega
              have i1 : (i : Int) < (N : Int) := by omega
              clear hE hel hw4
              go_wp2
              obtain ⟨gi, hgi⟩ : ∃ gi, wr.heap.size = gi := ⟨_, rfl⟩
              rw [hgi] at b9 hsz ⊢
              clear hgi
              generalize (wr.alloc (.cells #[.int .i64 i] 3)) = w4 at *
              obtain ⟨q, hq⟩ : ∃ q, doneG E i = q := ⟨_, rfl⟩
              rw [hq] at e0
              have HQ := Lib.hid hq
              clear hq
              have n0 : ¬ gi = wt.heap.size := by omega
              have n1 : ¬ gi = wt.heap.size + 1 := by omega
              have n2 : ¬ gi = wt.heap.size + 2 := by omega
              have n3 : ¬ wt.heap.size + 1 = gi := by omega
              have n4 : ¬ wt.heap.size = gi := by omega
              have n5 : ¬ wt.heap.size + 2 = gi := by omega
              refine wp_region_noPanic ?_
              refine wp_region_held_drew (S := (fun w' => w'.cell? ⟨gi, 0, none⟩ = some (.int .i64 i) ∧ w'.cell? ⟨wt.heap.size, 0, none⟩ = some (.slice At N ct) ∧ w'.cell? ⟨wt.heap.size + 2, 0, none⟩ = some (.slice (some ⟨wt.heap.size + 1, 0, none⟩) N N))) (by kernel_rfl) (by go_keep) (fun hHeld => ?_)
              refine' wpAnyH_take (i := 0) ?hia0 ?hsa0 ?hfa0 ?hra0 ?hQa0 ?hya0 ?hSa0 ?ha0
              case hia0 => (simp only [List.getElem?_toArray, List.getElem?_cons_succ, List.getElem?_cons_zero]; exact rfl)
              case hsa0 => kernel_rfl
              case hfa0 => kernel_rfl
              case hra0 => kernel_rfl
              case hQa0 => exact fun _ _ _ h => h
              case hya0 => (first | (refine Or.inr ⟨by rfl, ?_⟩; rfl) | (refine Or.inl ⟨by rfl, ?_⟩; (intro w hSw; (try dsimp only at hSw); go_simp); try with_reducible rfl))
              case hSa0 => assumption
              try simp only [Act.put, List.setIfInBounds_toArray, List.set_cons_zero, List.set_cons_succ]
              refine' wpAnyH_take (i := 1) ?hia1 ?hsa1 ?hfa1 ?hra1 ?hQa1 ?hya1 ?hSa1 ?ha1
              case hia1 => (simp only [List.getElem?_toArray, List.getElem?_cons_succ, List.getElem?_cons_zero]; exact rfl)
              case hsa1 => kernel_rfl
              case hfa1 => kernel_rfl
              case hra1 => kernel_rfl
              case hQa1 => exact fun _ _ _ h => h
              case hya1 => (first | (refine Or.inr ⟨by rfl, ?_⟩; rfl) | (refine Or.inl ⟨by rfl, ?_⟩; (intro w hSw; (try dsimp only at hSw); go_simp); try with_reducible rfl))
              case hSa1 => assumption
              try simp only [Act.put, List.setIfInBounds_toArray, List.set_cons_zero, List.set_cons_succ]
              refine' wpAnyH_take (i := 2) ?hia2 ?hsa2 ?hfa2 ?hra2 ?hQa2 ?hya2 ?hSa2 ?ha2
              case hia2 => (simp only [List.getElem?_toArray, List.getElem?_cons_succ, List.getElem?_cons_zero]; exact rfl)
              case hsa2 => kernel_rfl
              case hfa2 => kernel_rfl
              case hra2 => kernel_rfl
              case hQa2 => exact fun _ _ _ h => h
              case hya2 => (first | (refine Or.inr ⟨by rfl, ?_⟩; rfl) | (refine Or.inl ⟨by rfl, ?_⟩; (intro w hSw; (try dsimp only at hSw); go_simp); try with_reducible rfl))
              case hSa2 => assumption
              try simp only [Act.put, List.setIfInBounds_toArray, List.set_cons_zero, List.set_cons_succ]
              refine' wpAnyH_take (i := 3) ?hia3 ?hsa3 ?hfa3 ?hra3 ?hQa3 ?hya3 ?hSa3 ?ha3
              case hia3 => (simp only [List.getElem?_toArray, List.getElem?_cons_succ, List.getElem?_cons_zero]; exact rfl)
              case hsa3 => kernel_rfl
              case hfa3 => kernel_rfl
              case hra3 => kernel_rfl
              case hQa3 => exact fun _ _ _ h => h
              case hya3 => (first | (refine Or.inr ⟨by rfl, ?_⟩; rfl) | (refine Or.inl ⟨by rfl, ?_⟩; (intro w hSw; (try dsimp only at hSw); go_simp); try with_reducible rfl))
              case hSa3 => assumption
              try simp only [Act.put, List.setIfInBounds_toArray, List.set_cons_zero, List.set_cons_succ]
              refine' wpAnyH_take (i := 4) ?hia4 ?hsa4 ?hfa4 ?hra4 ?hQa4 ?hya4 ?hSa4 ?ha4
              case hia4 => (simp only [List.getElem?_toArray, List.getElem?_cons_succ, List.getElem?_cons_zero]; exact rfl)
              case hsa4 => kernel_rfl
              case hfa4 => kernel_rfl
              case hra4 => kernel_rfl
              case hQa4 => exact fun _ _ _ h => h
              case hya4 => (first | (refine Or.inr ⟨by rfl, ?_⟩; rfl) | (refine Or.inl ⟨by rfl, ?_⟩; (intro w hSw; (try dsimp only at hSw); go_simp); try with_reducible rfl))
              case hSa4 => assumption
              try simp only [Act.put, List.setIfInBounds_toArray, List.set_cons_zero, List.set_cons_succ]
              refine wpAnyH_ready (rs := [5]) (by kernel_rfl) (by simp) ?_
              refine' AllReadyH.cons ?hia5 (fun K hK => ?ha5) AllReadyH.nil
              case hia5 => (simp only [List.getElem?_toArray, List.getElem?_cons_succ, List.getElem?_cons_zero]; exact rfl)
              go_simp
              refine hK.out _ _ (by go_keep) (fun hHeld => ?_)
              clear hK K
              refine' wpAnyH_take (i := 6) ?hia6 ?hsa6 ?hfa6 ?hra6 ?hQa6 ?hya6 ?hSa6 ?ha6
              case hia6 => (simp only [List.getElem?_toArray, List.getElem?_cons_succ, List.getElem?_cons_zero]; exact rfl)
              case hsa6 => kernel_rfl
              case hfa6 => kernel_rfl
              case hra6 => kernel_rfl
              case hQa6 => exact fun _ _ _ h => h
              case hya6 => (first | (refine Or.inr ⟨by rfl, ?_⟩; rfl) | (refine Or.inl ⟨by rfl, ?_⟩; (intro w hSw; (try dsimp only at hSw); go_simp); try with_reducible rfl))
              case hSa6 => assumption
              try simp only [Act.put, List.setIfInBounds_toArray, List.set_cons_zero, List.set_cons_succ]
              have HC5 : Hid (Cnt wt w4.drew At N ct (WL d) E) := Lib.hid (HC4.out.below (below_drewN (Below.refl _ _) 1))
              cases q
              · have hopen : ∃ op, openB (WL d) N E i = op := ⟨_, rfl⟩
                obtain ⟨op, hop⟩ := hopen
                have HSET := Lib.hid (HS.out.trans (doneS_no HQ.out hop))
                have HOP := Lib.hid hop
                clear hop
                refine' wpAnyH_take (i := 7) ?hib7 ?hsb7 ?hfb7 ?hrb7 ?hQb7 ?hyb7 ?hSb7 ?hb7
                case hib7 => (simp only [List.getElem?_toArray, List.getElem?_cons_succ, List.getElem?_cons_zero]; exact rfl)
                case hsb7 => kernel_rfl
                case hfb7 => kernel_rfl
                case hrb7 => kernel_rfl
                case hQb7 => exact fun _ _ _ h => h
                case hyb7 => (first | (refine Or.inr ⟨by rfl, ?_⟩; rfl) | (refine Or.inl ⟨by rfl, ?_⟩; (intro w hSw; (try dsimp only at hSw); go_simp); try with_reducible rfl))
                case hSb7 => assumption
                try simp only [Act.put, List.setIfInBounds_toArray, List.set_cons_zero, List.set_cons_succ]
                refine' wpAnyH_take (i := 9) ?hib9 ?hsb9 ?hfb9 ?hrb9 ?hQb9 ?hyb9 ?hSb9 ?hb9
                case hib9 => (simp only [List.getElem?_toArray, List.getElem?_cons_succ, List.getElem?_cons_zero]; exact rfl)
                case hsb9 => kernel_rfl
                case hfb9 => kernel_rfl
                case hrb9 => kernel_rfl
                case hQb9 => exact fun _ _ _ h => h
                case hyb9 => (first | (refine Or.inr ⟨by rfl, ?_⟩; rfl) | (refine Or.inl ⟨by rfl, ?_⟩; (intro w hSw; (try dsimp only at hSw); go_simp); try with_reducible rfl))
                case hSb9 => assumption
                try simp only [Act.put, List.setIfInBounds_toArray, List.set_cons_zero, List.set_cons_succ]
                refine wpAnyH_ready (rs := [8]) (by kernel_rfl) (by simp) ?_
                refine' AllReadyH.cons ?hib8 (fun K hK => ?hb8) AllReadyH.nil
                case hib8 => (simp only [List.getElem?_toArray, List.getElem?_cons_succ, List.getElem?_cons_zero]; exact rfl)
                go_simp
                go_at_call 22
                (with_reducible refine (nodes_any (by omega)).mono ?_)
                rintro v w5 ⟨v5, rfl, hown5, hb5⟩
                have hr5 := hown5.read
                obtain ⟨A5, c5, rfl⟩ := hr5.form
                have hnl : (natsI N).length = N := by unfold natsI; simp
                rw [hnl] at hr5 ⊢
                have HR5 := Lib.hid hr5
                have HC6 := Lib.hid (HC5.out.below hb5)
                have b9' := (hb5.cell (p := ⟨gi, 0, none⟩) (World.block_lt_of_cell? w4.drew _ (by simpa using b9))).trans (show w4.drew.cell? ⟨gi, 0, none⟩ = some (.int .i64 i) by simpa using b9)
                have bw' := HC6.out.boxw
                have bd' := HC6.out.boxd
                have e0' := HC6.out.done.get (bL_get (i := i) (by rw [HC6.out.len]; exact hil))
                have f0' := HC6.out.done.free i
                rw [HQ.out] at e0'
                clear hown5 hb5 hr5 hnl
                refine hK.out _ _ (by go_keep) (fun hHeld => ?_)
                clear hK K
                have HCF := Lib.hid (ContainsFunc_I (HC6.out.cap HTAB.out b9') hil HR5.out HOP.out)
                refine wpAnyH_ready (rs := [10]) (by kernel_rfl) (by simp) ?_
                refine' AllReadyH.cons ?hib10 (fun K hK => ?hb10) AllReadyH.nil
                case hib10 => (simp only [List.getElem?_toArray, List.getElem?_cons_succ, List.getElem?_cons_zero]; exact rfl)
                go_simp
                go_at_call 21
                (with_reducible refine HCF.out.mono ?_)
                rintro v w6 ⟨rfl, rfl⟩
                refine hK.out _ _ (by go_keep) (fun hHeld => ?_)
                clear hK K
                refine' wpAnyH_take (i := 11) ?hib11 ?hsb11 ?hfb11 ?hrb11 ?hQb11 ?hyb11 ?hSb11 ?hb11
                case hib11 => (simp only [List.getElem?_toArray, List.getElem?_cons_succ, List.getElem?_cons_zero]; exact rfl)
                case hsb11 => kernel_rfl
                case hfb11 => kernel_rfl
                case hrb11 => kernel_rfl
                case hQb11 => exact fun _ _ _ h => h
                case hyb11 => (first | (refine Or.inr ⟨by rfl, ?_⟩; rfl) | (refine Or.inl ⟨by rfl, ?_⟩; (intro w hSw; (try dsimp only at hSw); go_simp); try with_reducible rfl))
                case hSb11 => assumption
                try simp only [Act.put, List.setIfInBounds_toArray, List.set_cons_zero, List.set_cons_succ]
                refine' wpAnyH_take (i := 12) ?hib12 ?hsb12 ?hfb12 ?hrb12 ?hQb12 ?hyb12 ?hSb12 ?hb12
                case hib12 => (simp only [List.getElem?_toArray, List.getElem?_cons_succ, List.getElem?_cons_zero]; exact rfl)
                case hsb12 => kernel_rfl
                case hfb12 => kernel_rfl
                case hrb12 => kernel_rfl
                case hQb12 => exact fun _ _ _ h => h
                case hyb12 => (first | (refine Or.inr ⟨by rfl, ?_⟩; rfl) | (refine Or.inl ⟨by rfl, ?_⟩; (intro w hSw; (try dsimp only at hSw); go_simp); try with_reducible rfl))
                case hSb12 => assumption
                try simp only [Act.put, List.setIfInBounds_toArray, List.set_cons_zero, List.set_cons_succ]
                refine' wpAnyH_take (i := 13) ?hib13 ?hsb13 ?hfb13 ?hrb13 ?hQb13 ?hyb13 ?hSb13 ?hb13
                case hib13 => (simp only [List.getElem?_toArray, List.getElem?_cons_succ, List.getElem?_cons_zero]; exact rfl)
                case hsb13 => kernel_rfl
                case hfb13 => kernel_rfl
                case hrb13 => kernel_rfl
                case hQb13 => exact fun _ _ _ h => h
                case hyb13 => (first | (refine Or.inr ⟨by rfl, ?_⟩; rfl) | (refine Or.inl ⟨by rfl, ?_⟩; (intro w hSw; (try dsimp only at hSw); go_simp); try with_reducible rfl))
                case hSb13 => assumption
                try simp only [Act.put, List.setIfInBounds_toArray, List.set_cons_zero, List.set_cons_succ]
                refine wpAnyH_ready (rs := [14]) (by kernel_rfl) (by simp) ?_
                refine' AllReadyH.cons ?hib14 (fun K hK => ?hb14) AllReadyH.nil
                case hib14 => (simp only [List.getElem?_toArray, List.getElem?_cons_succ, List.getElem?_cons_zero]; exact rfl)
                go_simp
                refine hK.out _ _ (by go_keep) (fun hHeld => ?_)
                clear hK K
                refine wpAnyH_done (by kernel_rfl) ?_ _
                refine NoPanic.normal ?_
                clear hHeld
                have HC7 := Lib.hid (HC6.out.set i (!op))
                go_wp2
                go_roundw
                case rel => exact ⟨i + 1, by omega, by go_num, by rw [HSET.out]; exact HC7.out⟩
                case measure => simp [intOf]; omega
              · have HSET := Lib.hid (HS.out.trans (doneS_yes HQ.out))
                refine' wpAnyH_take (i := 7) ?hic7 ?hsc7 ?hfc7 ?hrc7 ?hQc7 ?hyc7 ?hSc7 ?hc7
                case hic7 => (simp only [List.getElem?_toArray, List.getElem?_cons_succ, List.getElem?_cons_zero]; exact rfl)
                case hsc7 => kernel_rfl
                case hfc7 => kernel_rfl
                case hrc7 => kernel_rfl
                case hQc7 => exact fun _ _ _ h => h
                case hyc7 => (first | (refine Or.inr ⟨by rfl, ?_⟩; rfl) | (refine Or.inl ⟨by rfl, ?_⟩; (intro w hSw; (try dsimp only at hSw); go_simp); try with_reducible rfl))
                case hSc7 => assumption
                try simp only [Act.put, List.setIfInBounds_toArray, List.set_cons_zero, List.set_cons_succ]
                refine' wpAnyH_take (i := 8) ?hic8 ?hsc8 ?hfc8 ?hrc8 ?hQc8 ?hyc8 ?hSc8 ?hc8
                case hic8 => (simp only [List.getElem?_toArray, List.getElem?_cons_succ, List.getElem?_cons_zero]; exact rfl)
                case hsc8 => kernel_rfl
                case hfc8 => kernel_rfl
                case hrc8 => kernel_rfl
                case hQc8 => exact fun _ _ _ h => h
                case hyc8 => (first | (refine Or.inr ⟨by rfl, ?_⟩; rfl) | (refine Or.inl ⟨by rfl, ?_⟩; (intro w hSw; (try dsimp only at hSw); go_simp); try with_reducible rfl))
                case hSc8 => assumption
                try simp only [Act.put, List.setIfInBounds_toArray, List.set_cons_zero, List.set_cons_succ]
                refine' wpAnyH_take (i := 9) ?hic9 ?hsc9 ?hfc9 ?hrc9 ?hQc9 ?hyc9 ?hSc9 ?hc9
                case hic9 => (simp only [List.getElem?_toArray, List.getElem?_cons_succ, List.getElem?_cons_zero]; exact rfl)
                case hsc9 => kernel_rfl
                case hfc9 => kernel_rfl
                case hrc9 => kernel_rfl
                case hQc9 => exact fun _ _ _ h => h
                case hyc9 => (first | (refine Or.inr ⟨by rfl, ?_⟩; rfl) | (refine Or.inl ⟨by rfl, ?_⟩; (intro w hSw; (try dsimp only at hSw); go_simp); try with_reducible rfl))
                case hSc9 => assumption
                try simp only [Act.put, List.setIfInBounds_toArray, List.set_cons_zero, List.set_cons_succ]
                refine' wpAnyH_take (i := 10) ?hic10 ?hsc10 ?hfc10 ?hrc10 ?hQc10 ?hyc10 ?hSc10 ?hc10
                case hic10 => (simp only [List.getElem?_toArray, List.getElem?_cons_succ, List.getElem?_cons_zero]; exact rfl)
                case hsc10 => kernel_rfl
                case hfc10 => kernel_rfl
                case hrc10 => kernel_rfl
                case hQc10 => exact fun _ _ _ h => h
                case hyc10 => (first | (refine Or.inr ⟨by rfl, ?_⟩; rfl) | (refine Or.inl ⟨by rfl, ?_⟩; (intro w hSw; (try dsimp only at hSw); go_simp); try with_reducible rfl))
                case hSc10 => assumption
                try simp only [Act.put, List.setIfInBounds_toArray, List.set_cons_zero, List.set_cons_succ]
                refine' wpAnyH_take (i := 11) ?hic11 ?hsc11 ?hfc11 ?hrc11 ?hQc11 ?hyc11 ?hSc11 ?hc11
                case hic11 => (simp only [List.getElem?_toArray, List.getElem?_cons_succ, List.getElem?_cons_zero]; exact rfl)
                case hsc11 => kernel_rfl
                case hfc11 => kernel_rfl
                case hrc11 => kernel_rfl
                case hQc11 => exact fun _ _ _ h => h
                case hyc11 => (first | (refine Or.inr ⟨by rfl, ?_⟩; rfl) | (refine Or.inl ⟨by rfl, ?_⟩; (intro w hSw; (try dsimp only at hSw); go_simp); try with_reducible rfl))
                case hSc11 => assumption
                try simp only [Act.put, List.setIfInBounds_toArray, List.set_cons_zero, List.set_cons_succ]
                refine' wpAnyH_take (i := 12) ?hic12 ?hsc12 ?hfc12 ?hrc12 ?hQc12 ?hyc12 ?hSc12 ?hc12
                case hic12 => (simp only [List.getElem?_toArray, List.getElem?_cons_succ, List.getElem?_cons_zero]; exact rfl)
                case hsc12 => kernel_rfl
                case hfc12 => kernel_rfl
                case hrc12 => kernel_rfl
                case hQc12 => exact fun _ _ _ h => h
                case hyc12 => (first | (refine Or.inr ⟨by rfl, ?_⟩; rfl) | (refine Or.inl ⟨by rfl, ?_⟩; (intro w hSw; (try dsimp only at hSw); go_simp); try with_reducible rfl))
                case hSc12 => assumption
                try simp only [Act.put, List.setIfInBounds_toArray, List.set_cons_zero, List.set_cons_succ]
                refine' wpAnyH_take (i := 13) ?hic13 ?hsc13 ?hfc13 ?hrc13 ?hQc13 ?hyc13 ?hSc13 ?hc13
                case hic13 => (simp only [List.getElem?_toArray, List.getElem?_cons_succ, List.getElem?_cons_zero]; exact rfl)
                case hsc13 => kernel_rfl
                case hfc13 => kernel_rfl
                case hrc13 => kernel_rfl
                case hQc13 => exact fun _ _ _ h => h
                case hyc13 => (first | (refine Or.inr ⟨by rfl, ?_⟩; rfl) | (refine Or.inl ⟨by rfl, ?_⟩; (intro w hSw; (try dsimp only at hSw); go_simp); try with_reducible rfl))
                case hSc13 => assumption
                try simp only [Act.put, List.setIfInBounds_toArray, List.set_cons_zero, List.set_cons_succ]
                refine wpAnyH_ready (rs := [14]) (by kernel_rfl) (by simp) ?_
                refine' AllReadyH.cons ?hic14 (fun K hK => ?hc14) AllReadyH.nil
                case hic14 => (simp only [List.getElem?_toArray, List.getElem?_cons_succ, List.getElem?_cons_zero]; exact rfl)
                go_simp
                refine hK.out _ _ (by go_keep) (fun hHeld => ?_)
                clear hK K
                refine wpAnyH_done (by kernel_rfl) ?_ _
                refine NoPanic.normal ?_
                clear hHeld
                have HC7 := Lib.hid (HC5.out.set i true)
                go_wp2
                go_roundw
                case rel => exact ⟨i + 1, by omega, by go_num, by rw [HSET.out]; exact HC7.out⟩
                case measure => simp [intOf]; omega
            · have ei : i = N := by omega
              subst ei
              go_wp2
              go_roundw
              case rel => exact ⟨r + 1, by omega, by go_num, by show Cnt _ _ _ _ _ _ (doneR (WL d) i (doneN (WL d) i r _)); rw [HDD.out]; exact HC2.out⟩
              case measure => simp [intOf]; omega
        · have er : r = N := by omega
          subst er
          have HAD : Hid (allDone r d = D.all id) := Lib.hid (by unfold allDone; rw [HDD.out])
          have bd := HC.out.boxd
          have hdl := HC.out.done
          obtain ⟨z, hz⟩ : ∃ z, D.all id = !z := ⟨!(D.all id), by simp⟩
          have HCB := Lib.hid (ContainsB_any hdl HC.out.len (by omega) hz)
          have HEE : Hid ((if (!z) = true then (0 : Int) else 3) = e) := Lib.hid (by rw [← HE1.out, HAD.out, hz])
          have HBO := Lib.hid (HBT.out.trans (HC.out.bel.mono st))
          clear hdl hz
          go_wp2_with fail
          go_at_call 23
          (with_reducible refine HCB.out.mono ?_)
          rintro v w5 ⟨rfl, rfl⟩
          cases z
          · obtain rfl : e = 0 := HEE.out.symm
            go_wp2
            go_ret
            exact ⟨rfl, HBO.out⟩
          · obtain rfl : e = 3 := HEE.out.symm
            go_wp2
            go_ret
            exact ⟨rfl, HBO.out⟩
end Go.Proofs.YtnihheikaddmoaaDoor
