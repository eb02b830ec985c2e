/- The reference's CoverOf, as a contract. -/
import Derived.Test.YtdomjiihnliemaaDoorCovR
namespace Go.Proofs.YtdomjiihnliemaaDoor
open Go.ChangeShapes Go.WideShapes Go.ChangeAt Go.RowKit
set_option linter.unusedVariables false
set_option linter.unusedSimpArgs false
theorem covR_len (l : List Nn) : ∀ (k : Nat) (x : Nn), (covR l k x).length ≤ 2 ^ k
  | 0, x => by unfold covR; cases someR l x <;> simp
  | k + 1, x => by
    unfold covR
    cases someR l x
    · simp
    · cases fullR l (k + 1) x
      · have h1 := covR_len l k (halfP x)
        have h2 := covR_len l k (halfQ x)
        rw [cond_true, cond_false, List.length_append, Nat.pow_succ]; omega
      · rw [cond_true, cond_true]; have := Nat.one_le_two_pow (n := k + 1); simp; omega
theorem covR_len32 (l : List Nn) {k : Nat} (hk : k ≤ 32) (x : Nn) : (covR l k x).length ≤ 4294967296 := by
  have h1 := covR_len l k x
  have h2 : 2 ^ k ≤ 2 ^ 32 := Nat.pow_le_pow_right (by omega) hk
  have h3 : (2 : Nat) ^ 32 = 4294967296 := by decide
  omega
theorem full_leaf {l : List Nn} (hl : ∀ x ∈ l, netF x = 0) {n : Nn} (hn : netF n = 0) (e : n.2 = 32) (hs : someR l n = true) : fullR l 0 n = true := by
  obtain ⟨x, hx, h⟩ := List.any_eq_true.1 hs
  refine List.any_eq_true.2 ⟨x, hx, ?_⟩
  rcases Bool.or_eq_true_iff.1 h with h | h
  · have h1 := (inB_iff.1 h)
    obtain ⟨j, hj, ej, _⟩ := net_ok h1.1
    have h3 : hasB n x.1 = true := hasB_iff.2 ⟨hn, h1.2.2.2⟩
    exact in_of_has h3 (has_self h1.1) (by omega)
  · exact h
theorem covR_no {l : List Nn} {k : Nat} {x : Nn} (h : someR l x = false) : covR l k x = [] := by
  cases k <;> (unfold covR; rw [h]; rfl)
theorem covR_full {l : List Nn} {k : Nat} {x : Nn} (h : someR l x = true) (h2 : fullR l k x = true) : covR l k x = [x] := by
  cases k with
  | zero => unfold covR; rw [h]; rfl
  | succ k => unfold covR; rw [h, h2]; rfl
theorem covR_both {l : List Nn} {k : Nat} {x : Nn} (h : someR l x = true) (h2 : fullR l (k + 1) x = false) : covR l (k + 1) x = covR l k (halfP x) ++ covR l k (halfQ x) := by
  conv => lhs; unfold covR
  rw [h, h2]; rfl
theorem step_append_nets {w : World} {ops : Array Oper} {o : Oper} {a : Act} {K : Act → World → Prop} {Q : Exit → Act → World → Prop} {E : Prop} (hgd : o.guard = none) (s x : Operand) (t : TypeId) (ht : Tryd.prog.underlying t = some (.slice 29))
    (ho : o.op = .call { callee := .builtin .append, args := #[s, x], argTypes := #[t, t] })
    (base : Nat) (v : Value) (xs : List (Int × Int)) (hs : a.eval s = v) (hown : OwnN w base v xs)
    (A : Option Addr) (m c : Nat) (ys : List (Int × Int)) (hx : a.eval x = .slice A m c) (hr : R1 rdNets w (.slice A m c) ys)
    (hl : xs.length + ys.length ≤ 8796093022000) (hbase : base ≤ w.heap.size)
    (h : ∀ v' w', OwnN w' base v' (xs ++ ys) → Grow w v w' v' → K (a.put o.dst v') w') : if Region.wanted o (yielded ops a.tmps) = true then Oper.wp Tryd.prog o a w K Q else E := by
  obtain ⟨i0, hi, hz0, hz1, hz2⟩ := info_parts net_info
  obtain ⟨hm, _, _⟩ := RdSlice.len hr
  refine step_append_any w hgd s x t ho base _ i0 _ 2 16 ht hi hz0 hz1 hz2 (by rfl) (by omega) v xs.length _ hs hown.1 w.heap.size A m c (ys.flatMap nC) hx (reads_nets hr (fun b h => h)) (one_nCs ys) (by simp only [maxLen]; omega) (by omega) hbase ?_
  intro v' w' h1 h2 h3
  refine h v' w' ⟨by rw [List.length_append, List.flatMap_append, ← hm]; exact h1, fun q hq => ?_⟩ ⟨h2, ?_⟩
  · rcases List.mem_append.1 hq with hq | hq
    · exact hown.2 q hq
    · exact nets_wf hr q hq
  · rcases h3 with h3 | h3
    · exact .inl h3
    · exact .inr ⟨_, h3, Nat.le_refl _⟩
abbrev CovC (l : List Nn) (n c : Nat) (k : Nat) : Prop := ∀ (w : World) (A : Option Addr) (a m : Int), R1 rdNets w (.slice A n c) l → is32 a → netF (a, m) = 0 → m = 32 - (k : Int) → k ≤ 32 →
    Calls Tryd.prog 6 #[.slice A n c, .agg #[.int .u32 a, .int .i64 m]] w fun e w' => ∃ v, e = .returned v ∧ OwnN w' w.heap.size v (covR l k (a, m)) ∧ Below w.heap.size w w'
set_option maxRecDepth 100000 in
set_option maxHeartbeats 8000000 in
theorem CoverOf_body {l : List Nn} {n c : Nat} (hl : ∀ x ∈ l, netF x = 0) (k : Nat) (ih : ∀ j, k = j + 1 → CovC l n c j) : CovC l n c k := by
  intro w A a m hr ha hn hm hk
  obtain ⟨hln, hnc, hcm⟩ := RdSlice.len hr
  have hnm : n ≤ 9223372036854775807 := by unfold maxLen at hcm; omega
  have HR := Lib.hid hr
  have HA := Lib.hid ha
  have HZ := Lib.hid hn
  have HM := Lib.hid hm
  have HK32 := Lib.hid hk
  have HLN := Lib.hid hln
  have HIH := Lib.hid ih
  have HLV := Lib.hid hl
  obtain ⟨SO, hSO⟩ : ∃ SO, someR l (a, m) = SO := ⟨_, rfl⟩
  have HSO := Lib.hid hSO
  obtain ⟨FU, hFU⟩ : ∃ FU, fullR l k (a, m) = FU := ⟨_, rfl⟩
  have HFU := Lib.hid hFU
  obtain ⟨R, hR⟩ : ∃ R, covR l k (a, m) = R := ⟨_, rfl⟩
  have HRR := Lib.hid hR
  rw [hR]
  have HB0 := Lib.hid (below_a1 w (.cells #[.int .u32 a, .int .i64 m] 29))
  have HX0 := Lib.hid (heap_alloc_new w (.cells #[.int .u32 a, .int .i64 m] 29))
  clear hr ha hn hm hk hln hnc hcm ih hSO hR hFU hl
  go_enter Tryd.func6, Tryd.ntmps6
  go_wp2
  go_loopw [5, 6] (fun sv iv wr => ∃ (i : Nat) (s : Bool), i ≤ n ∧ iv = .int .i64 i ∧ sv = .bool s ∧ Hid ((s || someR (l.drop i) (a, m)) = SO) ∧ Below (w.heap.size + 1) (w.alloc (.cells #[.int .u32 a, .int .i64 m] 29)) wr) (fun _ iv _ => n - (intOf iv).toNat)
  case atStart => exact ⟨0, false, Nat.zero_le _, rfl, rfl, Lib.hid (by simpa using HSO.out), Below.refl _ _⟩
  case round =>
    obtain ⟨i, s, hi, rfl, rfl, HS, hbr⟩ := hrel
    have HBR := Lib.hid hbr
    have HB := Lib.hid (HB0.out.trans (hbr.mono (by omega)))
    have s1 := hbr.size
    rw [World.size_alloc] at s1
    have hXr := below_block hbr (Nat.lt_succ_self _) HX0.out
    obtain ⟨z0, z1, _, _⟩ := row2 hXr
    have hzz := size_of_block hXr
    by_cases hlt : i < n
    · obtain ⟨b, o, ⟨x, x'⟩, rfl, hb, HX, ⟨wx, wy⟩, c0, c1⟩ := RdSlice.atN HR.out hlt
      have d0 := (HB.out.cell (p := ⟨b, o + i * 2, none⟩) hb).trans c0
      have d1 := (HB.out.cell (p := ⟨b, o + i * 2 + 1, none⟩) hb).trans c1
      have i0 : (0 : Int) ≤ (i : Int) := by omega
      have i1 : (i : Int) < (n : Int) := by omega
      have HIx : Hid (is32 x) := Lib.hid (bounds_u32 wx)
      have HD := Lib.hid (dropC HX.out)
      obtain ⟨p, hp⟩ : ∃ p, inB (a, m) (x, x') = p := ⟨_, rfl⟩
      obtain ⟨q, hq⟩ : ∃ q, inB (x, x') (a, m) = q := ⟨_, rfl⟩
      have HP := Lib.hid hp
      have HQ := Lib.hid hq
      have j0 := fun d os => cell_regrown d0 d os
      have j1 := fun d os => cell_regrown d1 d os
      have j2 := fun d os => cell_regrown z0 d os
      have j3 := fun d os => cell_regrown z1 d os
      have HS2 : Hid ((s || (q || p) || someR (l.drop (i + 1)) (a, m)) = SO) := Lib.hid (by
        rw [← HS.out, HD.out]; unfold someR; rw [List.any_cons, HP.out, HQ.out, Bool.or_assoc])
      clear c0 c1 wx wy hbr hp hq d0 d1 z0 z1 hXr
      cases s with
      | true =>
        go_wp2
        refine wp_region_quiet_below (by kernel_rfl) (by kernel_rfl) ?_
        repeat (go_big_quiet_step (first | (with_reducible exact rin_c HIx.out HA.out HQ.out _ _) | (with_reducible exact rin_c HA.out HIx.out HP.out _ _) | fail))
        refine wpQuiet_nil ?_
        intro w6 hw'
        obtain ⟨⟨dq, osq⟩, hw''⟩ := hw'
        have hb6 := (show Below wr.heap.size wr w6 by rw [hw'']; exact below_regrown wr dq osq)
        have HBR6 := Lib.hid (HBR.out.trans (hb6.mono (by omega)))
        clear hw'' j0 j1 j2 j3 hb6
        go_wp2
        go_roundw
        case rel => exact ⟨i + 1, true, by omega, by go_num, rfl, Lib.hid (by rw [← HS2.out]; rfl), HBR6.out⟩
        case measure => simp [intOf]; omega
      | false =>
        cases q with
        | true =>
          go_wp2
          refine wp_region_quiet_below (by kernel_rfl) (by kernel_rfl) ?_
          repeat (go_big_quiet_step (first | (with_reducible exact rin_c HIx.out HA.out HQ.out _ _) | (with_reducible exact rin_c HA.out HIx.out HP.out _ _) | fail))
          refine wpQuiet_nil ?_
          intro w6 hw'
          obtain ⟨⟨dq, osq⟩, hw''⟩ := hw'
          have hb6 := (show Below wr.heap.size wr w6 by rw [hw'']; exact below_regrown wr dq osq)
          have HBR6 := Lib.hid (HBR.out.trans (hb6.mono (by omega)))
          clear hw'' j0 j1 j2 j3 hb6
          go_wp2
          go_roundw
          case rel => exact ⟨i + 1, true, by omega, by go_num, rfl, Lib.hid (by rw [← HS2.out]; rfl), HBR6.out⟩
          case measure => simp [intOf]; omega
        | false =>
          go_wp2
          refine wp_region_quiet_below (by kernel_rfl) (by kernel_rfl) ?_
          repeat (go_big_quiet_step (first | (with_reducible exact rin_c HIx.out HA.out HQ.out _ _) | (with_reducible exact rin_c HA.out HIx.out HP.out _ _) | fail))
          refine wpQuiet_nil ?_
          intro w6 hw'
          obtain ⟨⟨dq, osq⟩, hw''⟩ := hw'
          have hb6 := (show Below wr.heap.size wr w6 by rw [hw'']; exact below_regrown wr dq osq)
          have HBR6 := Lib.hid (HBR.out.trans (hb6.mono (by omega)))
          clear hw'' j0 j1 j2 j3 hb6
          go_wp2
          go_roundw
          case rel => exact ⟨i + 1, p, by omega, by go_num, rfl, Lib.hid (by rw [← HS2.out]; rfl), HBR6.out⟩
          case measure => simp [intOf]; omega
    · have HSE : Hid (s = SO) := Lib.hid (by
        have h := HS.out
        rw [List.drop_eq_nil_of_le (by rw [← HLN.out]; omega)] at h
        simpa [someR] using h)
      have HRr := Lib.hid (HR.out.below HB.out)
      clear hbr
      cases s with
      | false =>
        have HRE : Hid (R = []) := Lib.hid (by rw [← HRR.out, covR_no (by rw [HSO.out, ← HSE.out])])
        go_wp2
        go_ret
        exact ⟨_, rfl, by rw [HRE.out]; exact OwnN.nil_ _ _, HB.out⟩
      | true =>
        have HFC := Lib.hid (Full_any (l := l) (n := n) (c := c) k wr A a m HRr.out HA.out HZ.out HM.out HK32.out)
        have Z0 := Lib.hid z0
        have Z1 := Lib.hid z1
        go_wp2_with fail
        go_at_call 15
        (with_reducible refine HFC.out.mono ?_)
        rw [HFU.out]
        rintro e w2 ⟨rfl, hb2⟩
        have HB2 := Lib.hid (HB.out.trans (hb2.mono (by omega)))
        have HR2w := Lib.hid (HRr.out.below hb2)
        have s2 := hb2.size
        have z0 := (hb2.cell (p := ⟨w.heap.size, 0, none⟩) hzz).trans Z0.out
        have z1 := (hb2.cell (p := ⟨w.heap.size, 1, none⟩) hzz).trans Z1.out
        clear hb2
        cases FU with
        | true =>
          have HRE : Hid (R = [(a, m)]) := Lib.hid (by rw [← HRR.out, covR_full (by rw [HSO.out, ← HSE.out]) HFU.out])
          have hm0 := (netF_zero.1 HZ.out)
          have HWF : Hid (∀ x ∈ [(a, m)], wfN x) := Lib.hid (fun x hx => by
            simp at hx; rw [hx]
            exact ⟨WalkArith.wf_u32 HA.out, WalkArith.wf_i64 (by simp only; omega)⟩)
          clear hm0
          go_wp2
          go_ret
          exact ⟨_, rfl, by rw [HRE.out]; exact (new_nets (w := w2) (us := #[.int .u32 a, .int .i64 m]) (n := 1) rfl rfl (by omega) HWF.out).mono (by omega), HB2.out.trans ((below_a1 w2 _).mono HB2.out.size)⟩
        | false =>
          cases k with
          | zero =>
            exact absurd (full_leaf HLV.out HZ.out (by have := HM.out; simpa using this) (by rw [HSO.out, ← HSE.out])) (by rw [HFU.out]; decide)
          | succ j =>
            obtain ⟨t, rfl⟩ : ∃ t : Nat, m = (t : Int) := ⟨m.toNat, by have := HM.out; have := HK32.out; omega⟩
            have ht : t < 32 := by have := HM.out; omega
            have HT := Lib.hid ht
            have HP1 : Hid (netF (a, (t : Int) + 1) = 0) := Lib.hid (half_p ht HZ.out)
            have HQ1 : Hid (netF (a + lowI (t + 1), (t : Int) + 1) = 0) := Lib.hid (half_q ht HZ.out)
            have HIq : Hid (is32 (a + lowI (t + 1))) := Lib.hid (by
              have h1 := HA.out
              have h2 := net_end HZ.out h1
              have h3 : szN (a, (t : Int)) = lowI t := by unfold szN; simp
              have h4 := low_succ ht
              have h5 := lowI_pos (t + 1)
              rw [h3] at h2
              simp only at h2
              have := h1.1
              exact ⟨by omega, by omega⟩)
            have HMt : Hid ((t : Int) + 1 = 32 - (j : Int)) := Lib.hid (by have := HM.out; omega)
            have HJ : Hid (j ≤ 32) := Lib.hid (by have := HK32.out; omega)
            have HFJ : Hid (CovC l n c j) := Lib.hid (HIH.out j rfl)
            have HRE : Hid (R = covR l j (a, (t : Int) + 1) ++ covR l j (a + lowI (t + 1), (t : Int) + 1)) := Lib.hid (by
              rw [← HRR.out, covR_both (by rw [HSO.out, ← HSE.out]) HFU.out, halfQ_lit]; rfl)
            have HL1 := Lib.hid (covR_len32 l HJ.out (a, (t : Int) + 1))
            have HL2 := Lib.hid (covR_len32 l HJ.out (a + lowI (t + 1), (t : Int) + 1))
            have hw2 : w.heap.size < w2.heap.size := by omega
            have HHW : Hid (w.heap.size ≤ w2.heap.size) := Lib.hid (by omega)
            obtain ⟨gx, hgx⟩ : ∃ gx, w.heap.size = gx := ⟨_, rfl⟩
            have HGX := Lib.hid hgx
            clear ht
            go_upto_region 10 with (fail)
            try rw [hgx] at z0
            try rw [hgx] at z1
            try rw [hgx] at hw2
            clear hgx Z0 Z1 hzz
            refine wp_region_noPanic ?_
            refine wp_region_held_drew (S := (fun w' => w'.cell? ⟨gx, 0, none⟩ = some (.int .u32 a) ∧ w'.cell? ⟨gx, 1, none⟩ = some (.int .i64 (t : Int)))) (by kernel_rfl) (by go_keep) (fun hHeld => ?_)
            refine' wpAnyH_take (i := 0) ?hia0 ?hsa0 ?hfa0 ?hra0 ?hQa0 ?hya0 ?hSa0 ?ha0
            case hia0 => (simp only [List.getElem?_toArray, List.getElem?_cons_succ, List.getElem?_cons_zero]; exact rfl)
            case hsa0 => kernel_rfl
            case hfa0 => kernel_rfl
            case hra0 => kernel_rfl
            case hQa0 => exact fun _ _ _ h => h
            case hya0 => (first | (refine Or.inr ⟨by rfl, ?_⟩; rfl) | (refine Or.inl ⟨by rfl, ?_⟩; (intro w hSw; (try dsimp only at hSw); go_simp); try with_reducible rfl))
            case hSa0 => assumption
            try simp only [Act.put, List.setIfInBounds_toArray, List.set_cons_zero, List.set_cons_succ]
            refine' wpAnyH_take (i := 1) ?hia1 ?hsa1 ?hfa1 ?hra1 ?hQa1 ?hya1 ?hSa1 ?ha1
            case hia1 => (simp only [List.getElem?_toArray, List.getElem?_cons_succ, List.getElem?_cons_zero]; exact rfl)
            case hsa1 => kernel_rfl
            case hfa1 => kernel_rfl
            case hra1 => kernel_rfl
            case hQa1 => exact fun _ _ _ h => h
            case hya1 => (first | (refine Or.inr ⟨by rfl, ?_⟩; rfl) | (refine Or.inl ⟨by rfl, ?_⟩; (intro w hSw; (try dsimp only at hSw); go_simp); try with_reducible rfl))
            case hSa1 => assumption
            try simp only [Act.put, List.setIfInBounds_toArray, List.set_cons_zero, List.set_cons_succ]
            refine' wpAnyH_take (i := 4) ?hia4 ?hsa4 ?hfa4 ?hra4 ?hQa4 ?hya4 ?hSa4 ?ha4
            case hia4 => (simp only [List.getElem?_toArray, List.getElem?_cons_succ, List.getElem?_cons_zero]; exact rfl)
            case hsa4 => kernel_rfl
            case hfa4 => kernel_rfl
            case hra4 => kernel_rfl
            case hQa4 => exact fun _ _ _ h => h
            case hya4 => (first | (refine Or.inr ⟨by rfl, ?_⟩; rfl) | (refine Or.inl ⟨by rfl, ?_⟩; (intro w hSw; (try dsimp only at hSw); go_simp); try with_reducible rfl))
            case hSa4 => assumption
            try simp only [Act.put, List.setIfInBounds_toArray, List.set_cons_zero, List.set_cons_succ]
            refine' wpAnyH_take (i := 5) ?hia5 ?hsa5 ?hfa5 ?hra5 ?hQa5 ?hya5 ?hSa5 ?ha5
            case hia5 => (simp only [List.getElem?_toArray, List.getElem?_cons_succ, List.getElem?_cons_zero]; exact rfl)
            case hsa5 => kernel_rfl
            case hfa5 => kernel_rfl
            case hra5 => kernel_rfl
            case hQa5 => exact fun _ _ _ h => h
            case hya5 => (first | (refine Or.inr ⟨by rfl, ?_⟩; rfl) | (refine Or.inl ⟨by rfl, ?_⟩; (intro w hSw; (try dsimp only at hSw); go_simp); try with_reducible rfl))
            case hSa5 => assumption
            try simp only [Act.put, List.setIfInBounds_toArray, List.set_cons_zero, List.set_cons_succ]
            have HRD := Lib.hid (show R1 rdNets w2.drew (.slice A n c) l from HR2w.out)
            clear z0 z1
            obtain ⟨k0, k1⟩ := hHeld
            refine wpAnyH_ready (rs := [2]) (by kernel_rfl) (by simp) ?_
            refine' AllReadyH.cons ?hia2 (fun K hK => ?ha2) AllReadyH.nil
            case hia2 => (simp only [List.getElem?_toArray, List.getElem?_cons_succ, List.getElem?_cons_zero]; exact rfl)
            go_simp
            go_at_call 16
            (with_reducible refine (Half0 a t _ HT.out).mono ?_)
            rintro e w3 ⟨rfl, hb3⟩
            have r0 := (hb3.cell (p := ⟨gx, 0, none⟩) hw2).trans k0
            have r1 := (hb3.cell (p := ⟨gx, 1, none⟩) hw2).trans k1
            have HB3 := Lib.hid (HB2.out.trans (((below_drewN (Below.refl w2.heap.size w2) 1).trans hb3).mono HHW.out))
            have HR3 := Lib.hid (HRD.out.below hb3)
            have hw3 : gx < w3.heap.size := Nat.lt_of_lt_of_le hw2 hb3.size
            clear hb3 k0 k1
            refine hK.out _ _ (by go_keep) (fun hHeld => ?_)
            clear hK K
            clear r0 r1
            obtain ⟨k0, k1⟩ := hHeld
            refine wpAnyH_ready (rs := [3]) (by kernel_rfl) (by simp) ?_
            refine' AllReadyH.cons ?hia3 (fun K hK => ?ha3) AllReadyH.nil
            case hia3 => (simp only [List.getElem?_toArray, List.getElem?_cons_succ, List.getElem?_cons_zero]; exact rfl)
            go_simp
            go_at_call 6
            (with_reducible refine (HFJ.out _ _ _ _ HR3.out HA.out HP1.out HMt.out HJ.out).mono ?_)
            rintro e w4 ⟨v4, rfl, ho4, hb4⟩
            have HO4 := Lib.hid ho4
            obtain ⟨A4, c4, rfl⟩ := ho4.form
            have r0 := (hb4.cell (p := ⟨gx, 0, none⟩) hw3).trans k0
            have r1 := (hb4.cell (p := ⟨gx, 1, none⟩) hw3).trans k1
            have HB4 := Lib.hid (HB3.out.trans (hb4.mono HB3.out.size))
            have HR4 := Lib.hid (HR3.out.below hb4)
            have z4 : w3.heap.size ≤ w4.heap.size := hb4.size
            have hw4 : gx < w4.heap.size := Nat.lt_of_lt_of_le hw3 z4
            clear hb4 ho4 k0 k1
            refine hK.out _ _ (by go_keep) (fun hHeld => ?_)
            clear hK K
            clear r0 r1
            obtain ⟨k0, k1⟩ := hHeld
            refine wpAnyH_ready (rs := [6]) (by kernel_rfl) (by simp) ?_
            refine' AllReadyH.cons ?hia6 (fun K hK => ?ha6) AllReadyH.nil
            case hia6 => (simp only [List.getElem?_toArray, List.getElem?_cons_succ, List.getElem?_cons_zero]; exact rfl)
            go_simp
            go_at_call 16
            (with_reducible refine (Half1 a t _ HT.out HA.out HZ.out).mono ?_)
            rintro e w5 ⟨rfl, hb5⟩
            have r0 := (hb5.cell (p := ⟨gx, 0, none⟩) hw4).trans k0
            have r1 := (hb5.cell (p := ⟨gx, 1, none⟩) hw4).trans k1
            have HB5 := Lib.hid (HB4.out.trans (hb5.mono HB4.out.size))
            have HR5 := Lib.hid (HR4.out.below hb5)
            have HO5 := Lib.hid (HO4.out.below hb5)
            have z5 : w3.heap.size ≤ w5.heap.size := Nat.le_trans z4 hb5.size
            have hw5 : gx < w5.heap.size := Nat.lt_of_lt_of_le hw3 z5
            clear hb5 k0 k1
            refine hK.out _ _ (by go_keep) (fun hHeld => ?_)
            clear hK K
            clear r0 r1
            obtain ⟨k0, k1⟩ := hHeld
            refine wpAnyH_ready (rs := [7]) (by kernel_rfl) (by simp) ?_
            refine' AllReadyH.cons ?hia7 (fun K hK => ?ha7) AllReadyH.nil
            case hia7 => (simp only [List.getElem?_toArray, List.getElem?_cons_succ, List.getElem?_cons_zero]; exact rfl)
            go_simp
            go_at_call 6
            (with_reducible refine (HFJ.out _ _ _ _ HR5.out HIq.out HQ1.out HMt.out HJ.out).mono ?_)
            rintro e w6 ⟨v6, rfl, ho6, hb6⟩
            have hr6 := ho6.read
            obtain ⟨A6, c6, rfl⟩ := ho6.form
            have r0 := (hb6.cell (p := ⟨gx, 0, none⟩) hw5).trans k0
            have r1 := (hb6.cell (p := ⟨gx, 1, none⟩) hw5).trans k1
            have HB6 := Lib.hid (HB5.out.trans (hb6.mono HB5.out.size))
            have HO6 := Lib.hid (HO5.out.below hb6)
            have HRD6 := Lib.hid hr6
            have z6 : w3.heap.size ≤ w6.heap.size := Nat.le_trans z5 hb6.size
            have hw6 : gx < w6.heap.size := Nat.lt_of_lt_of_le hw3 z6
            clear hb6 ho6 hr6 k0 k1
            refine hK.out _ _ (by go_keep) (fun hHeld => ?_)
            clear hK K
            clear r0 r1
            obtain ⟨k0, k1⟩ := hHeld
            have HLL : Hid ((covR l j (a, (t : Int) + 1)).length + (covR l j (a + lowI (t + 1), (t : Int) + 1)).length ≤ 8796093022000) := Lib.hid (by have := HL1.out; have := HL2.out; omega)
            refine wpAnyH_ready (rs := [8]) (by kernel_rfl) (by simp) ?_
            refine' AllReadyH.cons ?hia8 (fun K hK => ?ha8) AllReadyH.nil
            case hia8 => (simp only [List.getElem?_toArray, List.getElem?_cons_succ, List.getElem?_cons_zero]; exact rfl)
            (refine step_append_nets rfl (.tmp 40) (.tmp 44) 22 Tryd.underlying22 rfl w3.heap.size _ _ rfl HO6.out A6 _ c6 _ rfl HRD6.out HLL.out z6 ?_)
            intro v8 w8 hown8 hgrow8
            have r0 := (hgrow8.cell (p := ⟨gx, 0, none⟩) (B := 0) HO6.out.1 hw6 (fun g e => by have := (own_blk HO6.out.1 g e).1; simp only; omega)).trans k0
            have r1 := (hgrow8.cell (p := ⟨gx, 1, none⟩) (B := 0) HO6.out.1 hw6 (fun g e => by have := (own_blk HO6.out.1 g e).1; simp only; omega)).trans k1
            have HO8 := Lib.hid hown8
            have HB8 := Lib.hid (hgrow8.below HB6.out HO6.out.1 HB3.out.size HB6.out.size)
            obtain ⟨A8, c8, rfl⟩ := hown8.form
            obtain ⟨L8, hL8⟩ : ∃ L8, (covR l j (a, (t : Int) + 1) ++ covR l j (a + lowI (t + 1), (t : Int) + 1)).length = L8 := ⟨_, rfl⟩
            rw [hL8] at HO8 ⊢
            clear hown8 hgrow8 k0 k1 hL8
            refine hK.out _ _ (by go_keep) (fun hHeld => ?_)
            clear hK K
            refine' wpAnyH_take (i := 9) ?hia9 ?hsa9 ?hfa9 ?hra9 ?hQa9 ?hya9 ?hSa9 ?ha9
            case hia9 => (simp only [List.getElem?_toArray, List.getElem?_cons_succ, List.getElem?_cons_zero]; exact rfl)
            case hsa9 => kernel_rfl
            case hfa9 => kernel_rfl
            case hra9 => kernel_rfl
            case hQa9 => exact fun _ _ _ h => h
            case hya9 => (first | (refine Or.inr ⟨by rfl, ?_⟩; rfl) | (refine Or.inl ⟨by rfl, ?_⟩; (intro w hSw; (try dsimp only at hSw); go_simp); try with_reducible rfl))
            case hSa9 => assumption
            try simp only [Act.put, List.setIfInBounds_toArray, List.set_cons_zero, List.set_cons_succ]
            refine wpAnyH_done (by kernel_rfl) ?_ _
            refine NoPanic.normal ?_
            have HB38 : Hid (w.heap.size ≤ w3.heap.size) := Lib.hid HB3.out.size
            clear r0 r1 hHeld
            go_wp2
            go_ret
            exact ⟨_, rfl, by rw [HRE.out]; exact HO8.out.mono HB38.out, HB8.out⟩
theorem CoverOf_any {l : List Nn} {n c : Nat} (hl : ∀ x ∈ l, netF x = 0) : ∀ (k : Nat), CovC l n c k
  | 0 => CoverOf_body hl 0 (fun j h => absurd h (by omega))
  | k + 1 => CoverOf_body hl (k + 1) (fun j h => by obtain rfl : k = j := by omega
                                                    exact CoverOf_any hl k)
end Go.Proofs.YtdomjiihnliemaaDoor
