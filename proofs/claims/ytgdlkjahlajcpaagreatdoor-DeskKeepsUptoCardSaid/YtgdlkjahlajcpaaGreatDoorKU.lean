/- cover.Cover. What the desk's forms do: cover, sum. -/
import Derived.Test.YtgdlkjahlajcpaaGreatDoorKS
import Derived.Test.YtgdlkjahlajcpaaGreatDoorKT
import Derived.Test.YtgdlkjahlajcpaaGreatDoorKP
namespace Go.Proofs.YtgdlkjahlajcpaaGreatDoor
open Go.ChangeShapes Go.WideShapes Go.ChangeAt Go.RowKit
set_option linter.unusedVariables false
set_option linter.unusedSimpArgs false
/-- what is wrong with some nets -/
def faultL : List Nn → Int
  | [] => 0
  | x :: r => if netF x = 0 then faultL r else netF x
def covF (l : List Nn) : Int := if faultL l = 0 then (if 64 < l.length then 4 else 0) else faultL l
theorem faultL_zero : ∀ {l : List Nn}, faultL l = 0 ↔ ∀ x ∈ l, netF x = 0
  | [] => by simp [faultL]
  | x :: r => by
    unfold faultL
    by_cases h : netF x = 0
    · rw [if_pos h, faultL_zero]; simp [h]
    · rw [if_neg h]; simp [h]
theorem covF_zero {l : List Nn} : covF l = 0 ↔ (∀ x ∈ l, netF x = 0) ∧ l.length ≤ 64 := by
  unfold covF
  by_cases h : faultL l = 0
  · rw [if_pos h]
    have := faultL_zero.1 h
    by_cases h2 : 64 < l.length
    · rw [if_pos h2]; simp; omega
    · rw [if_neg h2]; simp only [true_iff]; exact ⟨this, by omega⟩
  · rw [if_neg h]
    exact ⟨fun e => absurd e h, fun e => absurd (faultL_zero.2 e.1) h⟩
theorem joinS_len : ∀ (r : List Nn) (n : Nn), (joinS n r).length ≤ r.length + 1
  | [], n => by simp [joinS]
  | t :: r, n => by
    unfold joinS
    cases sibB t n
    · simp
    · have := joinS_len r (upN n); simp; omega
theorem OwnN.mono {w : World} {base b' : Nat} {v : Value} {xs : List (Int × Int)} (h : OwnN w base v xs) (hb : b' ≤ base) : OwnN w b' v xs := by
  refine ⟨⟨h.1.1, ?_⟩, h.2⟩
  rcases h.1.2 with h2 | ⟨g, cap, cur, e, hg, h3⟩
  · exact .inl h2
  · exact .inr ⟨g, cap, cur, e, Nat.le_trans hb hg, h3⟩
theorem cov_end {W : World} {a : Act} {v e : Value} {K : Ending → World → Prop} (h2 : a.tmps[2]?.getD undef = v) (h3 : a.tmps[3]?.getD undef = e) (hd : a.defers = [])
    (hK : K (.returned (.tuple #[v, e])) W) : bodyPost Tryz.prog Tryz.f64 K .ret a W :=
  bodyPost_ret (by simp [results, Tryz.results64, go_sem, h2, h3]) hd hK
def CovPost (w : World) (l : List Nn) (e : Ending) (w' : World) : Prop := ∃ v, e = .returned (.tuple #[v, errV (covF l)]) ∧ (covF l ≠ 0 → v = .slice none 0 0) ∧ (covF l = 0 → OwnN w' w.heap.size v (coverV l)) ∧ Below w.heap.size w w'
theorem CovPost.bad {w w' : World} {l : List Nn} {E : Int} (hE : covF l = E) (h0 : E ≠ 0) (hb : Below w.heap.size w w') : CovPost w l (.returned (.tuple #[.slice none 0 0, .iface 35 (.int .i64 E)])) w' :=
  ⟨_, by rw [hE, errV_ne h0], fun _ => rfl, fun h => absurd (hE.symm.trans h) h0, hb⟩
theorem CovPost.good {w w' : World} {l : List Nn} {v : Value} (hE : covF l = 0) (ho : OwnN w' w.heap.size v (coverV l)) (hb : Below w.heap.size w w') : CovPost w l (.returned (.tuple #[v, .nilIface])) w' :=
  ⟨_, by rw [hE]; rfl, fun h => absurd hE h, fun _ => ho, hb⟩
set_option maxRecDepth 100000 in
set_option maxHeartbeats 8000000 in
theorem Cover_any {w : World} {A : Option Addr} {n c : Nat} {l : List Nn} (hr : R1 rdNets w (.slice A n c) l) :
    Calls Tryz.prog 64 #[.slice A n c] w (CovPost w l) := by
  obtain ⟨hn, hnc, hcm⟩ := RdSlice.len hr
  have hnm : n ≤ 9223372036854775807 := by unfold maxLen at hcm; omega
  have HR := Lib.hid hr
  have HN := Lib.hid hn
  obtain ⟨PP, hPP⟩ : ∃ PP, CovPost w l = PP := ⟨_, rfl⟩
  have HPP := Lib.hid hPP
  rw [hPP]
  have HF0 : Hid (faultL l = faultL l) := Lib.hid rfl
  clear hr hcm hnc hn hPP
  go_enter Tryz.func64, Tryz.ntmps64
  go_wp2
  go_loopw [5, 6, 13] (fun _ _ iv wr => ∃ k : Nat, k ≤ n ∧ iv = .int .i64 k ∧ Hid (faultL (l.drop k) = faultL l) ∧ Below w.heap.size w wr) (fun _ _ iv _ => n - (intOf iv).toNat)
  case atStart => exact ⟨0, Nat.zero_le _, rfl, Lib.hid rfl, Below.refl _ _⟩
  case round =>
    clear HF0
    obtain ⟨k, hk, rfl, HK, hbr⟩ := hrel
    have HB := Lib.hid hbr
    have s1 := hbr.size
    by_cases hlt : k < n
    · obtain ⟨b, o, ⟨x, x'⟩, rfl, hb, HX, ⟨wx, wy⟩, c0, c1⟩ := RdSlice.atN HR.out hlt
      have d0 := (hbr.cell (p := ⟨b, o + k * 2, none⟩) hb).trans c0
      have d1 := (hbr.cell (p := ⟨b, o + k * 2 + 1, none⟩) hb).trans c1
      have i0 : (0 : Int) ≤ (k : Int) := by omega
      have i1 : (k : Int) < (n : Int) := by omega
      obtain ⟨hx0, hx1⟩ := bounds_u32 wx
      have HD : Hid (l.drop k = (x, x') :: l.drop (k + 1)) := Lib.hid (by
        have h := HX.out
        obtain ⟨hk', e⟩ := List.getElem?_eq_some_iff.1 h
        rw [List.drop_eq_getElem_cons hk', e])
      clear c0 c1 wx wy hbr
      by_cases hF : netF (x, x') = 0
      · have HF := Lib.hid hF
        have HK2 : Hid (faultL (l.drop (k + 1)) = faultL l) := Lib.hid (by rw [← HK.out, HD.out, faultL, if_pos hF])
        clear hF
        go_wp2_with fail
        (with_reducible refine (Check_ok _ hx0 hx1 HF.out).mono ?_)
        rintro e w2 ⟨rfl, hb2⟩
        have HB2 := Lib.hid ((HB.out.trans ((below_a1 wr _).mono s1)).trans (hb2.mono (by simp; omega)))
        clear hb2
        go_wp2
        go_roundw
        case rel => exact ⟨k + 1, by omega, by go_num, HK2, HB2.out⟩
        case measure => simp [intOf]; omega
      · have HF := Lib.hid hF
        obtain ⟨E, hE⟩ : ∃ E, netF (x, x') = E := ⟨_, rfl⟩
        have HE0 : Hid (E ≠ 0) := Lib.hid (by rw [← hE]; exact hF)
        have HCE : Hid (covF l = E) := Lib.hid (by
          have h : faultL l = E := by rw [← HK.out, HD.out, faultL, if_neg hF, hE]
          unfold covF
          rw [h, if_neg HE0.out])
        have HEE := Lib.hid hE
        clear hF hE
        go_wp2_with fail
        (with_reducible refine (Check_bad _ hx0 hx1 HF.out).mono ?_)
        rw [HEE.out]
        rintro e w2 ⟨rfl, hb2⟩
        have HB2 := Lib.hid ((HB.out.trans ((below_a1 wr _).mono s1)).trans (hb2.mono (by simp; omega)))
        clear hb2
        go_wp2
        rw [← HPP.out]
        exact CovPost.bad HCE.out HE0.out HB2.out
    · have HF : Hid (faultL l = 0) := Lib.hid (by rw [← HK.out, List.drop_eq_nil_of_le (by rw [← HN.out]; omega)]; rfl)
      clear hbr
      by_cases h64 : 64 < n
      · have t1 : (64 : Int) < (n : Int) := by omega
        have HCE : Hid (covF l = 4) := Lib.hid (by unfold covF; rw [if_pos HF.out, if_pos (by rw [← HN.out]; exact h64)])
        go_wp2
        rw [← HPP.out]
        exact CovPost.bad HCE.out (by decide) HB.out
      · have t1 : ¬ (64 : Int) < (n : Int) := by omega
        have HCE : Hid (covF l = 0) := Lib.hid (by unfold covF; rw [if_pos HF.out, if_neg (by rw [← HN.out]; exact h64)])
        have HV := Lib.hid (covF_zero.1 HCE.out)
        have HRr := Lib.hid (HR.out.below HB.out)
        have hl64 : l.length ≤ 64 := HV.out.2
        have HL64 := Lib.hid hl64
        have HI32 : Hid (∀ x ∈ l, is32 x.1) := Lib.hid (fun x hx => bounds_u32 (wf_of_rd HR.out x hx).1)
        clear hl64
        go_wp2_with fail
        (with_reducible refine (Values_any _ _ _ _).mono ?_)
        rintro e w1 ⟨rfl, hw1⟩
        have HBX := Lib.hid (heap_alloc_new wr (.cells #[.slice A n c] 26))
        rw [← hw1] at HBX
        have hb1 : Below wr.heap.size wr w1 := by rw [hw1]; exact below_a1 wr _
        have hz1 : wr.heap.size < w1.heap.size := by rw [hw1]; simp
        have HR1 := Lib.hid (HRr.out.below hb1)
        have HB1 := Lib.hid (HB.out.trans (hb1.mono s1))
        have HC1 : Hid (w1.cell? ⟨wr.heap.size, 0, none⟩ = some (.slice A n c)) := Lib.hid (by rw [cell_of_row _ _ _ _ _ (0, 0) HBX.out]; rfl)
        clear hw1 hb1 HBX
        go_wp2_with fail
        (with_reducible refine (SortedFunc_any (by have := HL64.out; omega) hz1 HC1.out HR1.out).mono ?_)
        rintro e w5 ⟨v5, rfl, ho5, hb5⟩
        obtain ⟨s, hs⟩ : ∃ s, sortN l = s := ⟨_, rfl⟩
        have HS5 : Hid ((∀ x ∈ s, netF x = 0) ∧ (∀ x ∈ s, is32 x.1) ∧ s.length ≤ 64) := Lib.hid (by
          have hp := sortN_perm l
          rw [hs] at hp
          exact ⟨fun x hx => HV.out.1 x (hp.mem_iff.1 hx), fun x hx => HI32.out x (hp.mem_iff.1 hx), by rw [hp.length_eq]; exact HL64.out⟩)
        have HCV : Hid (coverV l = (s.foldl stepS []).reverse) := Lib.hid (by unfold coverV covS; rw [hs])
        rw [hs] at ho5
        obtain ⟨A5, c5, rfl⟩ := ho5.form
        obtain ⟨N, hN5⟩ : ∃ N, s.length = N := ⟨_, rfl⟩
        rw [hN5] at ho5 ⊢
        have HN5 := Lib.hid hN5
        have HR5 := Lib.hid (show rdNets w5 (· < w5.heap.size) [.slice A5 N c5] s from ho5.read)
        have HB5 := Lib.hid (HB1.out.trans (hb5.mono HB1.out.size))
        have hN64 : N ≤ 64 := by rw [← hN5]; exact HS5.out.2.2
        obtain ⟨C, hC⟩ : ∃ C, s.foldl stepS [] = C := ⟨_, rfl⟩
        have HC := Lib.hid hC
        rw [hC] at HCV
        clear ho5 hb5 hs hN5 hC hz1 t1 h64 HR1 HC1
        go_wp2
        go_loopw [7, 9, 10, 31] (fun vv _ _ iv wt => ∃ (k : Nat) (A : Option Addr) (L c : Nat) (st : List Nn), k ≤ N ∧ vv = .slice A L c ∧ iv = .int .i64 k ∧ Hid ((s.drop k).foldl stepS st = C) ∧ Hid (st.length = L ∧ L ≤ k) ∧ Hid (∀ x ∈ st, is32 x.1) ∧ Hid (OwnN wt w5.heap.size (.slice A L c) st.reverse) ∧ Below w5.heap.size w5 wt) (fun _ _ _ iv _ => N - (intOf iv).toNat)
        case atStart => exact ⟨0, none, 0, 0, [], Nat.zero_le _, rfl, rfl, Lib.hid HC.out, Lib.hid ⟨rfl, Nat.le_refl _⟩, Lib.hid (fun _ h => by cases h), Lib.hid (OwnN.nil_ _ _), Below.refl _ _⟩
        case round =>
          clear HC
          obtain ⟨k, A7, L, c7, st, hk, rfl, rfl, HK, HL, H32, HO, hbt⟩ := hrel
          have HBT := Lib.hid hbt
          have s2 := hbt.size
          have hL64 : L ≤ k := HL.out.2
          by_cases hlt : k < N
          · obtain ⟨b, o, ⟨x, x'⟩, rfl, hb, HX, hwf, c0, c1⟩ := RdSlice.atN HR5.out hlt
            have d0 := (hbt.cell (p := ⟨b, o + k * 2, none⟩) hb).trans c0
            have d1 := (hbt.cell (p := ⟨b, o + k * 2 + 1, none⟩) hb).trans c1
            have i0 : (0 : Int) ≤ (k : Int) := by omega
            have i1 : (k : Int) < (N : Int) := by omega
            have HWF := Lib.hid hwf
            have HIx : Hid (is32 x) := Lib.hid (bounds_u32 hwf.1)
            have HFx : Hid (netF (x, x') = 0) := Lib.hid (HS5.out.1 _ (List.mem_of_getElem? HX.out))
            have HK2 : Hid ((s.drop (k + 1)).foldl stepS (stepS st (x, x')) = C) := Lib.hid (by
              have h := HX.out
              obtain ⟨hk', e⟩ := List.getElem?_eq_some_iff.1 h
              rw [← HK.out, List.drop_eq_getElem_cons hk', e]; rfl)
            have H32s : Hid (∀ y ∈ stepS st (x, x'), is32 y.1) := Lib.hid (step_mem32 HIx.out H32.out)
            have H32c : Hid (∀ y ∈ (x, x') :: st, is32 y.1) := Lib.hid (fun y hy => by
              rcases List.mem_cons.1 hy with rfl | hy
              · exact HIx.out
              · exact H32.out y hy)
            have hlen : st.reverse.length ≤ 8796093022000 := by rw [List.length_reverse, HL.out.1]; omega
            have HL100 : Hid (st.length ≤ 100) := Lib.hid (by rw [HL.out.1]; omega)
            have HO2 := Lib.hid (HO.out.alloc (.cells #[.int .u32 x, .int .i64 x'] 47))
            have hX2 := heap_alloc_new wr (.cells #[.int .u32 x, .int .i64 x'] 47)
            obtain ⟨Bx, hBx⟩ : ∃ Bx, wr.heap.size = Bx := ⟨_, rfl⟩
            have HBx : Hid (wr.heap.size = Bx) := Lib.hid hBx
            have HB2 := Lib.hid (HBT.out.trans ((below_a1 wr (.cells #[.int .u32 x, .int .i64 x'] 47)).mono s2))
            have hz2 : Bx < (wr.alloc (.cells #[.int .u32 x, .int .i64 x'] 47)).heap.size := by rw [← hBx]; simp
            have hz5 : w5.heap.size ≤ (wr.alloc (.cells #[.int .u32 x, .int .i64 x'] 47)).heap.size := by simp; omega
            clear c0 c1 hwf hbt
            go_upto_region 15 with (fail)
            try rw [hBx] at hX2
            clear hBx d0 d1
            generalize wr.alloc (.cells #[.int .u32 x, .int .i64 x'] 47) = w2 at *
            obtain ⟨u0, u1, _, _⟩ := row2 hX2
            have j0 := fun d os => cell_regrown u0 d os
            have j1 := fun d os => cell_regrown u1 d os
            have HX2 := Lib.hid hX2
            clear u0 u1 hX2
            cases st with
            | nil =>
              obtain rfl : L = 0 := HL.out.1.symm
              have HST : Hid (stepS [] (x, x') = joinS (x, x') []) := Lib.hid rfl
              refine wp_region_quiet_below (by kernel_rfl) (by kernel_rfl) ?_
              repeat (go_big_quiet_step (first | (with_reducible exact inN_c HIx.out HIx.out rfl _ _) | fail))
              refine wpQuiet_nil ?_
              intro w6 hw'
              obtain ⟨⟨dq, osq⟩, hw''⟩ := hw'
              have hb6 := (show Below w2.heap.size w2 w6 by rw [hw'']; exact below_regrown w2 dq osq)
              have HB6 := Lib.hid (HB2.out.trans (hb6.mono hz5))
              have HO6 := Lib.hid (HO2.out.below hb6)
              have HX6 := Lib.hid (below_block hb6 hz2 HX2.out)
              obtain ⟨z0, z1, _, _⟩ := row2 HX6.out
              have hz6 : w5.heap.size ≤ w6.heap.size := HB6.out.size
              clear hw'' hb6 j0 j1 
              go_wp2_with (first
                | (at_builtin; go_loud (refine wpList_append_net rfl _ _ 26 Tryz.underlying26 rfl w5.heap.size _ _ rfl (HO6.out.alloc _) w6.heap.size (x, x') 47 rfl (heap_alloc_new w6 _) HWF.out hlen (by simp; omega) ?_); intro v8 w8 hown8 hgrow8; have HB8 := Lib.hid (hgrow8.below (HB6.out.trans ((below_a1 w6 _).mono hz6)) (HO6.out.alloc _).1 (Nat.le_refl _) (by simp; omega)); rw [← List.reverse_cons] at hown8; have HO8 := Lib.hid hown8; have HJ := Lib.hid (Joined_any hown8 HFx.out H32c.out HL100.out HB8.out.size); obtain ⟨A8, c8, rfl⟩ := hown8.form; obtain ⟨L8, hL8⟩ : ∃ L8, ((x, x') :: []).reverse.length = L8 := ⟨_, rfl⟩; rw [hL8] at HO8 HJ ⊢; clear hown8 hgrow8 hL8)
                | fail)
              go_at_call 92
              (with_reducible refine HJ.out.mono ?_)
              rintro e w9 ⟨v9, rfl, ho9, hg9⟩
              rw [← HST.out] at ho9
              have HB9 := Lib.hid (hg9.below HB8.out HO8.out.1 (Nat.le_refl _) HB8.out.size)
              obtain ⟨A9, c9, rfl⟩ := ho9.form
              obtain ⟨L9, hL9⟩ : ∃ L9, (stepS [] (x, x')).reverse.length = L9 := ⟨_, rfl⟩
              rw [hL9] at ho9 ⊢
              have HO9 := Lib.hid ho9
              have HL9 : Hid ((stepS [] (x, x')).length = L9 ∧ L9 ≤ k + 1) := Lib.hid (by
                rw [List.length_reverse] at hL9
                have h1 := joinS_len [] (x, x')
                rw [← HST.out, hL9] at h1
                have h2 := HL.out
                exact ⟨hL9, by omega⟩)
              clear ho9 hg9 hL9 hz6 z0 z1
              go_wp2
              go_roundw
              case rel => exact ⟨k + 1, A9, L9, c9, _, by omega, rfl, by go_num, HK2, HL9, H32s, HO9, HB9.out⟩
              case measure => simp [intOf]; omega
            | cons t r =>
              obtain ⟨y, y'⟩ := t
              obtain ⟨M, hM⟩ : ∃ M, r.length = M := ⟨_, rfl⟩
              have hLM : L = M + 1 := by rw [← hM]; exact HL.out.1.symm
              have HM := Lib.hid hM
              have hrd := HO2.out.read
              have e1 : ((y, y') :: r).reverse[M]? = some (y, y') := by rw [← hM]; simp
              obtain ⟨b2, o2, y1, rfl, hb2, HY, -, f0, f1⟩ := RdSlice.atN hrd (k := M) (by omega)
              have ey := HY.out
              rw [e1] at ey
              simp only [Option.some.injEq] at ey
              subst ey
              have j2 := fun d os => cell_regrown f0 d os
              have j3 := fun d os => cell_regrown f1 d os
              have HIy : Hid (is32 y) := Lib.hid (H32.out (y, y') (by simp))
              have q1 : IntKind.i64.wrap ((L : Int) - 1) = (M : Int) := by rw [show (L : Int) - 1 = (M : Int) from by omega]; exact IntWalk.i64_in _ ⟨by omega, by omega⟩
              have t0 : (0 : Int) < (L : Int) := by omega
              have t0' : 0 < L := by omega
              have i2 : (0 : Int) ≤ (M : Int) := by omega
              have i3 : (M : Int) < (L : Int) := by omega
              have HLM := Lib.hid hLM
              clear hM hLM hrd e1 HY f0 f1
              obtain ⟨q, hq⟩ : ∃ q, inB (x, x') (y, y') = q := ⟨_, rfl⟩
              have HQ := Lib.hid hq
              clear hq
              cases q with
              | true =>
                have HST : Hid (stepS ((y, y') :: r) (x, x') = (y, y') :: r) := Lib.hid (by unfold stepS; simp only; rw [HQ.out]; rfl)
                refine wp_region_quiet_below (by kernel_rfl) (by kernel_rfl) ?_
                repeat (go_big_quiet_step (first | (with_reducible exact inN_c HIx.out HIy.out HQ.out _ _) | fail))
                refine wpQuiet_nil ?_
                intro w6 hw'
                obtain ⟨⟨dq, osq⟩, hw''⟩ := hw'
                have hb6 := (show Below w2.heap.size w2 w6 by rw [hw'']; exact below_regrown w2 dq osq)
                have HB6 := Lib.hid (HB2.out.trans (hb6.mono hz5))
                have HO6 := Lib.hid (HO2.out.below hb6)
                have HX6 := Lib.hid (below_block hb6 hz2 HX2.out)
                clear hw'' hb6 j0 j1 j2 j3
                have HK3 : Hid ((s.drop (k + 1)).foldl stepS ((y, y') :: r) = C) := Lib.hid (by rw [← HST.out]; exact HK2.out)
                have HL3 : Hid (((y, y') :: r).length = L ∧ L ≤ k + 1) := Lib.hid ⟨HL.out.1, by omega⟩
                go_wp2
                go_roundw
                case rel => exact ⟨k + 1, _, L, c7, _, by omega, rfl, by go_num, HK3, HL3, H32, HO6, HB6.out⟩
                case measure => simp [intOf]; omega
              | false =>
                have HST : Hid (stepS ((y, y') :: r) (x, x') = joinS (x, x') ((y, y') :: r)) := Lib.hid (by unfold stepS; simp only; rw [HQ.out]; rfl)
                refine wp_region_quiet_below (by kernel_rfl) (by kernel_rfl) ?_
                repeat (go_big_quiet_step (first | (with_reducible exact inN_c HIx.out HIy.out HQ.out _ _) | fail))
                refine wpQuiet_nil ?_
                intro w6 hw'
                obtain ⟨⟨dq, osq⟩, hw''⟩ := hw'
                have hb6 := (show Below w2.heap.size w2 w6 by rw [hw'']; exact below_regrown w2 dq osq)
                have HB6 := Lib.hid (HB2.out.trans (hb6.mono hz5))
                have HO6 := Lib.hid (HO2.out.below hb6)
                have HX6 := Lib.hid (below_block hb6 hz2 HX2.out)
                obtain ⟨z0, z1, _, _⟩ := row2 HX6.out
                have hz6 : w5.heap.size ≤ w6.heap.size := HB6.out.size
                clear hw'' hb6 j0 j1 j2 j3
                go_wp2_with (first
                  | (at_builtin; go_loud (refine wpList_append_net rfl _ _ 26 Tryz.underlying26 rfl w5.heap.size _ _ rfl (HO6.out.alloc _) w6.heap.size (x, x') 47 rfl (heap_alloc_new w6 _) HWF.out hlen (by simp; omega) ?_); intro v8 w8 hown8 hgrow8; have HB8 := Lib.hid (hgrow8.below (HB6.out.trans ((below_a1 w6 _).mono hz6)) (HO6.out.alloc _).1 (Nat.le_refl _) (by simp; omega)); rw [← List.reverse_cons] at hown8; have HO8 := Lib.hid hown8; have HJ := Lib.hid (Joined_any hown8 HFx.out H32c.out HL100.out HB8.out.size); obtain ⟨A8, c8, rfl⟩ := hown8.form; obtain ⟨L8, hL8⟩ : ∃ L8, ((x, x') :: ((y, y') :: r)).reverse.length = L8 := ⟨_, rfl⟩; rw [hL8] at HO8 HJ ⊢; clear hown8 hgrow8 hL8)
                  | fail)
                go_at_call 92
                (with_reducible refine HJ.out.mono ?_)
                rintro e w9 ⟨v9, rfl, ho9, hg9⟩
                rw [← HST.out] at ho9
                have HB9 := Lib.hid (hg9.below HB8.out HO8.out.1 (Nat.le_refl _) HB8.out.size)
                obtain ⟨A9, c9, rfl⟩ := ho9.form
                obtain ⟨L9, hL9⟩ : ∃ L9, (stepS ((y, y') :: r) (x, x')).reverse.length = L9 := ⟨_, rfl⟩
                rw [hL9] at ho9 ⊢
                have HO9 := Lib.hid ho9
                have HL9 : Hid ((stepS ((y, y') :: r) (x, x')).length = L9 ∧ L9 ≤ k + 1) := Lib.hid (by
                  rw [List.length_reverse] at hL9
                  have h1 := joinS_len ((y, y') :: r) (x, x')
                  rw [← HST.out, hL9] at h1
                  have h2 := HL.out
                  exact ⟨hL9, by omega⟩)
                clear ho9 hg9 hL9 hz6 z0 z1
                go_wp2
                go_roundw
                case rel => exact ⟨k + 1, A9, L9, c9, _, by omega, rfl, by go_num, HK2, HL9, H32s, HO9, HB9.out⟩
                case measure => simp [intOf]; omega
          · have HE : Hid (coverV l = st.reverse) := Lib.hid (by
              have h := HK.out
              rw [List.drop_eq_nil_of_le (by rw [HN5.out]; omega)] at h
              rw [HCV.out, ← h]; rfl)
            have HBE := Lib.hid (HB5.out.trans (hbt.mono HB5.out.size))
            have hw5 : w.heap.size ≤ w5.heap.size := HB5.out.size
            have HW5 := Lib.hid hw5
            clear hbt hw5
            go_wp2
            rw [← HPP.out]
            exact CovPost.good HCE.out (by rw [HE.out]; exact HO.out.mono HW5.out) HBE.out
end Go.Proofs.YtgdlkjahlajcpaaGreatDoor
namespace Go.Proofs.YtgdlkjahlajcpaaGreatDoor
open Go.ChangeShapes Go.WideShapes Go.ChangeAt Go.RowKit
set_option linter.unusedVariables false
set_option linter.unusedSimpArgs false
theorem cov_len {l : List Nn} (hv : ∀ x ∈ l, netF x = 0) : (coverV l).length ≤ l.length := (cover_all hv).2.2
section
variable {W w : World} {T g c : Nat} {m : Tab} {S : Nat → Prop} {s : ByteArray} {v : Value}
set_option maxRecDepth 100000 in
theorem Cover_do (h : Tk W T m S w) (hw : HStr W) :
    Calls Tryz.prog 62 #[deskV T, v] w fun e w' => e = endA (.ok (netsT (coverV (allM m)))) ∧ Below w.heap.size w w' := by
  have h1 := h.below ((Below.refl w.heap.size w).alloc (Nat.le_refl _) (.cells #[.pointer (some ⟨T, 0, none⟩)] 40))
  have HL := Lib.hid (List_t h1)
  have HW : Hid (HStr w) := Lib.hid (hw.below h.bel (Nat.le_refl _))
  obtain ⟨hv, hl⟩ := all_nets h.ok
  have hF : covF (allM m) = 0 := covF_zero.2 ⟨fun x hx => (hv x hx).1, hl⟩
  have hcv : ∀ x ∈ coverV (allM m), netF x = 0 ∧ is32 x.1 := fun x hx => ⟨cover_valid (fun x hx => (hv x hx).1) x hx, cover_32 (fun x hx => (hv x hx).2) x hx⟩
  have hcl : (coverV (allM m)).length ≤ 1000 := Nat.le_trans (cov_len fun x hx => (hv x hx).1) (by omega)
  have HC := Lib.hid hcv
  have HCL := Lib.hid hcl
  have HF := Lib.hid hF
  clear h h1 hw hv hl hF hcv hcl
  go_enter Tryz.func62, Tryz.ntmps62
  go_wp2_with (first
    | (go_at_call 61; refine HL.out.mono ?_; rintro e w1 ⟨u, rfl, hown, hb1⟩; have hr := hown.read; obtain ⟨A, c, hu⟩ := hown.form; rw [hu] at hr ⊢; have HR := Lib.hid hr; have HB1 := Lib.hid (((Below.refl w.heap.size w).alloc (Nat.le_refl _) (.cells #[.pointer (some ⟨T, 0, none⟩)] 40)).trans (hb1.mono (by simp))); clear hown hb1 hr hu)
    | (go_at_call 64; (with_reducible refine (Cover_any HR.out).mono ?_); rintro e w2 ⟨q, rfl, _, hown, hb2⟩; have hown := hown HF.out; have hr := hown.read; obtain ⟨A', c', hu⟩ := hown.form; rw [hu] at hr ⊢; rw [HF.out, errV_z]; have HR2 := Lib.hid hr; have HB2 := Lib.hid (HB1.out.trans (hb2.mono HB1.out.size)); clear hown hb2 hr hu)
    | (go_at_call 63; (with_reducible refine (MustL_ok _ _ _ _).mono ?_); rintro e w3 ⟨rfl, rfl⟩)
    | (go_at_call 60; (with_reducible refine (Texts_any HR2.out HCL.out HC.out (HW.out.on HB2.out)).mono ?_); rintro e w4 ⟨rfl, hb4⟩; have HB4 := Lib.hid (HB2.out.trans (hb4.mono HB2.out.size)); clear hb4)
    | fail)
  go_ret
  exact ⟨rfl, HB4.out⟩
theorem sumL_byte (a : Int) (h : is32 a) : ∀ x ∈ sumL a, 0 ≤ x ∧ x ≤ 255 := by
  have h1 := h.1; have h2 := h.2
  intro x hx
  simp only [sumL, List.mem_cons, List.not_mem_nil, or_false] at hx
  rcases hx with rfl | rfl | rfl | rfl <;> omega
theorem sum_cells (a : Int) : (#[.int .u8 (a / 16777216), .int .u8 (a / 65536 % 256), .int .u8 (a / 256 % 256), .int .u8 (a % 256)] : Array Value).toList = (sumL a).map (Value.int .u8) := rfl
set_option maxRecDepth 100000 in
theorem Sum_do (h : Tk W T m S w) (hw : HStr W) (hc : w.cell? ⟨g, 0, none⟩ = some (.string s)) (hs : s.size ≤ 2097152) :
    Calls Tryz.prog 68 #[deskV T, .slice (some ⟨g, 0, none⟩) 1 c] w fun e w' => e = endA (sumX (addrO s.data.toList)) ∧ Below w.heap.size w w' := by
  have hgl := lt_of_cellG hc
  have hng : ¬ w.heap.size = g := by omega
  have hb0 := (Below.refl w.heap.size w).alloc (Nat.le_refl _) (.cells #[.pointer (some ⟨T, 0, none⟩)] 40)
  have c1 : (w.alloc (.cells #[.pointer (some ⟨T, 0, none⟩)] 40)).cell? ⟨g, 0, none⟩ = some (.string s) := (hb0.cell (p := ⟨g, 0, none⟩) hgl).trans hc
  have HB0 := Lib.hid hb0
  have HW : Hid (HStr w) := Lib.hid (hw.below h.bel (Nat.le_refl _))
  clear h hb0 hw
  rcases addrO_cases s.data.toList with ⟨a, ha, hsn, e⟩ | ⟨hno, e⟩
  · rw [e]
    have HSN := Lib.hid hsn
    have HI : Hid (is32 (a : Int)) := Lib.hid ⟨by omega, by omega⟩
    have hr := S16_rng (sumL a)
    obtain ⟨q, hq⟩ := Int.eq_ofNat_of_zero_le hr.1
    have HQ := Lib.hid hq
    have hq2 : q ≤ 65535 := by have := hr.2; omega
    have hX : sumX (some a) = .ok (dd q) := by show Except.ok (dd (S16 (sumL (a : Int))).toNat) = _; rw [hq]; rfl
    rw [hX]
    clear hsn e hr hq hX
    go_enter Tryz.func68, Tryz.ntmps68
    go_wp2_with (first
      | (go_at_call 56; (with_reducible refine (WAddr_ok a s _ (HW.out.on HB0.out) ha HSN.out).mono ?_); rintro e w1 ⟨rfl, hb1⟩; have HB1 := Lib.hid (HB0.out.trans (hb1.mono HB0.out.size)); clear hb1)
      | (go_at_call 69; (with_reducible refine (Sum_any _ 4 4 (sumL (a : Int)) _ _ (Bytes.new w1 5 _ (sumL (a : Int)) (sum_cells (a : Int)) (sumL_byte (a : Int) HI.out)) rfl (by omega)).mono ?_); rintro e w2 ⟨rfl, rfl⟩; rw [HQ.out])
      | (go_at_call 51; (with_reducible refine (Itoa_n q _ ((HW.out.on HB1.out).alloc _) (by omega)).mono ?_); rintro e w3 ⟨rfl, hb3⟩; have HB3 := Lib.hid ((HB1.out.alloc HB1.out.size _).trans (hb3.mono (by have := HB1.out.size; simp; omega))); clear hb3)
      | fail)
    go_ret
    exact ⟨rfl, HB3.out⟩
  · rw [e]
    have HNO := Lib.hid hno
    clear hno e
    go_enter Tryz.func68, Tryz.ntmps68
    go_wp2_with (first
      | (go_at_call 56; (with_reducible refine (WAddr_bad s _ (HW.out.on HB0.out) hs HNO.out).mono ?_); rintro e w1 ⟨rfl, hb1⟩; have HB1 := Lib.hid (HB0.out.trans (hb1.mono HB0.out.size)); clear hb1)
      | fail)
    exact ⟨rfl, rfl, HB1.out⟩
end
end Go.Proofs.YtgdlkjahlajcpaaGreatDoor
