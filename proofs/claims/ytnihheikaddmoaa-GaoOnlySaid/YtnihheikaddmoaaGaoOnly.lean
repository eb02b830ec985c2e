/- waywardenlaw5.GaoOnly. -/
import Derived.Test.YtnihheikaddmoaaGaoStable
import Derived.Deep.DeepCutAuto
namespace Go.Proofs.Ytnihheikaddmoaa
open Go.ChangeShapes Go.WideShapes Go.ChangeAt Go.RowKit Ga
set_option linter.unusedVariables false
set_option linter.unusedSimpArgs false
set_option maxRecDepth 100000 in
set_option maxHeartbeats 4000000 in
theorem GaoOnly_out {w : World} {n tz k : Int} {A A' : Option Addr} {m c m' c' : Nat}
    (hW : ∀ w', Below w.heap.size w w' → Calls Try.prog 8 #[.int .i64 n, .slice A m c, .int .i64 tz] w' fun e w'' => e = .returned (.tuple #[.slice none 0 0, .iface 45 (.int .i64 k)]) ∧ Below w'.heap.size w' w'') :
    Calls Try.prog 4 #[.int .i64 n, .slice A m c, .int .i64 tz, .slice A' m' c'] w fun e w' => e = .returned (.bool true) ∧ Below w.heap.size w w' := by
  have HW := Lib.hid hW
  clear hW
  go_enter Try.func4, Try.ntmps4
  go_wp2_with fail
  go_at_call 7
  (with_reducible refine (dealt_any _).mono ?_)
  rintro e w1 ⟨rfl, hb1⟩
  have HB1 := Lib.hid hb1
  clear hb1
  go_wp2_with fail
  go_at_call 8
  (with_reducible refine (HW.out _ HB1.out).mono ?_)
  rintro e w2 ⟨rfl, hb2⟩
  have HB2 := Lib.hid (HB1.out.trans (hb2.mono HB1.out.size))
  clear hb2
  go_wp2
  go_ret
  exact ⟨rfl, HB2.out⟩
def sameW (x y : Ga.Way) : Bool := decide (x = y)
theorem Way_s {w : World} {A A' : Option Addr} {n n' c c' : Nat} {t u : Int} {p q : List Int} {r : Bool} (hp : R1 (RdSlice 1 (rdInt .i64)) w (.slice A n c) p) (hq : R1 (RdSlice 1 (rdInt .i64)) w (.slice A' n' c') q) (hr : sameW (t, p) (u, q) = r) (d : Nat) (os : Array Obj) :
    Calls Try.prog 11 #[.agg #[.int .i64 t, .slice A n c], .agg #[.int .i64 u, .slice A' n' c']] (Sort.grow (redrawn w d) os) fun e w'' => e = .returned (.bool r) ∧ ∃ p : Regrown, w'' = Sort.grow (redrawn w p.d) p.os :=
  Way_c hp hq hr d os
/-- what a node is to have -/
def wantP (W : Nat → Nat → Int) (n tz : Nat) (V : List Ga.Way) (k : Nat) : Ga.Way := if k = tz then (0, [(tz : Int)]) else bestP (offersP W n V k)
theorem want_rest {W : Nat → Nat → Int} {n tz : Nat} {V : List Ga.Way} (hl : V.length = n) (hto : tz < n) (h : ∀ j, j < n → wy V j = wantP W n tz V j) : Ga.Rest W n tz V :=
  ⟨hl, by rw [h tz hto]; unfold wantP; rw [if_pos rfl], fun i hi hne => by rw [h i hi]; unfold wantP; rw [if_neg hne]⟩
def WantsTo (W : Nat → Nat → Int) (n tz : Nat) (V : List Ga.Way) (k : Nat) : Prop := ∀ j, j < k → wy V j = wantP W n tz V j
theorem WantsTo.next {W : Nat → Nat → Int} {n tz : Nat} {V : List Ga.Way} {k : Nat} {x y : Ga.Way} (h : WantsTo W n tz V k) (hx : V[k]? = some x) (hy : wantP W n tz V k = y) (e : sameW x y = true) : WantsTo W n tz V (k + 1) := by
  intro j hj
  by_cases hlt : j < k
  · exact h j hlt
  · obtain rfl : j = k := by omega
    rw [hy, ← wy_get hx]
    exact of_decide_eq_true e
set_option maxRecDepth 100000 in
set_option maxHeartbeats 16000000 in
theorem GaoOnly_ne {w : World} {n tz : Nat} {A Aw : Option Addr} {m c cw mw : Nat} {d : List Deal} {V : List Ga.Way} (hne : mw ≠ n) (hd : R1 rdDeals w (.slice A m c) d) (he : dealE n d = 0) (ok : OkG n d) (hto : tz < n) :
    Calls Try.prog 4 #[.int .i64 n, .slice A m c, .int .i64 tz, .slice Aw mw cw] w fun e w' => e = .returned (.bool true) ∧ Below w.heap.size w w' := by
  have HD := Lib.hid hd
  have HE := Lib.hid he
  have HOK := Lib.hid ok
  have h8 := ok.eight
  clear hd he ok
  go_enter Try.func4, Try.ntmps4
  go_wp2_with fail
  go_at_call 7
  (with_reducible refine (dealt_any _).mono ?_)
  rintro e w1 ⟨rfl, hb1⟩
  have HB1 := Lib.hid hb1
  have HD1 := Lib.hid (HD.out.below hb1)
  clear hb1
  go_wp2_with fail
  go_at_call 8
  (with_reducible refine (Ways_yes HD1.out HE.out HOK.out hto).mono ?_)
  rintro e w2 ⟨g, T, rfl, hws, hr, hsm, hb2⟩
  have HB2 := Lib.hid (HB1.out.trans (hb2.mono HB1.out.size))
  have s2 := HB2.out.size
  have HD2 := Lib.hid (HD1.out.below hb2)
  have t0 : ((mw : Int) != (n : Int)) = true := by simp; omega
  clear hb2 hws hr hsm
  go_wp2
  go_ret
  exact ⟨rfl, HB2.out⟩
set_option maxRecDepth 100000 in
set_option maxHeartbeats 16000000 in
theorem GaoOnly_in {w : World} {n tz : Nat} {A Aw : Option Addr} {m c cw : Nat} {d : List Deal} {V : List Ga.Way} (hv : R1 rdWays w (.slice Aw n cw) V) (hvs : ∀ x ∈ V, x.2.length ≤ 17592186043904) (hd : R1 rdDeals w (.slice A m c) d) (he : dealE n d = 0) (ok : OkG n d) (hto : tz < n) :
    Calls Try.prog 4 #[.int .i64 n, .slice A m c, .int .i64 tz, .slice Aw n cw] w fun e w' => e = .returned (.bool true) ∧ Below w.heap.size w w' := by
  have HD := Lib.hid hd
  have HE := Lib.hid he
  have HOK := Lib.hid ok
  have h8 := ok.eight
  have HV := Lib.hid hv
  have HVS := Lib.hid hvs
  have HVL := Lib.hid (RdSlice.len hv).1
  have hcw : cw ≤ 9223372036854775807 := by have := (RdSlice.len hv).2.2; unfold maxLen at this; omega
  clear hd he ok hv hvs
  go_enter Try.func4, Try.ntmps4
  go_wp2_with fail
  go_at_call 7
  (with_reducible refine (dealt_any _).mono ?_)
  rintro e w1 ⟨rfl, hb1⟩
  have HB1 := Lib.hid hb1
  have HD1 := Lib.hid (HD.out.below hb1)
  clear hb1
  go_wp2_with fail
  go_at_call 8
  (with_reducible refine (Ways_yes HD1.out HE.out HOK.out hto).mono ?_)
  rintro e w2 ⟨g, T, rfl, hws, hr, hsm, hb2⟩
  have HB2 := Lib.hid (HB1.out.trans (hb2.mono HB1.out.size))
  have s2 := HB2.out.size
  have HD2 := Lib.hid (HD1.out.below hb2)
  have HT := Lib.hid (hws.read (by omega))
  have HR := Lib.hid hr
  have HVV := Lib.hid (HV.out.below HB2.out)
  have t0 : ((n : Int) != (n : Int)) = false := by simp
  clear hb2 hws hr hsm
  go_wp2
  go_loopw [12] (fun t wr => ∃ k : Nat, k ≤ n ∧ t = .int .i64 k ∧ Below w2.heap.size w2 wr ∧ Below w.heap.size w wr ∧ WantsTo (WL d) n tz V k) (fun t _ => n - (intOf t).toNat)
  case atStart => exact ⟨0, Nat.zero_le _, rfl, Below.refl _ _, HB2.out, fun j hj => by omega⟩
  case round =>
    obtain ⟨k, hk, rfl, hb, hbw, hwant⟩ := hrel
    have HWANT := Lib.hid hwant
    have HB := Lib.hid hb
    have HBW := Lib.hid hbw
    have s3 := hb.size
    have s4 := hbw.size
    clear hb hbw hwant
    by_cases hlt : k < n
    · have HD3 := Lib.hid (HD2.out.below HB.out)
      have HT3 := Lib.hid (HVV.out.below HB.out)
      go_wp2_with fail
      go_at_call 10
      (with_reducible refine (OffersOf_any HD3.out HOK.out HT3.out hlt HVS.out).mono ?_)
      rintro e w3 ⟨v3, rfl, hown3, hb3⟩
      obtain ⟨A3, n3, c3, rfl, hr3⟩ := hown3.val
      have HR3 := Lib.hid hr3
      have HB3 := Lib.hid (HB.out.trans (hb3.mono s3))
      have HBW3 := Lib.hid (HBW.out.trans (hb3.mono s4))
      clear hown3 hr3 hb3
      go_wp2_with fail
      go_at_call 9
      (with_reducible refine (BestOffer_any HR3.out).mono ?_)
      rintro e w4 ⟨A4, n4, c4, rfl, hw4, hr4, hb4⟩
      obtain ⟨⟨u, q⟩, hz⟩ : ∃ z, bestP (offersP (WL d) n V k) = z := ⟨_, rfl⟩
      rw [hz] at hw4 hr4 ⊢
      have s5 := HB3.out.size
      have s6 := HBW3.out.size
      have HR4 := Lib.hid (hr4.below hb4)
      have HB4 := Lib.hid (HB3.out.trans (hb4.mono s5))
      have HBW4 := Lib.hid (HBW3.out.trans (hb4.mono s6))
      have HZ := Lib.hid hz
      clear hw4 hr4 hb4 hz HB3 HBW3 HR3 HB HBW HD3 HT3
      have s7 := HB4.out.size
      have s8 := HBW4.out.size
      by_cases hkt : k = tz
      · subst hkt
        have t1 : ((k : Int) == (k : Int)) = true := by simp
        have HWY : Hid (wantP (WL d) n k V k = (0, [(k : Int)])) := Lib.hid (by unfold wantP; rw [if_pos rfl])
        obtain ⟨hx5, hy5⟩ := box2 (w := w4) (o1 := .cells #[.int .i64 0, .slice (some ⟨w4.heap.size + 1, 0, none⟩) 1 1] 31) (o2 := .cells #[.int .i64 k] 3) (Below.refl _ _)
        have HX5 := Lib.hid hx5
        have HQ5 := Lib.hid (one_r1 hy5 (WalkArith.wf_i64 (by omega)))
        have HB5 := Lib.hid (below_box2 w4 (.cells #[.int .i64 0, .slice (some ⟨w4.heap.size + 1, 0, none⟩) 1 1] 31) (.cells #[.int .i64 k] 3))
        clear hx5 hy5
        obtain ⟨e0, e1, g0, g1⟩ := row2 (heap_alloc_new w4 (.cells #[.int .i64 u, .slice A4 n4 c4] 31))
        go_upto_region 13 with (fail)
        clear e0 e1 g0 g1
        obtain ⟨gc, hgc⟩ : ∃ gc, w4.heap.size + 1 = gc := ⟨_, rfl⟩
        rw [hgc] at HX5 HQ5 HB5 ⊢
        clear hgc
        generalize ((w4.alloc (.cells #[.int .i64 0, .slice (some ⟨gc, 0, none⟩) 1 1] 31)).alloc (.cells #[.int .i64 k] 3)) = w5 at *
        obtain ⟨b, o, t', p', A1, c1, eA, hbb, HX, _, hp, d0, d1⟩ := RdSlice.atW HVV.out hlt
        subst eA
        obtain ⟨z, hz'⟩ : ∃ z, sameW (t', p') ((0 : Int), [(k : Int)]) = z := ⟨_, rfl⟩
        have HS := Lib.hid hz'
        clear hz'
        have f0 := ((HB4.out.trans (HB5.out.mono s7)).cell hbb).trans d0
        have f1 := ((HB4.out.trans (HB5.out.mono s7)).cell hbb).trans d1
        have HP := Lib.hid (R1.below (show R1 (RdSlice 1 (rdInt .i64)) w2 (.slice A1 _ c1) _ from hp) (HB4.out.trans (HB5.out.mono s7)))
        obtain ⟨x0, x1, -, -⟩ := row2 HX5.out
        have j0 := fun d os => cell_regrown f0 d os
        have j1 := fun d os => cell_regrown f1 d os
        have j2 := fun d os => cell_regrown x0 d os
        have j3 := fun d os => cell_regrown x1 d os
        have HB6 := Lib.hid (HB4.out.trans (HB5.out.mono s7))
        have HBW6 := Lib.hid (HBW4.out.trans (HB5.out.mono s8))
        have s9 := HB6.out.size
        have s10 := HBW6.out.size
        have i0 : (0 : Int) ≤ (k : Int) := by omega
        have i1 : (k : Int) < (n : Int) := by omega
        obtain ⟨np, hnp⟩ : ∃ np, List.length p' = np := ⟨_, rfl⟩
        rw [hnp] at j1 HP
        clear f0 f1 d0 d1 hp x0 x1 hnp
        go_wp2
        refine wp_region_quiet_below (by kernel_rfl) (by kernel_rfl) ?_
        repeat (go_big_quiet_step (first | (with_reducible exact Way_s HP.out HQ5.out HS.out _ _) | fail))
        refine wpQuiet_nil ?_
        intro w6 hw'
        obtain ⟨⟨dq, osq⟩, hw''⟩ := hw'
        have hb6 : Below w5.heap.size w5 w6 := by rw [hw'']; exact below_regrown w5 dq osq
        have HB7 := Lib.hid (HB6.out.trans (hb6.mono s9))
        have HBW7 := Lib.hid (HBW6.out.trans (hb6.mono s10))
        clear j0 j1 j2 j3 hw'' hb6 HP HQ5 HX5 HB5 HB6 HBW6
        cases z
        · go_wp2
          go_ret
          exact ⟨rfl, HBW7.out⟩
        · have HNX := Lib.hid (HWANT.out.next HX.out HWY.out HS.out)
          clear HS HX HWY HWANT
          go_wp2
          go_roundw
          case rel => exact ⟨k + 1, by omega, by go_num, HB7.out, HBW7.out, HNX.out⟩
          case measure => simp [intOf]; omega
      · have t1 : ((k : Int) == (tz : Int)) = false := by simp; omega
        have HWY : Hid (wantP (WL d) n tz V k = (u, q)) := Lib.hid (by unfold wantP; rw [if_neg hkt]; exact HZ.out)
        have HX5 := Lib.hid (heap_alloc_new w4 (.cells #[.int .i64 u, .slice A4 n4 c4] 31))
        have HQ5 := Lib.hid (HR4.out.alloc (.cells #[.int .i64 u, .slice A4 n4 c4] 31))
        have HB5 := Lib.hid ((Below.refl w4.heap.size w4).alloc (Nat.le_refl _) (.cells #[.int .i64 u, .slice A4 n4 c4] 31))
        go_upto_region 13 with (fail)
        generalize (w4.alloc (.cells #[.int .i64 u, .slice A4 n4 c4] 31)) = w5 at *
        obtain ⟨b, o, t', p', A1, c1, eA, hbb, HX, _, hp, d0, d1⟩ := RdSlice.atW HVV.out hlt
        subst eA
        obtain ⟨z, hz'⟩ : ∃ z, sameW (t', p') (u, q) = z := ⟨_, rfl⟩
        have HS := Lib.hid hz'
        clear hz'
        have f0 := ((HB4.out.trans (HB5.out.mono s7)).cell hbb).trans d0
        have f1 := ((HB4.out.trans (HB5.out.mono s7)).cell hbb).trans d1
        have HP := Lib.hid (R1.below (show R1 (RdSlice 1 (rdInt .i64)) w2 (.slice A1 _ c1) _ from hp) (HB4.out.trans (HB5.out.mono s7)))
        obtain ⟨x0, x1, -, -⟩ := row2 HX5.out
        have j0 := fun d os => cell_regrown f0 d os
        have j1 := fun d os => cell_regrown f1 d os
        have j2 := fun d os => cell_regrown x0 d os
        have j3 := fun d os => cell_regrown x1 d os
        have HB6 := Lib.hid (HB4.out.trans (HB5.out.mono s7))
        have HBW6 := Lib.hid (HBW4.out.trans (HB5.out.mono s8))
        have s9 := HB6.out.size
        have s10 := HBW6.out.size
        have i0 : (0 : Int) ≤ (k : Int) := by omega
        have i1 : (k : Int) < (n : Int) := by omega
        obtain ⟨np, hnp⟩ : ∃ np, List.length p' = np := ⟨_, rfl⟩
        rw [hnp] at j1 HP
        clear f0 f1 d0 d1 hp x0 x1 hnp
        go_wp2
        refine wp_region_quiet_below (by kernel_rfl) (by kernel_rfl) ?_
        repeat (go_big_quiet_step (first | (with_reducible exact Way_s HP.out HQ5.out HS.out _ _) | fail))
        refine wpQuiet_nil ?_
        intro w6 hw'
        obtain ⟨⟨dq, osq⟩, hw''⟩ := hw'
        have hb6 : Below w5.heap.size w5 w6 := by rw [hw'']; exact below_regrown w5 dq osq
        have HB7 := Lib.hid (HB6.out.trans (hb6.mono s9))
        have HBW7 := Lib.hid (HBW6.out.trans (hb6.mono s10))
        clear j0 j1 j2 j3 hw'' hb6 HP HQ5 HX5 HB5 HB6 HBW6
        cases z
        · go_wp2
          go_ret
          exact ⟨rfl, HBW7.out⟩
        · have HNX := Lib.hid (HWANT.out.next HX.out HWY.out HS.out)
          clear HS HX HWY HWANT
          go_wp2
          go_roundw
          case rel => exact ⟨k + 1, by omega, by go_num, HB7.out, HBW7.out, HNX.out⟩
          case measure => simp [intOf]; omega
    · have e : k = n := by omega
      subst e
      have HSAME : Hid (T = V) := Lib.hid (rest_one HOK.out.okw hto HR.out (want_rest HVL.out.symm hto HWANT.out))
      have HTT := Lib.hid (HT.out.below HB.out)
      rw [HSAME.out] at HTT
      have HVW := Lib.hid (HVV.out.below HB.out)
      clear HSAME HWANT HR
      go_wp2_with fail
      go_at_call 12
      (with_reducible refine (sameWays_eq HVW.out HTT.out).mono ?_)
      rintro e w3 ⟨rfl, hb3⟩
      have HB9 := Lib.hid (HBW.out.trans (hb3.mono s4))
      clear hb3
      go_wp2
      go_ret
      exact ⟨rfl, HB9.out⟩
theorem GaoOnly_walk (w : World) (n : Int) (bn : -9223372036854775808 ≤ n ∧ n ≤ 9223372036854775807) (A : Option Addr) (m c : Nat) (l : List Deal) (rr1 : RV rdDeals w (.slice A m c) l) (q1 : l.length * 24 ≤ reachBytes ∧ ∀ x ∈ l, True ∧ True ∧ True) (i : Int) (bi : -9223372036854775808 ≤ i ∧ i ≤ 9223372036854775807)
    (Aw : Option Addr) (mw cw : Nat) (V : List Ga.Way) (rr2 : RV rdWays w (.slice Aw mw cw) V) (q2 : V.length * 32 ≤ reachBytes ∧ ∀ x ∈ V, True ∧ x.2.length * 8 ≤ reachBytes ∧ ∀ y ∈ x.2, True) :
    Calls Try.prog 4 #[.int .i64 n, .slice A m c, .int .i64 i, .slice Aw mw cw] w fun e w' => e = .returned (.bool true) ∧ Below w.heap.size w w' := by
  have hr : R1 rdDeals w (.slice A m c) l := rr1
  have hv : R1 rdWays w (.slice Aw mw cw) V := rr2
  have hvs : ∀ x ∈ V, x.2.length ≤ 17592186043904 := fun x hx => by have := (q2.2 x hx).2.1; unfold reachBytes at this; omega
  by_cases h0 : dealE n l = 0
  · obtain ⟨N, rfl, hok⟩ := dealE_ok h0
    by_cases hi : i < 0 ∨ (N : Int) ≤ i
    · exact GaoOnly_out (k := 1) (fun w' hb => Ways_out (hr.below hb) h0 hi)
    · obtain ⟨I, rfl⟩ := Int.eq_ofNat_of_zero_le (show 0 ≤ i by omega)
      by_cases hm : mw = N
      · subst hm
        exact GaoOnly_in hv hvs hr h0 hok (by omega)
      · exact GaoOnly_ne (V := V) hm hr h0 hok (by omega)
  · exact GaoOnly_out (k := dealE n l) (fun w' hb => Ways_bad (hr.below hb) rfl h0)
end Go.Proofs.Ytnihheikaddmoaa
