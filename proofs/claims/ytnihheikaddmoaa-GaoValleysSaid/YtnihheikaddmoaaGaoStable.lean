/- waywardenlaw5.GaoStable. -/
import Derived.Test.YtnihheikaddmoaaGaoV
import Derived.Deep.DeepCutAuto
namespace Go.Proofs.Ytnihheikaddmoaa
open Go.ChangeShapes Go.WideShapes Go.ChangeAt Go.RowKit Ga
set_option linter.unusedVariables false
set_option linter.unusedSimpArgs false
theorem OwnW.r1 {w : World} {base : Nat} {A : Option Addr} {n c : Nat} {xs : List Ga.Way} (h : OwnW w base (.slice A n c) xs) : R1 rdWays w (.slice A n c) xs := RdLaw.mono h.read (fun b hb => hb.2)
theorem OwnW.val {w : World} {base : Nat} {v : Value} {xs : List Ga.Way} (h : OwnW w base v xs) : ∃ A n c, v = .slice A n c ∧ R1 rdWays w (.slice A n c) xs := by
  obtain ⟨A, c, rfl⟩ := h.form
  exact ⟨A, _, c, rfl, h.r1⟩
theorem wy_get {T : List Ga.Way} {k : Nat} {x : Ga.Way} (h : T[k]? = some x) : x = wy T k := (wy_at h).symm
theorem one_r1 {w : World} {g : Nat} {x : Int} {t : TypeId} (h : w.heap[g]? = some (.cells #[.int .i64 x] t (0, 0))) (hx : (Lit.int .i64 x).wf = true) : R1 (RdSlice 1 (rdInt .i64)) w (.slice (some ⟨g, 0, none⟩) 1 1) [x] :=
  R1.of_block (k := .i64) (n := 1) (xs := [x]) h rfl rfl (by decide) (by intro y hy; simp at hy; subst hy; exact hx)
set_option maxRecDepth 100000 in
set_option maxHeartbeats 4000000 in
theorem GaoStable_out {w : World} {n tz k : Int} {A : Option Addr} {m c : Nat}
    (hW : ∀ w', Below w.heap.size w w' → Calls Try.prog 8 #[.int .i64 n, .slice A m c, .int .i64 tz] w' fun e w'' => e = .returned (.tuple #[.slice none 0 0, .iface 45 (.int .i64 k)]) ∧ Below w'.heap.size w' w'') :
    Calls Try.prog 3 #[.int .i64 n, .slice A m c, .int .i64 tz] w fun e w' => e = .returned (.bool true) ∧ Below w.heap.size w w' := by
  have HW := Lib.hid hW
  clear hW
  go_enter Try.func3, Try.ntmps3
  go_wp2_with fail
  go_at_call 7
  (with_reducible refine (dealt_any _).mono ?_)
  rintro e w1 ⟨rfl, hb1⟩
  have HB1 := Lib.hid hb1
  clear hb1
  go_wp2_with fail
  go_at_call 8
  (with_reducible refine (HW.out _ HB1.out).mono ?_)
  rintro e w2 ⟨rfl, hb2⟩
  have HB2 := Lib.hid (HB1.out.trans (hb2.mono HB1.out.size))
  clear hb2
  go_wp2
  go_ret
  exact ⟨rfl, HB2.out⟩
set_option maxRecDepth 100000 in
set_option maxHeartbeats 16000000 in
theorem GaoStable_in {w : World} {n tz : Nat} {A : Option Addr} {m c : Nat} {d : List Deal} (hd : R1 rdDeals w (.slice A m c) d) (he : dealE n d = 0) (ok : OkG n d) (hto : tz < n) :
    Calls Try.prog 3 #[.int .i64 n, .slice A m c, .int .i64 tz] w fun e w' => e = .returned (.bool true) ∧ Below w.heap.size w w' := by
  have HD := Lib.hid hd
  have HE := Lib.hid he
  have HOK := Lib.hid ok
  have h8 := ok.eight
  clear hd he ok
  go_enter Try.func3, Try.ntmps3
  go_wp2_with fail
  go_at_call 7
  (with_reducible refine (dealt_any _).mono ?_)
  rintro e w1 ⟨rfl, hb1⟩
  have HB1 := Lib.hid hb1
  have HD1 := Lib.hid (HD.out.below hb1)
  clear hb1
  go_wp2_with fail
  go_at_call 8
  (with_reducible refine (Ways_yes HD1.out HE.out HOK.out hto).mono ?_)
  rintro e w2 ⟨g, T, rfl, hws, hr, hsm, hb2⟩
  have HB2 := Lib.hid (HB1.out.trans (hb2.mono HB1.out.size))
  have s2 := HB2.out.size
  have HD2 := Lib.hid (HD1.out.below hb2)
  have HT := Lib.hid (hws.read (by omega))
  have HR := Lib.hid hr
  have HSM : Hid (∀ x ∈ T, x.2.length ≤ 17592186043904) := Lib.hid (fun x hx => by have := Small.len hsm h8 x hx; omega)
  clear hb2 hws hr hsm
  go_wp2
  go_loopw [10] (fun t wr => ∃ k : Nat, k ≤ n ∧ t = .int .i64 k ∧ Below w2.heap.size w2 wr ∧ Below w.heap.size w wr) (fun t _ => n - (intOf t).toNat)
  case atStart => exact ⟨0, Nat.zero_le _, rfl, Below.refl _ _, HB2.out⟩
  case round =>
    obtain ⟨k, hk, rfl, hb, hbw⟩ := hrel
    have HB := Lib.hid hb
    have HBW := Lib.hid hbw
    have s3 := hb.size
    have s4 := hbw.size
    clear hb hbw
    by_cases hlt : k < n
    · have HD3 := Lib.hid (HD2.out.below HB.out)
      have HT3 := Lib.hid (HT.out.below HB.out)
      go_wp2_with fail
      go_at_call 10
      (with_reducible refine (OffersOf_any HD3.out HOK.out HT3.out hlt HSM.out).mono ?_)
      rintro e w3 ⟨v3, rfl, hown3, hb3⟩
      obtain ⟨A3, n3, c3, rfl, hr3⟩ := hown3.val
      have HR3 := Lib.hid hr3
      have HB3 := Lib.hid (HB.out.trans (hb3.mono s3))
      have HBW3 := Lib.hid (HBW.out.trans (hb3.mono s4))
      clear hown3 hr3 hb3
      go_wp2_with fail
      go_at_call 9
      (with_reducible refine (BestOffer_any HR3.out).mono ?_)
      rintro e w4 ⟨A4, n4, c4, rfl, hw4, hr4, hb4⟩
      obtain ⟨⟨u, q⟩, hz⟩ : ∃ z, bestP (offersP (WL d) n T k) = z := ⟨_, rfl⟩
      rw [hz] at hw4 hr4 ⊢
      have s5 := HB3.out.size
      have s6 := HBW3.out.size
      have HR4 := Lib.hid (hr4.below hb4)
      have HB4 := Lib.hid (HB3.out.trans (hb4.mono s5))
      have HBW4 := Lib.hid (HBW3.out.trans (hb4.mono s6))
      have HZ := Lib.hid hz
      clear hw4 hr4 hb4 hz HB3 HBW3 HR3 HB HBW HD3 HT3
      have s7 := HB4.out.size
      have s8 := HBW4.out.size
      by_cases hkt : k = tz
      · subst hkt
        have t1 : ((k : Int) == (k : Int)) = true := by simp
        have HWY : Hid (wy T k = (0, [(k : Int)])) := Lib.hid HR.out.dest
        obtain ⟨hx5, hy5⟩ := box2 (w := w4) (o1 := .cells #[.int .i64 0, .slice (some ⟨w4.heap.size + 1, 0, none⟩) 1 1] 31) (o2 := .cells #[.int .i64 k] 3) (Below.refl _ _)
        have HX5 := Lib.hid hx5
        have HQ5 := Lib.hid (one_r1 hy5 (WalkArith.wf_i64 (by omega)))
        have HB5 := Lib.hid (below_box2 w4 (.cells #[.int .i64 0, .slice (some ⟨w4.heap.size + 1, 0, none⟩) 1 1] 31) (.cells #[.int .i64 k] 3))
        clear hx5 hy5
        obtain ⟨e0, e1, g0, g1⟩ := row2 (heap_alloc_new w4 (.cells #[.int .i64 u, .slice A4 n4 c4] 31))
        go_upto_region 15 with (fail)
        clear e0 e1 g0 g1
        obtain ⟨gc, hgc⟩ : ∃ gc, w4.heap.size + 1 = gc := ⟨_, rfl⟩
        rw [hgc] at HX5 HQ5 HB5 ⊢
        clear hgc
        generalize ((w4.alloc (.cells #[.int .i64 0, .slice (some ⟨gc, 0, none⟩) 1 1] 31)).alloc (.cells #[.int .i64 k] 3)) = w5 at *
        obtain ⟨b, o, t', p', A1, c1, eA, hbb, HX, _, hp, d0, d1⟩ := RdSlice.atW HT.out hlt
        obtain ⟨rfl, rfl⟩ : (0 : Int) = t' ∧ [(k : Int)] = p' := by
          have := HWY.out.symm.trans (wy_get HX.out).symm
          simpa only [Prod.mk.injEq] using this
        simp only [Option.some.injEq, Addr.mk.injEq, and_true] at eA
        obtain ⟨rfl, rfl⟩ := eA
        simp only [Nat.zero_add] at d0 d1
        have f0 := ((HB4.out.trans (HB5.out.mono s7)).cell hbb).trans d0
        have f1 := ((HB4.out.trans (HB5.out.mono s7)).cell hbb).trans d1
        have HP := Lib.hid (R1.below (show R1 (RdSlice 1 (rdInt .i64)) w2 (.slice A1 _ c1) _ from hp) (HB4.out.trans (HB5.out.mono s7)))
        obtain ⟨x0, x1, -, -⟩ := row2 HX5.out
        have j0 := fun d os => cell_regrown f0 d os
        have j1 := fun d os => cell_regrown f1 d os
        have j2 := fun d os => cell_regrown x0 d os
        have j3 := fun d os => cell_regrown x1 d os
        have HB6 := Lib.hid (HB4.out.trans (HB5.out.mono s7))
        have HBW6 := Lib.hid (HBW4.out.trans (HB5.out.mono s8))
        have s9 := HB6.out.size
        have s10 := HBW6.out.size
        have i0 : (0 : Int) ≤ (k : Int) := by omega
        have i1 : (k : Int) < (n : Int) := by omega
        obtain ⟨np, hnp⟩ : ∃ np, List.length [(k : Int)] = np := ⟨_, rfl⟩
        rw [hnp] at j1 HP
        clear f0 f1 d0 d1 hp x0 x1 hnp HX HWY
        go_wp2
        refine wp_region_quiet_below (by kernel_rfl) (by kernel_rfl) ?_
        repeat (go_big_quiet_step (first | (with_reducible exact Way_same HP.out HQ5.out _ _) | fail))
        refine wpQuiet_nil ?_
        intro w6 hw'
        obtain ⟨⟨dq, osq⟩, hw''⟩ := hw'
        have hb6 : Below w5.heap.size w5 w6 := by rw [hw'']; exact below_regrown w5 dq osq
        have HB7 := Lib.hid (HB6.out.trans (hb6.mono s9))
        have HBW7 := Lib.hid (HBW6.out.trans (hb6.mono s10))
        clear j0 j1 j2 j3 hw'' hb6 HP HQ5 HX5 HB5 HB6 HBW6
        go_wp2
        go_roundw
        case rel => exact ⟨k + 1, by omega, by go_num, HB7.out, HBW7.out⟩
        case measure => simp [intOf]; omega
      · have t1 : ((k : Int) == (tz : Int)) = false := by simp; omega
        have HWY : Hid (wy T k = (u, q)) := Lib.hid ((HR.out.best k hlt hkt).trans HZ.out)
        have HX5 := Lib.hid (heap_alloc_new w4 (.cells #[.int .i64 u, .slice A4 n4 c4] 31))
        have HQ5 := Lib.hid (HR4.out.alloc (.cells #[.int .i64 u, .slice A4 n4 c4] 31))
        have HB5 := Lib.hid ((Below.refl w4.heap.size w4).alloc (Nat.le_refl _) (.cells #[.int .i64 u, .slice A4 n4 c4] 31))
        go_upto_region 15 with (fail)
        generalize (w4.alloc (.cells #[.int .i64 u, .slice A4 n4 c4] 31)) = w5 at *
        obtain ⟨b, o, t', p', A1, c1, eA, hbb, HX, _, hp, d0, d1⟩ := RdSlice.atW HT.out hlt
        obtain ⟨rfl, rfl⟩ : u = t' ∧ q = p' := by
          have := HWY.out.symm.trans (wy_get HX.out).symm
          simpa only [Prod.mk.injEq] using this
        simp only [Option.some.injEq, Addr.mk.injEq, and_true] at eA
        obtain ⟨rfl, rfl⟩ := eA
        simp only [Nat.zero_add] at d0 d1
        have f0 := ((HB4.out.trans (HB5.out.mono s7)).cell hbb).trans d0
        have f1 := ((HB4.out.trans (HB5.out.mono s7)).cell hbb).trans d1
        have HP := Lib.hid (R1.below (show R1 (RdSlice 1 (rdInt .i64)) w2 (.slice A1 _ c1) _ from hp) (HB4.out.trans (HB5.out.mono s7)))
        obtain ⟨x0, x1, -, -⟩ := row2 HX5.out
        have j0 := fun d os => cell_regrown f0 d os
        have j1 := fun d os => cell_regrown f1 d os
        have j2 := fun d os => cell_regrown x0 d os
        have j3 := fun d os => cell_regrown x1 d os
        have HB6 := Lib.hid (HB4.out.trans (HB5.out.mono s7))
        have HBW6 := Lib.hid (HBW4.out.trans (HB5.out.mono s8))
        have s9 := HB6.out.size
        have s10 := HBW6.out.size
        have i0 : (0 : Int) ≤ (k : Int) := by omega
        have i1 : (k : Int) < (n : Int) := by omega
        obtain ⟨np, hnp⟩ : ∃ np, List.length q = np := ⟨_, rfl⟩
        rw [hnp] at j1 HP
        clear f0 f1 d0 d1 hp x0 x1 hnp HX HWY
        go_wp2
        refine wp_region_quiet_below (by kernel_rfl) (by kernel_rfl) ?_
        repeat (go_big_quiet_step (first | (with_reducible exact Way_same HP.out HQ5.out _ _) | fail))
        refine wpQuiet_nil ?_
        intro w6 hw'
        obtain ⟨⟨dq, osq⟩, hw''⟩ := hw'
        have hb6 : Below w5.heap.size w5 w6 := by rw [hw'']; exact below_regrown w5 dq osq
        have HB7 := Lib.hid (HB6.out.trans (hb6.mono s9))
        have HBW7 := Lib.hid (HBW6.out.trans (hb6.mono s10))
        clear j0 j1 j2 j3 hw'' hb6 HP HQ5 HX5 HB5 HB6 HBW6
        go_wp2
        go_roundw
        case rel => exact ⟨k + 1, by omega, by go_num, HB7.out, HBW7.out⟩
        case measure => simp [intOf]; omega
    · have e : k = n := by omega
      subst e
      go_wp2
      go_ret
      exact ⟨rfl, HBW.out⟩
theorem GaoStable_walk (w : World) (n : Int) (bn : -9223372036854775808 ≤ n ∧ n ≤ 9223372036854775807) (A : Option Addr) (m c : Nat) (l : List Deal) (rr1 : RV rdDeals w (.slice A m c) l) (q1 : l.length * 24 ≤ reachBytes ∧ ∀ x ∈ l, True ∧ True ∧ True) (i : Int) (bi : -9223372036854775808 ≤ i ∧ i ≤ 9223372036854775807) :
    Calls Try.prog 3 #[.int .i64 n, .slice A m c, .int .i64 i] w fun e w' => e = .returned (.bool true) ∧ Below w.heap.size w w' := by
  have hr : R1 rdDeals w (.slice A m c) l := rr1
  by_cases h0 : dealE n l = 0
  · obtain ⟨N, rfl, hok⟩ := dealE_ok h0
    by_cases hi : i < 0 ∨ (N : Int) ≤ i
    · exact GaoStable_out (k := 1) (fun w' hb => Ways_out (hr.below hb) h0 hi)
    · obtain ⟨I, rfl⟩ := Int.eq_ofNat_of_zero_le (show 0 ≤ i by omega)
      exact GaoStable_in hr h0 hok (by omega)
  · exact GaoStable_out (k := dealE n l) (fun w' hb => Ways_bad (hr.below hb) rfl h0)
end Go.Proofs.Ytnihheikaddmoaa
