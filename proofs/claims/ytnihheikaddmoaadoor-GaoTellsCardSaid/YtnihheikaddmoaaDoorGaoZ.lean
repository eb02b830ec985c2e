/- GaoTells: the walk of the law (by genGT.py). -/
import Derived.Test.YtnihheikaddmoaaDoorGaoX
import Derived.Test.YtnihheikaddmoaaDoorGaoY
import Derived.Test.YtnihheikaddmoaaDoorErr
namespace Go.Proofs.YtnihheikaddmoaaDoor
open Go.ChangeShapes Go.WideShapes Go.ChangeAt Go.RowKit Ga
set_option linter.unusedVariables false
set_option linter.unusedSimpArgs false
/-- what ways are told with -/
def WaysTold (w : World) (F : Int) (e : Ending) (w' : World) : Prop := ∃ A n c, e = .returned (.tuple #[.slice A n c, errV F]) ∧ (F ≠ 0 → n = 0) ∧ Below w.heap.size w w'
/-- the world of the law: two boxes behind what came in -/
structure Tw (w : World) (o1 o2 : Obj) (w' : World) : Prop where
  bel : Below w.heap.size w w'
  ba : w'.heap[w.heap.size]? = some o1
  bb : w'.heap[w.heap.size + 1]? = some o2
theorem Tw.start (w : World) (o1 o2 : Obj) : Tw w o1 o2 ((w.alloc o1).alloc o2) := by
  obtain ⟨h1, h2⟩ := box2 (w := w) (o1 := o1) (o2 := o2) (Below.refl _ _)
  exact ⟨below_box2 w o1 o2, h1, h2⟩
theorem Tw.below {w w1 w2 : World} {o1 o2 : Obj} (h : Tw w o1 o2 w1) (hb : Below w1.heap.size w1 w2) : Tw w o1 o2 w2 :=
  ⟨h.bel.trans (hb.mono h.bel.size), below_block hb (size_of_block h.ba) h.ba, below_block hb (size_of_block h.bb) h.bb⟩
def OffTold (w : World) (G : Int) (e : Ending) (w' : World) : Prop := OffersPost w [] G e w'
theorem told_ways_bad {w : World} {n tz k : Int} {A : Option Addr} {m c : Nat} {d : List Deal} (hd : R1 rdDeals w (.slice A m c) d) (he : dealE n d = k) (h0 : k ≠ 0) : Calls Tryd.prog 8 #[.int .i64 n, .slice A m c, .int .i64 tz] w (WaysTold w k) :=
  (Ways_bad hd he h0).mono (by rintro e w' ⟨rfl, hb⟩; exact ⟨none, 0, 0, by rw [errV_ne h0], fun _ => rfl, hb⟩)
theorem told_ways_out {w : World} {n tz : Int} {A : Option Addr} {m c : Nat} {d : List Deal} (hd : R1 rdDeals w (.slice A m c) d) (he : dealE n d = 0) (h0 : tz < 0 ∨ n ≤ tz) : Calls Tryd.prog 8 #[.int .i64 n, .slice A m c, .int .i64 tz] w (WaysTold w 1) :=
  (Ways_out hd he h0).mono (by rintro e w' ⟨rfl, hb⟩; exact ⟨none, 0, 0, by rw [errno1], fun _ => rfl, hb⟩)
theorem told_ways_yes {w : World} {n tz : Int} {A : Option Addr} {m c : Nat} {d : List Deal} (hd : R1 rdDeals w (.slice A m c) d) (he : dealE n d = 0) (h0 : 0 ≤ tz) (h1 : tz < n) : Calls Tryd.prog 8 #[.int .i64 n, .slice A m c, .int .i64 tz] w (WaysTold w 0) := by
  obtain ⟨N, rfl, hok⟩ := dealE_ok he
  obtain ⟨I, rfl⟩ := Int.eq_ofNat_of_zero_le h0
  exact (Ways_yes hd he hok (by omega)).mono (by rintro e w' ⟨g, T, rfl, _, _, _, hb⟩; exact ⟨some ⟨g, 0, none⟩, N, N, by rw [errV_zero], fun h => absurd rfl h, hb⟩)
theorem told_offers_bad {w : World} {n i tz k : Int} {A Aw : Option Addr} {m c mw cw : Nat} {d : List Deal} (hd : R1 rdDeals w (.slice A m c) d) (he : dealE n d = k) (h0 : k ≠ 0) : Calls Tryd.prog 10 #[.int .i64 n, .slice A m c, .slice Aw mw cw, .int .i64 i, .int .i64 tz] w (OffersPost w [] k) :=
  (Offers_bad hd he h0).mono (by rintro e w' ⟨rfl, hb⟩; exact ⟨none, 0, 0, by rw [errV_ne h0], nil_ways _, hb⟩)
theorem told_offers_out {w : World} {n i tz : Int} {A Aw : Option Addr} {m c mw cw : Nat} {d : List Deal} (hd : R1 rdDeals w (.slice A m c) d) (he : dealE n d = 0) (h0 : i < 0 ∨ n ≤ i ∨ tz < 0 ∨ n ≤ tz) : Calls Tryd.prog 10 #[.int .i64 n, .slice A m c, .slice Aw mw cw, .int .i64 i, .int .i64 tz] w (OffersPost w [] 1) :=
  (Offers_out hd he h0).mono (by rintro e w' ⟨rfl, hb⟩; exact ⟨none, 0, 0, by rw [errno1], nil_ways _, hb⟩)
theorem told_offers_form {w : World} {n i tz : Nat} {A Aw : Option Addr} {m c mw cw : Nat} {d : List Deal} (hd : R1 rdDeals w (.slice A m c) d) (he : dealE n d = 0) (hi : i < n) (hto : tz < n) (hm : mw ≠ n) : Calls Tryd.prog 10 #[.int .i64 n, .slice A m c, .slice Aw mw cw, .int .i64 i, .int .i64 tz] w (OffersPost w [] 3) :=
  (Offers_form hd he hi hto hm).mono (by rintro e w' ⟨rfl, hb⟩; exact ⟨none, 0, 0, by rw [errV_ne (by omega)], nil_ways _, hb⟩)

set_option maxRecDepth 100000 in
set_option maxHeartbeats 16000000 in
theorem GaoTells_bad {w : World} {n i tz E : Int} {A Aw A1 A2 : Option Addr} {m c mw cw n1 c1 n2 c2 : Nat} {t1 t2 : Int} {p1 p2 : List Int} {d : List Deal} (hd : R1 rdDeals w (.slice A m c) d) (he : dealE n d = E) (h0 : E ≠ 0) (hg : HErr w)
    (h1 : R1 (RdSlice 1 (rdInt .i64)) w (.slice A1 n1 c1) p1) (h2 : R1 (RdSlice 1 (rdInt .i64)) w (.slice A2 n2 c2) p2) :
    Calls Tryd.prog 3 #[.int .i64 n, .slice A m c, .slice Aw mw cw, .int .i64 i, .int .i64 tz, .agg #[.int .i64 t1, .slice A1 n1 c1], .agg #[.int .i64 t2, .slice A2 n2 c2]] w fun e w' => e = .returned (.bool true) ∧ Below w.heap.size w w' := by
  have HD := Lib.hid hd
  have HE := Lib.hid he
  have HG := Lib.hid hg
  have H1 := Lib.hid h1
  have H2 := Lib.hid h2
  have H0 := Lib.hid h0
  have u1 : (E == 0) = false := by simpa using h0
  have u2 : (E != 0) = true := by simpa using h0
  clear h0
  obtain ⟨r, hr⟩ : ∃ r, betterB (t1, p1) (t2, p2) = r := ⟨_, rfl⟩
  have HR := Lib.hid hr
  have T0 := Lib.hid (Tw.start w (.cells #[.int .i64 t1, .slice A1 n1 c1] 26) (.cells #[.int .i64 t2, .slice A2 n2 c2] 26))
  clear hd he hg h1 h2 hr
  go_enter Tryd.func3, Tryd.ntmps3
  go_wp2_with fail
  go_at_call 4
  (with_reducible refine (dealt_any _).mono ?_)
  rintro e w1 ⟨rfl, hb⟩
  have T1 := Lib.hid (T0.out.below hb)
  clear hb T0
  go_wp2_with fail
  go_at_call 5
  (with_reducible refine (DealFault_any (HD.out.below T1.out.bel) HE.out).mono ?_)
  rintro e w2 ⟨rfl, hb⟩
  have T2 := Lib.hid (T1.out.below hb)
  clear hb T1
  go_wp2_with fail
  go_at_call 7
  (with_reducible refine (GaoCheck_any (HD.out.below T2.out.bel) HE.out).mono ?_)
  rintro e w3 ⟨rfl, hb⟩
  have T3 := Lib.hid (T2.out.below hb)
  clear hb T2
  go_wp2_with fail
  go_at_call 6
  (with_reducible refine (Error_any _ _ _ (HG.out.below T3.out.bel)).mono ?_)
  rintro e w4 ⟨rfl, hb⟩
  have T4 := Lib.hid (T3.out.below hb)
  clear hb T3
  go_wp2_with fail
  go_at_call 8
  (with_reducible refine (told_ways_bad (HD.out.below T4.out.bel) HE.out H0.out).mono ?_)
  rintro e w5 ⟨Al, nl, cl, rfl, hnl, hb⟩
  have T5 := Lib.hid (T4.out.below hb)
  obtain rfl : nl = 0 := hnl H0.out
  clear hnl
  clear hb T4
  go_wp2_with fail
  go_at_call 6
  (with_reducible refine (Error_any _ _ _ (HG.out.below T5.out.bel)).mono ?_)
  rintro e w6 ⟨rfl, hb⟩
  have T6 := Lib.hid (T5.out.below hb)
  clear hb T5
  go_wp2_with fail
  go_at_call 10
  (with_reducible refine (told_offers_bad (HD.out.below T6.out.bel) HE.out H0.out).mono ?_)
  rintro e w7 ⟨Ao, no, co, rfl, ho, hb⟩
  have T7 := Lib.hid (T6.out.below hb)
  have HO := Lib.hid ho
  clear hb T6 ho
  go_wp2_with fail
  go_at_call 6
  (with_reducible refine (Error_any _ _ _ (HG.out.below T7.out.bel)).mono ?_)
  rintro e w8 ⟨rfl, hb⟩
  have T8 := Lib.hid (T7.out.below hb)
  have HO2 := Lib.hid (HO.out.below hb)
  clear hb T7
  go_wp2_with fail
  go_at_call 11
  (with_reducible refine (sameWays_eq HO2.out (nil_ways _)).mono ?_)
  rintro e w9 ⟨rfl, hb⟩
  have T9 := Lib.hid (T8.out.below hb)
  clear hb T8
  have HP1 := Lib.hid (H1.out.below T9.out.bel)
  have HP2 := Lib.hid (H2.out.below T9.out.bel)
  obtain ⟨e0, e1, -, -⟩ := row2 T9.out.ba
  obtain ⟨f0, f1, -, -⟩ := row2 T9.out.bb
  have j0 := fun d os => cell_regrown e0 d os
  have j1 := fun d os => cell_regrown e1 d os
  have j2 := fun d os => cell_regrown f0 d os
  have j3 := fun d os => cell_regrown f1 d os
  clear e0 e1 f0 f1
  go_wp2
  refine wp_region_quiet_below (by kernel_rfl) (by kernel_rfl) ?_
  repeat (go_big_quiet_step (first | (with_reducible exact Better_c HP1.out HP2.out HR.out _ _) | (with_reducible exact BetterOf_c HP1.out HP2.out HR.out _ _) | fail))
  refine wpQuiet_nil ?_
  intro w20 hw'
  obtain ⟨⟨dq, osq⟩, hw''⟩ := hw'
  have hb20 : Below w9.heap.size w9 w20 := by rw [hw'']; exact below_regrown w9 dq osq
  have T20 := Lib.hid (T9.out.below hb20)
  clear j0 j1 j2 j3 hw'' hb20
  go_wp2
  go_ret
  exact ⟨rfl, T20.out.bel⟩
set_option maxRecDepth 100000 in
set_option maxHeartbeats 16000000 in
theorem GaoTells_out1 {w : World} {n i tz : Int} {A Aw A1 A2 : Option Addr} {m c mw cw n1 c1 n2 c2 : Nat} {t1 t2 : Int} {p1 p2 : List Int} {d : List Deal} (hd : R1 rdDeals w (.slice A m c) d) (he : dealE n d = 0) (h0 : tz < 0 ∨ n ≤ tz) (hg : HErr w)
    (h1 : R1 (RdSlice 1 (rdInt .i64)) w (.slice A1 n1 c1) p1) (h2 : R1 (RdSlice 1 (rdInt .i64)) w (.slice A2 n2 c2) p2) :
    Calls Tryd.prog 3 #[.int .i64 n, .slice A m c, .slice Aw mw cw, .int .i64 i, .int .i64 tz, .agg #[.int .i64 t1, .slice A1 n1 c1], .agg #[.int .i64 t2, .slice A2 n2 c2]] w fun e w' => e = .returned (.bool true) ∧ Below w.heap.size w w' := by
  have HD := Lib.hid hd
  have HE := Lib.hid he
  have HG := Lib.hid hg
  have H1 := Lib.hid h1
  have H2 := Lib.hid h2
  have H0 := Lib.hid h0
  obtain ⟨a1, x1⟩ : ∃ a, decide (i < 0) = a := ⟨_, rfl⟩
  obtain ⟨a2, x2⟩ : ∃ a, decide (n ≤ i) = a := ⟨_, rfl⟩
  obtain ⟨a3, x3⟩ : ∃ a, decide (tz < 0) = a := ⟨_, rfl⟩
  obtain ⟨a4, x4⟩ : ∃ a, decide (n ≤ tz) = a := ⟨_, rfl⟩
  have HA : Hid (a3 = true ∨ a4 = true) := Lib.hid (by rw [← x3, ← x4, decide_eq_true_eq, decide_eq_true_eq]; exact h0)
  clear h0
  obtain ⟨r, hr⟩ : ∃ r, betterB (t1, p1) (t2, p2) = r := ⟨_, rfl⟩
  have HR := Lib.hid hr
  have T0 := Lib.hid (Tw.start w (.cells #[.int .i64 t1, .slice A1 n1 c1] 26) (.cells #[.int .i64 t2, .slice A2 n2 c2] 26))
  clear hd he hg h1 h2 hr
  cases a1 <;> cases a2 <;> cases a3 <;> cases a4 <;> first | (exfalso; have := HA.out; simp at this; done) | skip
  all_goals
    go_enter Tryd.func3, Tryd.ntmps3
    go_wp2_with fail
    go_at_call 4
    (with_reducible refine (dealt_any _).mono ?_)
    rintro e w1 ⟨rfl, hb⟩
    have T1 := Lib.hid (T0.out.below hb)
    clear hb T0
    go_wp2_with fail
    go_at_call 5
    (with_reducible refine (DealFault_any (HD.out.below T1.out.bel) HE.out).mono ?_)
    rintro e w2 ⟨rfl, hb⟩
    have T2 := Lib.hid (T1.out.below hb)
    clear hb T1
    go_wp2_with fail
    go_at_call 7
    (with_reducible refine (GaoCheck_any (HD.out.below T2.out.bel) HE.out).mono ?_)
    rintro e w3 ⟨rfl, hb⟩
    have T3 := Lib.hid (T2.out.below hb)
    clear hb T2
    go_wp2_with fail
    go_at_call 6
    (with_reducible refine (Error_any _ _ _ (HG.out.below T3.out.bel)).mono ?_)
    rintro e w4 ⟨rfl, hb⟩
    have T4 := Lib.hid (T3.out.below hb)
    clear hb T3
    go_wp2_with fail
    go_at_call 8
    (with_reducible refine (told_ways_out (HD.out.below T4.out.bel) HE.out H0.out).mono ?_)
    rintro e w5 ⟨Al, nl, cl, rfl, hnl, hb⟩
    have T5 := Lib.hid (T4.out.below hb)
    obtain rfl : nl = 0 := hnl (by decide)
    clear hnl
    clear hb T4
    go_wp2_with fail
    go_at_call 6
    (with_reducible refine (Error_any _ _ _ (HG.out.below T5.out.bel)).mono ?_)
    rintro e w6 ⟨rfl, hb⟩
    have T6 := Lib.hid (T5.out.below hb)
    clear hb T5
    go_wp2_with fail
    go_at_call 10
    (with_reducible refine (told_offers_out (HD.out.below T6.out.bel) HE.out (.inr (.inr H0.out))).mono ?_)
    rintro e w7 ⟨Ao, no, co, rfl, ho, hb⟩
    have T7 := Lib.hid (T6.out.below hb)
    have HO := Lib.hid ho
    clear hb T6 ho
    go_wp2_with fail
    go_at_call 6
    (with_reducible refine (Error_any _ _ _ (HG.out.below T7.out.bel)).mono ?_)
    rintro e w8 ⟨rfl, hb⟩
    have T8 := Lib.hid (T7.out.below hb)
    have HO2 := Lib.hid (HO.out.below hb)
    clear hb T7
    go_wp2_with fail
    go_at_call 11
    (with_reducible refine (sameWays_eq HO2.out (nil_ways _)).mono ?_)
    rintro e w9 ⟨rfl, hb⟩
    have T9 := Lib.hid (T8.out.below hb)
    clear hb T8
    have HP1 := Lib.hid (H1.out.below T9.out.bel)
    have HP2 := Lib.hid (H2.out.below T9.out.bel)
    obtain ⟨e0, e1, -, -⟩ := row2 T9.out.ba
    obtain ⟨f0, f1, -, -⟩ := row2 T9.out.bb
    have j0 := fun d os => cell_regrown e0 d os
    have j1 := fun d os => cell_regrown e1 d os
    have j2 := fun d os => cell_regrown f0 d os
    have j3 := fun d os => cell_regrown f1 d os
    clear e0 e1 f0 f1
    go_wp2
    refine wp_region_quiet_below (by kernel_rfl) (by kernel_rfl) ?_
    repeat (go_big_quiet_step (first | (with_reducible exact Better_c HP1.out HP2.out HR.out _ _) | (with_reducible exact BetterOf_c HP1.out HP2.out HR.out _ _) | fail))
    refine wpQuiet_nil ?_
    intro w20 hw'
    obtain ⟨⟨dq, osq⟩, hw''⟩ := hw'
    have hb20 : Below w9.heap.size w9 w20 := by rw [hw'']; exact below_regrown w9 dq osq
    have T20 := Lib.hid (T9.out.below hb20)
    clear j0 j1 j2 j3 hw'' hb20
    go_wp2
    go_ret
    exact ⟨rfl, T20.out.bel⟩
set_option maxRecDepth 100000 in
set_option maxHeartbeats 16000000 in
theorem GaoTells_out2 {w : World} {n i tz : Int} {A Aw A1 A2 : Option Addr} {m c mw cw n1 c1 n2 c2 : Nat} {t1 t2 : Int} {p1 p2 : List Int} {d : List Deal} (hd : R1 rdDeals w (.slice A m c) d) (he : dealE n d = 0) (h0 : i < 0 ∨ n ≤ i) (g0 : 0 ≤ tz) (g1 : tz < n) (hg : HErr w)
    (h1 : R1 (RdSlice 1 (rdInt .i64)) w (.slice A1 n1 c1) p1) (h2 : R1 (RdSlice 1 (rdInt .i64)) w (.slice A2 n2 c2) p2) :
    Calls Tryd.prog 3 #[.int .i64 n, .slice A m c, .slice Aw mw cw, .int .i64 i, .int .i64 tz, .agg #[.int .i64 t1, .slice A1 n1 c1], .agg #[.int .i64 t2, .slice A2 n2 c2]] w fun e w' => e = .returned (.bool true) ∧ Below w.heap.size w w' := by
  have HD := Lib.hid hd
  have HE := Lib.hid he
  have HG := Lib.hid hg
  have H1 := Lib.hid h1
  have H2 := Lib.hid h2
  have H0 := Lib.hid h0
  obtain ⟨a1, x1⟩ : ∃ a, decide (i < 0) = a := ⟨_, rfl⟩
  obtain ⟨a2, x2⟩ : ∃ a, decide (n ≤ i) = a := ⟨_, rfl⟩
  have x3 : decide (tz < 0) = false := decide_eq_false (by omega)
  have x4 : decide (n ≤ tz) = false := decide_eq_false (by omega)
  have HA : Hid (a1 = true ∨ a2 = true) := Lib.hid (by rw [← x1, ← x2, decide_eq_true_eq, decide_eq_true_eq]; exact h0)
  clear h0
  obtain ⟨r, hr⟩ : ∃ r, betterB (t1, p1) (t2, p2) = r := ⟨_, rfl⟩
  have HR := Lib.hid hr
  have T0 := Lib.hid (Tw.start w (.cells #[.int .i64 t1, .slice A1 n1 c1] 26) (.cells #[.int .i64 t2, .slice A2 n2 c2] 26))
  clear hd he hg h1 h2 hr
  cases a1 <;> cases a2 <;> first | (exfalso; have := HA.out; simp at this; done) | skip
  all_goals
    go_enter Tryd.func3, Tryd.ntmps3
    go_wp2_with fail
    go_at_call 4
    (with_reducible refine (dealt_any _).mono ?_)
    rintro e w1 ⟨rfl, hb⟩
    have T1 := Lib.hid (T0.out.below hb)
    clear hb T0
    go_wp2_with fail
    go_at_call 5
    (with_reducible refine (DealFault_any (HD.out.below T1.out.bel) HE.out).mono ?_)
    rintro e w2 ⟨rfl, hb⟩
    have T2 := Lib.hid (T1.out.below hb)
    clear hb T1
    go_wp2_with fail
    go_at_call 7
    (with_reducible refine (GaoCheck_any (HD.out.below T2.out.bel) HE.out).mono ?_)
    rintro e w3 ⟨rfl, hb⟩
    have T3 := Lib.hid (T2.out.below hb)
    clear hb T2
    go_wp2_with fail
    go_at_call 6
    (with_reducible refine (Error_any _ _ _ (HG.out.below T3.out.bel)).mono ?_)
    rintro e w4 ⟨rfl, hb⟩
    have T4 := Lib.hid (T3.out.below hb)
    clear hb T3
    go_wp2_with fail
    go_at_call 8
    (with_reducible refine (told_ways_yes (HD.out.below T4.out.bel) HE.out g0 g1).mono ?_)
    rintro e w5 ⟨Al, nl, cl, rfl, hnl, hb⟩
    have T5 := Lib.hid (T4.out.below hb)
    clear hnl
    clear hb T4
    go_wp2_with fail
    go_at_call 6
    (with_reducible refine (Error_any _ _ _ (HG.out.below T5.out.bel)).mono ?_)
    rintro e w6 ⟨rfl, hb⟩
    have T6 := Lib.hid (T5.out.below hb)
    clear hb T5
    go_wp2_with fail
    go_at_call 10
    (with_reducible refine (told_offers_out (HD.out.below T6.out.bel) HE.out (by rcases H0.out with h | h; exact .inl h; exact .inr (.inl h))).mono ?_)
    rintro e w7 ⟨Ao, no, co, rfl, ho, hb⟩
    have T7 := Lib.hid (T6.out.below hb)
    have HO := Lib.hid ho
    clear hb T6 ho
    go_wp2_with fail
    go_at_call 6
    (with_reducible refine (Error_any _ _ _ (HG.out.below T7.out.bel)).mono ?_)
    rintro e w8 ⟨rfl, hb⟩
    have T8 := Lib.hid (T7.out.below hb)
    have HO2 := Lib.hid (HO.out.below hb)
    clear hb T7
    go_wp2_with fail
    go_at_call 11
    (with_reducible refine (sameWays_eq HO2.out (nil_ways _)).mono ?_)
    rintro e w9 ⟨rfl, hb⟩
    have T9 := Lib.hid (T8.out.below hb)
    clear hb T8
    have HP1 := Lib.hid (H1.out.below T9.out.bel)
    have HP2 := Lib.hid (H2.out.below T9.out.bel)
    obtain ⟨e0, e1, -, -⟩ := row2 T9.out.ba
    obtain ⟨f0, f1, -, -⟩ := row2 T9.out.bb
    have j0 := fun d os => cell_regrown e0 d os
    have j1 := fun d os => cell_regrown e1 d os
    have j2 := fun d os => cell_regrown f0 d os
    have j3 := fun d os => cell_regrown f1 d os
    clear e0 e1 f0 f1
    go_wp2
    refine wp_region_quiet_below (by kernel_rfl) (by kernel_rfl) ?_
    repeat (go_big_quiet_step (first | (with_reducible exact Better_c HP1.out HP2.out HR.out _ _) | (with_reducible exact BetterOf_c HP1.out HP2.out HR.out _ _) | fail))
    refine wpQuiet_nil ?_
    intro w20 hw'
    obtain ⟨⟨dq, osq⟩, hw''⟩ := hw'
    have hb20 : Below w9.heap.size w9 w20 := by rw [hw'']; exact below_regrown w9 dq osq
    have T20 := Lib.hid (T9.out.below hb20)
    clear j0 j1 j2 j3 hw'' hb20
    go_wp2
    go_ret
    exact ⟨rfl, T20.out.bel⟩
set_option maxRecDepth 100000 in
set_option maxHeartbeats 16000000 in
theorem GaoTells_form {w : World} {n i tz : Nat} {A Aw A1 A2 : Option Addr} {m c mw cw n1 c1 n2 c2 : Nat} {t1 t2 : Int} {p1 p2 : List Int} {d : List Deal} (hd : R1 rdDeals w (.slice A m c) d) (he : dealE n d = 0) (hi : i < n) (hto : tz < n) (hm : mw ≠ n) (hg : HErr w)
    (h1 : R1 (RdSlice 1 (rdInt .i64)) w (.slice A1 n1 c1) p1) (h2 : R1 (RdSlice 1 (rdInt .i64)) w (.slice A2 n2 c2) p2) :
    Calls Tryd.prog 3 #[.int .i64 n, .slice A m c, .slice Aw mw cw, .int .i64 i, .int .i64 tz, .agg #[.int .i64 t1, .slice A1 n1 c1], .agg #[.int .i64 t2, .slice A2 n2 c2]] w fun e w' => e = .returned (.bool true) ∧ Below w.heap.size w w' := by
  have HD := Lib.hid hd
  have HE := Lib.hid he
  have HG := Lib.hid hg
  have H1 := Lib.hid h1
  have H2 := Lib.hid h2
  have x1 : ((mw : Int) != (n : Int)) = true := by simp; omega
  have g0 : (0 : Int) ≤ (tz : Int) := by omega
  have g1 : (tz : Int) < (n : Int) := by omega
  obtain ⟨r, hr⟩ : ∃ r, betterB (t1, p1) (t2, p2) = r := ⟨_, rfl⟩
  have HR := Lib.hid hr
  have T0 := Lib.hid (Tw.start w (.cells #[.int .i64 t1, .slice A1 n1 c1] 26) (.cells #[.int .i64 t2, .slice A2 n2 c2] 26))
  clear hd he hg h1 h2 hr
  go_enter Tryd.func3, Tryd.ntmps3
  go_wp2_with fail
  go_at_call 4
  (with_reducible refine (dealt_any _).mono ?_)
  rintro e w1 ⟨rfl, hb⟩
  have T1 := Lib.hid (T0.out.below hb)
  clear hb T0
  go_wp2_with fail
  go_at_call 5
  (with_reducible refine (DealFault_any (HD.out.below T1.out.bel) HE.out).mono ?_)
  rintro e w2 ⟨rfl, hb⟩
  have T2 := Lib.hid (T1.out.below hb)
  clear hb T1
  go_wp2_with fail
  go_at_call 7
  (with_reducible refine (GaoCheck_any (HD.out.below T2.out.bel) HE.out).mono ?_)
  rintro e w3 ⟨rfl, hb⟩
  have T3 := Lib.hid (T2.out.below hb)
  clear hb T2
  go_wp2_with fail
  go_at_call 6
  (with_reducible refine (Error_any _ _ _ (HG.out.below T3.out.bel)).mono ?_)
  rintro e w4 ⟨rfl, hb⟩
  have T4 := Lib.hid (T3.out.below hb)
  clear hb T3
  go_wp2_with fail
  go_at_call 8
  (with_reducible refine (told_ways_yes (HD.out.below T4.out.bel) HE.out g0 g1).mono ?_)
  rintro e w5 ⟨Al, nl, cl, rfl, hnl, hb⟩
  have T5 := Lib.hid (T4.out.below hb)
  clear hnl
  clear hb T4
  go_wp2_with fail
  go_at_call 6
  (with_reducible refine (Error_any _ _ _ (HG.out.below T5.out.bel)).mono ?_)
  rintro e w6 ⟨rfl, hb⟩
  have T6 := Lib.hid (T5.out.below hb)
  clear hb T5
  go_wp2_with fail
  go_at_call 10
  (with_reducible refine (told_offers_form (HD.out.below T6.out.bel) HE.out hi hto hm).mono ?_)
  rintro e w7 ⟨Ao, no, co, rfl, ho, hb⟩
  have T7 := Lib.hid (T6.out.below hb)
  have HO := Lib.hid ho
  clear hb T6 ho
  go_wp2_with fail
  go_at_call 6
  (with_reducible refine (Error_any _ _ _ (HG.out.below T7.out.bel)).mono ?_)
  rintro e w8 ⟨rfl, hb⟩
  have T8 := Lib.hid (T7.out.below hb)
  have HO2 := Lib.hid (HO.out.below hb)
  clear hb T7
  go_wp2_with fail
  go_at_call 11
  (with_reducible refine (sameWays_eq HO2.out (nil_ways _)).mono ?_)
  rintro e w9 ⟨rfl, hb⟩
  have T9 := Lib.hid (T8.out.below hb)
  clear hb T8
  have HP1 := Lib.hid (H1.out.below T9.out.bel)
  have HP2 := Lib.hid (H2.out.below T9.out.bel)
  obtain ⟨e0, e1, -, -⟩ := row2 T9.out.ba
  obtain ⟨f0, f1, -, -⟩ := row2 T9.out.bb
  have j0 := fun d os => cell_regrown e0 d os
  have j1 := fun d os => cell_regrown e1 d os
  have j2 := fun d os => cell_regrown f0 d os
  have j3 := fun d os => cell_regrown f1 d os
  clear e0 e1 f0 f1
  go_wp2
  refine wp_region_quiet_below (by kernel_rfl) (by kernel_rfl) ?_
  repeat (go_big_quiet_step (first | (with_reducible exact Better_c HP1.out HP2.out HR.out _ _) | (with_reducible exact BetterOf_c HP1.out HP2.out HR.out _ _) | fail))
  refine wpQuiet_nil ?_
  intro w20 hw'
  obtain ⟨⟨dq, osq⟩, hw''⟩ := hw'
  have hb20 : Below w9.heap.size w9 w20 := by rw [hw'']; exact below_regrown w9 dq osq
  have T20 := Lib.hid (T9.out.below hb20)
  clear j0 j1 j2 j3 hw'' hb20
  go_wp2
  go_ret
  exact ⟨rfl, T20.out.bel⟩
set_option maxRecDepth 100000 in
set_option maxHeartbeats 16000000 in
theorem GaoTells_good {w : World} {n i tz : Nat} {A Aw A1 A2 : Option Addr} {m c cw n1 c1 n2 c2 : Nat} {t1 t2 : Int} {p1 p2 : List Int} {d : List Deal} {V : List Ga.Way} (hd : R1 rdDeals w (.slice A m c) d) (he : dealE n d = 0) (ok : OkG n d) (hi : i < n) (hto : tz < n) (hv : R1 rdWays w (.slice Aw n cw) V) (hvs : ∀ x ∈ V, x.2.length ≤ 17592186043904) (hg : HErr w)
    (h1 : R1 (RdSlice 1 (rdInt .i64)) w (.slice A1 n1 c1) p1) (h2 : R1 (RdSlice 1 (rdInt .i64)) w (.slice A2 n2 c2) p2) :
    Calls Tryd.prog 3 #[.int .i64 n, .slice A m c, .slice Aw n cw, .int .i64 i, .int .i64 tz, .agg #[.int .i64 t1, .slice A1 n1 c1], .agg #[.int .i64 t2, .slice A2 n2 c2]] w fun e w' => e = .returned (.bool true) ∧ Below w.heap.size w w' := by
  have HD := Lib.hid hd
  have HE := Lib.hid he
  have HG := Lib.hid hg
  have H1 := Lib.hid h1
  have H2 := Lib.hid h2
  have x1 : ((n : Int) != (n : Int)) = false := by simp
  have g0 : (0 : Int) ≤ (tz : Int) := by omega
  have g1 : (tz : Int) < (n : Int) := by omega
  have HOK := Lib.hid ok
  have HV := Lib.hid hv
  have HVS := Lib.hid hvs
  clear ok hv hvs
  obtain ⟨r, hr⟩ : ∃ r, betterB (t1, p1) (t2, p2) = r := ⟨_, rfl⟩
  have HR := Lib.hid hr
  have T0 := Lib.hid (Tw.start w (.cells #[.int .i64 t1, .slice A1 n1 c1] 26) (.cells #[.int .i64 t2, .slice A2 n2 c2] 26))
  clear hd he hg h1 h2 hr
  go_enter Tryd.func3, Tryd.ntmps3
  go_wp2_with fail
  go_at_call 4
  (with_reducible refine (dealt_any _).mono ?_)
  rintro e w1 ⟨rfl, hb⟩
  have T1 := Lib.hid (T0.out.below hb)
  clear hb T0
  go_wp2_with fail
  go_at_call 5
  (with_reducible refine (DealFault_any (HD.out.below T1.out.bel) HE.out).mono ?_)
  rintro e w2 ⟨rfl, hb⟩
  have T2 := Lib.hid (T1.out.below hb)
  clear hb T1
  go_wp2_with fail
  go_at_call 7
  (with_reducible refine (GaoCheck_any (HD.out.below T2.out.bel) HE.out).mono ?_)
  rintro e w3 ⟨rfl, hb⟩
  have T3 := Lib.hid (T2.out.below hb)
  clear hb T2
  go_wp2_with fail
  go_at_call 6
  (with_reducible refine (Error_any _ _ _ (HG.out.below T3.out.bel)).mono ?_)
  rintro e w4 ⟨rfl, hb⟩
  have T4 := Lib.hid (T3.out.below hb)
  clear hb T3
  go_wp2_with fail
  go_at_call 8
  (with_reducible refine (told_ways_yes (HD.out.below T4.out.bel) HE.out g0 g1).mono ?_)
  rintro e w5 ⟨Al, nl, cl, rfl, hnl, hb⟩
  have T5 := Lib.hid (T4.out.below hb)
  clear hnl
  clear hb T4
  go_wp2_with fail
  go_at_call 6
  (with_reducible refine (Error_any _ _ _ (HG.out.below T5.out.bel)).mono ?_)
  rintro e w6 ⟨rfl, hb⟩
  have T6 := Lib.hid (T5.out.below hb)
  clear hb T5
  go_wp2_with fail
  go_at_call 9
  (with_reducible refine (OffersOf_any (HD.out.below T6.out.bel) HOK.out (HV.out.below T6.out.bel) hi HVS.out).mono ?_)
  rintro e w7 ⟨vw, rfl, hown, hb⟩
  have T7 := Lib.hid (T6.out.below hb)
  obtain ⟨Aq, nq, cq, rfl, hq⟩ := hown.val
  have HQ7 := Lib.hid hq
  clear hb T6 hown hq
  go_wp2_with fail
  go_at_call 10
  (with_reducible refine (Offers_yes (HD.out.below T7.out.bel) HE.out HOK.out hi hto (HV.out.below T7.out.bel) HVS.out).mono ?_)
  rintro e w8 ⟨Ao, no, co, rfl, ho, hb⟩
  have T8 := Lib.hid (T7.out.below hb)
  have HO := Lib.hid ho
  have HQ8 := Lib.hid (HQ7.out.below hb)
  clear hb T7 ho
  go_wp2_with fail
  go_at_call 6
  (with_reducible refine (Error_any _ _ _ (HG.out.below T8.out.bel)).mono ?_)
  rintro e w9 ⟨rfl, hb⟩
  have T9 := Lib.hid (T8.out.below hb)
  have HO2 := Lib.hid (HO.out.below hb)
  have HQ9 := Lib.hid (HQ8.out.below hb)
  clear hb T8
  go_wp2_with fail
  go_at_call 11
  (with_reducible refine (sameWays_eq HO2.out HQ9.out).mono ?_)
  rintro e w10 ⟨rfl, hb⟩
  have T10 := Lib.hid (T9.out.below hb)
  clear hb T9
  have HP1 := Lib.hid (H1.out.below T10.out.bel)
  have HP2 := Lib.hid (H2.out.below T10.out.bel)
  obtain ⟨e0, e1, -, -⟩ := row2 T10.out.ba
  obtain ⟨f0, f1, -, -⟩ := row2 T10.out.bb
  have j0 := fun d os => cell_regrown e0 d os
  have j1 := fun d os => cell_regrown e1 d os
  have j2 := fun d os => cell_regrown f0 d os
  have j3 := fun d os => cell_regrown f1 d os
  clear e0 e1 f0 f1
  go_wp2
  refine wp_region_quiet_below (by kernel_rfl) (by kernel_rfl) ?_
  repeat (go_big_quiet_step (first | (with_reducible exact Better_c HP1.out HP2.out HR.out _ _) | (with_reducible exact BetterOf_c HP1.out HP2.out HR.out _ _) | fail))
  refine wpQuiet_nil ?_
  intro w20 hw'
  obtain ⟨⟨dq, osq⟩, hw''⟩ := hw'
  have hb20 : Below w10.heap.size w10 w20 := by rw [hw'']; exact below_regrown w10 dq osq
  have T20 := Lib.hid (T10.out.below hb20)
  clear j0 j1 j2 j3 hw'' hb20
  go_wp2
  go_ret
  exact ⟨rfl, T20.out.bel⟩
theorem GaoTells_walk (w : World) (n : Int) (bn : -9223372036854775808 ≤ n ∧ n ≤ 9223372036854775807) (A : Option Addr) (m c : Nat) (l : List Deal) (rr1 : RV rdDeals w (.slice A m c) l) (q1 : l.length * 24 ≤ reachBytes ∧ ∀ x ∈ l, True ∧ True ∧ True)
    (Aw : Option Addr) (mw cw : Nat) (V : List Ga.Way) (rr2 : RV rdWays w (.slice Aw mw cw) V) (q2 : V.length * 32 ≤ reachBytes ∧ ∀ x ∈ V, True ∧ x.2.length * 8 ≤ reachBytes ∧ ∀ y ∈ x.2, True)
    (i : Int) (bi : -9223372036854775808 ≤ i ∧ i ≤ 9223372036854775807) (j : Int) (bj : -9223372036854775808 ≤ j ∧ j ≤ 9223372036854775807)
    (A5 : Array Value) (x5 : Int × List Int) (h5 : RV rdWay w (.agg A5) x5) (c5 : True ∧ x5.2.length * 8 ≤ reachBytes ∧ ∀ y ∈ x5.2, True) (A6 : Array Value) (x6 : Int × List Int) (h6 : RV rdWay w (.agg A6) x6) (c6 : True ∧ x6.2.length * 8 ≤ reachBytes ∧ ∀ y ∈ x6.2, True) (hg : HErr w) :
    Calls Tryd.prog 3 #[.int .i64 n, .slice A m c, .slice Aw mw cw, .int .i64 i, .int .i64 j, .agg A5, .agg A6] w fun e w' => e = .returned (.bool true) ∧ Below w.heap.size w w' := by
  have hr : R1 rdDeals w (.slice A m c) l := rr1
  have hv : R1 rdWays w (.slice Aw mw cw) V := rr2
  have hvs : ∀ x ∈ V, x.2.length ≤ 17592186043904 := fun x hx => by have := (q2.2 x hx).2.1; unfold reachBytes at this; omega
  obtain ⟨_, _, rfl, _, r5⟩ := way_form h5
  obtain ⟨_, _, rfl, _, r6⟩ := way_form h6
  by_cases h0 : dealE n l = 0
  · by_cases hj : j < 0 ∨ n ≤ j
    · exact GaoTells_out1 hr h0 hj hg r5 r6
    · by_cases hi : i < 0 ∨ n ≤ i
      · exact GaoTells_out2 hr h0 hi (by omega) (by omega) hg r5 r6
      · obtain ⟨N, rfl, hok⟩ := dealE_ok h0
        obtain ⟨I, rfl⟩ := Int.eq_ofNat_of_zero_le (show 0 ≤ i by omega)
        obtain ⟨J, rfl⟩ := Int.eq_ofNat_of_zero_le (show 0 ≤ j by omega)
        by_cases hm : mw = N
        · subst hm
          exact GaoTells_good hr h0 hok (by omega) (by omega) hv hvs hg r5 r6
        · exact GaoTells_form hr h0 (by omega) (by omega) hm hg r5 r6
  · exact GaoTells_bad hr rfl h0 hg r5 r6
end Go.Proofs.YtnihheikaddmoaaDoor
