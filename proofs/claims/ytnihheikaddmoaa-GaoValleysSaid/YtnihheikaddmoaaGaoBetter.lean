/- waywardenlaw5.GaoBetter: for every three ways the law returns true. -/
import Derived.Test.YtnihheikaddmoaaGaoI
namespace Go.Proofs.Ytnihheikaddmoaa
open Go.ChangeShapes Go.WideShapes Go.ChangeAt Go.RowKit Ga
set_option linter.unusedVariables false
set_option linter.unusedSimpArgs false
theorem R1.rd {α : Type} {rd : Rdr α} {w : World} {v : Value} {x : α} (h : R1 rd w v x) : rd w (fun b => b < w.heap.size) [v] x := h
theorem Better_c {w : World} {A A' : Option Addr} {n n' c c' : Nat} {t u : Int} {p q : List Int} {r : Bool} (hp : R1 (RdSlice 1 (rdInt .i64)) w (.slice A n c) p) (hq : R1 (RdSlice 1 (rdInt .i64)) w (.slice A' n' c') q) (hr : betterB (t, p) (u, q) = r) (d : Nat) (os : Array Obj) :
    Calls Try.prog 15 #[.agg #[.int .i64 t, .slice A n c], .agg #[.int .i64 u, .slice A' n' c']] (Sort.grow (redrawn w d) os) fun e w'' => e = .returned (.bool r) ∧ ∃ p : Regrown, w'' = Sort.grow (redrawn w p.d) p.os :=
  Calls.regrown_of (Better_any (hp.below (below_regrown w d os)) (hq.below (below_regrown w d os)) (fun _ h => h) (fun _ h => h) hr)
set_option maxRecDepth 100000 in
set_option maxHeartbeats 4000000 in
theorem GaoBetter_is {W : World} {A1 A2 A3 : Option Addr} {n1 n2 n3 c1 c2 c3 : Nat} {t1 t2 t3 : Int} {p1 p2 p3 : List Int} (h1 : R1 (RdSlice 1 (rdInt .i64)) W (.slice A1 n1 c1) p1) (h2 : R1 (RdSlice 1 (rdInt .i64)) W (.slice A2 n2 c2) p2) (h3 : R1 (RdSlice 1 (rdInt .i64)) W (.slice A3 n3 c3) p3) :
    Calls Try.prog 6 #[.agg #[.int .i64 t1, .slice A1 n1 c1], .agg #[.int .i64 t2, .slice A2 n2 c2], .agg #[.int .i64 t3, .slice A3 n3 c3]] W fun e w' => e = .returned (.bool true) ∧ Below W.heap.size W w' := by
  have e1 : n1 = p1.length := h1.len.1
  have e2 : n2 = p2.length := h2.len.1
  have e3 : n3 = p3.length := h3.len.1
  obtain ⟨z1, q1⟩ : ∃ z, ((n1 : Int) == 0) = z := ⟨_, rfl⟩
  obtain ⟨z2, q2⟩ : ∃ z, ((n2 : Int) == 0) = z := ⟨_, rfl⟩
  obtain ⟨z3, q3⟩ : ∃ z, ((n3 : Int) == 0) = z := ⟨_, rfl⟩
  have HE : Hid (z1 = false → z2 = false → z3 = false → p1 ≠ [] ∧ p2 ≠ [] ∧ p3 ≠ []) := Lib.hid (by
    rintro rfl rfl rfl
    simp only [beq_eq_false_iff_ne, ne_eq] at q1 q2 q3
    refine ⟨?_, ?_, ?_⟩
    all_goals
      rintro rfl
      simp at e1 e2 e3
      omega)
  have H1 := Lib.hid h1
  have H2 := Lib.hid h2
  have H3 := Lib.hid h3
  clear h1 h2 h3 e1 e2 e3
  have HBX := Lib.hid (Bx.start W (.cells #[.int .i64 t1, .slice A1 n1 c1] 31) (.cells #[.int .i64 t2, .slice A2 n2 c2] 31) (.cells #[.int .i64 t3, .slice A3 n3 c3] 31))
  go_enter Try.func6, Try.ntmps6
  go_wp2_with fail
  go_at_call 7
  (with_reducible refine (dealt_any _).mono ?_)
  rintro e w1 ⟨rfl, hb1⟩
  have HX1 := Lib.hid (HBX.out.below hb1)
  clear hb1 HBX
  obtain ⟨a0, a1⟩ := row2 HX1.out.ba
  obtain ⟨b0, b1⟩ := row2 HX1.out.bb
  obtain ⟨d0, d1⟩ := row2 HX1.out.bc
  cases z1
  case true =>
    go_wp2
    go_ret
    exact ⟨rfl, HX1.out.bel⟩
  cases z2
  case true =>
    go_wp2
    go_ret
    exact ⟨rfl, HX1.out.bel⟩
  cases z3
  case true =>
    go_wp2
    go_ret
    exact ⟨rfl, HX1.out.bel⟩
  obtain ⟨k1, k2, k3⟩ := HE.out rfl rfl rfl
  obtain ⟨z, hz⟩ : ∃ z, decide (((t1, p1) : Ga.Way) = (t2, p2)) = z := ⟨_, rfl⟩
  obtain ⟨r1, hr1⟩ : ∃ z, betterB (t1, p1) (t2, p2) = z := ⟨_, rfl⟩
  obtain ⟨r2, hr2⟩ : ∃ z, betterB (t2, p2) (t1, p1) = z := ⟨_, rfl⟩
  obtain ⟨r3, hr3⟩ : ∃ z, betterB (t2, p2) (t3, p3) = z := ⟨_, rfl⟩
  obtain ⟨r4, hr4⟩ : ∃ z, betterB (t1, p1) (t3, p3) = z := ⟨_, rfl⟩
  have HR0 := Lib.hid (bet_irr (t1, p1))
  have HZ := Lib.hid hz
  have HR1 := Lib.hid hr1
  have HR2 := Lib.hid hr2
  have HR3 := Lib.hid hr3
  have HR4 := Lib.hid hr4
  have HN : Hid (z = false → (r1 == r2) = false) := Lib.hid (by
    rintro rfl
    rcases bet_total (a := (t1, p1)) (b := (t2, p2)) k1 k2 (by simpa using hz) with h | h
    · rw [← hr1, ← hr2, h, bet_asym k1 k2 h]; rfl
    · rw [← hr1, ← hr2, h, bet_asym k2 k1 h]; rfl)
  have HT : Hid (r1 = true → r3 = true → r4 = true) := Lib.hid (by
    rintro rfl rfl
    rw [← hr4]
    exact bet_trans k1 k2 k3 hr1 hr3)
  clear hz hr1 hr2 hr3 hr4 k1 k2 k3 HE
  go_wp2_with fail
  go_at_call 11
  (with_reducible refine (Way_any (R1.rd (H1.out.below HX1.out.bel)) (R1.rd (H2.out.below HX1.out.bel)) (fun _ h => h) (fun _ h => h) HZ.out).mono ?_)
  rintro e w2 ⟨rfl, hb2⟩
  have HX2 := Lib.hid (HX1.out.below hb2)
  have HP1 := Lib.hid (H1.out.below HX2.out.bel)
  have HP2 := Lib.hid (H2.out.below HX2.out.bel)
  clear hb2 HX1 a0 a1 b0 b1 d0 d1
  have j0 := fun d os => (row2 (below_block (below_regrown w2 d os) (size_of_block HX2.out.ba) HX2.out.ba)).1
  have j1 := fun d os => (row2 (below_block (below_regrown w2 d os) (size_of_block HX2.out.ba) HX2.out.ba)).2
  have j2 := fun d os => (row2 (below_block (below_regrown w2 d os) (size_of_block HX2.out.bb) HX2.out.bb)).1
  have j3 := fun d os => (row2 (below_block (below_regrown w2 d os) (size_of_block HX2.out.bb) HX2.out.bb)).2
  cases z
  all_goals
    try have hne := HN.out rfl
    go_wp2
    refine wp_region_quiet_below (by kernel_rfl) (by kernel_rfl) ?_
    repeat (go_big_quiet_step (first | (with_reducible exact Better_c HP1.out HP1.out HR0.out _ _) | (with_reducible exact Better_c HP1.out HP2.out HR1.out _ _) | (with_reducible exact Better_c HP2.out HP1.out HR2.out _ _) | fail))
    refine wpQuiet_nil ?_
    intro w4 hw'
    obtain ⟨⟨dq, osq⟩, hw''⟩ := hw'
    have hb4 : Below w2.heap.size w2 w4 := by rw [hw'']; exact below_regrown w2 dq osq
    have HX4 := Lib.hid (HX2.out.below hb4)
    clear j0 j1 j2 j3 hw'' hb4
    obtain ⟨a0, a1⟩ := row2 HX4.out.ba
    obtain ⟨b0, b1⟩ := row2 HX4.out.bb
    have HR1 := Lib.hid HR1.out
    have HU1 := Lib.hid (H1.out.below HX4.out.bel)
    have HU2 := Lib.hid (H2.out.below HX4.out.bel)
    try clear hne
    cases r1
    · go_wp2_with fail
      go_at_call 15
      (with_reducible refine (Better_any (R1.rd HU1.out) (R1.rd HU2.out) (fun _ h => h) (fun _ h => h) HR1.out).mono ?_)
      rintro e w5 ⟨rfl, hb5⟩
      have HX5 := Lib.hid (HX4.out.below hb5)
      clear hb5
      go_wp2
      go_ret
      exact ⟨rfl, HX5.out.bel⟩
    · go_wp2_with fail
      go_at_call 15
      (with_reducible refine (Better_any (R1.rd HU1.out) (R1.rd HU2.out) (fun _ h => h) (fun _ h => h) HR1.out).mono ?_)
      rintro e w5 ⟨rfl, hb5⟩
      have HX5 := Lib.hid (HX4.out.below hb5)
      have HV2 := Lib.hid (HU2.out.below hb5)
      have HV1 := Lib.hid (HU1.out.below hb5)
      have HV3 := Lib.hid (H3.out.below HX5.out.bel)
      clear hb5 a0 a1 b0 b1
      obtain ⟨a0, a1⟩ := row2 HX5.out.ba
      obtain ⟨b0, b1⟩ := row2 HX5.out.bb
      obtain ⟨d0, d1⟩ := row2 HX5.out.bc
      cases r3
      · go_wp2_with fail
        go_at_call 15
        (with_reducible refine (Better_any (R1.rd HV2.out) (R1.rd HV3.out) (fun _ h => h) (fun _ h => h) HR3.out).mono ?_)
        rintro e w6 ⟨rfl, hb6⟩
        have HX6 := Lib.hid (HX5.out.below hb6)
        clear hb6
        go_wp2
        go_ret
        exact ⟨rfl, HX6.out.bel⟩
      · obtain rfl : r4 = true := by have := HT.out; simpa using this
        go_wp2_with fail
        go_at_call 15
        (with_reducible refine (Better_any (R1.rd HV2.out) (R1.rd HV3.out) (fun _ h => h) (fun _ h => h) HR3.out).mono ?_)
        rintro e w6 ⟨rfl, hb6⟩
        have HX6 := Lib.hid (HX5.out.below hb6)
        have HY1 := Lib.hid (HV1.out.below hb6)
        have HY3 := Lib.hid (HV3.out.below hb6)
        clear hb6 a0 a1 b0 b1 d0 d1
        obtain ⟨a0, a1⟩ := row2 HX6.out.ba
        obtain ⟨d0, d1⟩ := row2 HX6.out.bc
        go_wp2_with fail
        go_at_call 15
        (with_reducible refine (Better_any (R1.rd HY1.out) (R1.rd HY3.out) (fun _ h => h) (fun _ h => h) HR4.out).mono ?_)
        rintro e w7 ⟨rfl, hb7⟩
        have HX7 := Lib.hid (HX6.out.below hb7)
        clear hb7
        go_wp2
        go_ret
        exact ⟨rfl, HX7.out.bel⟩
theorem way_form {w : World} {ok : Nat → Prop} {vs : Array Value} {x : Int × List Int} (h : rdWay w ok vs.toList x) : ∃ A c, vs = #[.int .i64 x.1, .slice A x.2.length c] ∧ (Lit.int .i64 x.1).wf = true ∧ RdSlice 1 (rdInt .i64) w ok [.slice A x.2.length c] x.2 := by
  obtain ⟨_, _, e, ⟨rfl, w0⟩, hp⟩ := h
  have hp' := hp
  obtain ⟨A, c, e2, _⟩ := hp'
  subst e2
  exact ⟨A, c, by cases vs; simpa using e, w0, hp⟩
theorem GaoBetter_walk (W : World) (A0 : Array Value) (x0 : Int × List Int) (h0 : RV rdWay W (.agg A0) x0) (c0 : True ∧ x0.2.length * 8 ≤ reachBytes ∧ ∀ y ∈ x0.2, True) (A1 : Array Value) (x1 : Int × List Int) (h1 : RV rdWay W (.agg A1) x1) (c1 : True ∧ x1.2.length * 8 ≤ reachBytes ∧ ∀ y ∈ x1.2, True) (A2 : Array Value) (x2 : Int × List Int) (h2 : RV rdWay W (.agg A2) x2) (c2 : True ∧ x2.2.length * 8 ≤ reachBytes ∧ ∀ y ∈ x2.2, True) :
    Calls Try.prog 6 #[.agg A0, .agg A1, .agg A2] W fun e w' => e = .returned (.bool true) ∧ Below W.heap.size W w' := by
  obtain ⟨_, _, rfl, _, r0⟩ := way_form h0
  obtain ⟨_, _, rfl, _, r1⟩ := way_form h1
  obtain ⟨_, _, rfl, _, r2⟩ := way_form h2
  exact GaoBetter_is r0 r1 r2
end Go.Proofs.Ytnihheikaddmoaa
