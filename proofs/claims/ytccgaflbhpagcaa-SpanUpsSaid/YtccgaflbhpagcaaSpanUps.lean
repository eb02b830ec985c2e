/- SpanUps: the walk of the law. -/
import Derived.Test.YtccgaflbhpagcaaSpanned
import Derived.Test.YtccgaflbhpagcaaCost
namespace Go.Proofs.Ytccgaflbhpagcaa
open Go.ChangeShapes Go.WideShapes Go.ChangeAt Go.RowKit Sp
set_option linter.unusedVariables false
set_option linter.unusedSimpArgs false
set_option maxRecDepth 100000 in
set_option maxHeartbeats 2000000 in
theorem SpanUps_bad {w : World} {n i k : Int} {A : Option Addr} {c m : Nat} {l : List Lnk} (hl : R1 rdLinks w (.slice A m c) l) (hr : l.length * 24 ≤ 140737488351232) (hg : graphE n l = k) (h0 : k ≠ 0) :
    Calls Try.prog 3 #[.int .i64 n, .slice A m c, .int .i64 i] w fun e w' => e = .returned (.bool true) ∧ Below w.heap.size w w' := by
  have HL := Lib.hid hl
  have HG := Lib.hid hg
  clear hl hg
  go_enter Try.func3, Try.ntmps3
  go_wp2_with fail
  go_at_call 5
  (with_reducible refine (spanned_any _).mono ?_)
  rintro e w1 ⟨rfl, hb1⟩
  have HB1 := Lib.hid hb1
  have s1 := hb1.size
  clear hb1
  go_wp2_with fail
  go_at_call 6
  (with_reducible refine (Ups_no (HL.out.below HB1.out) hr HG.out h0).mono ?_)
  rintro e w2 ⟨rfl, hb2⟩
  have HB2 := Lib.hid (HB1.out.trans (hb2.mono s1))
  have s2 := HB2.out.size
  clear hb2
  go_wp2_with fail
  go_at_call 7
  (with_reducible refine (Roots_no (HL.out.below HB2.out) hr HG.out h0).mono ?_)
  rintro e w3 ⟨rfl, hb3⟩
  have HB3 := Lib.hid (HB2.out.trans (hb3.mono s2))
  clear hb3
  go_wp2
  go_quiet (fail)
  go_wp2
  go_ret
  exact ⟨rfl, below_drewN HB3.out _⟩
set_option maxRecDepth 100000 in
set_option maxHeartbeats 2000000 in
theorem SpanUps_out {w : World} {n : Nat} {i : Int} {A : Option Addr} {c m : Nat} {l : List Lnk} (hl : R1 rdLinks w (.slice A m c) l) (hok : OkL n l) (h1 : 1 ≤ n) (h8 : n ≤ 8) (hi : i < 0 ∨ (n : Int) ≤ i) :
    Calls Try.prog 3 #[.int .i64 n, .slice A m c, .int .i64 i] w fun e w' => e = .returned (.bool true) ∧ Below w.heap.size w w' := by
  have HL := Lib.hid hl
  have HOK := Lib.hid hok
  clear hl hok
  rcases hi with hi | hi
  all_goals
    first
      | (have hi2 : ¬ (n : Int) ≤ i := by omega)
      | (have hi2 : ¬ i < 0 := by omega)
    go_enter Try.func3, Try.ntmps3
    go_wp2_with fail
    go_at_call 5
    (with_reducible refine (spanned_any _).mono ?_)
    rintro e w1 ⟨rfl, hb1⟩
    have HB1 := Lib.hid hb1
    have s1 := hb1.size
    clear hb1
    go_wp2_with fail
    go_at_call 6
    (with_reducible refine (Ups_yes (HL.out.below HB1.out) HOK.out h1 h8).mono ?_)
    rintro e w2 ⟨v2, B2, rfl, hv2, hl2, hb2⟩
    have HB2 := Lib.hid (HB1.out.trans (hb2.mono s1))
    have s2 := HB2.out.size
    clear hb2 hv2 hl2
    go_wp2_with fail
    go_at_call 7
    (with_reducible refine (Roots_yes (HL.out.below HB2.out) HOK.out h1 h8).mono ?_)
    rintro e w3 ⟨v3, B3, rfl, hv3, hl3, hb3⟩
    have HB3 := Lib.hid (HB2.out.trans (hb3.mono s2))
    clear hb3 hv3 hl3
    go_wp2
    go_quiet (fail)
    go_wp2
    go_ret
    exact ⟨rfl, below_drewN HB3.out _⟩
/-- going up: where one is -/
structure Up (n : Nat) (B : List Bel) (r : Nat) (v k : Nat) : Prop where
  lt : v < n
  root : (at_ B v).1 = (r : Int)
  near : k + near n B v < n
theorem map_at {B : List Bel} {f : Bel → Int} {v : Nat} (h : v < B.length) : (B.map f)[v]? = some (f (at_ B v)) := by rw [List.getElem?_map, at_get h]; rfl
set_option maxRecDepth 100000 in
set_option maxHeartbeats 4000000 in
theorem SpanUps_in {w : World} {n i : Nat} {A : Option Addr} {c m : Nat} {l : List Lnk} (hl : R1 rdLinks w (.slice A m c) l) (hok : OkL n l) (h1 : 1 ≤ n) (h8 : n ≤ 8) (hi : i < n) :
    Calls Try.prog 3 #[.int .i64 n, .slice A m c, .int .i64 i] w fun e w' => e = .returned (.bool true) ∧ Below w.heap.size w w' := by
  have HL := Lib.hid hl
  have HOK := Lib.hid hok
  clear hl hok
  go_enter Try.func3, Try.ntmps3
  go_wp2_with fail
  go_at_call 5
  (with_reducible refine (spanned_any _).mono ?_)
  rintro e w1 ⟨rfl, hb1⟩
  have HB1 := Lib.hid hb1
  have s1 := hb1.size
  clear hb1
  go_wp2_with fail
  go_at_call 6
  (with_reducible refine (Ups_yes (HL.out.below HB1.out) HOK.out h1 h8).mono ?_)
  rintro e w2 ⟨v2, B, rfl, hv2, hl2, hb2⟩
  have hlen := (hl2.inv (ok_arcs HOK.out)).len
  obtain ⟨A2, c2, rfl⟩ := hv2.form
  rw [List.length_map, hlen] at hv2 ⊢
  have HB2 := Lib.hid (HB1.out.trans (hb2.mono s1))
  have s2 := HB2.out.size
  have HV2 := Lib.hid hv2
  have HLA := Lib.hid hl2
  have HLEN := Lib.hid hlen
  clear hb2 hv2 hl2 hlen
  go_wp2_with fail
  go_at_call 7
  (with_reducible refine (Roots_yes (HL.out.below HB2.out) HOK.out h1 h8).mono ?_)
  rintro e w3 ⟨v3, B3, rfl, hv3, hl3, hb3⟩
  obtain rfl : B3 = B := hl3.one (ok_arcs HOK.out) h8 HLA.out
  obtain ⟨A3, c3, rfl⟩ := hv3.form
  rw [List.length_map, HLEN.out] at hv3 ⊢
  have HB3 := Lib.hid (HB2.out.trans (hb3.mono s2))
  have HV3 := Lib.hid hv3
  have HU3 := Lib.hid (HV2.out.below hb3)
  have HF := Lib.hid (hl3.fin (ok_arcs HOK.out) h8 (sym_arcs l))
  have HL3 := Lib.hid (HL.out.below HB3.out)
  have HC3 := Lib.hid (fun v y : Int => Cost_any HL3.out v y)
  clear hb3 hv3 hl3
  obtain ⟨b2, o2, rfl, _⟩ := HU3.out.where_ (by omega)
  obtain ⟨b3, o3, rfl, _⟩ := HV3.out.where_ (by omega)
  obtain ⟨r, hr, hr1, hr2, hr3, hr4⟩ := root_root (ok_arcs HOK.out) HF.out hi
  have hri := (HF.out.node i hi).2.1
  have c0 := HV3.out.cellI (map_at (f := fun x => x.1) (by rw [HLEN.out]; exact hi))
  have c1 := HV3.out.cellI (map_at (f := fun x => x.1) (by rw [HLEN.out]; exact hr))
  have c2 := HU3.out.cellI (map_at (f := fun x => x.2.2) (by rw [HLEN.out]; exact hr))
  rw [hr1] at c0 hri
  rw [hr2] at c1
  rw [hr3] at c2
  have HUP := Lib.hid (show Up n B3 r i 0 from ⟨hi, hr1, by have := near_n (B := B3) hi; omega⟩)
  have HR2 := Lib.hid hr2
  clear hr1 hr2 hr3 hr4
  have e0 : decide (i < r) = false := decide_eq_false (by omega)
  have e1 : decide ((r : Int) < 0) = false := decide_eq_false (by omega)
  have e2 : decide ((i : Int) < 0) = false := decide_eq_false (by omega)
  have e3 : decide (n ≤ i) = false := decide_eq_false (by omega)
  clear hri
  go_wp2
  go_loop [2, 13] (fun t u => ∃ v k : Nat, t = .int .i64 v ∧ u = .int .i64 k ∧ Up n B3 r v k) (fun _ u => n - (intOf u).toNat)
  case atStart => exact ⟨i, 0, rfl, rfl, HUP.out⟩
  case round =>
    obtain ⟨v, k, rfl, rfl, hup⟩ := hrel
    have hv := hup.lt
    have hk := hup.near
    have HU := Lib.hid hup.root
    clear hup HUP c0 c1 c2
    by_cases hvr : v = r
    · have t0 : ((v : Int) != (r : Int)) = false := by subst hvr; simp
      clear hvr
      go_wp2
      go_ret
      exact ⟨rfl, HB3.out⟩
    · have hne : (at_ B3 v).1 ≠ v := by rw [HU.out]; omega
      obtain ⟨y, z, hy, g1, g2, g3, g4, g5⟩ := up_step (ok_arcs HOK.out) HF.out hv hne
      have hkn : k ≠ n := by omega
      have t0 : ((v : Int) != (r : Int)) = true := by simp; omega
      have t1 : ((k : Int) == (n : Int)) = false := decide_eq_false (by omega)
      have hnear := near_lt (n := n) hy g4
      have c0 := HU3.out.cellI (map_at (f := fun x => x.2.2) (by rw [HLEN.out]; exact hv))
      have c1 := HV3.out.cellI (map_at (f := fun x => x.1) (by rw [HLEN.out]; exact hy))
      rw [g1] at c0
      rw [g3, HU.out] at c1
      have hcost := cost_arc HOK.out g2
      obtain ⟨q, hq⟩ : ∃ q, costL l v y = q := ⟨_, rfl⟩
      rw [hq] at hcost
      obtain ⟨hq1, hq2⟩ := hcost
      have HQ := Lib.hid hq
      have HUP2 := Lib.hid (show Up n B3 r y (k + 1) from ⟨hy, by rw [g3]; exact HU.out, by omega⟩)
      clear hq g1 g2 g3 g4 g5 hne hvr hkn
      go_wp2_with fail
      go_at_call 8
      (with_reducible refine (HC3.out v y).mono ?_)
      rintro e w4 ⟨rfl, rfl⟩
      rw [HQ.out]
      go_wp2
      go_round
      case rel => exact ⟨y, k + 1, rfl, by go_num, HUP2.out⟩
      case measure => simp [intOf]; omega
theorem SpanUps_walk (w : World) (n : Int) (bn : -9223372036854775808 ≤ n ∧ n ≤ 9223372036854775807) (A : Option Addr) (m c : Nat) (l : List Lnk) (rr1 : RV rdLinks w (.slice A m c) l) (q1 : l.length * 24 ≤ reachBytes ∧ ∀ x ∈ l, True ∧ True ∧ True) (i : Int) (bi : -9223372036854775808 ≤ i ∧ i ≤ 9223372036854775807) :
    Calls Try.prog 3 #[.int .i64 n, .slice A m c, .int .i64 i] w fun e w' => e = .returned (.bool true) ∧ Below w.heap.size w w' := by
  by_cases h0 : graphE n l = 0
  · obtain ⟨N, rfl, h1, h8, hok⟩ := graphE_ok h0
    by_cases hi : i < 0 ∨ (N : Int) ≤ i
    · exact SpanUps_out (show R1 rdLinks w _ l from rr1) hok h1 h8 hi
    · obtain ⟨I, rfl⟩ := Int.eq_ofNat_of_zero_le (show 0 ≤ i by omega)
      exact SpanUps_in (show R1 rdLinks w _ l from rr1) hok h1 h8 (by omega)
  · exact SpanUps_bad (show R1 rdLinks w _ l from rr1) q1.1 rfl h0
end Go.Proofs.Ytccgaflbhpagcaa
