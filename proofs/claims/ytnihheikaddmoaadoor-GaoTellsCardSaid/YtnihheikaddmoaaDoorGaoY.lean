/- gao.Offers. -/
import Derived.Test.YtnihheikaddmoaaDoorGaoV
import Derived.Deep.DeepCutAuto
namespace Go.Proofs.YtnihheikaddmoaaDoor
open Go.ChangeShapes Go.WideShapes Go.ChangeAt Go.RowKit Ga
set_option linter.unusedVariables false
set_option linter.unusedSimpArgs false
set_option maxRecDepth 100000 in
theorem Offers_bad {w : World} {n i tz k : Int} {A Aw : Option Addr} {m c mw cw : Nat} {d : List Deal} (hd : R1 rdDeals w (.slice A m c) d) (he : dealE n d = k) (h0 : k ≠ 0) :
    Calls Tryd.prog 10 #[.int .i64 n, .slice A m c, .slice Aw mw cw, .int .i64 i, .int .i64 tz] w fun e w' => e = .returned (.tuple #[.slice none 0 0, .iface 28 (.int .i64 k)]) ∧ Below w.heap.size w w' := by
  have HC := Lib.hid (GaoCheck_any hd he)
  rw [errV_ne h0] at HC
  clear hd he
  go_enter Tryd.func10, Tryd.ntmps10
  go_wp2_with fail
  go_at_call 7
  (with_reducible refine HC.out.mono ?_)
  rintro e w1 ⟨rfl, hb⟩
  go_wp2
  go_ret2
  exact ⟨rfl, hb⟩
set_option maxRecDepth 100000 in
theorem Offers_out {w : World} {n i tz : Int} {A Aw : Option Addr} {m c mw cw : Nat} {d : List Deal} (hd : R1 rdDeals w (.slice A m c) d) (he : dealE n d = 0) (h0 : i < 0 ∨ n ≤ i ∨ tz < 0 ∨ n ≤ tz) :
    Calls Tryd.prog 10 #[.int .i64 n, .slice A m c, .slice Aw mw cw, .int .i64 i, .int .i64 tz] w fun e w' => e = .returned (.tuple #[.slice none 0 0, .iface 28 (.int .i64 1)]) ∧ Below w.heap.size w w' := by
  have HC := Lib.hid (GaoCheck_any hd he)
  rw [errV_zero] at HC
  clear hd he
  obtain ⟨a1, h1⟩ : ∃ a, decide (i < 0) = a := ⟨_, rfl⟩
  obtain ⟨a2, h2⟩ : ∃ a, decide (n ≤ i) = a := ⟨_, rfl⟩
  obtain ⟨a3, h3⟩ : ∃ a, decide (tz < 0) = a := ⟨_, rfl⟩
  obtain ⟨a4, h4⟩ : ∃ a, decide (n ≤ tz) = a := ⟨_, rfl⟩
  have HA : Hid (a1 = false → a2 = false → a3 = false → a4 = false → False) := Lib.hid (by
    rintro rfl rfl rfl rfl
    simp only [decide_eq_false_iff_not] at h1 h2 h3 h4
    omega)
  clear h0
  cases a1 <;> cases a2 <;> cases a3 <;> cases a4
  case false.false.false.false => exact (HA.out rfl rfl rfl rfl).elim
  all_goals
    clear HA
    go_enter Tryd.func10, Tryd.ntmps10
    go_wp2_with fail
    go_at_call 7
    (with_reducible refine HC.out.mono ?_)
    rintro e w1 ⟨rfl, hb⟩
    go_wp2
    go_ret2
    exact ⟨rfl, hb⟩
set_option maxRecDepth 100000 in
theorem Offers_form {w : World} {n i tz : Nat} {A Aw : Option Addr} {m c mw cw : Nat} {d : List Deal} (hd : R1 rdDeals w (.slice A m c) d) (he : dealE n d = 0) (hi : i < n) (hto : tz < n) (hm : mw ≠ n) :
    Calls Tryd.prog 10 #[.int .i64 n, .slice A m c, .slice Aw mw cw, .int .i64 i, .int .i64 tz] w fun e w' => e = .returned (.tuple #[.slice none 0 0, .iface 28 (.int .i64 3)]) ∧ Below w.heap.size w w' := by
  have HC := Lib.hid (GaoCheck_any hd he)
  rw [errV_zero] at HC
  have t1 : ((mw : Int) != (n : Int)) = true := by simp; omega
  clear hd he
  go_enter Tryd.func10, Tryd.ntmps10
  go_wp2_with fail
  go_at_call 7
  (with_reducible refine HC.out.mono ?_)
  rintro e w1 ⟨rfl, hb⟩
  go_wp2
  go_ret2
  exact ⟨rfl, hb⟩
theorem OwnW.r1 {w : World} {base : Nat} {A : Option Addr} {n c : Nat} {xs : List Ga.Way} (h : OwnW w base (.slice A n c) xs) : R1 rdWays w (.slice A n c) xs := RdLaw.mono h.read (fun b hb => hb.2)
theorem OwnW.val {w : World} {base : Nat} {v : Value} {xs : List Ga.Way} (h : OwnW w base v xs) : ∃ A n c, v = .slice A n c ∧ R1 rdWays w (.slice A n c) xs := by
  obtain ⟨A, c, rfl⟩ := h.form
  exact ⟨A, _, c, rfl, h.r1⟩
/-- what offers are told with -/
def OffersPost (w : World) (O : List Ga.Way) (G : Int) (e : Ending) (w' : World) : Prop := ∃ A n c, e = .returned (.tuple #[.slice A n c, errV G]) ∧ R1 rdWays w' (.slice A n c) O ∧ Below w.heap.size w w'
theorem nil_ways (w : World) : R1 rdWays w (.slice none 0 0) [] := ⟨none, 0, rfl, Nat.le_refl _, by decide, fun h => by simp at h⟩
set_option maxRecDepth 100000 in
set_option maxHeartbeats 4000000 in
theorem Offers_yes {w : World} {n i tz : Nat} {A Aw : Option Addr} {m c cw : Nat} {d : List Deal} {V : List Ga.Way} (hd : R1 rdDeals w (.slice A m c) d) (he : dealE n d = 0) (ok : OkG n d) (hi : i < n) (hto : tz < n) (hv : R1 rdWays w (.slice Aw n cw) V) (hvs : ∀ x ∈ V, x.2.length ≤ 17592186043904) :
    Calls Tryd.prog 10 #[.int .i64 n, .slice A m c, .slice Aw n cw, .int .i64 i, .int .i64 tz] w (OffersPost w (offersP (WL d) n V i) 0) := by
  have HC := Lib.hid (GaoCheck_any hd he)
  rw [errV_zero] at HC
  have HD := Lib.hid hd
  have HV := Lib.hid hv
  have HVS : Hid (∀ x ∈ V, x.2.length ≤ 17592186044416 - 10) := Lib.hid (fun x hx => by have := hvs x hx; omega)
  have HOK := Lib.hid ok
  have h1 := ok.one
  have h8 := ok.eight
  have HWF := Lib.hid (fun a b : Nat => show (Lit.int .i64 (WL d a b)).wf = true from WalkArith.wf_i64 (by have := what_val ok.rng (a : Int) (b : Int); unfold WL; omega))
  have t1 : ((n : Int) != (n : Int)) = false := by simp
  clear hd he hv hvs ok
  go_enter Tryd.func10, Tryd.ntmps10
  go_wp2_with fail
  go_at_call 7
  (with_reducible refine HC.out.mono ?_)
  rintro e w1 ⟨rfl, hb1⟩
  have HB1 := Lib.hid hb1
  have s1 := hb1.size
  have HD1 := Lib.hid (HD.out.below hb1)
  have HT := Lib.hid (table_any HD1.out h1 h8 HOK.out.rng HOK.out.twice)
  clear hb1 HC
  go_wp2_with fail
  go_at_call 19
  (with_reducible refine HT.out.mono ?_)
  rintro e w2 ⟨vt, rfl, htab, hb2⟩
  obtain ⟨At, ct, rfl⟩ := htab.form
  have hlt' : (tabL n (WL d)).length = n := by unfold tabL; simp
  rw [hlt'] at htab ⊢
  have HTAB := Lib.hid htab
  have HB2 := Lib.hid (HB1.out.trans (hb2.mono s1))
  have HV2 := Lib.hid (HV.out.below HB2.out)
  have s2 := HB2.out.size
  clear htab hb2 hlt' HT
  go_wp2_with fail
  go_at_call 24
  (with_reducible refine (offers_any HTAB.out HV2.out hi h8 HWF.out HVS.out).mono ?_)
  rintro e w3 ⟨v, rfl, hown, hb3⟩
  obtain ⟨A3, n3, c3, rfl, hr3⟩ := hown.val
  have HOW := Lib.hid hr3
  have HB3 := Lib.hid (HB2.out.trans (hb3.mono s2))
  clear hown hb3 hr3
  go_wp2
  go_ret2
  exact ⟨A3, n3, c3, by rw [errV_zero]; rfl, HOW.out, HB3.out⟩
end Go.Proofs.YtnihheikaddmoaaDoor
