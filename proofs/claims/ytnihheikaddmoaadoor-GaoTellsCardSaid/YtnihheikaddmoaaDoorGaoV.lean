/- waywardensame.Ways at lists that are the same; the checks of the laws on ways. -/
import Derived.Test.YtnihheikaddmoaaDoorGaoU
namespace Go.Proofs.YtnihheikaddmoaaDoor
open Go.ChangeShapes Go.WideShapes Go.ChangeAt Go.RowKit Ga
set_option linter.unusedVariables false
set_option linter.unusedSimpArgs false
theorem Way_c {w : World} {A A' : Option Addr} {n n' c c' : Nat} {t u : Int} {p q : List Int} {r : Bool} (hp : R1 (RdSlice 1 (rdInt .i64)) w (.slice A n c) p) (hq : R1 (RdSlice 1 (rdInt .i64)) w (.slice A' n' c') q) (hr : decide (((t, p) : Ga.Way) = (u, q)) = r) (d : Nat) (os : Array Obj) :
    Calls Tryd.prog 27 #[.agg #[.int .i64 t, .slice A n c], .agg #[.int .i64 u, .slice A' n' c']] (Sort.grow (redrawn w d) os) fun e w'' => e = .returned (.bool r) ∧ ∃ p : Regrown, w'' = Sort.grow (redrawn w p.d) p.os :=
  Calls.regrown_of (Way_any (R1.rd (hp.below (below_regrown w d os))) (R1.rd (hq.below (below_regrown w d os))) (fun _ h => h) (fun _ h => h) hr)
theorem Way_same {w : World} {A A' : Option Addr} {n n' c c' : Nat} {t : Int} {p : List Int} (hp : R1 (RdSlice 1 (rdInt .i64)) w (.slice A n c) p) (hq : R1 (RdSlice 1 (rdInt .i64)) w (.slice A' n' c') p) (d : Nat) (os : Array Obj) :
    Calls Tryd.prog 27 #[.agg #[.int .i64 t, .slice A n c], .agg #[.int .i64 t, .slice A' n' c']] (Sort.grow (redrawn w d) os) fun e w'' => e = .returned (.bool true) ∧ ∃ p : Regrown, w'' = Sort.grow (redrawn w p.d) p.os :=
  Way_c hp hq (by simp) d os
set_option maxRecDepth 100000 in
set_option maxHeartbeats 4000000 in
theorem sameWays_eq {w : World} {A A' : Option Addr} {n n' c c' : Nat} {T : List Ga.Way} (h : R1 rdWays w (.slice A n c) T) (h' : R1 rdWays w (.slice A' n' c') T) :
    Calls Tryd.prog 11 #[.slice A n c, .slice A' n' c'] w fun e w' => e = .returned (.bool true) ∧ Below w.heap.size w w' := by
  obtain ⟨hn, hle, hcm⟩ := RdSlice.len h
  obtain ⟨hn', hle', hcm'⟩ := RdSlice.len h'
  have hn0 : n ≤ 9223372036854775807 := by unfold maxLen at hcm; omega
  have hc0 : c ≤ 9223372036854775807 := by unfold maxLen at hcm; omega
  have hc1 : c' ≤ 9223372036854775807 := by unfold maxLen at hcm'; omega
  obtain rfl : n = n' := by omega
  have H := Lib.hid h
  have H' := Lib.hid h'
  clear hn hn' hcm hcm' h h'
  go_enter Tryd.func11, Tryd.ntmps11
  go_wp2
  go_loopw [5] (fun t wr => ∃ k : Nat, k ≤ n ∧ t = .int .i64 k ∧ Below w.heap.size w wr) (fun t _ => n - (intOf t).toNat)
  case atStart => exact ⟨0, Nat.zero_le _, rfl, Below.refl _ _⟩
  case round =>
    obtain ⟨k, hk, rfl, hb⟩ := hrel
    have HB := Lib.hid hb
    have s1 := hb.size
    clear hb
    by_cases hlt : k < n
    · obtain ⟨b, o, t, p, A1, c1, rfl, hbb, HX, _, hp, d0, d1⟩ := RdSlice.atW H.out hlt
      obtain ⟨b', o', t', p', A2, c2, rfl, hbb', HX', _, hp', d0', d1'⟩ := RdSlice.atW H'.out hlt
      have e := HX.out.symm.trans HX'.out
      simp only [Option.some.injEq, Prod.mk.injEq] at e
      obtain ⟨rfl, rfl⟩ := e
      have f0 := (HB.out.cell hbb).trans d0
      have f1 := (HB.out.cell hbb).trans d1
      have g0 := (HB.out.cell hbb').trans d0'
      have g1 := (HB.out.cell hbb').trans d1'
      have j0 := fun d os => cell_regrown f0 d os
      have j1 := fun d os => cell_regrown f1 d os
      have j2 := fun d os => cell_regrown g0 d os
      have j3 := fun d os => cell_regrown g1 d os
      have HP := Lib.hid (R1.below (show R1 (RdSlice 1 (rdInt .i64)) w (.slice A1 p.length c1) p from hp) HB.out)
      have HQ := Lib.hid (R1.below (show R1 (RdSlice 1 (rdInt .i64)) w (.slice A2 p.length c2) p from hp') HB.out)
      have i0 : (0 : Int) ≤ (k : Int) := by omega
      have i1 : (k : Int) < (n : Int) := by omega
      obtain ⟨np, hnp⟩ : ∃ np, p.length = np := ⟨_, rfl⟩
      rw [hnp] at j1 j3 HP HQ
      clear f0 f1 g0 g1 d0 d1 d0' d1' hp hp' HX HX' hnp
      go_wp2
      refine wp_region_quiet_below (by kernel_rfl) (by kernel_rfl) ?_
      repeat (go_big_quiet_step (first | (with_reducible exact Way_same HP.out HQ.out _ _) | fail))
      refine wpQuiet_nil ?_
      intro w4 hw'
      obtain ⟨⟨dq, osq⟩, hw''⟩ := hw'
      have hb4 : Below wr.heap.size wr w4 := by rw [hw'']; exact below_regrown wr dq osq
      have HB4 := Lib.hid (HB.out.trans (hb4.mono s1))
      clear j0 j1 j2 j3 hw'' hb4
      go_wp2
      go_roundw
      case rel => exact ⟨k + 1, by omega, by go_num, HB4.out⟩
      case measure => simp [intOf]; omega
    · have e : k = n := by omega
      subst e
      go_wp2
      go_ret
      exact ⟨rfl, HB.out⟩
end Go.Proofs.YtnihheikaddmoaaDoor
