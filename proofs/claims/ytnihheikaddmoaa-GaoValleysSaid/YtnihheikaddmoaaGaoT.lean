/- waywardenref2: BestOffer, OffersOf. -/
import Derived.Test.YtnihheikaddmoaaGaoS
import Derived.Test.YtnihheikaddmoaaGaoH
namespace Go.Proofs.Ytnihheikaddmoaa
open Go.ChangeShapes Go.WideShapes Go.ChangeAt Go.RowKit Ga
set_option linter.unusedVariables false
set_option linter.unusedSimpArgs false
theorem BetterOf_c {w : World} {A A' : Option Addr} {n n' c c' : Nat} {t u : Int} {p q : List Int} {r : Bool} (hp : R1 (RdSlice 1 (rdInt .i64)) w (.slice A n c) p) (hq : R1 (RdSlice 1 (rdInt .i64)) w (.slice A' n' c') q) (hr : betterB (t, p) (u, q) = r) (d : Nat) (os : Array Obj) :
    Calls Try.prog 20 #[.agg #[.int .i64 t, .slice A n c], .agg #[.int .i64 u, .slice A' n' c']] (Sort.grow (redrawn w d) os) fun e w'' => e = .returned (.bool r) ∧ ∃ p : Regrown, w'' = Sort.grow (redrawn w p.d) p.os :=
  Calls.regrown_of (BetterOf_any (hp.below (below_regrown w d os)) (hq.below (below_regrown w d os)) (fun _ h => h) (fun _ h => h) hr)
/-- the box of the best, while lists that came in stay -/
def BoxW (w wr : World) (g : Nat) (x : Ga.Way) : Prop := ∃ A n c, wr.heap[g]? = some (.cells #[.int .i64 x.1, .slice A n c] 31 (0, 0)) ∧ (Lit.int .i64 x.1).wf = true ∧ R1 (RdSlice 1 (rdInt .i64)) w (.slice A n c) x.2
def BestPost (w : World) (x : Ga.Way) (e : Ending) (w' : World) : Prop := ∃ A n c, e = .returned (.agg #[.int .i64 x.1, .slice A n c]) ∧ (Lit.int .i64 x.1).wf = true ∧ R1 (RdSlice 1 (rdInt .i64)) w (.slice A n c) x.2 ∧ Below w.heap.size w w'
theorem nil_r1 (w : World) : R1 (RdSlice 1 (rdInt .i64)) w (.slice none 0 0) ([] : List Int) := ⟨none, 0, rfl, Nat.le_refl _, by decide, fun h => by simp at h⟩
set_option maxRecDepth 100000 in
set_option maxHeartbeats 4000000 in
theorem BestOffer_any {w : World} {A : Option Addr} {n c : Nat} {l : List Ga.Way} (hl : R1 rdWays w (.slice A n c) l) :
    Calls Try.prog 9 #[.slice A n c] w (BestPost w (bestP l)) := by
  obtain ⟨hn, hle, hcm⟩ := RdSlice.len hl
  have hn0 : n ≤ 9223372036854775807 := by unfold maxLen at hcm; omega
  have hc0 : c ≤ 9223372036854775807 := by unfold maxLen at hcm; omega
  have HN := Lib.hid hn
  have HL := Lib.hid hl
  clear hn hcm hl
  go_enter Try.func9, Try.ntmps9
  go_wp2
  have hb0 : Below w.heap.size w ((w.alloc (.cells #[.int .i64 0, .slice none 0 0] 31)).alloc (.cells #[.int .i64 0, .slice none 0 0] 31)) := below_box2 _ _ _
  obtain ⟨hr0, hr1⟩ := box2 (w := w) (o1 := .cells #[.int .i64 0, .slice none 0 0] 31) (o2 := .cells #[.int .i64 0, .slice none 0 0] 31) (Below.refl _ _)
  go_loopw [4] (fun t wr => ∃ k : Nat, k ≤ n ∧ t = .int .i64 k ∧ wr.heap[w.heap.size]? = some (.cells #[.int .i64 0, .slice none 0 0] 31 (0, 0)) ∧ BoxW w wr (w.heap.size + 1) (bestK l k) ∧ Below w.heap.size w wr) (fun t _ => n - (intOf t).toNat)
  case atStart => exact ⟨0, Nat.zero_le _, rfl, hr0, ⟨none, 0, 0, hr1, (show (Lit.int .i64 0).wf = true by decide), nil_r1 w⟩, hb0⟩
  case round =>
    obtain ⟨k, hk, rfl, hr, ⟨Ab, nb, cb, hbx, hbw, hbr⟩, hb⟩ := hrel
    clear hb0 hr0 hr1
    have HR := Lib.hid hr
    have HBX := Lib.hid hbx
    have HBW := Lib.hid hbw
    have HBR := Lib.hid hbr
    have HB := Lib.hid hb
    have s1 := hb.size
    obtain ⟨e0, e1, -, -⟩ := row2 hbx
    have lb := size_of_block hbx
    clear hr hbw hbr hb
    obtain ⟨z, hz⟩ : ∃ z, bestK l k = z := ⟨_, rfl⟩
    obtain ⟨zt, zp⟩ := z
    rw [hz] at e0 HBX HBW HBR hbx
    simp only at e0 HBX HBW HBR hbx
    by_cases hlt : k < n
    · obtain ⟨b, o, t, p, A', c', rfl, hbb, HX, wt, hp, d0, d1⟩ := RdSlice.atW HL.out hlt
      have i0 : (0 : Int) ≤ (k : Int) := by omega
      have i1 : (k : Int) < (n : Int) := by omega
      have hbl : b < w.heap.size := hbb
      obtain ⟨np, hnp⟩ : ∃ np, p.length = np := ⟨_, rfl⟩
      rw [hnp] at d1 hp
      have HP := Lib.hid (show R1 (RdSlice 1 (rdInt .i64)) w (.slice A' np c') p from hp)
      have f0 := (HB.out.cell (p := ⟨b, o + k * 2, none⟩) hbb).trans d0
      have f1 := (HB.out.cell (p := ⟨b, o + k * 2 + 1, none⟩) hbb).trans d1
      obtain ⟨q, hq⟩ : ∃ q, betterB (t, p) (zt, zp) = q := ⟨_, rfl⟩
      have HQ := Lib.hid hq
      have HK := Lib.hid ((bestK_succ HX.out).trans (by rw [hz]))
      have HWT := Lib.hid wt
      clear hp hnp hq hz d0 d1 hbx wt
      have j0 := fun d os => cell_regrown e0 d os
      have j1 := fun d os => cell_regrown e1 d os
      have j2 := fun d os => cell_regrown f0 d os
      have j3 := fun d os => cell_regrown f1 d os
      have HP1 := Lib.hid (HP.out.below HB.out)
      have HBR1 := Lib.hid (HBR.out.below HB.out)
      go_wp2
      refine wp_region_quiet_below (by kernel_rfl) (by kernel_rfl) ?_
      repeat (go_big_quiet_step (first | (with_reducible exact BetterOf_c HP1.out HBR1.out HQ.out _ _) | fail))
      refine wpQuiet_nil ?_
      intro w4 hw'
      obtain ⟨⟨dq, osq⟩, hw''⟩ := hw'
      have hb4 : Below wr.heap.size wr w4 := by rw [hw'']; exact below_regrown wr dq osq
      have hR4 := below_block hb4 (by omega) HR.out
      have hX4 := below_block hb4 lb HBX.out
      have f0' := (hb4.cell (p := ⟨b, o + k * 2, none⟩) (by simp only; omega)).trans f0
      have f1' := (hb4.cell (p := ⟨b, o + k * 2 + 1, none⟩) (by simp only; omega)).trans f1
      have HB4 := Lib.hid (HB.out.trans (hb4.mono s1))
      have HR4 := Lib.hid hR4
      have HX4 := Lib.hid hX4
      have lb4 := size_of_block hX4
      obtain ⟨e0', e1', fr0, fr1⟩ := row2 hX4
      clear j0 j1 j2 j3 hw'' hb4 hR4 hX4 e0 e1 f0 f1
      cases q
      · have HKN := Lib.hid (HK.out.trans (by rw [if_neg (by rw [HQ.out]; decide)]))
        clear HK HQ
        go_wp2
        go_roundw
        case rel => exact ⟨k + 1, by omega, by go_num, HR4.out, by rw [HKN.out]; exact ⟨Ab, nb, cb, HX4.out, HBW.out, HBR.out⟩, HB4.out⟩
        case measure => simp [intOf]; omega
      · have HKY := Lib.hid (HK.out.trans (by rw [if_pos HQ.out]))
        clear HK HQ
        have HB5 := Lib.hid ((HB4.out.setCell (p := ⟨w.heap.size + 1, 0, none⟩) (by simp only; omega) (.int .i64 t)).setCell (p := ⟨w.heap.size + 1, 1, none⟩) (by simp only; omega) (.slice A' np c'))
        have HR5 : Hid (((w4.setCell ⟨w.heap.size + 1, 0, none⟩ (.int .i64 t)).setCell ⟨w.heap.size + 1, 1, none⟩ (.slice A' np c')).heap[w.heap.size]? = some (.cells #[.int .i64 0, .slice none 0 0] 31 (0, 0))) := Lib.hid (by
          rw [heap_setCell_other _ _ _ _ (by simp only; omega), heap_setCell_other _ _ _ _ (by simp only; omega)]; exact HR4.out)
        have HX5 : Hid (((w4.setCell ⟨w.heap.size + 1, 0, none⟩ (.int .i64 t)).setCell ⟨w.heap.size + 1, 1, none⟩ (.slice A' np c')).heap[w.heap.size + 1]? = some (.cells #[.int .i64 t, .slice A' np c'] 31 (0, 0))) := Lib.hid (set2_block _ _ HX4.out)
        go_wp2
        go_roundw
        case rel => exact ⟨k + 1, by omega, by go_num, HR5.out, by rw [HKY.out]; exact ⟨A', np, c', HX5.out, HWT.out, HP.out⟩, HB5.out⟩
        case measure => simp [intOf]; omega
    · have e : k = n := by omega
      subst e
      have HBE : Hid (bestP l = (zt, zp)) := Lib.hid (by rw [← bestK_all, ← HN.out]; exact hz)
      obtain ⟨u0, u1, fu0, fu1⟩ := row2 HR.out
      have HB5 := Lib.hid ((HB.out.setCell (p := ⟨w.heap.size, 0, none⟩) (Nat.le_refl _) (.int .i64 zt)).setCell (p := ⟨w.heap.size, 1, none⟩) (Nat.le_refl _) (.slice Ab nb cb))
      have lr := size_of_block HR.out
      have HRF := Lib.hid (set2_block (.int .i64 zt) (.slice Ab nb cb) HR.out)
      clear hz
      go_wp2
      (try simp only [Exit.inBlock, Exit.then])
      refine bodyPost_ret (results_cell_row (P := Try.prog) rfl _ _ w.heap.size 31 _ (0, 0) _ rfl HRF.out Try.underlying31 rfl (by kernel_rfl)) rfl ?_
      rw [HBE.out]
      exact ⟨Ab, nb, cb, rfl, HBW.out, HBR.out, HB5.out⟩
end Go.Proofs.Ytnihheikaddmoaa
