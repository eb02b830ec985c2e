/- The reference's MessageOf. -/
import Derived.Test.YtimdnfakgobadaaDoorWireX
import Derived.Deep.DeepCutAuto
namespace Go.Proofs.YtimdnfakgobadaaDoor
open Go.ChangeShapes Go.WideShapes Go.ChangeAt Go.RowKit
set_option linter.unusedVariables false
set_option linter.unusedSimpArgs false
theorem mo_end {W : World} {R : Nat} {a : Act} {v0 v1 v2 : Value} {t : TypeId} {K : Ending → World → Prop} (h : W.heap[R]? = some (.cells #[v0, v1] t (0, 0))) (h2 : a.tmps[2]?.getD undef = .pointer (some ⟨R, 0, none⟩)) (h3 : a.tmps[3]?.getD undef = v2) (hd : a.defers = [])
    (hK : K (.returned (.tuple #[.agg #[v0, v1], v2])) W) : bodyPost Tryd.prog Tryd.f17 K .ret a W := by
  obtain ⟨e0, e1, _⟩ := row2 h
  exact bodyPost_ret (by simp [results, Tryd.results17, go_sem, h2, h3, e0, e1]) hd hK
theorem OwnE.keepBlk {w w' : World} {base g : Nat} {v v' : Value} {es : List Entry} {o : Obj} (h : OwnE w base v es) (hg : Grow w v w' v') (ho : w.heap[g]? = some o) (hlt : g < base) : w'.heap[g]? = some o :=
  (hg.1.block g (size_of_block ho) (fun e => by have := (h.1.lt _ e.symm).1; omega)).trans ho
/-- what MessageOf hands back -/
def MoPost (w : World) (b : List Int) (e : Ending) (w' : World) : Prop := ∃ q A' n' c', e = .returned (.tuple #[.agg #[.bool q, .slice A' n' c'], .int .i64 (decM b).2]) ∧ q = (decM b).1.1 ∧ R1 rdEntries w' (.slice A' n' c') (decM b).1.2 ∧ Below w.heap.size w w'
theorem MoPost.none_ {w W : World} {b : List Int} {k : Int} (h : decM b = ((false, []), k)) (hb : Below w.heap.size w W) : MoPost w b (.returned (.tuple #[.agg #[.bool false, .slice none 0 0], .int .i64 k])) W :=
  ⟨false, none, 0, 0, by rw [h], by rw [h], by rw [h]; exact R1.nil_e, hb⟩
theorem set2b {W w : World} {R : Nat} (v0 v1 : Value) (h : Below W.heap.size W w) (hR : W.heap.size ≤ R) : Below W.heap.size W ((w.setCell ⟨R, 0, none⟩ v0).setCell ⟨R, 1, none⟩ v1) :=
  (h.setCell (p := ⟨R, 0, none⟩) hR v0).setCell (p := ⟨R, 1, none⟩) hR v1
set_option maxRecDepth 100000 in
set_option maxHeartbeats 64000000 in
theorem MessageOf_a {w : World} {A : Option Addr} {n c : Nat} {b : List Int} (hr : R1 rdBytes w (.slice A n c) b) (hn63 : n ≤ 140737488355328) (hcase : n < 4) :
    Calls Tryd.prog 17 #[.slice A n c] w (MoPost w b) := by
  obtain ⟨hln, hnc, hcm⟩ := RdSlice.len hr
  have HLN := Lib.hid hln
  have HR := Lib.hid hr
  obtain ⟨PP, hPP⟩ : ∃ PP, MoPost w b = PP := ⟨_, rfl⟩
  have HPP := Lib.hid hPP
  rw [hPP]
  obtain ⟨Z, hZ⟩ : ∃ Z, w.heap.size = Z := ⟨_, rfl⟩
  have HZ := Lib.hid hZ
  have HB0 := Lib.hid (alloc1v w (.cells #[.bool false, .slice none 0 0] 35))
  have HZ0 : Hid ((w.alloc (.cells #[.bool false, .slice none 0 0] 35)).heap[Z]? = some (.cells #[.bool false, .slice none 0 0] 35 (0, 0))) := Lib.hid (by rw [← hZ]; exact heap_alloc_new _ _)
  clear hr hln hPP hcm
  go_enter Tryd.func17, Tryd.ntmps17
  go_upto_region 1 with (fail)
  try rw [hZ]
  generalize hw0 : w.alloc (.cells #[.bool false, .slice none 0 0] 35) = w0 at *
  clear hw0 hZ
  go_upto_region 2 with (fail)
  obtain ⟨H, hH⟩ : ∃ H, w0.heap.size = H := ⟨_, rfl⟩
  have hHw : w.heap.size ≤ H := by rw [← hH]; exact HB0.out.size
  have HO1 : Hid (OwnB 5 (w0.alloc (.cells #[.int .u8 2, .int .u8 2, .int .u8 0, .int .u8 0] 5)) w.heap.size (.slice (some ⟨H, 0, none⟩) 4 4) [2, 2, 0, 0]) := Lib.hid ((OwnB.made _ [2, 2, 0, 0] hH (by simp) (by simp) (by unfold maxLen; simp)).monoB hHw)
  have HB1 := Lib.hid (HB0.out.trans ((alloc1v w0 (.cells #[.int .u8 2, .int .u8 2, .int .u8 0, .int .u8 0] 5)).mono HB0.out.size))
  have HZ1 := Lib.hid (blkv (alloc1v w0 (.cells #[.int .u8 2, .int .u8 2, .int .u8 0, .int .u8 0] 5)) (size_of_block HZ0.out) HZ0.out)
  try rw [hH]
  generalize w0.alloc (.cells #[.int .u8 2, .int .u8 2, .int .u8 0, .int .u8 0] 5) = w1 at *
  clear hH HB0 HZ0
  go_wp2
  go_loopw [5] (fun iv wx => ∃ i : Nat, i ≤ n ∧ iv = .int .i64 i ∧ Hid (∀ j, j < i → okH b j) ∧ Hid (Below w1.heap.size w1 wx)) (fun iv _ => n - (intOf iv).toNat)
  case atStart => exact ⟨0, by omega, rfl, Lib.hid (fun j hj => absurd hj (by omega)), Lib.hid (Below.refl _ _)⟩
  case round =>
    obtain ⟨i, hi, rfl, HOK, HBX⟩ := hrel
    have HBW := Lib.hid (HB1.out.trans (HBX.out.mono HB1.out.size))
    have HZX := Lib.hid (blkv HBX.out (size_of_block HZ1.out) HZ1.out)
    have HRX := Lib.hid (HR.out.below HBW.out)
    have i0 : (0 : Int) ≤ (i : Int) := by omega
    by_cases hlt : i < n
    · have q1 : i < 4 := by omega
      have q2 : i < n := by omega
      have q3 : (i : Int) < 4 := by omega
      have q4 : (i : Int) < (n : Int) := by omega
      obtain ⟨bb, oo, x, rfl, hbb, HX, hwx, c0⟩ := RdSlice.atI HRX.out q2
      obtain ⟨bb', oo', x0, eb, hbb', HX0, hwx0, c1⟩ := RdSlice.atI HRX.out (show 0 < n by omega)
      simp only [Option.some.injEq, Addr.mk.injEq, and_true] at eb
      obtain ⟨rfl, rfl⟩ := eb
      rw [Nat.add_zero] at c1
      obtain ⟨d0, d1⟩ := (HO1.out.below_ HBX.out).at_ (g_some (show i < [(2 : Int), 2, 0, 0].length from q1))
      have hgx : g b i = x := by unfold g; simp [HX.out]
      have hgx0 : g b 0 = x0 := by unfold g; simp [HX0.out]
      obtain ⟨y, hy⟩ : ∃ y, g [2, 2, 0, 0] i = y := ⟨_, rfl⟩
      rw [hy] at d0
      have HGX := Lib.hid hgx
      have HGX0 := Lib.hid hgx0
      have HY := Lib.hid hy
      clear hwx hwx0 hgx hgx0 hy
      by_cases hxy : x = y
      · have t1 : (x != y) = false := by simp [hxy]
        have HN : Hid (∀ j, j < i + 1 → okH b j) := Lib.hid (fun j hj => by
          by_cases he : j = i
          · subst he; left; rw [HGX.out, HY.out, hxy]
          · exact HOK.out j (by omega))
        clear hxy
        go_wp2
        go_quiet (fail)
        generalize hw5 : wr.drewN _ = w5
        have hb5 : Below wr.heap.size wr w5 := by rw [← hw5]; exact below_drewN (Below.refl _ _) _
        have HB5 := Lib.hid (HBX.out.trans (hb5.mono HBX.out.size))
        have HBW5 := Lib.hid (HBW.out.trans (hb5.mono HBW.out.size))
        have HZ5 := Lib.hid (blkv hb5 (size_of_block HZX.out) HZX.out)
        clear hw5 hb5
        go_wp2
        go_roundw
        case rel => exact ⟨i + 1, by omega, by go_num, HN, HB5⟩
        case measure => simp [intOf]; try omega
      · have t1 : (x != y) = true := by simp [hxy]
        have HXY := Lib.hid hxy
        clear hxy
        by_cases h0 : i = 0
        · subst h0
          have hxx : x = x0 := by rw [← HGX.out, HGX0.out]
          subst hxx
          by_cases hx1 : x = 1
          · have t2 : (x != 1) = false := by simp [hx1]
            have HN : Hid (∀ j, j < 0 + 1 → okH b j) := Lib.hid (fun j hj => by
              obtain rfl : j = 0 := by omega
              right; exact ⟨rfl, by rw [HGX.out, hx1]⟩)
            clear hx1
            go_wp2
            go_quiet (fail)
            generalize hw5 : wr.drewN _ = w5
            have hb5 : Below wr.heap.size wr w5 := by rw [← hw5]; exact below_drewN (Below.refl _ _) _
            have HB5 := Lib.hid (HBX.out.trans (hb5.mono HBX.out.size))
            have HBW5 := Lib.hid (HBW.out.trans (hb5.mono HBW.out.size))
            have HZ5 := Lib.hid (blkv hb5 (size_of_block HZX.out) HZX.out)
            clear hw5 hb5
            go_wp2
            go_roundw
            case rel => exact ⟨0 + 1, by omega, by go_num, HN, HB5⟩
            case measure => simp [intOf]; try omega
          · have t2 : (x != 1) = true := by simp [hx1]
            have HNH : Hid (¬ hdOk b) := Lib.hid (fun h => by
              rcases hd_iff.1 h 0 (by omega) (by rw [← HLN.out]; exact q2) with e | ⟨_, e⟩
              · exact HXY.out (by rw [← HGX.out, e, HY.out])
              · exact hx1 (by rw [← HGX.out, e]))
            clear hx1
            go_wp2
            go_quiet (fail)
            generalize hw5 : wr.drewN _ = w5
            have hb5 : Below wr.heap.size wr w5 := by rw [← hw5]; exact below_drewN (Below.refl _ _) _
            have HB5 := Lib.hid (HBX.out.trans (hb5.mono HBX.out.size))
            have HBW5 := Lib.hid (HBW.out.trans (hb5.mono HBW.out.size))
            have HZ5 := Lib.hid (blkv hb5 (size_of_block HZX.out) HZX.out)
            clear hw5 hb5
            have HD : Hid (decM b = ((false, []), 3)) := Lib.hid (dec_bad HNH.out)
            have HE := Lib.hid (set2_block (.bool false) (.slice none 0 0) HZ5.out)
            have HEND : Hid (PP (.returned (.tuple #[.agg #[.bool false, .slice none 0 0], .int .i64 3])) ((w5.setCell ⟨Z, 0, none⟩ (.bool false)).setCell ⟨Z, 1, none⟩ (.slice none 0 0))) := Lib.hid (by
              rw [← HPP.out]
              exact MoPost.none_ HD.out (set2b _ _ HBW5.out (by rw [HZ.out]; exact Nat.le_refl _)))
            obtain ⟨z0, z1, z2, z3⟩ := row2 HZ5.out
            go_wp2
            exact mo_end HE.out rfl rfl rfl HEND.out
        · have t2 : (0 : Int) < (i : Int) := by omega
          have t3 : 0 < i := by omega
          have t4 : decide ((0 : Int) < (i : Int)) = true := decide_eq_true t2
          have t5 : decide (0 < i) = true := decide_eq_true t3
          have HNH : Hid (¬ hdOk b) := Lib.hid (fun h => by
            rcases hd_iff.1 h i q1 (by rw [← HLN.out]; exact q2) with e | ⟨e, _⟩
            · exact HXY.out (by rw [← HGX.out, e, HY.out])
            · exact h0 e)
          go_wp2
          go_quiet (fail)
          generalize hw5 : wr.drewN _ = w5
          have hb5 : Below wr.heap.size wr w5 := by rw [← hw5]; exact below_drewN (Below.refl _ _) _
          have HB5 := Lib.hid (HBX.out.trans (hb5.mono HBX.out.size))
          have HBW5 := Lib.hid (HBW.out.trans (hb5.mono HBW.out.size))
          have HZ5 := Lib.hid (blkv hb5 (size_of_block HZX.out) HZX.out)
          clear hw5 hb5
          have HD : Hid (decM b = ((false, []), 3)) := Lib.hid (dec_bad HNH.out)
          have HE := Lib.hid (set2_block (.bool false) (.slice none 0 0) HZ5.out)
          have HEND : Hid (PP (.returned (.tuple #[.agg #[.bool false, .slice none 0 0], .int .i64 3])) ((w5.setCell ⟨Z, 0, none⟩ (.bool false)).setCell ⟨Z, 1, none⟩ (.slice none 0 0))) := Lib.hid (by
            rw [← HPP.out]
            exact MoPost.none_ HD.out (set2b _ _ HBW5.out (by rw [HZ.out]; exact Nat.le_refl _)))
          obtain ⟨z0, z1, z2, z3⟩ := row2 HZ5.out
          go_wp2
          exact mo_end HE.out rfl rfl rfl HEND.out
    · have HH : Hid (hdOk b) := Lib.hid (hd_iff.2 (fun j h1 h2 => HOK.out j (by have := HLN.out; omega)))
      clear HOK HO1
      have y1 : (i : Int) < 4 := by omega
      have y2 : ¬ (i : Int) < (n : Int) := by omega
      have y3 : i < 4 := by omega
      have y4 : ¬ i < n := by omega
      have y5 : (n : Int) < 4 := by omega
      have HD : Hid (decM b = ((false, []), 6)) := Lib.hid (by unfold decM; rw [if_pos HH.out, if_pos (by rw [← HLN.out]; omega)])
      have HE := Lib.hid (set2_block (.bool false) (.slice none 0 0) HZX.out)
      have HEND : Hid (PP (.returned (.tuple #[.agg #[.bool false, .slice none 0 0], .int .i64 6])) ((wr.setCell ⟨Z, 0, none⟩ (.bool false)).setCell ⟨Z, 1, none⟩ (.slice none 0 0))) := Lib.hid (by
        rw [← HPP.out]
        exact MoPost.none_ HD.out (set2b _ _ HBW.out (by rw [HZ.out]; exact Nat.le_refl _)))
      obtain ⟨z0, z1, z2, z3⟩ := row2 HZX.out
      go_wp2
      exact mo_end HE.out rfl rfl rfl HEND.out
set_option maxRecDepth 100000 in
set_option maxHeartbeats 64000000 in
theorem MessageOf_b {w : World} {A : Option Addr} {n c : Nat} {b : List Int} (hr : R1 rdBytes w (.slice A n c) b) (hn63 : n ≤ 140737488355328) (hcase : 4 ≤ n) :
    Calls Tryd.prog 17 #[.slice A n c] w (MoPost w b) := by
  obtain ⟨hln, hnc, hcm⟩ := RdSlice.len hr
  have HLN := Lib.hid hln
  have HR := Lib.hid hr
  obtain ⟨PP, hPP⟩ : ∃ PP, MoPost w b = PP := ⟨_, rfl⟩
  have HPP := Lib.hid hPP
  rw [hPP]
  obtain ⟨Z, hZ⟩ : ∃ Z, w.heap.size = Z := ⟨_, rfl⟩
  have HZ := Lib.hid hZ
  have HB0 := Lib.hid (alloc1v w (.cells #[.bool false, .slice none 0 0] 35))
  have HZ0 : Hid ((w.alloc (.cells #[.bool false, .slice none 0 0] 35)).heap[Z]? = some (.cells #[.bool false, .slice none 0 0] 35 (0, 0))) := Lib.hid (by rw [← hZ]; exact heap_alloc_new _ _)
  clear hr hln hPP hcm
  go_enter Tryd.func17, Tryd.ntmps17
  go_upto_region 1 with (fail)
  try rw [hZ]
  generalize hw0 : w.alloc (.cells #[.bool false, .slice none 0 0] 35) = w0 at *
  clear hw0 hZ
  go_upto_region 2 with (fail)
  obtain ⟨H, hH⟩ : ∃ H, w0.heap.size = H := ⟨_, rfl⟩
  have hHw : w.heap.size ≤ H := by rw [← hH]; exact HB0.out.size
  have HO1 : Hid (OwnB 5 (w0.alloc (.cells #[.int .u8 2, .int .u8 2, .int .u8 0, .int .u8 0] 5)) w.heap.size (.slice (some ⟨H, 0, none⟩) 4 4) [2, 2, 0, 0]) := Lib.hid ((OwnB.made _ [2, 2, 0, 0] hH (by simp) (by simp) (by unfold maxLen; simp)).monoB hHw)
  have HB1 := Lib.hid (HB0.out.trans ((alloc1v w0 (.cells #[.int .u8 2, .int .u8 2, .int .u8 0, .int .u8 0] 5)).mono HB0.out.size))
  have HZ1 := Lib.hid (blkv (alloc1v w0 (.cells #[.int .u8 2, .int .u8 2, .int .u8 0, .int .u8 0] 5)) (size_of_block HZ0.out) HZ0.out)
  try rw [hH]
  generalize w0.alloc (.cells #[.int .u8 2, .int .u8 2, .int .u8 0, .int .u8 0] 5) = w1 at *
  clear hH HB0 HZ0
  go_wp2
  go_loopw [5] (fun iv wx => ∃ i : Nat, i ≤ 4 ∧ iv = .int .i64 i ∧ Hid (∀ j, j < i → okH b j) ∧ Hid (Below w1.heap.size w1 wx)) (fun iv _ => 4 - (intOf iv).toNat)
  case atStart => exact ⟨0, by omega, rfl, Lib.hid (fun j hj => absurd hj (by omega)), Lib.hid (Below.refl _ _)⟩
  case round =>
    obtain ⟨i, hi, rfl, HOK, HBX⟩ := hrel
    have HBW := Lib.hid (HB1.out.trans (HBX.out.mono HB1.out.size))
    have HZX := Lib.hid (blkv HBX.out (size_of_block HZ1.out) HZ1.out)
    have HRX := Lib.hid (HR.out.below HBW.out)
    have i0 : (0 : Int) ≤ (i : Int) := by omega
    by_cases hlt : i < 4
    · have q1 : i < 4 := by omega
      have q2 : i < n := by omega
      have q3 : (i : Int) < 4 := by omega
      have q4 : (i : Int) < (n : Int) := by omega
      obtain ⟨bb, oo, x, rfl, hbb, HX, hwx, c0⟩ := RdSlice.atI HRX.out q2
      obtain ⟨bb', oo', x0, eb, hbb', HX0, hwx0, c1⟩ := RdSlice.atI HRX.out (show 0 < n by omega)
      simp only [Option.some.injEq, Addr.mk.injEq, and_true] at eb
      obtain ⟨rfl, rfl⟩ := eb
      rw [Nat.add_zero] at c1
      obtain ⟨d0, d1⟩ := (HO1.out.below_ HBX.out).at_ (g_some (show i < [(2 : Int), 2, 0, 0].length from q1))
      have hgx : g b i = x := by unfold g; simp [HX.out]
      have hgx0 : g b 0 = x0 := by unfold g; simp [HX0.out]
      obtain ⟨y, hy⟩ : ∃ y, g [2, 2, 0, 0] i = y := ⟨_, rfl⟩
      rw [hy] at d0
      have HGX := Lib.hid hgx
      have HGX0 := Lib.hid hgx0
      have HY := Lib.hid hy
      clear hwx hwx0 hgx hgx0 hy
      by_cases hxy : x = y
      · have t1 : (x != y) = false := by simp [hxy]
        have HN : Hid (∀ j, j < i + 1 → okH b j) := Lib.hid (fun j hj => by
          by_cases he : j = i
          · subst he; left; rw [HGX.out, HY.out, hxy]
          · exact HOK.out j (by omega))
        clear hxy
        go_wp2
        go_quiet (fail)
        generalize hw5 : wr.drewN _ = w5
        have hb5 : Below wr.heap.size wr w5 := by rw [← hw5]; exact below_drewN (Below.refl _ _) _
        have HB5 := Lib.hid (HBX.out.trans (hb5.mono HBX.out.size))
        have HBW5 := Lib.hid (HBW.out.trans (hb5.mono HBW.out.size))
        have HZ5 := Lib.hid (blkv hb5 (size_of_block HZX.out) HZX.out)
        clear hw5 hb5
        go_wp2
        go_roundw
        case rel => exact ⟨i + 1, by omega, by go_num, HN, HB5⟩
        case measure => simp [intOf]; try omega
      · have t1 : (x != y) = true := by simp [hxy]
        have HXY := Lib.hid hxy
        clear hxy
        by_cases h0 : i = 0
        · subst h0
          have hxx : x = x0 := by rw [← HGX.out, HGX0.out]
          subst hxx
          by_cases hx1 : x = 1
          · have t2 : (x != 1) = false := by simp [hx1]
            have HN : Hid (∀ j, j < 0 + 1 → okH b j) := Lib.hid (fun j hj => by
              obtain rfl : j = 0 := by omega
              right; exact ⟨rfl, by rw [HGX.out, hx1]⟩)
            clear hx1
            go_wp2
            go_quiet (fail)
            generalize hw5 : wr.drewN _ = w5
            have hb5 : Below wr.heap.size wr w5 := by rw [← hw5]; exact below_drewN (Below.refl _ _) _
            have HB5 := Lib.hid (HBX.out.trans (hb5.mono HBX.out.size))
            have HBW5 := Lib.hid (HBW.out.trans (hb5.mono HBW.out.size))
            have HZ5 := Lib.hid (blkv hb5 (size_of_block HZX.out) HZX.out)
            clear hw5 hb5
            go_wp2
            go_roundw
            case rel => exact ⟨0 + 1, by omega, by go_num, HN, HB5⟩
            case measure => simp [intOf]; try omega
          · have t2 : (x != 1) = true := by simp [hx1]
            have HNH : Hid (¬ hdOk b) := Lib.hid (fun h => by
              rcases hd_iff.1 h 0 (by omega) (by rw [← HLN.out]; exact q2) with e | ⟨_, e⟩
              · exact HXY.out (by rw [← HGX.out, e, HY.out])
              · exact hx1 (by rw [← HGX.out, e]))
            clear hx1
            go_wp2
            go_quiet (fail)
            generalize hw5 : wr.drewN _ = w5
            have hb5 : Below wr.heap.size wr w5 := by rw [← hw5]; exact below_drewN (Below.refl _ _) _
            have HB5 := Lib.hid (HBX.out.trans (hb5.mono HBX.out.size))
            have HBW5 := Lib.hid (HBW.out.trans (hb5.mono HBW.out.size))
            have HZ5 := Lib.hid (blkv hb5 (size_of_block HZX.out) HZX.out)
            clear hw5 hb5
            have HD : Hid (decM b = ((false, []), 3)) := Lib.hid (dec_bad HNH.out)
            have HE := Lib.hid (set2_block (.bool false) (.slice none 0 0) HZ5.out)
            have HEND : Hid (PP (.returned (.tuple #[.agg #[.bool false, .slice none 0 0], .int .i64 3])) ((w5.setCell ⟨Z, 0, none⟩ (.bool false)).setCell ⟨Z, 1, none⟩ (.slice none 0 0))) := Lib.hid (by
              rw [← HPP.out]
              exact MoPost.none_ HD.out (set2b _ _ HBW5.out (by rw [HZ.out]; exact Nat.le_refl _)))
            obtain ⟨z0, z1, z2, z3⟩ := row2 HZ5.out
            go_wp2
            exact mo_end HE.out rfl rfl rfl HEND.out
        · have t2 : (0 : Int) < (i : Int) := by omega
          have t3 : 0 < i := by omega
          have t4 : decide ((0 : Int) < (i : Int)) = true := decide_eq_true t2
          have t5 : decide (0 < i) = true := decide_eq_true t3
          have HNH : Hid (¬ hdOk b) := Lib.hid (fun h => by
            rcases hd_iff.1 h i q1 (by rw [← HLN.out]; exact q2) with e | ⟨e, _⟩
            · exact HXY.out (by rw [← HGX.out, e, HY.out])
            · exact h0 e)
          go_wp2
          go_quiet (fail)
          generalize hw5 : wr.drewN _ = w5
          have hb5 : Below wr.heap.size wr w5 := by rw [← hw5]; exact below_drewN (Below.refl _ _) _
          have HB5 := Lib.hid (HBX.out.trans (hb5.mono HBX.out.size))
          have HBW5 := Lib.hid (HBW.out.trans (hb5.mono HBW.out.size))
          have HZ5 := Lib.hid (blkv hb5 (size_of_block HZX.out) HZX.out)
          clear hw5 hb5
          have HD : Hid (decM b = ((false, []), 3)) := Lib.hid (dec_bad HNH.out)
          have HE := Lib.hid (set2_block (.bool false) (.slice none 0 0) HZ5.out)
          have HEND : Hid (PP (.returned (.tuple #[.agg #[.bool false, .slice none 0 0], .int .i64 3])) ((w5.setCell ⟨Z, 0, none⟩ (.bool false)).setCell ⟨Z, 1, none⟩ (.slice none 0 0))) := Lib.hid (by
            rw [← HPP.out]
            exact MoPost.none_ HD.out (set2b _ _ HBW5.out (by rw [HZ.out]; exact Nat.le_refl _)))
          obtain ⟨z0, z1, z2, z3⟩ := row2 HZ5.out
          go_wp2
          exact mo_end HE.out rfl rfl rfl HEND.out
    · have HH : Hid (hdOk b) := Lib.hid (hd_iff.2 (fun j h1 h2 => HOK.out j (by have := HLN.out; omega)))
      clear HOK HO1
      have y1 : ¬ (i : Int) < 4 := by omega
      have y3 : ¬ i < 4 := by omega
      have H4L := Lib.hid (show ¬ b.length < 4 by rw [← HLN.out]; omega)
      have y5 : ¬ (n : Int) < 4 := by omega
      obtain ⟨bb, oo, x0, rfl, hbb, HX0, hwx0, c1'⟩ := RdSlice.atI HR.out (show 0 < n by omega)
      have c1 := (HBW.out.cell (p := ⟨bb, oo, none⟩) hbb).trans c1'
      clear c1'
      have HGX0 : Hid (g b 0 = x0) := Lib.hid (by unfold g; simp [HX0.out])
      obtain ⟨q, hq⟩ : ∃ q : Bool, (x0 == 1) = q := ⟨_, rfl⟩
      have HQ : Hid (decide (g b 0 = 1) = q) := Lib.hid (by rw [HGX0.out, ← hq]; rfl)
      have j0 : (0 : Int) < (n : Int) := by omega
      go_upto_region 10 with (fail)
      try rw [hq]
      obtain ⟨M, hM⟩ : ∃ M, wr.heap.size = M := ⟨_, rfl⟩
      have hZM : Z < M := by rw [← hM]; exact size_of_block HZX.out
      have hMw : w.heap.size ≤ M := by rw [← hM]; exact HBW.out.size
      have HM2 : Hid ((wr.alloc (.cells #[.bool q, .slice none 0 0] 35)).heap[M]? = some (.cells #[.bool q, .slice none 0 0] 35 (0, 0))) := Lib.hid (by rw [← hM]; exact heap_alloc_new _ _)
      have HB2 := Lib.hid (HBW.out.trans ((alloc1v wr (.cells #[.bool q, .slice none 0 0] 35)).mono HBW.out.size))
      have HZ2 := Lib.hid (blkv (alloc1v wr (.cells #[.bool q, .slice none 0 0] 35)) (size_of_block HZX.out) HZX.out)
      try rw [hM]
      generalize wr.alloc (.cells #[.bool q, .slice none 0 0] 35) = w2 at *
      clear hM hwx0 c1 hq HZX HBW HRX HBX
      go_wp2
      go_loopw [7, 8, 9] (fun av _ _ wx => ∃ (k : Nat) (es : List Entry) (A5 : Option Addr) (n5 c5 : Nat), k ≤ n + 20 ∧ av = .int .i64 k ∧ Hid (stM b es k) ∧ Hid (OwnE wx (M + 1) (.slice A5 n5 c5) es) ∧ Hid (wx.heap[M]? = some (.cells #[.bool q, .slice A5 n5 c5] 35 (0, 0))) ∧ Hid (wx.heap[Z]? = some (.cells #[.bool false, .slice none 0 0] 35 (0, 0))) ∧ Hid (Below w.heap.size w wx)) (fun av _ _ _ => n + 20 - (intOf av).toNat)
      case atStart => exact ⟨4, [], none, 0, 0, by omega, rfl, Lib.hid (stM.zero b), Lib.hid (OwnE.nil_ _ _), HM2, HZ2, HB2⟩
      case round =>
        clear HM2 HZ2 HB2
        obtain ⟨k, es, A5, n5, c5, hk, rfl, HST, HO, HMB, HZB, HB⟩ := hrel
        have HES := Lib.hid (show n5 = es.length from (RdSlice.len HO.out.read).1)
        have HR5 := Lib.hid (HR.out.below HB.out)
        have k0 : (0 : Int) ≤ (k : Int) := by omega
        obtain ⟨m0, m1, m2, m3⟩ := row2 HMB.out
        by_cases hlt : k < n
        · have q1 : (k : Int) < (n : Int) := by omega
          have HKL := Lib.hid (show k < b.length by rw [← HLN.out]; exact hlt)
          have hle := HST.out.le
          by_cases h25 : es.length = 25
          · have t25 : ((n5 : Int) == 25) = true := by have := HES.out; simp; omega
            have HD0 := Lib.hid (HST.out.full HH.out H4L.out HKL.out h25)
            have HD : Hid (decM b = ((false, []), 3)) := Lib.hid (HD0.out)
            have HE := Lib.hid (set2_block (.bool false) (.slice none 0 0) HZB.out)
            have HEND : Hid (PP (.returned (.tuple #[.agg #[.bool false, .slice none 0 0], .int .i64 3])) ((wr.setCell ⟨Z, 0, none⟩ (.bool false)).setCell ⟨Z, 1, none⟩ (.slice none 0 0))) := Lib.hid (by
              rw [← HPP.out]
              exact MoPost.none_ HD.out (set2b _ _ HB.out (by rw [HZ.out]; exact Nat.le_refl _)))
            obtain ⟨z0, z1, z2, z3⟩ := row2 HZB.out
            go_wp2
            exact mo_end HE.out rfl rfl rfl HEND.out
          · have t25 : ((n5 : Int) == 25) = false := by have := HES.out; simp; omega
            have hlt25 : es.length < 25 := by omega
            have hcc : ¬ c = k := by omega
            have hw1 : IntKind.i64.wrap ((k : Int) + 20) = (k : Int) + 20 := by rw [IntKind.wrap_i64]; omega
            by_cases h20 : n < k + 20
            · have q2 : (n : Int) < (k : Int) + 20 := by omega
              have HS := Lib.hid (show R1 rdBytes wr (.slice (some ⟨bb, oo + k, none⟩) (n - k) (c - k)) (b.drop k) from RdSlice.from_ HR5.out k (by omega) (by have := HB.out.size; omega))
              have HL20 := Lib.hid (show b.length < k + 20 by rw [← HLN.out]; exact h20)
              have HTK : Hid ((b.drop k).take 20 = b.drop k) := Lib.hid (List.take_of_length_le (by rw [List.length_drop]; have := HL20.out; omega))
              go_wp2_with fail
              go_at_call 27
              (with_reducible refine (Goes_any HS.out (by omega)).mono ?_)
              rintro e w6 ⟨rfl, hb6⟩
              have HB6 := Lib.hid (HB.out.trans (hb6.mono HB.out.size))
              have HZ6 := Lib.hid (blkv hb6 (size_of_block HZB.out) HZB.out)
              clear hb6 m0 m1 m2 m3
              by_cases hok : entOk (filled (b.drop k))
              · rw [decide_eq_true hok]
                have HD0 := Lib.hid (HST.out.short HH.out H4L.out HKL.out HL20.out hlt25 hok)
                clear hok
                have HD : Hid (decM b = ((false, []), 6)) := Lib.hid (HD0.out)
                have HE := Lib.hid (set2_block (.bool false) (.slice none 0 0) HZ6.out)
                have HEND : Hid (PP (.returned (.tuple #[.agg #[.bool false, .slice none 0 0], .int .i64 6])) ((w6.setCell ⟨Z, 0, none⟩ (.bool false)).setCell ⟨Z, 1, none⟩ (.slice none 0 0))) := Lib.hid (by
                  rw [← HPP.out]
                  exact MoPost.none_ HD.out (set2b _ _ HB6.out (by rw [HZ.out]; exact Nat.le_refl _)))
                obtain ⟨z0, z1, z2, z3⟩ := row2 HZ6.out
                go_wp2
                exact mo_end HE.out rfl rfl rfl HEND.out
              · rw [decide_eq_false hok]
                have HD0 := Lib.hid (HST.out.bad HH.out H4L.out HKL.out hlt25 (by rw [HTK.out]; exact hok))
                clear hok
                have HD : Hid (decM b = ((false, []), 3)) := Lib.hid (HD0.out)
                have HE := Lib.hid (set2_block (.bool false) (.slice none 0 0) HZ6.out)
                have HEND : Hid (PP (.returned (.tuple #[.agg #[.bool false, .slice none 0 0], .int .i64 3])) ((w6.setCell ⟨Z, 0, none⟩ (.bool false)).setCell ⟨Z, 1, none⟩ (.slice none 0 0))) := Lib.hid (by
                  rw [← HPP.out]
                  exact MoPost.none_ HD.out (set2b _ _ HB6.out (by rw [HZ.out]; exact Nat.le_refl _)))
                obtain ⟨z0, z1, z2, z3⟩ := row2 HZ6.out
                go_wp2
                exact mo_end HE.out rfl rfl rfl HEND.out
            · have q2 : ¬ (n : Int) < (k : Int) + 20 := by omega
              have q3 : (k : Int) + 20 ≤ (n : Int) := by omega
              have q4 : k + 20 ≤ c := by omega
              have q5 : (k : Int) ≤ (k : Int) + 20 := by omega
              have q6 : k + 20 - k = 20 := by omega
              have HS := Lib.hid (show R1 rdBytes wr (.slice (some ⟨bb, oo + k, none⟩) 20 (c - k)) ((b.drop k).take 20) from RdSlice.mid HR5.out k 20 (by omega) (by have := HB.out.size; omega))
              have HL20 := Lib.hid (show k + 20 ≤ b.length by rw [← HLN.out]; omega)
              have HP20 : Hid (((b.drop k).take 20).length = 20) := Lib.hid (by rw [List.length_take, List.length_drop]; have := HL20.out; omega)
              go_wp2_with fail
              go_at_call 28
              (with_reducible refine (EntryOf_any HS.out).mono ?_)
              rintro e w6 ⟨rfl, hb6⟩
              have HB6 := Lib.hid (HB.out.trans (hb6.mono HB.out.size))
              have HZ6 := Lib.hid (blkv hb6 (size_of_block HZB.out) HZB.out)
              have HM6 := Lib.hid (blkv hb6 (size_of_block HMB.out) HMB.out)
              have HO6 := Lib.hid (HO.out.below hb6)
              clear hb6 m0 m1 m2 m3
              have HBL := Lib.hid (byteL_take (byteL_drop (rdBytes_rng HR.out) k) 20)
              obtain ⟨e, he⟩ : ∃ e, refE ((b.drop k).take 20) = e := ⟨_, rfl⟩
              rw [he]
              obtain ⟨⟨e1, e2⟩, e3, e4, e5⟩ := e
              rw [show entV ((e1, e2), e3, e4, e5) = .agg #[.int .u32 e1, .int .i64 e2, .int .i64 e3, .int .u32 e4, .int .i64 e5] from rfl]
              have HB7 := Lib.hid (HB6.out.trans ((alloc1v w6 (.cells #[.int .u32 e1, .int .i64 e2, .int .i64 e3, .int .u32 e4, .int .i64 e5] 58)).mono HB6.out.size))
              have HZ7 := Lib.hid (blkv (alloc1v w6 (.cells #[.int .u32 e1, .int .i64 e2, .int .i64 e3, .int .u32 e4, .int .i64 e5] 58)) (size_of_block HZ6.out) HZ6.out)
              have HM7 := Lib.hid (blkv (alloc1v w6 (.cells #[.int .u32 e1, .int .i64 e2, .int .i64 e3, .int .u32 e4, .int .i64 e5] 58)) (size_of_block HM6.out) HM6.out)
              have HO7 := Lib.hid (HO6.out.alloc (.cells #[.int .u32 e1, .int .i64 e2, .int .i64 e3, .int .u32 e4, .int .i64 e5] 58))
              have HE7 := Lib.hid (heap_alloc_new w6 (.cells #[.int .u32 e1, .int .i64 e2, .int .i64 e3, .int .u32 e4, .int .i64 e5] 58))
              clear HB6 HZ6 HM6 HO6
              by_cases hok : entOk ((b.drop k).take 20)
              · rw [decide_eq_true hok]
                have HEN : Hid (entOf ((b.drop k).take 20) = ((e1, e2), e3, e4, e5)) := Lib.hid (by rw [← he, refE_ok hok])
                have HWF : Hid (entWf ((e1, e2), e3, e4, e5)) := Lib.hid (by rw [← HEN.out]; exact entOf_wf HP20.out HBL.out)
                have HNX := Lib.hid (HST.out.next HL20.out hlt25 hok)
                rw [HEN.out] at HNX
                clear hok he
                go_upto_region 22 with (fail)
                obtain ⟨E7, hE7⟩ : ∃ E7, w6.heap.size = E7 := ⟨_, rfl⟩
                rw [hE7] at HE7
                try rw [hE7]
                generalize w6.alloc (.cells #[.int .u32 e1, .int .i64 e2, .int .i64 e3, .int .u32 e4, .int .i64 e5] 58) = w7 at *
                clear hE7
                obtain ⟨m0, m1, m2, m3⟩ := row2 HM7.out
                obtain ⟨⟨v0, v1, v2, v3, v4⟩, _⟩ := row5v HE7.out
                go_wp2_with (first
                  | (at_builtin; go_loud (refine wpList_append_entry rfl (.tmp 85) (.tmp 87) rfl (M + 1) _ es rfl (HO7.out.alloc _) w7.heap.size ((e1, e2), e3, e4, e5) 58 rfl (heap_alloc_new w7 _) HWF.out (by omega) (by have := size_of_block HM7.out; simp only [World.size_alloc]; omega) ?_); intro v8 w8 ho8 hg8; have HB8 := Lib.hid (hg8.below (HB7.out.trans ((alloc1v w7 (.cells #[.int .u32 e1, .int .i64 e2, .int .i64 e3, .int .u32 e4, .int .i64 e5] 58)).mono HB7.out.size)) (HO7.out.alloc _).1 (by omega) (by have := HB7.out.size; simp only [World.size_alloc]; omega)); have HM8 := Lib.hid (OwnE.keepBlk (HO7.out.alloc _) hg8 (blkv (alloc1v w7 (.cells #[.int .u32 e1, .int .i64 e2, .int .i64 e3, .int .u32 e4, .int .i64 e5] 58)) (size_of_block HM7.out) HM7.out) (by omega)); have HZ8 := Lib.hid (OwnE.keepBlk (HO7.out.alloc _) hg8 (blkv (alloc1v w7 (.cells #[.int .u32 e1, .int .i64 e2, .int .i64 e3, .int .u32 e4, .int .i64 e5] 58)) (size_of_block HZ7.out) HZ7.out) (by omega)); obtain ⟨A8, c8, rfl⟩ := own_form ho8.1; have HO8 := Lib.hid ho8; obtain ⟨L8, hL8⟩ : ∃ L8, (es ++ [((e1, e2), e3, e4, e5)]).length = L8 := ⟨_, rfl⟩; rw [hL8] at HO8 ⊢; clear ho8 hg8 hL8 m0 m1 m2 m3 v0 v1 v2 v3 v4; obtain ⟨m0, m1, m2, m3⟩ := row2 HM8.out)
                  | fail)
                go_roundw
                case rel => exact ⟨k + 20, es ++ [((e1, e2), e3, e4, e5)], A8, L8, c8, by omega, by go_num, HNX, Lib.hid (HO8.out.set (a := ⟨M, 1, none⟩) (by simp only; omega) _), Lib.hid (heap_setCell_same w8 M 1 _ _ _ HM8.out), Lib.hid ((heap_setCell_other _ _ _ _ (show Z ≠ M by omega)).trans HZ8.out), Lib.hid (HB8.out.setCell (p := ⟨M, 1, none⟩) hMw _)⟩
                case measure => simp [intOf]; try omega
              · rw [decide_eq_false hok]
                have HD0 := Lib.hid (HST.out.bad HH.out H4L.out HKL.out hlt25 (by rw [filled_20 HP20.out]; exact hok))
                clear hok he
                go_upto_region 21 with (fail)
                generalize w6.alloc (.cells #[.int .u32 e1, .int .i64 e2, .int .i64 e3, .int .u32 e4, .int .i64 e5] 58) = w7 at *
                have HD : Hid (decM b = ((false, []), 3)) := Lib.hid (HD0.out)
                have HE := Lib.hid (set2_block (.bool false) (.slice none 0 0) HZ7.out)
                have HEND : Hid (PP (.returned (.tuple #[.agg #[.bool false, .slice none 0 0], .int .i64 3])) ((w7.setCell ⟨Z, 0, none⟩ (.bool false)).setCell ⟨Z, 1, none⟩ (.slice none 0 0))) := Lib.hid (by
                  rw [← HPP.out]
                  exact MoPost.none_ HD.out (set2b _ _ HB7.out (by rw [HZ.out]; exact Nat.le_refl _)))
                obtain ⟨z0, z1, z2, z3⟩ := row2 HZ7.out
                go_wp2
                exact mo_end HE.out rfl rfl rfl HEND.out
        · have q1 : ¬ (k : Int) < (n : Int) := by omega
          have HD : Hid (decM b = ((q, es), 0)) := Lib.hid (by rw [HST.out.done HH.out H4L.out (by rw [← HLN.out]; omega), HQ.out])
          have HE := Lib.hid (set2_block (.bool q) (.slice A5 n5 c5) HZB.out)
          have HEND : Hid (PP (.returned (.tuple #[.agg #[.bool q, .slice A5 n5 c5], .int .i64 0])) ((wr.setCell ⟨Z, 0, none⟩ (.bool q)).setCell ⟨Z, 1, none⟩ (.slice A5 n5 c5))) := Lib.hid (by
            rw [← HPP.out]
            exact ⟨q, A5, n5, c5, by rw [HD.out], by rw [HD.out], by rw [HD.out]; exact ((HO.out.set (a := ⟨Z, 0, none⟩) (by simp only; omega) _).set (a := ⟨Z, 1, none⟩) (by simp only; omega) _).read, set2b _ _ HB.out (by rw [HZ.out]; exact Nat.le_refl _)⟩)
          obtain ⟨z0, z1, z2, z3⟩ := row2 HZB.out
          go_wp2
          exact mo_end HE.out rfl rfl rfl HEND.out
theorem MessageOf_any {w : World} {A : Option Addr} {n c : Nat} {b : List Int} (hr : R1 rdBytes w (.slice A n c) b) (hn : n ≤ 140737488355328) :
    Calls Tryd.prog 17 #[.slice A n c] w (MoPost w b) := by
  rcases Nat.lt_or_ge n 4 with h | h
  · exact MessageOf_a hr hn h
  · exact MessageOf_b hr hn h
end Go.Proofs.YtimdnfakgobadaaDoor
