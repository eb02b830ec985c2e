/- The reference's tables: FindIn. -/
import Derived.Test.YtplojnlmofbneaaDoorRefH
namespace Go.Proofs.YtplojnlmofbneaaDoor
open Go.ChangeShapes Go.WideShapes Go.ChangeAt Go.RowKit
set_option linter.unusedVariables false
set_option linter.unusedSimpArgs false
theorem rhas_c {w : World} {a n x : Int} {r : Bool} (ha : is32 a) (hx : is32 x) (hr : hasB (a, n) x = r) (d : Nat) (os : Array Obj) :
    Calls Tryd.prog 46 #[.agg #[.int .u32 a, .int .i64 n], .int .u32 x] (Sort.grow (redrawn w d) os) fun e w'' => e = .returned (.bool r) ∧ ∃ p : Regrown, w'' = Sort.grow (redrawn w p.d) p.os :=
  Calls.regrown_of ((RHas_any a n x _ ha hx).mono fun e w' ⟨he, hb⟩ => ⟨by rw [he, hr], hb⟩)
/-- the best so far, with its place -/
def findS (a : Int) (y : Nt) (i : Nat) : Option (Nat × Nt) → Option (Nat × Nt)
  | none => if hasB y a = true then some (i, y) else none
  | some (j, z) => if hasB y a = true ∧ z.2 < y.2 then some (i, y) else some (j, z)
def findL (a : Int) : List Nt → Nat → Option (Nat × Nt) → Option (Nat × Nt)
  | [], _, b => b
  | y :: r, i, b => findL a r (i + 1) (findS a y i b)
def idxV : Option (Nat × Nt) → Int
  | none => -1
  | some (j, _) => j
set_option maxRecDepth 100000 in
set_option maxHeartbeats 4000000 in
theorem FindIn_any {w : World} {A A' : Option Addr} {n c n' c' : Nat} {l : List Nt} {a : Int} (hr : R1 rdNets w (.slice A n c) l) (ha : is32 a) :
    Calls Tryd.prog 21 #[.agg #[.slice A n c, .slice A' n' c'], .int .u32 a] w fun e w' => e = .returned (.int .i64 (idxV (findL a l 0 none))) ∧ Below w.heap.size w w' := by
  obtain ⟨hn, hnc, hcm⟩ := RdSlice.len hr
  have hnm : n ≤ 9223372036854775807 := by unfold maxLen at hcm; omega
  have HR := Lib.hid hr
  have HA := Lib.hid ha
  have HN := Lib.hid hn
  obtain ⟨F, hF⟩ : ∃ F, findL a l 0 none = F := ⟨_, rfl⟩
  have HF := Lib.hid hF
  rw [hF]
  obtain ⟨F', hF'⟩ : ∃ F', idxV F = F' := ⟨_, rfl⟩
  have HF' := Lib.hid hF'
  rw [hF']
  clear hcm hnc hr hn hF hF' ha
  go_enter Tryd.func21, Tryd.ntmps21
  go_upto_region 1 with (fail)
  have HB0 := Lib.hid (below_1 w (.cells #[.slice A n c, .slice A' n' c'] 40))
  have HO := Lib.hid (heap_alloc_new w (.cells #[.slice A n c, .slice A' n' c'] 40))
  have hz : w.heap.size < (w.alloc (.cells #[.slice A n c, .slice A' n' c'] 40)).heap.size := by simp
  generalize w.alloc (.cells #[.slice A n c, .slice A' n' c'] 40) = w1 at *
  go_wp2
  go_loopw [5, 6] (fun bv iv wr => ∃ (k : Nat) (b : Option (Nat × Nt)), k ≤ n ∧ iv = .int .i64 k ∧ bv = .int .i64 (idxV b) ∧ Hid (findL a (l.drop k) k b = F) ∧ Hid (∀ c ∈ b, c.1 < k ∧ l[c.1]? = some c.2) ∧ Below w1.heap.size w1 wr) (fun _ iv _ => n - (intOf iv).toNat)
  case atStart => exact ⟨0, none, Nat.zero_le _, rfl, rfl, Lib.hid HF.out, Lib.hid (by simp), Below.refl _ _⟩
  case round =>
    obtain ⟨k, best, hk, rfl, rfl, HK, HBst, hbr⟩ := hrel
    have HBR := Lib.hid hbr
    have HWR := Lib.hid (HB0.out.trans (hbr.mono (by omega)))
    have hzr := hbr.size
    obtain ⟨z0, z1, _, _⟩ := row2 (below_block hbr hz HO.out)
    have j2 := fun d os => cell_regrown z0 d os
    clear hbr
    by_cases hlt : k < n
    · obtain ⟨b, o, ⟨x, x'⟩, rfl, hb, HX, ⟨wx, wy⟩, c0, c1⟩ := RdSlice.atN HR.out hlt
      have d0 := (HWR.out.cell (p := ⟨b, o + k * 2, none⟩) hb).trans c0
      have d1 := (HWR.out.cell (p := ⟨b, o + k * 2 + 1, none⟩) hb).trans c1
      have j0 := fun d os => cell_regrown d0 d os
      have j1 := fun d os => cell_regrown d1 d os
      have HIx : Hid (is32 x) := Lib.hid (bounds_u32 wx)
      have i0 : (0 : Int) ≤ (k : Int) := by omega
      have i1 : (k : Int) < (n : Int) := by omega
      have HD : Hid (l.drop k = (x, x') :: l.drop (k + 1)) := Lib.hid (by
        have h := HX.out
        obtain ⟨hk', e⟩ := List.getElem?_eq_some_iff.1 h
        rw [List.drop_eq_getElem_cons hk', e])
      have HNx : Hid (findL a (l.drop (k + 1)) (k + 1) (findS a (x, x') k best) = F) := Lib.hid (by
        have h := HK.out
        rw [HD.out] at h
        exact h)
      obtain ⟨r, hr⟩ : ∃ r, hasB (x, x') a = r := ⟨_, rfl⟩
      have HH := Lib.hid hr
      clear hr c0 c1 wx wy d0 d1 HK HD
      cases r with
      | false =>
        have HS : Hid (findS a (x, x') k best = best) := Lib.hid (by unfold findS; cases best <;> simp [HH.out])
        go_wp2
        refine wp_region_quiet_below (by kernel_rfl) (by kernel_rfl) ?_
        repeat (go_big_quiet_step (first | (with_reducible exact rhas_c HIx.out HA.out HH.out _ _) | fail))
        refine wpQuiet_nil ?_
        intro w6 hw'
        obtain ⟨⟨dq, osq⟩, hw''⟩ := hw'
        have HB6 := Lib.hid (HBR.out.trans (((show Below wr.heap.size wr w6 by rw [hw'']; exact below_regrown wr dq osq)).mono hzr))
        clear j0 j1 j2 hw''
        go_wp2
        go_roundw
        case rel => exact ⟨k + 1, best, by omega, by go_num, rfl, Lib.hid (by rw [← HS.out]; exact HNx.out), Lib.hid (fun c hc => ⟨by have := (HBst.out c hc).1; omega, (HBst.out c hc).2⟩), HB6.out⟩
        case measure => simp [intOf]; omega
      | true =>
        cases best with
        | none =>
          have HS : Hid (findS a (x, x') k none = some (k, (x, x'))) := Lib.hid (by unfold findS; simp [HH.out])
          have e1 : idxV none = -1 := rfl
          rw [e1]
          clear e1
          go_wp2
          refine wp_region_quiet_below (by kernel_rfl) (by kernel_rfl) ?_
          repeat (go_big_quiet_step (first | (with_reducible exact rhas_c HIx.out HA.out HH.out _ _) | fail))
          refine wpQuiet_nil ?_
          intro w6 hw'
          obtain ⟨⟨dq, osq⟩, hw''⟩ := hw'
          have HB6 := Lib.hid (HBR.out.trans (((show Below wr.heap.size wr w6 by rw [hw'']; exact below_regrown wr dq osq)).mono hzr))
          clear j0 j1 j2 hw''
          go_wp2
          go_roundw
          case rel => exact ⟨k + 1, some (k, (x, x')), by omega, by go_num, rfl, Lib.hid (by rw [← HS.out]; exact HNx.out), Lib.hid (fun c hc => by cases hc; exact ⟨by simp only; omega, HX.out⟩), HB6.out⟩
          case measure => simp [intOf]; omega
        | some p =>
          obtain ⟨j, y, y'⟩ := p
          have hj := HBst.out (j, (y, y')) rfl
          have hjn : j < n := by omega
          have e1 : idxV (some (j, (y, y'))) = (j : Int) := rfl
          rw [e1]
          clear e1
          obtain ⟨b2, o2, ⟨u, u'⟩, eA, hb2, HX2, _, c2, c3⟩ := RdSlice.atN HR.out hjn
          simp only [Option.some.injEq, Addr.mk.injEq, and_true] at eA
          obtain ⟨rfl, rfl⟩ := eA
          have eu := HX2.out
          rw [hj.2] at eu
          simp only [Option.some.injEq, Prod.mk.injEq] at eu
          obtain ⟨rfl, rfl⟩ := eu
          have d3 := (HWR.out.cell (p := ⟨b, o + j * 2 + 1, none⟩) hb2).trans c3
          have j3 := fun d os => cell_regrown d3 d os
          have i2 : (0 : Int) ≤ (j : Int) := by omega
          have i3 : (j : Int) < (n : Int) := by omega
          have t0 : decide ((j : Int) < 0) = false := by simp
          clear c2 c3 d3 hj
          by_cases hgt : y' < x'
          · have HS : Hid (findS a (x, x') k (some (j, (y, y'))) = some (k, (x, x'))) := Lib.hid (by unfold findS; simp [HH.out, hgt])
            go_wp2
            refine wp_region_quiet_below (by kernel_rfl) (by kernel_rfl) ?_
            repeat (go_big_quiet_step (first | (with_reducible exact rhas_c HIx.out HA.out HH.out _ _) | fail))
            refine wpQuiet_nil ?_
            intro w6 hw'
            obtain ⟨⟨dq, osq⟩, hw''⟩ := hw'
            have HB6 := Lib.hid (HBR.out.trans (((show Below wr.heap.size wr w6 by rw [hw'']; exact below_regrown wr dq osq)).mono hzr))
            clear j0 j1 j2 j3 hw''
            go_wp2
            go_roundw
            case rel => exact ⟨k + 1, some (k, (x, x')), by omega, by go_num, rfl, Lib.hid (by rw [← HS.out]; exact HNx.out), Lib.hid (fun c hc => by cases hc; exact ⟨by simp only; omega, HX.out⟩), HB6.out⟩
            case measure => simp [intOf]; omega
          · have t1 : decide (y' < x') = false := by simp; omega
            have HS : Hid (findS a (x, x') k (some (j, (y, y'))) = some (j, (y, y'))) := Lib.hid (by unfold findS; simp [HH.out, hgt])
            go_wp2
            refine wp_region_quiet_below (by kernel_rfl) (by kernel_rfl) ?_
            repeat (go_big_quiet_step (first | (with_reducible exact rhas_c HIx.out HA.out HH.out _ _) | fail))
            refine wpQuiet_nil ?_
            intro w6 hw'
            obtain ⟨⟨dq, osq⟩, hw''⟩ := hw'
            have HB6 := Lib.hid (HBR.out.trans (((show Below wr.heap.size wr w6 by rw [hw'']; exact below_regrown wr dq osq)).mono hzr))
            clear j0 j1 j2 j3 hw''
            go_wp2
            go_roundw
            case rel => exact ⟨k + 1, some (j, (y, y')), by omega, by go_num, rfl, Lib.hid (by rw [← HS.out]; exact HNx.out), Lib.hid (fun c hc => ⟨by have := (HBst.out c hc).1; omega, (HBst.out c hc).2⟩), HB6.out⟩
            case measure => simp [intOf]; omega
    · have HQ : Hid (F' = idxV best) := Lib.hid (by
        have h := HK.out
        rw [List.drop_eq_nil_of_le (by rw [← HN.out]; omega)] at h
        rw [← HF'.out, ← h]; rfl)
      go_wp2
      go_ret
      exact ⟨by rw [HQ.out]; rfl, HWR.out⟩
end Go.Proofs.YtplojnlmofbneaaDoor
