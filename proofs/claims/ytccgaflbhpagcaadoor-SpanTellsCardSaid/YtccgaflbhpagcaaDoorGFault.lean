/- waywardenref1.GraphFault. -/
import Derived.Test.YtccgaflbhpagcaaDoorGraph
import Derived.Test.YtccgaflbhpagcaaDoorInts
namespace Go.Proofs.YtccgaflbhpagcaaDoor
open Go.ChangeShapes Go.WideShapes Go.ChangeAt Go.RowKit Sp
set_option linter.unusedVariables false
set_option linter.unusedSimpArgs false
theorem any_snoc {l : List Lnk} {j : Nat} {y : Lnk} (h : l[j]? = some y) (p : Lnk → Bool) : (l.take (j + 1)).any p = ((l.take j).any p || p y) := by rw [take_succ_of h]; simp
theorem pairB_eq (x0 x1 x2 y0 y1 y2 : Int) : pairB (x0, x1, x2) (y0, y1, y2) = ((y0 == x0) && (y1 == x1) || (y0 == x1) && (y1 == x0)) := by
  rw [Bool.eq_iff_iff, pairB_iff]
  simp only [Bool.or_eq_true, Bool.and_eq_true, beq_iff_eq]
  omega
set_option maxRecDepth 100000 in
set_option maxHeartbeats 8000000 in
theorem GFault_any {w : World} {n : Int} {A : Option Addr} {c m : Nat} {l : List Lnk} (hl : R1 rdLinks w (.slice A m c) l) {r : Int} (hgr : graphE n l = r) :
    Calls Tryd.prog 5 #[.int .i64 n, .slice A m c] w fun e w' => e = .returned (.int .i64 r) ∧ Below w.heap.size w w' := by
  obtain ⟨hm, hle, hcm⟩ := RdSlice.len hl
  have HL := Lib.hid hl
  have HM := Lib.hid hm
  have hm0 : m ≤ 9223372036854775807 := by unfold maxLen at hcm; omega
  clear hl hm hle hcm
  by_cases h1 : n < 1
  · obtain rfl : r = 1 := by rw [← hgr]; unfold graphE; rw [if_pos (.inl h1)]
    clear hgr
    go_enter Tryd.func5, Tryd.ntmps5
    go_wp2
    go_ret
    exact ⟨rfl, Below.refl _ _⟩
  by_cases h2 : 8 < n
  · obtain rfl : r = 1 := by rw [← hgr]; unfold graphE; rw [if_pos (.inr h2)]
    clear hgr
    go_enter Tryd.func5, Tryd.ntmps5
    go_wp2
    go_ret
    exact ⟨rfl, Below.refl _ _⟩
  have HG : Hid (linkE n [] l = r) := Lib.hid (by rw [← hgr]; unfold graphE; rw [if_neg (by omega)])
  clear hgr
  go_enter Tryd.func5, Tryd.ntmps5
  go_wp2
  go_loopw [5] (fun t wr => ∃ k : Nat, k ≤ m ∧ t = .int .i64 k ∧ linkE n (l.take k) (l.drop k) = r ∧ Below w.heap.size w wr) (fun t _ => m - (intOf t).toNat)
  case atStart => exact ⟨0, Nat.zero_le _, rfl, HG.out, Below.refl _ _⟩
  case round =>
    obtain ⟨k, hk, rfl, he, hb⟩ := hrel
    have HE := Lib.hid he
    have HB := Lib.hid hb
    have s1 := hb.size
    clear he hb
    by_cases hlt : k < m
    · obtain ⟨b, o, x, y, z, rfl, hbb, HX, -, d0, d1, d2⟩ := RdSlice.atL HL.out hlt
      have c0 := (HB.out.cell hbb).trans d0
      have c1 := (HB.out.cell hbb).trans d1
      have c2 := (HB.out.cell hbb).trans d2
      have hbw : b < w.heap.size := hbb
      have HSTEP := Lib.hid ((linkE_drop (n := n) HX.out).symm.trans HE.out)
      have i0 : (0 : Int) ≤ (k : Int) := by omega
      have i1 : (k : Int) < (m : Int) := by omega
      clear d0 d1 d2
      by_cases hbad : x < 0 ∨ n ≤ x ∨ y < 0 ∨ n ≤ y ∨ z < 1 ∨ 15 < z
      · obtain rfl : r = 1 := by rw [← HSTEP.out, if_pos (by unfold badB; exact decide_eq_true hbad)]
        have HBAD := Lib.hid hbad
        clear hbad
        go_wp2
        all_goals first
          | (go_ret; exact ⟨rfl, HB.out.alloc s1 _⟩)
          | (exfalso; have := HBAD.out; omega)
      · have hb0 : badB n (x, y, z) = false := by unfold badB; exact decide_eq_false hbad
        have HS1 := Lib.hid ((if_neg (by rw [hb0]; simp)).symm.trans HSTEP.out)
        have t0 : decide (x < 0) = false := decide_eq_false (by omega)
        have t1 : decide (n ≤ x) = false := decide_eq_false (by omega)
        have t2 : decide (y < 0) = false := decide_eq_false (by omega)
        have t3 : decide (n ≤ y) = false := decide_eq_false (by omega)
        have t4 : decide (z < 1) = false := decide_eq_false (by omega)
        have t5 : decide (15 < z) = false := decide_eq_false (by omega)
        clear hb0 hbad
        cases t6 : (x == y)
        · have hxy : ¬ x = y := by simpa using t6
          have HS2 := Lib.hid ((if_neg hxy).symm.trans HS1.out)
          have ho1 : Below w.heap.size w (wr.alloc (.cells #[.int .i64 x, .int .i64 y, .int .i64 z] 29)) := HB.out.alloc s1 _
          have HO1 := Lib.hid ho1
          clear hxy ho1
          go_wp2
          go_loopw [7] (fun t w2 => ∃ j : Nat, j ≤ k ∧ t = .int .i64 j ∧ (l.take j).any (pairB (x, y, z)) = false ∧ ∃ q, w2 = (wr.alloc (.cells #[.int .i64 x, .int .i64 y, .int .i64 z] 29)).drewN q) (fun t _ => k - (intOf t).toNat)
          case atStart => exact ⟨0, Nat.zero_le _, rfl, rfl, 0, rfl⟩
          case round =>
            obtain ⟨j, hj, rfl, hany, q, rfl⟩ := hrel
            have HANY := Lib.hid hany
            clear hany
            by_cases hjk : j < k
            · obtain ⟨b', o', x', y', z', e', hbb', HX', -, g0, g1, g2⟩ := RdSlice.atL HL.out (show j < m by omega)
              simp only [Option.some.injEq, Addr.mk.injEq, and_true] at e'
              obtain ⟨rfl, rfl⟩ := e'
              have k0 := (HO1.out.cell hbb').trans g0
              have k1 := (HO1.out.cell hbb').trans g1
              have HSN := Lib.hid ((any_snoc HX'.out (pairB (x, y, z))).trans (by rw [HANY.out, pairB_eq, Bool.false_or]))
              have hjm : (j : Int) < (m : Int) := by omega
              have j0 : (0 : Int) ≤ (j : Int) := by omega
              clear g0 g1 g2 c0 c1 c2
              cases u1 : (x' == x) <;> cases u2 : (y' == y) <;> cases u3 : (x' == y) <;> cases u4 : (y' == x)
              all_goals
                rw [u1, u2, u3, u4] at HSN
                go_wp2
                go_quiet (fail)
                go_wp2
                first
                  | exact ⟨⟨j + 1, by omega, by go_num, by rw [HSN.out]; rfl, _, rfl⟩, by simp [intOf]; omega⟩
                  | (have hany : (l.take k).any (pairB (x, y, z)) = true := by
                       have h1 := HSN.out
                       have h2 : (l.take k) = (l.take (j + 1)) ++ (l.take k).drop (j + 1) := by
                         have h3 := (List.take_append_drop (j + 1) (l.take k)).symm
                         rw [List.take_take, Nat.min_eq_left (by omega)] at h3
                         exact h3
                       rw [h2, List.any_append, h1]; rfl
                     have hr5 : r = 5 := by rw [← HS2.out, if_pos hany]
                     have HR5 := Lib.hid hr5
                     clear hany hr5
                     go_ret
                     exact ⟨by rw [HR5.out]; rfl, below_drewN (below_drewN HO1.out _) _⟩)
                  | fail
            · have ej : j = k := by omega
              subst ej
              have HS3 := Lib.hid ((if_neg (by rw [HANY.out]; simp)).symm.trans HS2.out)
              go_wp2
              go_roundw
              case rel => exact ⟨j + 1, by omega, by go_num, HS3.out, below_drewN HO1.out _⟩
              case measure => simp [intOf]; omega
        · have hxy : x = y := by simpa using t6
          have hr3 : r = 3 := by rw [← HS1.out, if_pos hxy]
          have HR3 := Lib.hid hr3
          clear hxy hr3
          go_wp2
          go_ret
          exact ⟨by rw [HR3.out]; rfl, HB.out.alloc s1 _⟩
    · have ek : k = m := by omega
      subst ek
      have hr0 : r = 0 := by rw [← HE.out, List.drop_of_length_le (by rw [HM.out]; exact Nat.le_refl _)]; rfl
      have HR0 := Lib.hid hr0
      clear hr0
      go_wp2
      go_ret
      exact ⟨by rw [HR0.out]; rfl, HB.out⟩
end Go.Proofs.YtccgaflbhpagcaaDoor
