/- waywardenref1.Has and Less on seat Ed (lines of F/XRefN). -/
import Derived.Test.YtplojnlmofbneaaDoorTrieR
import Derived.Test.YtplojnlmofbneaaDoorNetR
import Derived.Lib.QuietBelow
import Derived.BigQuiet
import Derived.Deep.RegionHeld3
namespace Go.Proofs.YtplojnlmofbneaaDoor
open Go.ChangeShapes Go.WideShapes Go.ChangeAt Go.RowKit
set_option linter.unusedVariables false
set_option linter.unusedSimpArgs false
abbrev nb (a l : Int) : Obj := .cells #[.int .u32 a, .int .i64 l] 32 (0, 0)
theorem fault_c {w : World} {a l r : Int} (h : netF (a, l) = r) (ha : is32 a) (d : Nat) (os : Array Obj) :
    Calls Tryd.prog 15 #[.agg #[.int .u32 a, .int .i64 l]] (Sort.grow (redrawn w d) os) fun e w'' => e = .returned (.int .i64 r) ∧ ∃ p : Regrown, w'' = Sort.grow (redrawn w p.d) p.os :=
  Calls.regrown_of ((NetFault_n a l _ ha.1 ha.2).mono fun e w' ⟨he, hb⟩ => ⟨by rw [he, h], hb⟩)
theorem mask_c {w : World} {k : Nat} (hk : k ≤ 32) (d : Nat) (os : Array Obj) :
    Calls Tryd.prog 45 #[.int .i64 k] (Sort.grow (redrawn w d) os) fun e w'' => e = .returned (.int .u32 (maskV k)) ∧ ∃ p : Regrown, w'' = Sort.grow (redrawn w p.d) p.os :=
  Calls.regrown_of ((MaskOf_n k _ hk).mono fun e w' ⟨he, hb⟩ => ⟨he, by rw [← hb]; exact Below.refl _ _⟩)
theorem fault_is {a l r : Int} (h : netF (a, l) = r) (ha : is32 a) (w : World) :
    Calls Tryd.prog 15 #[.agg #[.int .u32 a, .int .i64 l]] w fun e w' => e = .returned (.int .i64 r) ∧ Below w.heap.size w w' :=
  (NetFault_n a l _ ha.1 ha.2).mono fun e w' ⟨he, hb⟩ => ⟨by rw [he, h], hb⟩
set_option maxRecDepth 100000 in
set_option maxHeartbeats 1000000 in
theorem RHas_any (a n x : Int) (w : World) (ha : is32 a) (hx : is32 x) :
    Calls Tryd.prog 46 #[.agg #[.int .u32 a, .int .i64 n], .int .u32 x] w fun e w' => e = .returned (.bool (hasB (a, n) x)) ∧ Below w.heap.size w w' := by
  have k0 := fun d os => cell_regrown (w := w.alloc (nb a n)) (a := ⟨w.heap.size, 0, none⟩) (v := .int .u32 a) (by simp) d os
  have k1 := fun d os => cell_regrown (w := w.alloc (nb a n)) (a := ⟨w.heap.size, 1, none⟩) (v := .int .i64 n) (by simp) d os
  by_cases hz : netF (a, n) = 0
  · obtain ⟨k, hk, ek, _⟩ := net_ok hz
    simp only at ek
    subst ek
    have hb := and_maskI x k hx.1 hx.2
    rw [hasB_of hz, Int.toNat_natCast]
    have hfl : x - x % lowI k = fl (lowI k) x := rfl
    rw [hfl] at hb
    have HB := Lib.hid hb
    have HZ := Lib.hid hz
    have HA := Lib.hid ha
    clear hb hfl hz hx ha
    go_enter Tryd.func46, Tryd.ntmps46
    go_wp2
    refine wp_region_quiet_below (by kernel_rfl) (by kernel_rfl) ?_
    repeat (go_big_quiet_step (first | (with_reducible exact fault_c HZ.out HA.out _ _) | (with_reducible exact mask_c hk _ _) | fail))
    refine wpQuiet_nil ?_
    intro _ hw'
    obtain ⟨⟨dq, osq⟩, hw''⟩ := hw'
    subst hw''
    go_wp2
    go_ret
    exact ⟨by rw [HB.out]; rfl, ((Below.refl _ _).alloc (Nat.le_refl _) _).trans ((below_regrown _ dq osq).mono (by simp))⟩
  · have hF : hasB (a, n) x = false := by unfold hasB; simp [hz]
    have hne : (netF (a, n) == 0) = false := by simpa using hz
    rw [hF]
    obtain ⟨r, hr⟩ : ∃ r, netF (a, n) = r := ⟨_, rfl⟩
    rw [hr] at hne
    have HR := Lib.hid hr
    have HA := Lib.hid ha
    clear hF hz hr ha hx
    go_enter Tryd.func46, Tryd.ntmps46
    go_wp2
    refine wp_region_quiet_below (by kernel_rfl) (by kernel_rfl) ?_
    repeat (go_big_quiet_step (first | (with_reducible exact fault_c HR.out HA.out _ _) | fail))
    refine wpQuiet_nil ?_
    intro _ hw'
    obtain ⟨⟨dq, osq⟩, hw''⟩ := hw'
    subst hw''
    go_wp2
    go_ret
    exact ⟨rfl, ((Below.refl _ _).alloc (Nat.le_refl _) _).trans ((below_regrown _ dq osq).mono (by simp))⟩
set_option maxHeartbeats 400000 in
theorem RLess_any (a n b m : Int) (w : World) :
    Calls Tryd.prog 49 #[.agg #[.int .u32 a, .int .i64 n], .agg #[.int .u32 b, .int .i64 m]] w fun e w' => e = .returned (.bool (lessB (a, n) (b, m))) ∧ Below w.heap.size w w' := by
  by_cases h1 : a < b
  · have hL : lessB (a, n) (b, m) = true := lessB_iff.2 (.inl h1)
    rw [hL]
    clear hL
    go_enter Tryd.func49, Tryd.ntmps49
    go_wp2
    go_ret
    exact ⟨rfl, ((Below.refl _ _).alloc (Nat.le_refl _) _).alloc (by simp) _⟩
  · by_cases h2 : a = b
    · subst h2
      have hL : lessB (a, n) (a, m) = decide (n < m) := by unfold lessB; simp
      rw [hL]
      clear hL
      go_enter Tryd.func49, Tryd.ntmps49
      go_wp2
      go_ret
      exact ⟨rfl, ((Below.refl _ _).alloc (Nat.le_refl _) _).alloc (by simp) _⟩
    · have hL : lessB (a, n) (b, m) = false := by unfold lessB; simp; omega
      have t1 : (a == b) = false := by simpa using h2
      rw [hL]
      clear hL h2
      go_enter Tryd.func49, Tryd.ntmps49
      go_wp2
      go_ret
      exact ⟨rfl, ((Below.refl _ _).alloc (Nat.le_refl _) _).alloc (by simp) _⟩
end Go.Proofs.YtplojnlmofbneaaDoor
