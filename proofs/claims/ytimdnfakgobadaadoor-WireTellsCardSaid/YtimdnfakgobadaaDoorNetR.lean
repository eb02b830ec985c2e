/- The reference's masks and net faults. -/
import Derived.Test.YtimdnfakgobadaaDoorNet
namespace Go.Proofs.YtimdnfakgobadaaDoor
open Go.ChangeShapes Go.WideShapes Go.ChangeAt Go.RowKit
set_option linter.unusedVariables false

theorem maskR_step_fin : ∀ k : Fin 32, bits BinOp.or IntKind.u32 (maskV k.val) (2 ^ (31 - k.val)) = maskV (k.val + 1) := by decide +kernel
theorem maskR_step (k : Nat) (h : k < 32) : bits BinOp.or IntKind.u32 (maskV k) (2 ^ (31 - k)) = maskV (k + 1) := maskR_step_fin ⟨k, h⟩
theorem maskR_pow_fin : ∀ k : Fin 32, (2 : Int) ^ (31 - k.val) % 4294967296 = 2 ^ (31 - k.val) := by decide
theorem maskR_pow (k : Nat) (h : k < 32) : (2 : Int) ^ (31 - k) % 4294967296 = 2 ^ (31 - k) := maskR_pow_fin ⟨k, h⟩
set_option maxHeartbeats 400000 in
theorem MaskOf_n (n : Nat) (w : World) (hn : n ≤ 32) :
    Calls Tryd.prog 7 #[.int .i64 n] w fun e w' => e = .returned (.int .u32 (maskV n)) ∧ w = w' := by
  go_enter Tryd.func7, Tryd.ntmps7
  go_wp2
  go_loop [3, 4] (fun m i => ∃ k : Nat, k ≤ n ∧ i = .int .i64 k ∧ m = .int .u32 (maskV k)) (fun _ i => n - (intOf i).toNat)
  case atStart => exact ⟨0, Nat.zero_le _, rfl, by rfl⟩
  case round =>
    obtain ⟨k, hk, rfl, rfl⟩ := hrel
    by_cases hlt : k < n
    · have hs := maskR_step k (by omega)
      have hp := maskR_pow k (by omega)
      have hu : IntKind.u64.wrap (31 - (k : Int)) = 31 - k := IntWalk.u64_in _ ⟨by omega, by omega⟩
      have hS := Lib.hid hs; have hP := Lib.hid hp; clear hs hp
      go_wp2
      refine ⟨⟨k + 1, by omega, by go_num, ?_⟩, by simp [intOf]; omega⟩
      rw [hP.out, hS.out]
    · have e : k = n := by omega
      subst e
      go_wp2
      go_ret
      exact ⟨rfl, rfl⟩
set_option maxHeartbeats 400000 in
theorem NetFault_n (a n : Int) (w : World) (h0 : 0 ≤ a) (h1 : a ≤ 4294967295) :
    Calls Tryd.prog 23 #[.agg #[.int .u32 a, .int .i64 n]] w fun e w' => e = .returned (.int .i64 (netF (a, n))) ∧ Below w.heap.size w w' := by
  by_cases hin : 0 ≤ n ∧ n ≤ 32
  · obtain ⟨k, rfl⟩ := Int.eq_ofNat_of_zero_le hin.1
    have hk : k ≤ 32 := by omega
    have hk' : ¬ (k : Int) < 0 := by omega
    have hk2 : ¬ 32 < (k : Int) := by omega
    have hb := and_maskI a k h0 h1
    have hF : netF (a, (k : Int)) = if a % lowI k = 0 then 0 else 3 := by unfold netF; rw [if_neg (by simp; omega)]; rfl
    rw [hF]
    by_cases hz : a % lowI k = 0
    · rw [if_pos hz]
      have ht : (bits .and .u32 a (maskV k) != a) = false := by rw [hb, hz]; simp
      clear hz hb hF hin
      go_enter Tryd.func23, Tryd.ntmps23
      go_wp2
      go_quiet ((go_at_call 7; exact quiet_left (MaskOf_n k _ hk)))
      go_wp2
      go_ret
      exact ⟨rfl, below_drewN ((Below.refl _ _).alloc (Nat.le_refl _) _) _⟩
    · rw [if_neg hz]
      have ht : (bits .and .u32 a (maskV k) != a) = true := by rw [hb]; simp [bne]; omega
      clear hz hb hF hin
      go_enter Tryd.func23, Tryd.ntmps23
      go_wp2
      go_quiet ((go_at_call 7; exact quiet_left (MaskOf_n k _ hk)))
      go_wp2
      go_ret
      exact ⟨rfl, below_drewN ((Below.refl _ _).alloc (Nat.le_refl _) _) _⟩
  · have hF : netF (a, n) = 1 := by unfold netF; rw [if_pos (by simp; omega)]
    have hn : n < 0 ∨ 32 < n := by omega
    rw [hF]
    clear hF hin
    rcases hn with hn | hn
    · go_enter Tryd.func23, Tryd.ntmps23
      go_wp2
      go_ret
      exact ⟨rfl, (Below.refl _ _).alloc (Nat.le_refl _) _⟩
    · have hn' : ¬ n < 0 := by omega
      go_enter Tryd.func23, Tryd.ntmps23
      go_wp2
      go_ret
      exact ⟨rfl, (Below.refl _ _).alloc (Nat.le_refl _) _⟩
end Go.Proofs.YtimdnfakgobadaaDoor
