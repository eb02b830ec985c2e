/- Masks: how long a number is in bits; what mask.Mask and mask.Len tell. -/
import Derived.Test.YtimdnfakgobadaaDoorWords
import Derived.Lib.BitFns
import Derived.Lib.Walk
import Derived.Lib.Tables
namespace Go.Proofs.YtimdnfakgobadaaDoor
open Go.ChangeShapes Go.WideShapes Go.ChangeAt Go.RowKit
set_option linter.unusedVariables false

/-- how many bits a number takes -/
def blen (n : Nat) : Nat := if n = 0 then 0 else n.log2 + 1
theorem blen_zero : blen 0 = 0 := rfl
theorem blen_lt {n k : Nat} : blen n ≤ k ↔ n < 2 ^ k := by
  unfold blen
  split
  · rename_i h; subst h; simp; exact Nat.pow_pos (by omega)
  · rename_i h
    rw [Nat.add_one_le_iff, Nat.log2_lt h]
theorem blen_eq {n k : Nat} (h1 : n < 2 ^ k) (h2 : k = 0 ∨ 2 ^ (k - 1) ≤ n) : blen n = k := by
  have a := blen_lt.2 h1
  rcases h2 with rfl | h2
  · omega
  · rcases Nat.lt_or_ge (blen n) k with h | h
    · have := (blen_lt (n := n) (k := k - 1)).1 (by omega)
      omega
    · omega
theorem blen_spec (n : Nat) : n < 2 ^ blen n ∧ (blen n = 0 ∨ 2 ^ (blen n - 1) ≤ n) := by
  refine ⟨blen_lt.1 (Nat.le_refl _), ?_⟩
  rcases Nat.eq_zero_or_pos (blen n) with h | h
  · exact .inl h
  · refine .inr ?_
    rcases Nat.lt_or_ge n (2 ^ (blen n - 1)) with h' | h'
    · have := blen_lt.2 h'; omega
    · exact h'
theorem blen_div (n s : Nat) (h : 2 ^ s ≤ n) : blen n = blen (n / 2 ^ s) + s := by
  obtain ⟨a, b⟩ := blen_spec (n / 2 ^ s)
  have hp : 0 < 2 ^ s := Nat.pow_pos (by omega)
  have hd : 0 < n / 2 ^ s := Nat.div_pos h hp
  have h0 : blen (n / 2 ^ s) ≠ 0 := fun e => by rw [e] at a; omega
  refine blen_eq ?_ (.inr ?_)
  · rw [Nat.pow_add]; exact Nat.lt_mul_of_div_lt a hp
  · have hb := b.resolve_left h0
    have e : blen (n / 2 ^ s) + s - 1 = (blen (n / 2 ^ s) - 1) + s := by omega
    rw [e, Nat.pow_add]
    exact (Nat.le_div_iff_mul_le hp).1 hb

theorem len8_blen : ∀ n : Fin 256, Lib.len8 (n.val : Int) = (blen n.val : Int) := by decide +kernel
theorem blen_le8 (n : Nat) (h : n ≤ 255) : blen n ≤ 8 := blen_lt.2 (by omega)
theorem len8_at (n : Nat) (h : n ≤ 255) : Lib.len8 (n : Int) = (blen n : Int) := len8_blen ⟨n, by omega⟩

set_option maxHeartbeats 1000000 in
set_option maxRecDepth 100000 in
theorem Len32_A (x v : Int) (w : World) (x0 : 0 ≤ x) (x1 : x ≤ 4294967295) (x2 : (65536 : Int) ≤ x) (x3 : (256 : Int) ≤ x / 65536) (y0 : 0 ≤ x / 65536 / 256) (y1 : x / 65536 / 256 ≤ 255) (l0 : 0 ≤ Lib.len8 (x / 65536 / 256)) (l1 : Lib.len8 (x / 65536 / 256) ≤ 8) (hv : 24 + Lib.len8 (x / 65536 / 256) = v) :
    Calls Tryd.prog 32 #[.int .u32 x] w fun e w' => e = .returned (.int .i64 v) ∧ w = w' := by
  go_enter Tryd.func32, Tryd.ntmps32
  go_wp2
  go_ret
  exact ⟨rfl, rfl⟩
set_option maxHeartbeats 1000000 in
set_option maxRecDepth 100000 in
theorem Len32_B (x v : Int) (w : World) (x0 : 0 ≤ x) (x1 : x ≤ 4294967295) (x2 : (65536 : Int) ≤ x) (x3 : x / 65536 < 256) (y0 : 0 ≤ x / 65536) (y1 : x / 65536 ≤ 255) (l0 : 0 ≤ Lib.len8 (x / 65536)) (l1 : Lib.len8 (x / 65536) ≤ 8) (hv : 16 + Lib.len8 (x / 65536) = v) :
    Calls Tryd.prog 32 #[.int .u32 x] w fun e w' => e = .returned (.int .i64 v) ∧ w = w' := by
  go_enter Tryd.func32, Tryd.ntmps32
  go_wp2
  go_ret
  exact ⟨rfl, rfl⟩
set_option maxHeartbeats 1000000 in
set_option maxRecDepth 100000 in
theorem Len32_C (x v : Int) (w : World) (x0 : 0 ≤ x) (x1 : x ≤ 4294967295) (x2 : x < 65536) (x3 : (256 : Int) ≤ x) (y0 : 0 ≤ x / 256) (y1 : x / 256 ≤ 255) (l0 : 0 ≤ Lib.len8 (x / 256)) (l1 : Lib.len8 (x / 256) ≤ 8) (hv : 8 + Lib.len8 (x / 256) = v) :
    Calls Tryd.prog 32 #[.int .u32 x] w fun e w' => e = .returned (.int .i64 v) ∧ w = w' := by
  go_enter Tryd.func32, Tryd.ntmps32
  go_wp2
  go_ret
  exact ⟨rfl, rfl⟩
set_option maxHeartbeats 1000000 in
set_option maxRecDepth 100000 in
theorem Len32_D (x v : Int) (w : World) (x0 : 0 ≤ x) (x1 : x ≤ 4294967295) (x2 : x < 65536) (x3 : x < 256) (y0 : 0 ≤ x) (y1 : x ≤ 255) (l0 : 0 ≤ Lib.len8 (x)) (l1 : Lib.len8 (x) ≤ 8) (hv : Lib.len8 x = v) :
    Calls Tryd.prog 32 #[.int .u32 x] w fun e w' => e = .returned (.int .i64 v) ∧ w = w' := by
  go_enter Tryd.func32, Tryd.ntmps32
  go_wp2
  go_ret
  exact ⟨rfl, rfl⟩
theorem Len32_any (n : Nat) (w : World) (hn : n < 4294967296) :
    Calls Tryd.prog 32 #[.int .u32 n] w fun e w' => e = .returned (.int .i64 (blen n)) ∧ w = w' := by
  by_cases h1 : 65536 ≤ n
  · have hd := blen_div n 16 h1
    rw [show (2 : Nat) ^ 16 = 65536 from by decide] at hd
    by_cases h2 : 256 ≤ n / 65536
    · have hd2 := blen_div (n / 65536) 8 h2
      rw [show (2 : Nat) ^ 8 = 256 from by decide] at hd2
      have e := len8_at (n / 65536 / 256) (by omega)
      have e2 := blen_le8 (n / 65536 / 256) (by omega)
      have ei : ((n : Int) / 65536 / 256) = ((n / 65536 / 256 : Nat) : Int) := by omega
      exact Len32_A n _ w (by omega) (by omega) (by omega) (by omega) (by omega) (by omega) (by rw [ei, e]; omega) (by rw [ei, e]; omega) (by rw [ei, e]; omega)
    · have e := len8_at (n / 65536) (by omega)
      have e2 := blen_le8 (n / 65536) (by omega)
      have ei : ((n : Int) / 65536) = ((n / 65536 : Nat) : Int) := by omega
      exact Len32_B n _ w (by omega) (by omega) (by omega) (by omega) (by omega) (by omega) (by rw [ei, e]; omega) (by rw [ei, e]; omega) (by rw [ei, e]; omega)
  · by_cases h2 : 256 ≤ n
    · have hd := blen_div n 8 h2
      rw [show (2 : Nat) ^ 8 = 256 from by decide] at hd
      have e := len8_at (n / 256) (by omega)
      have e2 := blen_le8 (n / 256) (by omega)
      have ei : ((n : Int) / 256) = ((n / 256 : Nat) : Int) := by omega
      exact Len32_C n _ w (by omega) (by omega) (by omega) (by omega) (by omega) (by omega) (by rw [ei, e]; omega) (by rw [ei, e]; omega) (by rw [ei, e]; omega)
    · have e := len8_at n (by omega)
      have e2 := blen_le8 n (by omega)
      exact Len32_D n _ w (by omega) (by omega) (by omega) (by omega) (by omega) (by omega) (by rw [e]; omega) (by rw [e]; omega) (by rw [e])

set_option maxHeartbeats 400000 in
theorem LeadingZeros32_any (n : Nat) (w : World) (hn : n < 4294967296) :
    Calls Tryd.prog 22 #[.int .u32 n] w fun e w' => e = .returned (.int .i64 (32 - blen n)) ∧ w = w' := by
  have hl : blen n ≤ 32 := blen_lt.2 hn
  have HN := Lib.hid hn; clear hn
  go_enter Tryd.func22, Tryd.ntmps22
  go_wp2_with (go_at_call 32; refine (Len32_any _ _ HN.out).mono ?_; rintro e w' ⟨rfl, rfl⟩)
  go_ret
  exact ⟨rfl, rfl⟩

/-- the mask of n bits -/
def maskV (n : Nat) : Int := 4294967296 - 2 ^ (32 - n)
theorem maskV_rng_fin : ∀ n : Fin 33, 0 ≤ maskV n.val ∧ maskV n.val ≤ 4294967295 := by decide
theorem maskV_rng (n : Nat) : 0 ≤ maskV n ∧ maskV n ≤ 4294967295 := by
  rcases Nat.lt_or_ge n 33 with h | h
  · exact maskV_rng_fin ⟨n, h⟩
  · have e : maskV n = maskV 32 := by unfold maskV; rw [show 32 - n = 32 - 32 from by omega]
    rw [e]; exact maskV_rng_fin ⟨32, by omega⟩

set_option maxHeartbeats 400000 in
theorem Mask_out (n : Int) (w : World) (h : n < 0 ∨ 32 < n) :
    Calls Tryd.prog 8 #[.int .i64 n] w fun e w' => e = .returned (.tuple #[.int .u32 0, .iface 23 (.int .i64 1)]) ∧ w = w' := by
  rcases h with h | h
  · go_enter Tryd.func8, Tryd.ntmps8
    go_wp2
    go_ret2
    exact ⟨rfl, rfl⟩
  · have h0 : ¬ n < 0 := by omega
    go_enter Tryd.func8, Tryd.ntmps8
    go_wp2
    go_ret2
    exact ⟨rfl, rfl⟩
theorem maskV_fin : ∀ n : Fin 33, (4294967295 : Int) * 2 ^ (32 - n.val) % 4294967296 = maskV n.val := by decide
theorem maskV_eq (n : Nat) (h : n ≤ 32) : (4294967295 : Int) * 2 ^ (32 - n) % 4294967296 = maskV n := maskV_fin ⟨n, by omega⟩
set_option maxHeartbeats 400000 in
theorem Mask_in (n : Nat) (w : World) (h : n ≤ 32) :
    Calls Tryd.prog 8 #[.int .i64 n] w fun e w' => e = .returned (.tuple #[.int .u32 (maskV n), .nilIface]) ∧ w = w' := by
  have he := Lib.hid (maskV_eq n h)
  go_enter Tryd.func8, Tryd.ntmps8
  go_wp2
  go_ret2
  exact ⟨congrArg (fun x => Ending.returned (.tuple #[.int .u32 x, .nilIface])) he.out, rfl⟩

/-- what mask.Len tells: is it the mask of so many bits -/
theorem xor32 (m : Int) (h0 : 0 ≤ m) (h1 : m ≤ 4294967295) : bits BinOp.xor IntKind.u32 IntKind.u32.max m = 4294967295 - m := by
  obtain ⟨n, rfl⟩ := Int.eq_ofNat_of_zero_le h0
  have e := u32_xor_nat 4294967295 n (by omega) (by omega)
  have e2 : IntKind.u32.max = ((4294967295 : Nat) : Int) := by decide
  rw [e2, e]
  have h : n < 2 ^ 32 := by omega
  have e3 : 4294967295 ^^^ n = 4294967295 - n := by
    apply Nat.eq_of_testBit_eq
    intro i
    rw [show (4294967295 : Nat) - n = 2 ^ 32 - (n + 1) from by omega, Nat.testBit_two_pow_sub_succ h, Nat.testBit_xor, show (4294967295 : Nat) = 2 ^ 32 - 1 from by decide, Nat.testBit_two_pow_sub_one]
    by_cases hi : i < 32
    · simp [hi]
    · have : n.testBit i = false := Nat.testBit_lt_two_pow (Nat.lt_of_lt_of_le h (Nat.pow_le_pow_right (by omega) (by omega)))
      simp [hi, this]
  rw [e3]
  omega
/-- the bits ahead of the first 0 of a mask -/
def maskL (m : Int) : Nat := 32 - blen (4294967295 - m).toNat
theorem maskL_le (m : Int) : maskL m ≤ 32 := by unfold maskL; omega
theorem maskL_of : ∀ n : Fin 33, maskL (maskV n.val) = n.val := by decide +kernel

set_option maxHeartbeats 400000 in
theorem Len_any (m : Int) (w : World) (h0 : 0 ≤ m) (h1 : m ≤ 4294967295) :
    Calls Tryd.prog 10 #[.int .u32 m] w fun e w' =>
      e = .returned (if maskV (maskL m) = m then .tuple #[.int .i64 (maskL m), .nilIface] else .tuple #[.int .i64 0, .iface 23 (.int .i64 3)]) ∧ w = w' := by
  have hx := xor32 m h0 h1
  have hlz : ∀ w : World, Calls Tryd.prog 22 #[.int .u32 (4294967295 - m)] w fun e w' => e = .returned (.int .i64 (maskL m)) ∧ w = w' := fun w => by
    have hl : blen (4294967295 - m).toNat ≤ 32 := blen_lt.2 (by omega)
    have := LeadingZeros32_any (4294967295 - m).toNat w (by omega)
    rw [show (((4294967295 - m).toNat : Nat) : Int) = 4294967295 - m from by omega] at this
    rw [show ((maskL m : Nat) : Int) = 32 - (blen (4294967295 - m).toNat : Int) from by unfold maskL; omega]
    exact this
  have hL := maskL_le m
  have HLZ := Lib.hid hlz; clear hlz
  generalize maskL m = k at *
  by_cases he : maskV k = m
  · have hb : (maskV k != m) = false := by simpa using he
    rw [if_pos he]
    have HE := Lib.hid he; clear he
    go_enter Tryd.func10, Tryd.ntmps10
    go_wp2_with (first
      | (go_at_call 22; refine (HLZ.out _).mono ?_; rintro e w' ⟨rfl, rfl⟩)
      | (go_at_call 8; refine (Mask_in _ _ hL).mono ?_; rintro e w' ⟨rfl, rfl⟩))
    go_ret2
    exact ⟨rfl, rfl⟩
  · have hb : (maskV k != m) = true := by simpa using he
    rw [if_neg he]
    clear he
    go_enter Tryd.func10, Tryd.ntmps10
    go_wp2_with (first
      | (go_at_call 22; refine (HLZ.out _).mono ?_; rintro e w' ⟨rfl, rfl⟩)
      | (go_at_call 8; refine (Mask_in _ _ hL).mono ?_; rintro e w' ⟨rfl, rfl⟩))
    go_ret2
    exact ⟨rfl, rfl⟩
end Go.Proofs.YtimdnfakgobadaaDoor
