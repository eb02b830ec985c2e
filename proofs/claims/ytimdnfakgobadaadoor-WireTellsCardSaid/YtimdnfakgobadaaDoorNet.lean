/- Nets: what pref.Check and the reference's NetFault tell; masks in plain numbers. -/
import Derived.Test.YtimdnfakgobadaaDoorMaskA
import Derived.Test.YtimdnfakgobadaaDoorTypes
namespace Go.Proofs.YtimdnfakgobadaaDoor
open Go.ChangeShapes Go.WideShapes Go.ChangeAt Go.RowKit
set_option linter.unusedVariables false

theorem and_low (a k : Nat) : a &&& (2 ^ k - 1) = a % 2 ^ k := Nat.and_two_pow_sub_one_eq_mod a k
theorem and_high (a k : Nat) (hk : k ≤ 32) (ha : a < 4294967296) : a &&& (4294967296 - 2 ^ k) = a - a % 2 ^ k := by
  have e1 : 4294967296 - 2 ^ k = (2 ^ (32 - k) - 1) <<< k := by
    rw [Nat.shiftLeft_eq, Nat.sub_mul, ← Nat.pow_add, show 32 - k + k = 32 from by omega]; simp
  have e2 : a - a % 2 ^ k = (a >>> k) <<< k := by
    rw [Nat.shiftLeft_eq, Nat.shiftRight_eq_div_pow]
    have := Nat.div_add_mod a (2 ^ k)
    rw [Nat.mul_comm] at this
    omega
  rw [e1, e2]
  apply Nat.eq_of_testBit_eq
  intro i
  rw [Nat.testBit_and, Nat.testBit_shiftLeft, Nat.testBit_shiftLeft, Nat.testBit_two_pow_sub_one, Nat.testBit_shiftRight]
  by_cases h : k ≤ i
  · have e : k + (i - k) = i := by omega
    rw [e]
    by_cases h2 : i < 32
    · have : i - k < 32 - k := by omega
      simp [h, this]
    · have : a.testBit i = false := Nat.testBit_lt_two_pow (Nat.lt_of_lt_of_le ha (show 2 ^ 32 ≤ 2 ^ i from Nat.pow_le_pow_right (by omega) (by omega)))
      simp [this]
  · simp [h]
theorem maskV_nat (n : Nat) : maskV n = ((4294967296 - 2 ^ (32 - n) : Nat) : Int) := by
  have h : 2 ^ (32 - n) ≤ 2 ^ 32 := Nat.pow_le_pow_right (by omega) (by omega)
  unfold maskV
  have e : ((2 ^ (32 - n) : Nat) : Int) = (2 : Int) ^ (32 - n) := by simp
  rw [← e]
  have h2 : (2 : Nat) ^ 32 = 4294967296 := by decide
  omega
/-- the addresses of a net with so many bits -/
def lowI (n : Nat) : Int := 2 ^ (32 - n)
theorem lowI_nat (n : Nat) : lowI n = ((2 ^ (32 - n) : Nat) : Int) := by unfold lowI; simp
theorem lowI_pos (n : Nat) : 0 < lowI n := by rw [lowI_nat]; have : 0 < 2 ^ (32 - n) := Nat.pow_pos (by omega); omega
theorem and_maskI (a : Int) (n : Nat) (h0 : 0 ≤ a) (h1 : a ≤ 4294967295) : bits .and .u32 a (maskV n) = a - a % lowI n := by
  obtain ⟨x, rfl⟩ := Int.eq_ofNat_of_zero_le h0
  have hp : 0 < 2 ^ (32 - n) := Nat.pow_pos (by omega)
  rw [maskV_nat, lowI_nat]
  rw [u32_and_nat x _ (by omega) (by omega), and_high x _ (by omega) (by omega)]
  have := Nat.mod_le x (2 ^ (32 - n))
  omega
theorem andNot_maskI (a : Int) (n : Nat) (h0 : 0 ≤ a) (h1 : a ≤ 4294967295) : bits .andNot .u32 a (maskV n) = a % lowI n := by
  obtain ⟨x, rfl⟩ := Int.eq_ofNat_of_zero_le h0
  have hp : 0 < 2 ^ (32 - n) := Nat.pow_pos (by omega)
  have hle : 2 ^ (32 - n) ≤ 2 ^ 32 := Nat.pow_le_pow_right (by omega) (by omega)
  rw [maskV_nat, lowI_nat]
  rw [u32_andNot_nat x _ (by omega) (by omega), show 4294967295 - (4294967296 - 2 ^ (32 - n)) = 2 ^ (32 - n) - 1 from by omega, and_low]
  omega

/-- what is wrong with a net -/
def netF (x : Int × Int) : Int := if x.2 < 0 ∨ 32 < x.2 then 1 else if x.1 % lowI x.2.toNat = 0 then 0 else 3
def netV (x : Int × Int) : Value := .agg #[.int .u32 x.1, .int .i64 x.2]
set_option maxHeartbeats 400000 in
theorem Check_net (a n : Int) (w : World) (h0 : 0 ≤ a) (h1 : a ≤ 4294967295) :
    Calls Tryd.prog 24 #[.agg #[.int .u32 a, .int .i64 n]] w fun e w' => e = .returned (errV (netF (a, n))) ∧ Below w.heap.size w w' := by
  by_cases hin : 0 ≤ n ∧ n ≤ 32
  · obtain ⟨k, rfl⟩ := Int.eq_ofNat_of_zero_le hin.1
    have hk : k ≤ 32 := by omega
    have hb := andNot_maskI a k h0 h1
    have hr := maskV_rng k
    have hF : netF (a, (k : Int)) = if a % lowI k = 0 then 0 else 3 := by unfold netF; rw [if_neg (by simp; omega)]; rfl
    rw [hF]
    by_cases hz : a % lowI k = 0
    · rw [if_pos hz]
      have ht : (bits .andNot .u32 a (maskV k) != 0) = false := by rw [hb, hz]; rfl
      clear hz hb hF hin
      go_enter Tryd.func24, Tryd.ntmps24
      go_wp2_with (go_at_call 8; refine (Mask_in k _ hk).mono ?_; rintro e w' ⟨rfl, rfl⟩)
      go_ret
      exact ⟨rfl, (Below.refl _ _).alloc (Nat.le_refl _) _⟩
    · rw [if_neg hz]
      have ht : (bits .andNot .u32 a (maskV k) != 0) = true := by rw [hb]; simpa [bne] using hz
      clear hz hb hF hin
      go_enter Tryd.func24, Tryd.ntmps24
      go_wp2_with (go_at_call 8; refine (Mask_in k _ hk).mono ?_; rintro e w' ⟨rfl, rfl⟩)
      go_ret
      exact ⟨rfl, (Below.refl _ _).alloc (Nat.le_refl _) _⟩
  · have hF : netF (a, n) = 1 := by unfold netF; rw [if_pos (by simp; omega)]
    have hn : n < 0 ∨ 32 < n := by omega
    rw [hF]
    have HN := Lib.hid hn
    clear hF hin hn
    go_enter Tryd.func24, Tryd.ntmps24
    go_wp2_with (go_at_call 8; refine (Mask_out n _ HN.out).mono ?_; rintro e w' ⟨rfl, rfl⟩)
    go_ret
    exact ⟨rfl, (Below.refl _ _).alloc (Nat.le_refl _) _⟩
end Go.Proofs.YtimdnfakgobadaaDoor
