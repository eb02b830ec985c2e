/- Nets in plain numbers: which has an address, which is within which, what is above, both halves, the least one that has both; no program in sight. -/
import Derived.Test.YtplojnlmofbneaaDoorNet
namespace Go.Proofs.YtplojnlmofbneaaDoor
open Go.ChangeShapes Go.WideShapes Go.ChangeAt Go.RowKit
set_option linter.unusedVariables false

/-- the first address of those by m that y is among -/
def fl (m y : Int) : Int := y - y % m
def hasB (x : Int × Int) (y : Int) : Bool := decide (netF x = 0 ∧ fl (lowI x.2.toNat) y = x.1)
def inB (a b : Int × Int) : Bool := decide (netF a = 0 ∧ b.2 ≤ a.2) && hasB b a.1
def lessB (a b : Int × Int) : Bool := decide (a.1 < b.1 ∨ a.1 = b.1 ∧ a.2 < b.2)
def trimN (x : Int × Int) (k : Nat) : Int × Int := (fl (lowI k) x.1, (k : Int))
def lzN (a b : Int) : Nat := 32 - blen (a.toNat ^^^ b.toNat)
def comL (a b : Int × Int) : Nat := min (min a.2.toNat b.2.toNat) (lzN a.1 b.1)
def comN (a b : Int × Int) : Int × Int := trimN a (comL a b)
/-- of four bytes -/
def is32 (y : Int) : Prop := 0 ≤ y ∧ y ≤ 4294967295

theorem fl_mul (m y : Int) (hm : 0 < m) : fl m y = m * (y / m) := by
  have := Int.mul_ediv_add_emod y m
  unfold fl; omega
theorem fl_fl (m q y : Int) (hm : 0 < m) (hq : 0 < q) : fl (m * q) (fl m y) = fl (m * q) y := by
  have hp : 0 < m * q := Int.mul_pos hm hq
  rw [fl_mul _ _ hp, fl_mul _ y hp, fl_mul _ y hm]
  rw [Int.mul_ediv_mul_of_pos _ _ hm, ← Int.ediv_ediv_of_nonneg (Int.le_of_lt hm)]
theorem low_split {k l : Nat} (hk : k ≤ l) (hl : l ≤ 32) : lowI k = lowI l * 2 ^ (l - k) := by
  unfold lowI
  rw [← Int.pow_add]
  congr 1; omega
theorem two_pos (n : Nat) : (0 : Int) < 2 ^ n := Int.pow_pos (by decide)
theorem fl_low {k l : Nat} (hk : k ≤ l) (hl : l ≤ 32) (y : Int) : fl (lowI k) (fl (lowI l) y) = fl (lowI k) y := by
  rw [low_split hk hl]
  exact fl_fl _ _ _ (lowI_pos l) (two_pos _)
theorem fl_le (m y : Int) (hm : 0 < m) : fl m y ≤ y := by
  have := Int.emod_nonneg y (by omega : m ≠ 0); unfold fl; omega
theorem fl_nonneg (m y : Int) (hm : 0 < m) (h : 0 ≤ y) : 0 ≤ fl m y := by
  rw [fl_mul m y hm]
  exact Int.mul_nonneg (by omega) (Int.ediv_nonneg h (by omega))
theorem fl_32 {m y : Int} (hm : 0 < m) (h : is32 y) : is32 (fl m y) := ⟨fl_nonneg m y hm h.1, by have := fl_le m y hm; have := h.2; omega⟩
theorem fl_mod {m y : Int} (h : fl m y = y) : y % m = 0 := by unfold fl at h; omega
theorem fl_of {m y : Int} (h : y % m = 0) : fl m y = y := by unfold fl; omega
theorem fl_idem (m y : Int) (hm : 0 < m) : fl m y % m = 0 := by rw [fl_mul m y hm]; exact Int.mul_emod_right _ _

theorem netF_zero {a l : Int} : netF (a, l) = 0 ↔ 0 ≤ l ∧ l ≤ 32 ∧ fl (lowI l.toNat) a = a := by
  unfold netF
  simp only
  by_cases h1 : l < 0 ∨ 32 < l
  · rw [if_pos h1]; simp; omega
  · rw [if_neg h1]
    by_cases h2 : a % lowI l.toNat = 0
    · rw [if_pos h2]; simp; exact ⟨by omega, by omega, fl_of h2⟩
    · rw [if_neg h2]; simp; intro _ _ h; exact absurd (fl_mod h) h2
/-- a right net, by a number of bits that is a Nat -/
theorem net_ok {x : Int × Int} (h : netF x = 0) : ∃ k : Nat, k ≤ 32 ∧ x.2 = k ∧ fl (lowI k) x.1 = x.1 := by
  obtain ⟨a, l⟩ := x
  obtain ⟨h0, h1, h2⟩ := netF_zero.1 h
  obtain ⟨k, rfl⟩ := Int.eq_ofNat_of_zero_le h0
  exact ⟨k, by omega, rfl, by simpa using h2⟩
theorem net_of {a : Int} {k : Nat} (hk : k ≤ 32) (h : fl (lowI k) a = a) : netF (a, (k : Int)) = 0 := netF_zero.2 ⟨by omega, by omega, by simpa using h⟩
theorem hasB_iff {x : Int × Int} {y : Int} : hasB x y = true ↔ netF x = 0 ∧ fl (lowI x.2.toNat) y = x.1 := by unfold hasB; exact decide_eq_true_iff
theorem inB_iff {a b : Int × Int} : inB a b = true ↔ netF a = 0 ∧ b.2 ≤ a.2 ∧ netF b = 0 ∧ fl (lowI b.2.toNat) a.1 = b.1 := by
  unfold inB
  rw [Bool.and_eq_true, decide_eq_true_iff, hasB_iff]
  exact ⟨fun ⟨⟨h1, h2⟩, h3, h4⟩ => ⟨h1, h2, h3, h4⟩, fun ⟨h1, h2, h3, h4⟩ => ⟨⟨h1, h2⟩, h3, h4⟩⟩
theorem lessB_iff {a b : Int × Int} : lessB a b = true ↔ a.1 < b.1 ∨ a.1 = b.1 ∧ a.2 < b.2 := by unfold lessB; exact decide_eq_true_iff

/-! ### ONE WITHIN THE OTHER, OR APART -/
theorem in_of_has {a b : Int × Int} {x : Int} (h1 : hasB a x = true) (h2 : hasB b x = true) (hl : b.2 ≤ a.2) : inB a b = true := by
  obtain ⟨n1, e1⟩ := hasB_iff.1 h1
  obtain ⟨n2, e2⟩ := hasB_iff.1 h2
  obtain ⟨k, hk, ek, _⟩ := net_ok n1
  obtain ⟨j, hj, ej, _⟩ := net_ok n2
  refine inB_iff.2 ⟨n1, hl, n2, ?_⟩
  rw [ek] at e1 hl; rw [ej] at e2 hl ⊢
  simp only [Int.toNat_natCast] at e1 e2 ⊢
  rw [← e1, fl_low (by omega) hk, e2]
theorem nests_one {a b : Int × Int} {x : Int} (h1 : hasB a x = true) (h2 : hasB b x = true) (h3 : inB a b = false) : inB b a = true := by
  rcases Int.le_total b.2 a.2 with h | h
  · rw [in_of_has h1 h2 h] at h3; cases h3
  · exact in_of_has h2 h1 h
theorem nests_two {a b : Int × Int} (h1 : inB a b = true) (h2 : inB b a = true) : a = b := by
  obtain ⟨n1, l1, n2, e1⟩ := inB_iff.1 h1
  obtain ⟨_, l2, _, _⟩ := inB_iff.1 h2
  obtain ⟨k, hk, ek, f1⟩ := net_ok n1
  have e : a.2 = b.2 := by omega
  rw [← e, ek] at e1
  simp only [Int.toNat_natCast] at e1
  rw [f1] at e1
  exact Prod.ext e1 e
theorem nests_three {a b c : Int × Int} (h1 : inB a b = true) (h2 : inB b c = true) : inB a c = true := by
  obtain ⟨n1, l1, n2, e1⟩ := inB_iff.1 h1
  obtain ⟨_, l2, n3, e2⟩ := inB_iff.1 h2
  obtain ⟨k, hk, ek, _⟩ := net_ok n2
  obtain ⟨j, hj, ej, _⟩ := net_ok n3
  refine inB_iff.2 ⟨n1, by omega, n3, ?_⟩
  rw [ek] at e1 l2; rw [ej] at e2 l2 ⊢
  simp only [Int.toNat_natCast] at e1 e2 ⊢
  rw [← e2, ← e1, fl_low (by omega) hk]
theorem nests_four {a b : Int × Int} {x : Int} (h1 : inB a b = true) (h2 : hasB a x = true) : hasB b x = true := by
  obtain ⟨n1, l1, n2, e1⟩ := inB_iff.1 h1
  obtain ⟨_, e2⟩ := hasB_iff.1 h2
  obtain ⟨k, hk, ek, _⟩ := net_ok n1
  obtain ⟨j, hj, ej, _⟩ := net_ok n2
  refine hasB_iff.2 ⟨n2, ?_⟩
  rw [ek] at e2 l1; rw [ej] at e1 l1 ⊢
  simp only [Int.toNat_natCast] at e1 e2 ⊢
  rw [← e1, ← e2, fl_low (by omega) hk]
/-! ### ONE AHEAD OF THE OTHER -/
theorem less_irr (a : Int × Int) : lessB a a = false := by
  have : ¬ lessB a a = true := fun h => by have := lessB_iff.1 h; omega
  simpa using this
theorem less_one {a b : Int × Int} (h : a ≠ b) : lessB b a = !lessB a b := by
  have hne : a.1 ≠ b.1 ∨ a.2 ≠ b.2 := by
    by_cases h1 : a.1 = b.1
    · exact .inr fun h2 => h (Prod.ext h1 h2)
    · exact .inl h1
  have h1 := @lessB_iff a b
  have h2 := @lessB_iff b a
  cases e1 : lessB a b <;> cases e2 : lessB b a <;> simp [e1, e2] at h1 h2 ⊢ <;> omega
theorem less_trans {a b c : Int × Int} (h1 : lessB a b = true) (h2 : lessB b c = true) : lessB a c = true := by
  have h1 := lessB_iff.1 h1; have h2 := lessB_iff.1 h2
  exact lessB_iff.2 (by omega)
theorem less_in {a b : Int × Int} (h : inB a b = true) (hne : a ≠ b) : lessB b a = true := by
  obtain ⟨n1, l1, n2, e1⟩ := inB_iff.1 h
  have hle : b.1 ≤ a.1 := by rw [← e1]; exact fl_le _ _ (lowI_pos _)
  refine lessB_iff.2 ?_
  by_cases h1 : b.1 = a.1
  · by_cases h2 : b.2 = a.2
    · exact absurd (Prod.ext h1.symm h2.symm) hne
    · exact .inr ⟨h1, by omega⟩
  · exact .inl (by omega)
/-! ### BOTH HALVES ARE ALL -/
def halfP (x : Int × Int) : Int × Int := (x.1, x.2 + 1)
def halfQ (x : Int × Int) : Int × Int := (x.1 + lowI (x.2.toNat + 1), x.2 + 1)
theorem low_succ {k : Nat} (h : k < 32) : lowI k = lowI (k + 1) * 2 := by
  have := low_split (k := k) (l := k + 1) (by omega) (by omega)
  rw [this, show k + 1 - k = 1 from by omega]; rfl
theorem fl_half (h x : Int) (hh : 0 < h) : fl h x = fl (h * 2) x ∨ fl h x = fl (h * 2) x + h := by
  have e := fl_fl h 2 x hh (by omega)
  have h0 := fl_mul h x hh
  have h1 := fl_mul (h * 2) (fl h x) (by omega)
  rw [e] at h1
  rw [h1, h0, Int.mul_ediv_mul_of_pos _ _ hh]
  have h2 := Int.mul_ediv_add_emod (x / h) 2
  have h3 : x / h % 2 = 0 ∨ x / h % 2 = 1 := by omega
  rcases h3 with h3 | h3
  · left
    have : x / h = 2 * (x / h / 2) := by omega
    rw [Int.mul_assoc, ← this]
  · right
    have : x / h = 2 * (x / h / 2) + 1 := by omega
    rw [Int.mul_assoc]
    have e2 : h * (x / h) = h * (2 * (x / h / 2) + 1) := by rw [← this]
    rw [e2, Int.mul_add, Int.mul_one]
theorem mod_half {a h : Int} (hh : 0 < h) (ha : a % (h * 2) = 0) : a % h = 0 ∧ (a + h) % h = 0 ∧ (a + h) % (h * 2) = h := by
  obtain ⟨q, hq⟩ := Int.dvd_of_emod_eq_zero ha
  have e1 : a % h = 0 := by rw [hq, Int.mul_assoc]; exact Int.mul_emod_right _ _
  refine ⟨e1, by rw [Int.add_emod_right]; exact e1, ?_⟩
  rw [Int.add_comm, hq, Int.add_mul_emod_self_left]
  exact Int.emod_eq_of_lt (by omega) (by omega)
section
variable {a : Int} {k : Nat} (hk : k < 32) (hn : netF (a, (k : Int)) = 0)
include hk hn
theorem half_zero : a % (lowI (k + 1) * 2) = 0 := by
  obtain ⟨_, _, h⟩ := netF_zero.1 hn
  simp only [Int.toNat_natCast] at h
  rw [low_succ hk] at h
  exact fl_mod h
theorem half_p : netF (a, (k : Int) + 1) = 0 := by
  have := mod_half (lowI_pos (k + 1)) (half_zero hk hn)
  exact net_of (k := k + 1) (by omega) (fl_of this.1)
theorem half_q : netF (a + lowI (k + 1), (k : Int) + 1) = 0 := by
  have := mod_half (lowI_pos (k + 1)) (half_zero hk hn)
  exact net_of (k := k + 1) (by omega) (fl_of this.2.1)
theorem half_up_p : fl (lowI k) a = a := by
  rw [low_succ hk]; exact fl_of (half_zero hk hn)
theorem half_up_q : fl (lowI k) (a + lowI (k + 1)) = a := by
  have := (mod_half (lowI_pos (k + 1)) (half_zero hk hn)).2.2
  rw [low_succ hk]; unfold fl; omega
theorem half_has (x : Int) : (hasB (a, (k : Int) + 1) x || hasB (a + lowI (k + 1), (k : Int) + 1) x) = hasB (a, (k : Int)) x ∧ (hasB (a, (k : Int) + 1) x && hasB (a + lowI (k + 1), (k : Int) + 1) x) = false := by
  have n1 := half_p hk hn
  have n2 := half_q hk hn
  have e1 := @hasB_iff (a, (k : Int) + 1) x
  have e2 := @hasB_iff (a + lowI (k + 1), (k : Int) + 1) x
  have e3 := @hasB_iff (a, (k : Int)) x
  have ek : ((k : Int) + 1).toNat = k + 1 := by omega
  simp only [ek, Int.toNat_natCast, n1, n2, hn, true_and] at e1 e2 e3
  have hp := lowI_pos (k + 1)
  have hf := fl_half (lowI (k + 1)) x hp
  rw [← low_succ hk] at hf
  have hm : a % lowI k = 0 := by rw [low_succ hk]; exact half_zero hk hn
  have hx : fl (lowI k) x % lowI k = 0 := fl_idem _ _ (lowI_pos k)
  have hlow := low_succ hk
  have key : fl (lowI (k + 1)) x = a ∨ fl (lowI (k + 1)) x = a + lowI (k + 1) ↔ fl (lowI k) x = a := by
    obtain ⟨q, hq⟩ := Int.dvd_of_emod_eq_zero hm
    obtain ⟨r, hr⟩ := Int.dvd_of_emod_eq_zero hx
    constructor
    · rintro (h | h)
      · rcases hf with h' | h'
        · omega
        · exfalso
          rw [h, hr, hq, hlow] at h'
          have h2 : lowI (k + 1) * (2 * q - 2 * r - 1) = 0 := by
            rw [Int.mul_sub, Int.mul_sub, Int.mul_one, ← Int.mul_assoc, ← Int.mul_assoc]; omega
          rcases Int.mul_eq_zero.1 h2 with h3 | h3 <;> omega
      · rcases hf with h' | h'
        · exfalso
          rw [h, hr, hq, hlow] at h'
          have h2 : lowI (k + 1) * (2 * q - 2 * r + 1) = 0 := by
            rw [Int.mul_add, Int.mul_sub, Int.mul_one, ← Int.mul_assoc, ← Int.mul_assoc]; omega
          rcases Int.mul_eq_zero.1 h2 with h3 | h3 <;> omega
        · omega
    · intro h
      rcases hf with h' | h'
      · left; omega
      · right; omega
  have no : ¬ (fl (lowI (k + 1)) x = a ∧ fl (lowI (k + 1)) x = a + lowI (k + 1)) := by omega
  cases b1 : hasB (a, (k : Int) + 1) x <;> cases b2 : hasB (a + lowI (k + 1), (k : Int) + 1) x <;> cases b3 : hasB (a, (k : Int)) x <;>
    simp only [b1, b2, b3, Bool.false_eq_true, false_iff, true_iff] at e1 e2 e3 <;> simp_all
end
/-! ### THE LEAST ONE THAT HAS BOTH -/
theorem xor_div (a b k : Nat) : blen (a ^^^ b) ≤ k ↔ a / 2 ^ k = b / 2 ^ k := by
  rw [blen_lt]
  constructor
  · intro h
    apply Nat.eq_of_testBit_eq
    intro i
    rw [Nat.testBit_div_two_pow, Nat.testBit_div_two_pow]
    have := Nat.testBit_lt_two_pow (Nat.lt_of_lt_of_le h (Nat.pow_le_pow_right (by omega) (Nat.le_add_left k i)))
    rw [Nat.testBit_xor] at this
    cases h1 : a.testBit (i + k) <;> cases h2 : b.testBit (i + k) <;> simp [h1, h2] at this <;> rfl
  · intro h
    apply Nat.lt_pow_two_of_testBit
    intro i hi
    have := congrArg (fun n => n.testBit (i - k)) h
    simp only [Nat.testBit_div_two_pow] at this
    rw [show i - k + k = i from by omega] at this
    rw [Nat.testBit_xor, this]
    simp
theorem fl_eq_iff {a b : Int} (ha : is32 a) (hb : is32 b) (k : Nat) (hk : k ≤ 32) : fl (lowI k) a = fl (lowI k) b ↔ k ≤ lzN a b := by
  obtain ⟨x, rfl⟩ := Int.eq_ofNat_of_zero_le ha.1
  obtain ⟨y, rfl⟩ := Int.eq_ofNat_of_zero_le hb.1
  have hx := ha.2; have hy := hb.2
  unfold lzN
  simp only [Int.toNat_natCast]
  have hbl : blen (x ^^^ y) ≤ 32 := blen_lt.2 (Nat.xor_lt_two_pow (by omega) (by omega))
  have h1 : k ≤ 32 - blen (x ^^^ y) ↔ blen (x ^^^ y) ≤ 32 - k := by omega
  rw [h1, xor_div, fl_mul _ _ (lowI_pos k), fl_mul _ _ (lowI_pos k), lowI_nat, ← Int.natCast_ediv, ← Int.natCast_ediv]
  have hp : 0 < 2 ^ (32 - k) := Nat.pow_pos (by omega)
  constructor
  · intro h
    have := Int.eq_of_mul_eq_mul_left (by omega) h
    omega
  · intro h; rw [h]
theorem lzN_comm (a b : Int) : lzN a b = lzN b a := by unfold lzN; rw [Nat.xor_comm]
theorem lzN_le (a b : Int) : lzN a b ≤ 32 := by unfold lzN; omega
theorem comL_comm (a b : Int × Int) : comL a b = comL b a := by unfold comL; rw [lzN_comm, Nat.min_comm a.2.toNat]
theorem comL_le (a b : Int × Int) : comL a b ≤ 32 := by have := lzN_le a.1 b.1; unfold comL; omega
theorem com_comm {a b : Int × Int} (ha : is32 a.1) (hb : is32 b.1) : comN b a = comN a b := by
  unfold comN trimN
  rw [comL_comm b a]
  have h := (fl_eq_iff ha hb (comL a b) (comL_le a b)).2 (by unfold comL; omega)
  rw [h]
theorem trim_ok (x : Int × Int) (k : Nat) (hk : k ≤ 32) : netF (trimN x k) = 0 := net_of hk (fl_of (fl_idem _ _ (lowI_pos k)))
theorem com_in {a b : Int × Int} (h : netF a = 0) (h' : netF b = 0) : inB a (comN a b) = true := by
  obtain ⟨k, hk, ek, _⟩ := net_ok h
  refine inB_iff.2 ⟨h, ?_, trim_ok _ _ (comL_le a b), ?_⟩
  · unfold comN trimN comL; simp only; omega
  · unfold comN trimN; simp
theorem com_in' {a b : Int × Int} (ha : is32 a.1) (hb : is32 b.1) (h : netF a = 0) (h' : netF b = 0) : inB b (comN a b) = true := by
  rw [← com_comm ha hb]; exact com_in h' h
theorem com_least {a b c : Int × Int} (ha : is32 a.1) (hb : is32 b.1) (h1 : inB a c = true) (h2 : inB b c = true) : inB (comN a b) c = true := by
  obtain ⟨n1, l1, n2, e1⟩ := inB_iff.1 h1
  obtain ⟨n3, l2, _, e2⟩ := inB_iff.1 h2
  obtain ⟨j, hj, ej, _⟩ := net_ok n2
  rw [ej] at e1 e2 l1 l2
  simp only [Int.toNat_natCast] at e1 e2
  have hle := (fl_eq_iff ha hb j hj).1 (by rw [e1, e2])
  have hjc : j ≤ comL a b := by unfold comL; omega
  refine inB_iff.2 ⟨trim_ok _ _ (comL_le a b), ?_, n2, ?_⟩
  · rw [ej]; unfold comN trimN; simp only; omega
  · rw [ej]; unfold comN trimN; simp only [Int.toNat_natCast]
    rw [fl_low hjc (comL_le a b), e1]
end Go.Proofs.YtplojnlmofbneaaDoor
