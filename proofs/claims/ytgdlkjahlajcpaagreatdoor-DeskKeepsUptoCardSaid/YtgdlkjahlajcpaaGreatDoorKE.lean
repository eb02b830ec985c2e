/- Nets in plain numbers: which has an address, which is within which, what is above, both halves, the least one that has both; no program in sight. A table of nets in plain lists: what it holds, the longest one that has an address, all of them in order; no program in sight. -/
import Derived.Test.YtgdlkjahlajcpaaGreatDoorKD
namespace Go.Proofs.YtgdlkjahlajcpaaGreatDoor
open Go.ChangeShapes Go.WideShapes Go.ChangeAt Go.RowKit
set_option linter.unusedVariables false

/-- the first address of those by m that y is among -/
def fl (m y : Int) : Int := y - y % m
def hasB (x : Int × Int) (y : Int) : Bool := decide (netF x = 0 ∧ fl (lowI x.2.toNat) y = x.1)
def inB (a b : Int × Int) : Bool := decide (netF a = 0 ∧ b.2 ≤ a.2) && hasB b a.1
def lessB (a b : Int × Int) : Bool := decide (a.1 < b.1 ∨ a.1 = b.1 ∧ a.2 < b.2)
def trimN (x : Int × Int) (k : Nat) : Int × Int := (fl (lowI k) x.1, (k : Int))
def lzN (a b : Int) : Nat := 32 - blen (a.toNat ^^^ b.toNat)
def comL (a b : Int × Int) : Nat := min (min a.2.toNat b.2.toNat) (lzN a.1 b.1)
def comN (a b : Int × Int) : Int × Int := trimN a (comL a b)
/-- of four bytes -/
def is32 (y : Int) : Prop := 0 ≤ y ∧ y ≤ 4294967295

theorem fl_mul (m y : Int) (hm : 0 < m) : fl m y = m * (y / m) := by
  have := Int.mul_ediv_add_emod y m
  unfold fl; omega
theorem fl_fl (m q y : Int) (hm : 0 < m) (hq : 0 < q) : fl (m * q) (fl m y) = fl (m * q) y := by
  have hp : 0 < m * q := Int.mul_pos hm hq
  rw [fl_mul _ _ hp, fl_mul _ y hp, fl_mul _ y hm]
  rw [Int.mul_ediv_mul_of_pos _ _ hm, ← Int.ediv_ediv_of_nonneg (Int.le_of_lt hm)]
theorem low_split {k l : Nat} (hk : k ≤ l) (hl : l ≤ 32) : lowI k = lowI l * 2 ^ (l - k) := by
  unfold lowI
  rw [← Int.pow_add]
  congr 1; omega
theorem two_pos (n : Nat) : (0 : Int) < 2 ^ n := Int.pow_pos (by decide)
theorem fl_low {k l : Nat} (hk : k ≤ l) (hl : l ≤ 32) (y : Int) : fl (lowI k) (fl (lowI l) y) = fl (lowI k) y := by
  rw [low_split hk hl]
  exact fl_fl _ _ _ (lowI_pos l) (two_pos _)
theorem fl_le (m y : Int) (hm : 0 < m) : fl m y ≤ y := by
  have := Int.emod_nonneg y (by omega : m ≠ 0); unfold fl; omega
theorem fl_nonneg (m y : Int) (hm : 0 < m) (h : 0 ≤ y) : 0 ≤ fl m y := by
  rw [fl_mul m y hm]
  exact Int.mul_nonneg (by omega) (Int.ediv_nonneg h (by omega))
theorem fl_32 {m y : Int} (hm : 0 < m) (h : is32 y) : is32 (fl m y) := ⟨fl_nonneg m y hm h.1, by have := fl_le m y hm; have := h.2; omega⟩
theorem fl_mod {m y : Int} (h : fl m y = y) : y % m = 0 := by unfold fl at h; omega
theorem fl_of {m y : Int} (h : y % m = 0) : fl m y = y := by unfold fl; omega
theorem fl_idem (m y : Int) (hm : 0 < m) : fl m y % m = 0 := by rw [fl_mul m y hm]; exact Int.mul_emod_right _ _

theorem netF_zero {a l : Int} : netF (a, l) = 0 ↔ 0 ≤ l ∧ l ≤ 32 ∧ fl (lowI l.toNat) a = a := by
  unfold netF
  simp only
  by_cases h1 : l < 0 ∨ 32 < l
  · rw [if_pos h1]; simp; omega
  · rw [if_neg h1]
    by_cases h2 : a % lowI l.toNat = 0
    · rw [if_pos h2]; simp; exact ⟨by omega, by omega, fl_of h2⟩
    · rw [if_neg h2]; simp; intro _ _ h; exact absurd (fl_mod h) h2
/-- a right net, by a number of bits that is a Nat -/
theorem net_ok {x : Int × Int} (h : netF x = 0) : ∃ k : Nat, k ≤ 32 ∧ x.2 = k ∧ fl (lowI k) x.1 = x.1 := by
  obtain ⟨a, l⟩ := x
  obtain ⟨h0, h1, h2⟩ := netF_zero.1 h
  obtain ⟨k, rfl⟩ := Int.eq_ofNat_of_zero_le h0
  exact ⟨k, by omega, rfl, by simpa using h2⟩
theorem net_of {a : Int} {k : Nat} (hk : k ≤ 32) (h : fl (lowI k) a = a) : netF (a, (k : Int)) = 0 := netF_zero.2 ⟨by omega, by omega, by simpa using h⟩
theorem hasB_iff {x : Int × Int} {y : Int} : hasB x y = true ↔ netF x = 0 ∧ fl (lowI x.2.toNat) y = x.1 := by unfold hasB; exact decide_eq_true_iff
theorem inB_iff {a b : Int × Int} : inB a b = true ↔ netF a = 0 ∧ b.2 ≤ a.2 ∧ netF b = 0 ∧ fl (lowI b.2.toNat) a.1 = b.1 := by
  unfold inB
  rw [Bool.and_eq_true, decide_eq_true_iff, hasB_iff]
  exact ⟨fun ⟨⟨h1, h2⟩, h3, h4⟩ => ⟨h1, h2, h3, h4⟩, fun ⟨h1, h2, h3, h4⟩ => ⟨⟨h1, h2⟩, h3, h4⟩⟩
theorem lessB_iff {a b : Int × Int} : lessB a b = true ↔ a.1 < b.1 ∨ a.1 = b.1 ∧ a.2 < b.2 := by unfold lessB; exact decide_eq_true_iff

/-! ### ONE WITHIN THE OTHER, OR APART -/
theorem in_of_has {a b : Int × Int} {x : Int} (h1 : hasB a x = true) (h2 : hasB b x = true) (hl : b.2 ≤ a.2) : inB a b = true := by
  obtain ⟨n1, e1⟩ := hasB_iff.1 h1
  obtain ⟨n2, e2⟩ := hasB_iff.1 h2
  obtain ⟨k, hk, ek, _⟩ := net_ok n1
  obtain ⟨j, hj, ej, _⟩ := net_ok n2
  refine inB_iff.2 ⟨n1, hl, n2, ?_⟩
  rw [ek] at e1 hl; rw [ej] at e2 hl ⊢
  simp only [Int.toNat_natCast] at e1 e2 ⊢
  rw [← e1, fl_low (by omega) hk, e2]
theorem nests_one {a b : Int × Int} {x : Int} (h1 : hasB a x = true) (h2 : hasB b x = true) (h3 : inB a b = false) : inB b a = true := by
  rcases Int.le_total b.2 a.2 with h | h
  · rw [in_of_has h1 h2 h] at h3; cases h3
  · exact in_of_has h2 h1 h
theorem nests_two {a b : Int × Int} (h1 : inB a b = true) (h2 : inB b a = true) : a = b := by
  obtain ⟨n1, l1, n2, e1⟩ := inB_iff.1 h1
  obtain ⟨_, l2, _, _⟩ := inB_iff.1 h2
  obtain ⟨k, hk, ek, f1⟩ := net_ok n1
  have e : a.2 = b.2 := by omega
  rw [← e, ek] at e1
  simp only [Int.toNat_natCast] at e1
  rw [f1] at e1
  exact Prod.ext e1 e
theorem nests_three {a b c : Int × Int} (h1 : inB a b = true) (h2 : inB b c = true) : inB a c = true := by
  obtain ⟨n1, l1, n2, e1⟩ := inB_iff.1 h1
  obtain ⟨_, l2, n3, e2⟩ := inB_iff.1 h2
  obtain ⟨k, hk, ek, _⟩ := net_ok n2
  obtain ⟨j, hj, ej, _⟩ := net_ok n3
  refine inB_iff.2 ⟨n1, by omega, n3, ?_⟩
  rw [ek] at e1 l2; rw [ej] at e2 l2 ⊢
  simp only [Int.toNat_natCast] at e1 e2 ⊢
  rw [← e2, ← e1, fl_low (by omega) hk]
theorem nests_four {a b : Int × Int} {x : Int} (h1 : inB a b = true) (h2 : hasB a x = true) : hasB b x = true := by
  obtain ⟨n1, l1, n2, e1⟩ := inB_iff.1 h1
  obtain ⟨_, e2⟩ := hasB_iff.1 h2
  obtain ⟨k, hk, ek, _⟩ := net_ok n1
  obtain ⟨j, hj, ej, _⟩ := net_ok n2
  refine hasB_iff.2 ⟨n2, ?_⟩
  rw [ek] at e2 l1; rw [ej] at e1 l1 ⊢
  simp only [Int.toNat_natCast] at e1 e2 ⊢
  rw [← e1, ← e2, fl_low (by omega) hk]
/-! ### ONE AHEAD OF THE OTHER -/
theorem less_irr (a : Int × Int) : lessB a a = false := by
  have : ¬ lessB a a = true := fun h => by have := lessB_iff.1 h; omega
  simpa using this
theorem less_one {a b : Int × Int} (h : a ≠ b) : lessB b a = !lessB a b := by
  have hne : a.1 ≠ b.1 ∨ a.2 ≠ b.2 := by
    by_cases h1 : a.1 = b.1
    · exact .inr fun h2 => h (Prod.ext h1 h2)
    · exact .inl h1
  have h1 := @lessB_iff a b
  have h2 := @lessB_iff b a
  cases e1 : lessB a b <;> cases e2 : lessB b a <;> simp [e1, e2] at h1 h2 ⊢ <;> omega
theorem less_trans {a b c : Int × Int} (h1 : lessB a b = true) (h2 : lessB b c = true) : lessB a c = true := by
  have h1 := lessB_iff.1 h1; have h2 := lessB_iff.1 h2
  exact lessB_iff.2 (by omega)
theorem less_in {a b : Int × Int} (h : inB a b = true) (hne : a ≠ b) : lessB b a = true := by
  obtain ⟨n1, l1, n2, e1⟩ := inB_iff.1 h
  have hle : b.1 ≤ a.1 := by rw [← e1]; exact fl_le _ _ (lowI_pos _)
  refine lessB_iff.2 ?_
  by_cases h1 : b.1 = a.1
  · by_cases h2 : b.2 = a.2
    · exact absurd (Prod.ext h1.symm h2.symm) hne
    · exact .inr ⟨h1, by omega⟩
  · exact .inl (by omega)
/-! ### BOTH HALVES ARE ALL -/
def halfP (x : Int × Int) : Int × Int := (x.1, x.2 + 1)
def halfQ (x : Int × Int) : Int × Int := (x.1 + lowI (x.2.toNat + 1), x.2 + 1)
theorem low_succ {k : Nat} (h : k < 32) : lowI k = lowI (k + 1) * 2 := by
  have := low_split (k := k) (l := k + 1) (by omega) (by omega)
  rw [this, show k + 1 - k = 1 from by omega]; rfl
theorem fl_half (h x : Int) (hh : 0 < h) : fl h x = fl (h * 2) x ∨ fl h x = fl (h * 2) x + h := by
  have e := fl_fl h 2 x hh (by omega)
  have h0 := fl_mul h x hh
  have h1 := fl_mul (h * 2) (fl h x) (by omega)
  rw [e] at h1
  rw [h1, h0, Int.mul_ediv_mul_of_pos _ _ hh]
  have h2 := Int.mul_ediv_add_emod (x / h) 2
  have h3 : x / h % 2 = 0 ∨ x / h % 2 = 1 := by omega
  rcases h3 with h3 | h3
  · left
    have : x / h = 2 * (x / h / 2) := by omega
    rw [Int.mul_assoc, ← this]
  · right
    have : x / h = 2 * (x / h / 2) + 1 := by omega
    rw [Int.mul_assoc]
    have e2 : h * (x / h) = h * (2 * (x / h / 2) + 1) := by rw [← this]
    rw [e2, Int.mul_add, Int.mul_one]
theorem mod_half {a h : Int} (hh : 0 < h) (ha : a % (h * 2) = 0) : a % h = 0 ∧ (a + h) % h = 0 ∧ (a + h) % (h * 2) = h := by
  obtain ⟨q, hq⟩ := Int.dvd_of_emod_eq_zero ha
  have e1 : a % h = 0 := by rw [hq, Int.mul_assoc]; exact Int.mul_emod_right _ _
  refine ⟨e1, by rw [Int.add_emod_right]; exact e1, ?_⟩
  rw [Int.add_comm, hq, Int.add_mul_emod_self_left]
  exact Int.emod_eq_of_lt (by omega) (by omega)
section
variable {a : Int} {k : Nat} (hk : k < 32) (hn : netF (a, (k : Int)) = 0)
include hk hn
theorem half_zero : a % (lowI (k + 1) * 2) = 0 := by
  obtain ⟨_, _, h⟩ := netF_zero.1 hn
  simp only [Int.toNat_natCast] at h
  rw [low_succ hk] at h
  exact fl_mod h
theorem half_p : netF (a, (k : Int) + 1) = 0 := by
  have := mod_half (lowI_pos (k + 1)) (half_zero hk hn)
  exact net_of (k := k + 1) (by omega) (fl_of this.1)
theorem half_q : netF (a + lowI (k + 1), (k : Int) + 1) = 0 := by
  have := mod_half (lowI_pos (k + 1)) (half_zero hk hn)
  exact net_of (k := k + 1) (by omega) (fl_of this.2.1)
theorem half_up_p : fl (lowI k) a = a := by
  rw [low_succ hk]; exact fl_of (half_zero hk hn)
theorem half_up_q : fl (lowI k) (a + lowI (k + 1)) = a := by
  have := (mod_half (lowI_pos (k + 1)) (half_zero hk hn)).2.2
  rw [low_succ hk]; unfold fl; omega
theorem half_has (x : Int) : (hasB (a, (k : Int) + 1) x || hasB (a + lowI (k + 1), (k : Int) + 1) x) = hasB (a, (k : Int)) x ∧ (hasB (a, (k : Int) + 1) x && hasB (a + lowI (k + 1), (k : Int) + 1) x) = false := by
  have n1 := half_p hk hn
  have n2 := half_q hk hn
  have e1 := @hasB_iff (a, (k : Int) + 1) x
  have e2 := @hasB_iff (a + lowI (k + 1), (k : Int) + 1) x
  have e3 := @hasB_iff (a, (k : Int)) x
  have ek : ((k : Int) + 1).toNat = k + 1 := by omega
  simp only [ek, Int.toNat_natCast, n1, n2, hn, true_and] at e1 e2 e3
  have hp := lowI_pos (k + 1)
  have hf := fl_half (lowI (k + 1)) x hp
  rw [← low_succ hk] at hf
  have hm : a % lowI k = 0 := by rw [low_succ hk]; exact half_zero hk hn
  have hx : fl (lowI k) x % lowI k = 0 := fl_idem _ _ (lowI_pos k)
  have hlow := low_succ hk
  have key : fl (lowI (k + 1)) x = a ∨ fl (lowI (k + 1)) x = a + lowI (k + 1) ↔ fl (lowI k) x = a := by
    obtain ⟨q, hq⟩ := Int.dvd_of_emod_eq_zero hm
    obtain ⟨r, hr⟩ := Int.dvd_of_emod_eq_zero hx
    constructor
    · rintro (h | h)
      · rcases hf with h' | h'
        · omega
        · exfalso
          rw [h, hr, hq, hlow] at h'
          have h2 : lowI (k + 1) * (2 * q - 2 * r - 1) = 0 := by
            rw [Int.mul_sub, Int.mul_sub, Int.mul_one, ← Int.mul_assoc, ← Int.mul_assoc]; omega
          rcases Int.mul_eq_zero.1 h2 with h3 | h3 <;> omega
      · rcases hf with h' | h'
        · exfalso
          rw [h, hr, hq, hlow] at h'
          have h2 : lowI (k + 1) * (2 * q - 2 * r + 1) = 0 := by
            rw [Int.mul_add, Int.mul_sub, Int.mul_one, ← Int.mul_assoc, ← Int.mul_assoc]; omega
          rcases Int.mul_eq_zero.1 h2 with h3 | h3 <;> omega
        · omega
    · intro h
      rcases hf with h' | h'
      · left; omega
      · right; omega
  have no : ¬ (fl (lowI (k + 1)) x = a ∧ fl (lowI (k + 1)) x = a + lowI (k + 1)) := by omega
  cases b1 : hasB (a, (k : Int) + 1) x <;> cases b2 : hasB (a + lowI (k + 1), (k : Int) + 1) x <;> cases b3 : hasB (a, (k : Int)) x <;>
    simp only [b1, b2, b3, Bool.false_eq_true, false_iff, true_iff] at e1 e2 e3 <;> simp_all
end
/-! ### THE LEAST ONE THAT HAS BOTH -/
theorem xor_div (a b k : Nat) : blen (a ^^^ b) ≤ k ↔ a / 2 ^ k = b / 2 ^ k := by
  rw [blen_lt]
  constructor
  · intro h
    apply Nat.eq_of_testBit_eq
    intro i
    rw [Nat.testBit_div_two_pow, Nat.testBit_div_two_pow]
    have := Nat.testBit_lt_two_pow (Nat.lt_of_lt_of_le h (Nat.pow_le_pow_right (by omega) (Nat.le_add_left k i)))
    rw [Nat.testBit_xor] at this
    cases h1 : a.testBit (i + k) <;> cases h2 : b.testBit (i + k) <;> simp [h1, h2] at this <;> rfl
  · intro h
    apply Nat.lt_pow_two_of_testBit
    intro i hi
    have := congrArg (fun n => n.testBit (i - k)) h
    simp only [Nat.testBit_div_two_pow] at this
    rw [show i - k + k = i from by omega] at this
    rw [Nat.testBit_xor, this]
    simp
theorem fl_eq_iff {a b : Int} (ha : is32 a) (hb : is32 b) (k : Nat) (hk : k ≤ 32) : fl (lowI k) a = fl (lowI k) b ↔ k ≤ lzN a b := by
  obtain ⟨x, rfl⟩ := Int.eq_ofNat_of_zero_le ha.1
  obtain ⟨y, rfl⟩ := Int.eq_ofNat_of_zero_le hb.1
  have hx := ha.2; have hy := hb.2
  unfold lzN
  simp only [Int.toNat_natCast]
  have hbl : blen (x ^^^ y) ≤ 32 := blen_lt.2 (Nat.xor_lt_two_pow (by omega) (by omega))
  have h1 : k ≤ 32 - blen (x ^^^ y) ↔ blen (x ^^^ y) ≤ 32 - k := by omega
  rw [h1, xor_div, fl_mul _ _ (lowI_pos k), fl_mul _ _ (lowI_pos k), lowI_nat, ← Int.natCast_ediv, ← Int.natCast_ediv]
  have hp : 0 < 2 ^ (32 - k) := Nat.pow_pos (by omega)
  constructor
  · intro h
    have := Int.eq_of_mul_eq_mul_left (by omega) h
    omega
  · intro h; rw [h]
theorem lzN_comm (a b : Int) : lzN a b = lzN b a := by unfold lzN; rw [Nat.xor_comm]
theorem lzN_le (a b : Int) : lzN a b ≤ 32 := by unfold lzN; omega
theorem comL_comm (a b : Int × Int) : comL a b = comL b a := by unfold comL; rw [lzN_comm, Nat.min_comm a.2.toNat]
theorem comL_le (a b : Int × Int) : comL a b ≤ 32 := by have := lzN_le a.1 b.1; unfold comL; omega
theorem com_comm {a b : Int × Int} (ha : is32 a.1) (hb : is32 b.1) : comN b a = comN a b := by
  unfold comN trimN
  rw [comL_comm b a]
  have h := (fl_eq_iff ha hb (comL a b) (comL_le a b)).2 (by unfold comL; omega)
  rw [h]
theorem trim_ok (x : Int × Int) (k : Nat) (hk : k ≤ 32) : netF (trimN x k) = 0 := net_of hk (fl_of (fl_idem _ _ (lowI_pos k)))
theorem com_in {a b : Int × Int} (h : netF a = 0) (h' : netF b = 0) : inB a (comN a b) = true := by
  obtain ⟨k, hk, ek, _⟩ := net_ok h
  refine inB_iff.2 ⟨h, ?_, trim_ok _ _ (comL_le a b), ?_⟩
  · unfold comN trimN comL; simp only; omega
  · unfold comN trimN; simp
theorem com_in' {a b : Int × Int} (ha : is32 a.1) (hb : is32 b.1) (h : netF a = 0) (h' : netF b = 0) : inB b (comN a b) = true := by
  rw [← com_comm ha hb]; exact com_in h' h
theorem com_least {a b c : Int × Int} (ha : is32 a.1) (hb : is32 b.1) (h1 : inB a c = true) (h2 : inB b c = true) : inB (comN a b) c = true := by
  obtain ⟨n1, l1, n2, e1⟩ := inB_iff.1 h1
  obtain ⟨n3, l2, _, e2⟩ := inB_iff.1 h2
  obtain ⟨j, hj, ej, _⟩ := net_ok n2
  rw [ej] at e1 e2 l1 l2
  simp only [Int.toNat_natCast] at e1 e2
  have hle := (fl_eq_iff ha hb j hj).1 (by rw [e1, e2])
  have hjc : j ≤ comL a b := by unfold comL; omega
  refine inB_iff.2 ⟨trim_ok _ _ (comL_le a b), ?_, n2, ?_⟩
  · rw [ej]; unfold comN trimN; simp only; omega
  · rw [ej]; unfold comN trimN; simp only [Int.toNat_natCast]
    rw [fl_low hjc (comL_le a b), e1]
end Go.Proofs.YtgdlkjahlajcpaaGreatDoor
namespace Go.Proofs.YtgdlkjahlajcpaaGreatDoor
open Go.ChangeShapes Go.WideShapes Go.ChangeAt Go.RowKit
set_option linter.unusedVariables false

abbrev Nt := Int × Int
/-- the bit of an address, from the greatest one on -/
def bitI (a : Int) (i : Nat) : Int := a / 2 ^ (31 - i) % 2
theorem bitI_01 (a : Int) (i : Nat) : bitI a i = 0 ∨ bitI a i = 1 := by unfold bitI; omega
theorem fl_halves (h x : Int) (hh : 0 < h) : fl h x = fl (h * 2) x + (if x / h % 2 = 1 then h else 0) := by
  have e := fl_fl h 2 x hh (by omega)
  have h0 := fl_mul h x hh
  have h1 := fl_mul (h * 2) (fl h x) (by omega)
  rw [e] at h1
  rw [h1, h0, Int.mul_ediv_mul_of_pos _ _ hh]
  have h2 := Int.mul_ediv_add_emod (x / h) 2
  have h3 : x / h % 2 = 0 ∨ x / h % 2 = 1 := by omega
  rcases h3 with h3 | h3
  · rw [if_neg (by omega), Int.add_zero]
    have : x / h = 2 * (x / h / 2) := by omega
    rw [Int.mul_assoc, ← this]
  · rw [if_pos h3]
    have : x / h = 2 * (x / h / 2) + 1 := by omega
    rw [Int.mul_assoc]
    have e2 : h * (x / h) = h * (2 * (x / h / 2) + 1) := by rw [← this]
    rw [e2, Int.mul_add, Int.mul_one]
theorem trim_step (x : Nt) (i : Nat) (hi : i < 32) : trimN x (i + 1) = if bitI x.1 i = 1 then halfQ (trimN x i) else halfP (trimN x i) := by
  have e : (2 : Int) ^ (31 - i) = lowI (i + 1) := by unfold lowI; rw [show 32 - (i + 1) = 31 - i from by omega]
  have h := fl_halves (lowI (i + 1)) x.1 (lowI_pos _)
  rw [← low_succ hi] at h
  unfold trimN halfQ halfP bitI
  rw [e, h]
  simp only [Int.toNat_natCast]
  split
  · simp
  · simp
theorem trim_zero {x : Nt} (h : is32 x.1) : trimN x 0 = (0, 0) := by
  unfold trimN fl
  have e : lowI 0 = 4294967296 := by decide
  rw [e]
  have h1 := h.1; have h2 := h.2
  have : x.1 % 4294967296 = x.1 := Int.emod_eq_of_lt h1 (by omega)
  rw [this]; simp
theorem trim_self {x : Nt} {k : Nat} (hk : x.2 = k) (h : fl (lowI k) x.1 = x.1) : trimN x k = x := by
  unfold trimN; rw [h, ← hk]
theorem trim_trim (x : Nt) {i j : Nat} (hij : i ≤ j) (hj : j ≤ 32) : trimN (trimN x j) i = trimN x i := by
  unfold trimN; simp only; rw [fl_low hij hj]
theorem trim_32 {a : Int} (h : is32 a) : trimN (a, 32) 32 = (a, 32) := by
  unfold trimN fl
  have e : lowI 32 = 1 := by decide
  rw [e]; simp
theorem trim_is {x : Nt} (h : is32 x.1) (k : Nat) : is32 (trimN x k).1 := fl_32 (lowI_pos k) h
theorem trim_halfP (x : Nt) {k : Nat} (hk : x.2 = k) (hl : k < 32) (h : fl (lowI k) x.1 = x.1) : trimN (halfP x) k = x := by
  unfold trimN halfP; simp only; rw [h, ← hk]
theorem trim_halfQ (x : Nt) {k : Nat} (hk : x.2 = k) (hl : k < 32) (h : fl (lowI k) x.1 = x.1) : trimN (halfQ x) k = x := by
  obtain ⟨a, l⟩ := x
  simp only at hk h
  subst hk
  have hn : netF (a, (k : Int)) = 0 := net_of (by omega) h
  have := half_up_q hl hn
  unfold trimN halfQ; simp only [Int.toNat_natCast]; rw [this]
theorem half_is {a : Int} {k : Nat} (hk : k < 32) (ha : is32 a) (hn : netF (a, (k : Int)) = 0) : is32 (a + lowI (k + 1)) := by
  have h0 := half_zero hk hn
  have hp := lowI_pos (k + 1)
  rw [← low_succ hk] at h0
  have e : (4294967296 : Int) = lowI k * 2 ^ k := by
    unfold lowI; rw [← Int.pow_add, show 32 - k + k = 32 from by omega]; decide
  have h1 := ha.1; have h2 := ha.2
  refine ⟨by omega, ?_⟩
  have hl := low_succ hk
  obtain ⟨q, hq⟩ := Int.dvd_of_emod_eq_zero h0
  have hlp := lowI_pos k
  have hq2 : q < 2 ^ k := by
    have : lowI k * q < lowI k * 2 ^ k := by rw [← e, ← hq]; omega
    exact Int.lt_of_mul_lt_mul_left this (by omega)
  have : lowI k * (q + 1) ≤ lowI k * 2 ^ k := Int.mul_le_mul_of_nonneg_left (by omega) (by omega)
  rw [← e, Int.mul_add, Int.mul_one, ← hq] at this
  omega

/-! ### What a table holds -/
def look : List (Nt × Int) → Nt → Option Int
  | [], _ => none
  | e :: r, x => if e.1 = x then some e.2 else look r x
def delM (m : List (Nt × Int)) (x : Nt) : List (Nt × Int) := m.filter fun e => !(e.1 == x)
def putM (m : List (Nt × Int)) (x : Nt) (v : Int) : List (Nt × Int) := delM m x ++ [(x, v)]
def keysM (m : List (Nt × Int)) : List Nt := m.map Prod.fst
theorem look_append (m m' : List (Nt × Int)) (x : Nt) : look (m ++ m') x = (look m x).or (look m' x) := by
  induction m with
  | nil => simp [look]
  | cons e r ih => simp only [List.cons_append, look]; split <;> simp_all
theorem look_none {m : List (Nt × Int)} {x : Nt} : look m x = none ↔ x ∉ keysM m := by
  induction m with
  | nil => simp [look, keysM]
  | cons e r ih =>
    simp only [look, keysM, List.map_cons, List.mem_cons, not_or]
    split
    · rename_i h; simp [h]
    · rename_i h; rw [ih]; exact ⟨fun h' => ⟨fun e' => h e'.symm, h'⟩, fun h' => h'.2⟩
theorem look_mem {m : List (Nt × Int)} {x : Nt} {v : Int} (h : look m x = some v) : (x, v) ∈ m := by
  induction m with
  | nil => simp [look] at h
  | cons e r ih =>
    simp only [look] at h
    split at h
    · rename_i h'; simp at h; subst h; subst h'; simp
    · simp [ih h]
theorem look_del (m : List (Nt × Int)) (x y : Nt) : look (delM m x) y = if y = x then none else look m y := by
  induction m with
  | nil => simp [look, delM]
  | cons e r ih =>
    unfold delM at ih ⊢
    rw [List.filter_cons]
    by_cases h : e.1 = x
    · rw [show (!(e.1 == x)) = false from by simp [h], if_neg (by simp), ih]
      by_cases h2 : y = x
      · rw [if_pos h2, if_pos h2]
      · rw [if_neg h2, if_neg h2]; simp only [look]; rw [if_neg (by rw [h]; exact fun e => h2 e.symm)]
    · rw [show (!(e.1 == x)) = true from by simp [h], if_pos rfl]
      simp only [look]
      rw [ih]
      by_cases h2 : e.1 = y
      · rw [if_pos h2, if_pos h2, if_neg (by rw [← h2]; exact h)]
      · rw [if_neg h2, if_neg h2]
theorem look_put (m : List (Nt × Int)) (x y : Nt) (v : Int) : look (putM m x v) y = if y = x then some v else look m y := by
  unfold putM
  rw [look_append, look_del]
  by_cases h : y = x
  · subst h; simp [look]
  · rw [if_neg h, if_neg h]
    simp only [look]
    rw [if_neg (fun e => h e.symm)]; simp
theorem del_none {m : List (Nt × Int)} {x : Nt} (h : look m x = none) : delM m x = m := by
  unfold delM
  rw [List.filter_eq_self]
  intro e he
  have := look_none.1 h
  simp only [keysM, List.mem_map, not_exists, not_and] at this
  have := this e he
  simp [this]
theorem put_none {m : List (Nt × Int)} {x : Nt} (v : Int) (h : look m x = none) : putM m x v = m ++ [(x, v)] := by
  unfold putM; rw [del_none h]
theorem del_put (m : List (Nt × Int)) (x : Nt) (v : Int) (h : look m x = none) : delM (putM m x v) x = m := by
  rw [put_none v h]
  unfold delM
  rw [List.filter_append]
  have := del_none h
  unfold delM at this
  rw [this]; simp
theorem keys_del (m : List (Nt × Int)) (x : Nt) : keysM (delM m x) = (keysM m).filter fun y => !(y == x) := by
  unfold keysM delM
  rw [List.filter_map]; rfl
/-- what holds of the table at all times -/
structure MOk (m : List (Nt × Int)) : Prop where
  nodup : (keysM m).Nodup
  nets : ∀ e ∈ m, netF e.1 = 0 ∧ is32 e.1.1
  vals : ∀ e ∈ m, (Lit.int .i64 e.2).wf = true
  len : m.length ≤ 64
theorem MOk.nil : MOk [] := ⟨by simp [keysM], by simp, by simp, by simp⟩
theorem MOk.net {m : List (Nt × Int)} (h : MOk m) {x : Nt} (hx : look m x ≠ none) : netF x = 0 ∧ is32 x.1 := by
  obtain ⟨v, hv⟩ := Option.ne_none_iff_exists'.1 hx
  exact h.nets _ (look_mem hv)
theorem del_length {m : List (Nt × Int)} {x : Nt} (hn : (keysM m).Nodup) (h : look m x ≠ none) : (delM m x).length + 1 = m.length := by
  induction m with
  | nil => simp [look] at h
  | cons e r ih =>
    simp only [keysM, List.map_cons, List.nodup_cons] at hn
    by_cases he : e.1 = x
    · have : look r x = none := look_none.2 (by rw [← he]; exact hn.1)
      have h2 := del_none this
      unfold delM at h2 ⊢
      rw [List.filter_cons, show (!(e.1 == x)) = false from by simp [he], if_neg (by simp), h2]; simp
    · simp only [look] at h
      rw [if_neg he] at h
      have := ih hn.2 h
      unfold delM at this ⊢
      rw [List.filter_cons, show (!(e.1 == x)) = true from by simp [he], if_pos rfl]
      simp only [List.length_cons]; omega
theorem MOk.del {m : List (Nt × Int)} (h : MOk m) (x : Nt) : MOk (delM m x) := by
  refine ⟨by rw [keys_del]; exact h.nodup.filter _, fun e he => h.nets e (List.mem_filter.1 he).1, fun e he => h.vals e (List.mem_filter.1 he).1, ?_⟩
  have := List.length_filter_le (fun e : Nt × Int => !(e.1 == x)) m
  have := h.len
  unfold delM; omega
theorem put_length {m : List (Nt × Int)} (h : (keysM m).Nodup) (x : Nt) (v : Int) : (putM m x v).length = if look m x = none then m.length + 1 else m.length := by
  unfold putM
  rw [List.length_append]
  by_cases hx : look m x = none
  · rw [if_pos hx, del_none hx]; rfl
  · rw [if_neg hx]; have := del_length h hx; simp; omega
theorem MOk.put {m : List (Nt × Int)} (h : MOk m) {x : Nt} {v : Int} (hx : netF x = 0) (hi : is32 x.1) (hv : (Lit.int .i64 v).wf = true) (hl : look m x = none → m.length < 64) : MOk (putM m x v) := by
  have hd := h.del x
  refine ⟨?_, ?_, ?_, ?_⟩
  · unfold putM keysM
    rw [List.map_append, List.nodup_append]
    refine ⟨hd.nodup, by simp, ?_⟩
    intro a ha b hb
    simp only [List.map_cons, List.map_nil, List.mem_singleton] at hb
    subst hb
    have h2 := keys_del m b
    unfold keysM at h2
    rw [h2] at ha
    intro e
    subst e
    simp [List.mem_filter] at ha
  · intro e he
    unfold putM at he
    rcases List.mem_append.1 he with he | he
    · exact hd.nets e he
    · simp at he; subst he; exact ⟨hx, hi⟩
  · intro e he
    unfold putM at he
    rcases List.mem_append.1 he with he | he
    · exact hd.vals e he
    · simp at he; subst he; exact hv
  · rw [put_length h.nodup]
    have := h.len
    split
    · rename_i hx; have := hl hx; omega
    · omega

/-! ### The longest one that has an address -/
def fnd (m : List (Nt × Int)) (a : Int) : Nat → Option (Nat × Int)
  | 0 => none
  | i + 1 => match look m (trimN (a, 32) i) with
    | some v => some (i, v)
    | none => fnd m a i
theorem fnd_some {m : List (Nt × Int)} {a : Int} {i j : Nat} {v : Int} (h : fnd m a i = some (j, v)) : j < i ∧ look m (trimN (a, 32) j) = some v ∧ ∀ k, j < k → k < i → look m (trimN (a, 32) k) = none := by
  induction i with
  | zero => simp [fnd] at h
  | succ i ih =>
    simp only [fnd] at h
    cases hl : look m (trimN (a, 32) i) with
    | none =>
      rw [hl] at h
      obtain ⟨h1, h2, h3⟩ := ih h
      refine ⟨by omega, h2, fun k hk hk' => ?_⟩
      by_cases e : k = i
      · rw [e]; exact hl
      · exact h3 k hk (by omega)
    | some u =>
      rw [hl] at h
      simp only [Option.some.injEq, Prod.mk.injEq] at h
      obtain ⟨rfl, rfl⟩ := h
      exact ⟨by omega, hl, fun k hk hk' => by omega⟩
theorem fnd_none {m : List (Nt × Int)} {a : Int} {i : Nat} (h : fnd m a i = none) : ∀ k, k < i → look m (trimN (a, 32) k) = none := by
  induction i with
  | zero => intro k hk; omega
  | succ i ih =>
    simp only [fnd] at h
    cases hl : look m (trimN (a, 32) i) with
    | none =>
      rw [hl] at h
      intro k hk
      by_cases e : k = i
      · rw [e]; exact hl
      · exact ih h k (by omega)
    | some u => rw [hl] at h; simp at h
theorem fnd_stop {m : List (Nt × Int)} {a : Int} {i : Nat} (h : ∀ k, i ≤ k → look m (trimN (a, 32) k) = none) : ∀ j, i ≤ j → fnd m a j = fnd m a i := by
  intro j hj
  induction j with
  | zero => obtain rfl : i = 0 := by omega
            rfl
  | succ j ih =>
    by_cases e : i = j + 1
    · rw [e]
    · simp only [fnd]; rw [h j (by omega)]; exact ih (by omega)
theorem fnd_congr {m m' : List (Nt × Int)} {a : Int} (h : ∀ x, look m x = look m' x) (i : Nat) : fnd m a i = fnd m' a i := by
  induction i with
  | zero => rfl
  | succ i ih => simp only [fnd]; rw [h, ih]
theorem has_trim {x : Nt} {a : Int} (h : hasB x a = true) : ∃ j : Nat, j ≤ 32 ∧ x = trimN (a, 32) j := by
  obtain ⟨h1, h2⟩ := hasB_iff.1 h
  obtain ⟨k, hk, e, _⟩ := net_ok h1
  refine ⟨k, hk, ?_⟩
  rw [e] at h2
  simp only [Int.toNat_natCast] at h2
  unfold trimN
  exact Prod.ext h2.symm e
theorem trim_has (a : Int) {j : Nat} (hj : j ≤ 32) : hasB (trimN (a, 32) j) a = true := hasB_iff.2 ⟨trim_ok _ _ hj, by unfold trimN; simp⟩

/-! ### All of them, in their order -/
def lst (m : List (Nt × Int)) : Nat → Nt → List Nt
  | 0, x => if (look m x).isSome then [x] else []
  | k + 1, x => (if (look m x).isSome then [x] else []) ++ (lst m k (halfP x) ++ lst m k (halfQ x))
def NetsOk (m : List (Nt × Int)) : Prop := ∀ y, look m y ≠ none → netF y = 0
theorem MOk.netsOk {m : List (Nt × Int)} (h : MOk m) : NetsOk m := fun _ hy => (h.net hy).1
theorem in_split {a : Int} {n : Nat} (hn : n < 32) (h : netF (a, (n : Int)) = 0) {y : Nt} (hy : netF y = 0) :
    inB y (a, (n : Int)) = true ↔ y = (a, (n : Int)) ∨ inB y (a, (n : Int) + 1) = true ∨ inB y (a + lowI (n + 1), (n : Int) + 1) = true := by
  obtain ⟨k, hk, ek, fk⟩ := net_ok hy
  have hh := (half_has hn h y.1).1
  have np := half_p hn h
  have nq := half_q hn h
  constructor
  · intro h1
    obtain ⟨_, hl, _, he⟩ := inB_iff.1 h1
    simp only [Int.toNat_natCast] at hl he
    by_cases e : k = n
    · left; subst e; exact Prod.ext (by rw [← fk]; exact he) ek
    · right
      have : hasB (a, (n : Int)) y.1 = true := hasB_iff.2 ⟨h, by simpa using he⟩
      rw [this] at hh
      rcases Bool.or_eq_true_iff.1 hh with h2 | h2
      · left; unfold inB; rw [h2]; simp only [Bool.and_true, decide_eq_true_eq]; exact ⟨hy, by omega⟩
      · right; unfold inB; rw [h2]; simp only [Bool.and_true, decide_eq_true_eq]; exact ⟨hy, by omega⟩
  · rintro (h1 | h1 | h1)
    · subst h1
      obtain rfl : k = n := by simp only at ek; omega
      exact inB_iff.2 ⟨h, Int.le_refl _, h, by simpa using fk⟩
    · obtain ⟨_, hl, _, he⟩ := inB_iff.1 h1
      have : hasB (a, (n : Int)) y.1 = true := by
        rw [← hh, hasB_iff.2 ⟨np, he⟩]; rfl
      refine inB_iff.2 ⟨hy, by simp only at hl ⊢; omega, h, (hasB_iff.1 this).2⟩
    · obtain ⟨_, hl, _, he⟩ := inB_iff.1 h1
      have : hasB (a, (n : Int)) y.1 = true := by
        rw [← hh, hasB_iff.2 ⟨nq, he⟩]; simp
      refine inB_iff.2 ⟨hy, by simp only at hl ⊢; omega, h, (hasB_iff.1 this).2⟩
theorem mem_lst {m : List (Nt × Int)} (hm : NetsOk m) : ∀ (k : Nat) {a : Int} {n : Nat}, n + k = 32 → netF (a, (n : Int)) = 0 → ∀ y, y ∈ lst m k (a, (n : Int)) ↔ look m y ≠ none ∧ inB y (a, (n : Int)) = true
  | 0, a, n, hn, h, y => by
    obtain rfl : n = 32 := by omega
    simp only [lst]
    constructor
    · intro hy
      split at hy
      · rename_i hs
        simp at hy
        subst hy
        exact ⟨Option.isSome_iff_ne_none.1 hs, inB_iff.2 ⟨h, Int.le_refl _, h, (netF_zero.1 h).2.2⟩⟩
      · cases hy
    · rintro ⟨hy, hi⟩
      obtain ⟨h1, h2, h3, h4⟩ := inB_iff.1 hi
      obtain ⟨k, hk, ek, fk⟩ := net_ok h1
      have e : k = 32 := by simp only at h2; omega
      subst e
      simp only [Int.toNat_natCast] at h4
      have e2 : y = (a, ((32 : Nat) : Int)) := Prod.ext (by rw [← fk]; exact h4) ek
      rw [← e2, if_pos (Option.isSome_iff_ne_none.2 hy)]; simp
  | k + 1, a, n, hn, h, y => by
    have hlt : n < 32 := by omega
    simp only [lst]
    rw [List.mem_append, List.mem_append]
    have ip := mem_lst hm k (a := a) (n := n + 1) (by omega) (by simpa using half_p hlt h) y
    have iq := mem_lst hm k (a := a + lowI (n + 1)) (n := n + 1) (by omega) (by simpa using half_q hlt h) y
    have e1 : halfP (a, (n : Int)) = (a, ((n + 1 : Nat) : Int)) := by simp [halfP]
    have e2 : halfQ (a, (n : Int)) = (a + lowI (n + 1), ((n + 1 : Nat) : Int)) := by simp [halfQ]
    rw [e1, e2, ip, iq]
    constructor
    · rintro (hy | ⟨h1, h2⟩ | ⟨h1, h2⟩)
      · split at hy
        · rename_i hs
          simp at hy
          subst hy
          exact ⟨Option.isSome_iff_ne_none.1 hs, (in_split hlt h h).2 (.inl rfl)⟩
        · cases hy
      · exact ⟨h1, (in_split hlt h (hm y h1)).2 (.inr (.inl (by simpa using h2)))⟩
      · exact ⟨h1, (in_split hlt h (hm y h1)).2 (.inr (.inr (by simpa using h2)))⟩
    · rintro ⟨h1, h2⟩
      rcases (in_split hlt h (hm y h1)).1 h2 with h3 | h3 | h3
      · left; subst h3; rw [if_pos (Option.isSome_iff_ne_none.2 h1)]; simp
      · right; left; exact ⟨h1, by simpa using h3⟩
      · right; right; exact ⟨h1, by simpa using h3⟩
theorem lst_sorted {m : List (Nt × Int)} (hm : NetsOk m) : ∀ (k : Nat) {a : Int} {n : Nat}, n + k = 32 → netF (a, (n : Int)) = 0 → (lst m k (a, (n : Int))).Pairwise fun x y => lessB x y = true
  | 0, a, n, hn, h => by simp only [lst]; split <;> simp
  | k + 1, a, n, hn, h => by
    have hlt : n < 32 := by omega
    have e1 : halfP (a, (n : Int)) = (a, ((n + 1 : Nat) : Int)) := by simp [halfP]
    have e2 : halfQ (a, (n : Int)) = (a + lowI (n + 1), ((n + 1 : Nat) : Int)) := by simp [halfQ]
    have np : netF (a, ((n + 1 : Nat) : Int)) = 0 := by simpa using half_p hlt h
    have nq : netF (a + lowI (n + 1), ((n + 1 : Nat) : Int)) = 0 := by simpa using half_q hlt h
    simp only [lst]
    rw [e1, e2]
    have ip := lst_sorted hm k (a := a) (n := n + 1) (by omega) np
    have iq := lst_sorted hm k (a := a + lowI (n + 1)) (n := n + 1) (by omega) nq
    have mp := mem_lst hm k (a := a) (n := n + 1) (by omega) np
    have mq := mem_lst hm k (a := a + lowI (n + 1)) (n := n + 1) (by omega) nq
    rw [List.pairwise_append, List.pairwise_append]
    refine ⟨by split <;> simp, ⟨ip, iq, ?_⟩, ?_⟩
    · intro x hx y hy
      obtain ⟨_, hx⟩ := (mp x).1 hx
      obtain ⟨_, hy⟩ := (mq y).1 hy
      obtain ⟨_, _, _, ex⟩ := inB_iff.1 hx
      obtain ⟨_, _, _, ey⟩ := inB_iff.1 hy
      simp only [Int.toNat_natCast] at ex ey
      have hp := lowI_pos (n + 1)
      have h1 := Int.emod_lt_of_pos x.1 hp
      have h2 := fl_le (lowI (n + 1)) y.1 hp
      unfold fl at ex
      exact lessB_iff.2 (.inl (by omega))
    · intro x hx y hy
      split at hx
      · simp at hx
        subst hx
        have : ∀ z : Nt, ((n + 1 : Nat) : Int) ≤ z.2 → z ≠ (a, (n : Int)) := by
          rintro z hz rfl
          simp at hz; omega
        rcases List.mem_append.1 hy with hy | hy
        · obtain ⟨h1, hy⟩ := (mp y).1 hy
          exact less_in ((in_split hlt h (hm y h1)).2 (.inr (.inl (by simpa using hy)))) (this y (inB_iff.1 hy).2.1)
        · obtain ⟨h1, hy⟩ := (mq y).1 hy
          exact less_in ((in_split hlt h (hm y h1)).2 (.inr (.inr (by simpa using hy)))) (this y (inB_iff.1 hy).2.1)
      · cases hx
/-- all nets of a table -/
def allM (m : List (Nt × Int)) : List Nt := lst m 32 (0, 0)
theorem net00 : netF (0, ((0 : Nat) : Int)) = 0 := by decide
theorem in_00 {y : Nt} (h : netF y = 0) (h2 : is32 y.1) : inB y (0, ((0 : Nat) : Int)) = true := by
  obtain ⟨k, hk, ek, fk⟩ := net_ok h
  refine inB_iff.2 ⟨h, by rw [ek]; simp, net00, ?_⟩
  have := trim_zero (x := y) h2
  unfold trimN at this
  simpa using congrArg Prod.fst this
theorem mem_all {m : List (Nt × Int)} (h : MOk m) (y : Nt) : y ∈ allM m ↔ look m y ≠ none := by
  unfold allM
  rw [show ((0, 0) : Nt) = (0, ((0 : Nat) : Int)) from rfl, mem_lst h.netsOk 32 (by omega) net00]
  exact ⟨fun h' => h'.1, fun h' => ⟨h', in_00 (h.net h').1 (h.net h').2⟩⟩
theorem all_sorted {m : List (Nt × Int)} (h : MOk m) : (allM m).Pairwise fun x y => lessB x y = true := lst_sorted h.netsOk 32 (a := 0) (n := 0) (by omega) net00
theorem sorted_nodup {l : List Nt} (h : l.Pairwise fun x y => lessB x y = true) : l.Nodup := by
  refine List.Pairwise.imp ?_ h
  intro a b hab e
  subst e
  rw [less_irr] at hab; cases hab
theorem sorted_ext : ∀ {l l' : List Nt}, (l.Pairwise fun x y => lessB x y = true) → (l'.Pairwise fun x y => lessB x y = true) → (∀ x, x ∈ l ↔ x ∈ l') → l = l'
  | [], [], _, _, _ => rfl
  | [], y :: r, _, _, h => by have := (h y).2 (by simp); cases this
  | x :: r, [], _, _, h => by have := (h x).1 (by simp); cases this
  | x :: r, y :: s, h1, h2, h => by
    have h1' := List.pairwise_cons.1 h1
    have h2' := List.pairwise_cons.1 h2
    have e : x = y := by
      rcases List.mem_cons.1 ((h x).1 (by simp)) with e | hx
      · exact e
      · rcases List.mem_cons.1 ((h y).2 (by simp)) with e | hy
        · exact e.symm
        · have a := h2'.1 x hx
          have b := h1'.1 y hy
          have := less_trans a b
          rw [less_irr] at this; cases this
    subst e
    congr 1
    refine sorted_ext h1'.2 h2'.2 fun z => ?_
    have hz := h z
    simp only [List.mem_cons] at hz
    constructor
    · intro h3
      rcases hz.1 (.inr h3) with e | h4
      · subst e; have := h1'.1 z h3; rw [less_irr] at this; cases this
      · exact h4
    · intro h3
      rcases hz.2 (.inr h3) with e | h4
      · subst e; have := h2'.1 z h3; rw [less_irr] at this; cases this
      · exact h4
theorem nodup_le {α : Type} [BEq α] [LawfulBEq α] : ∀ {l l' : List α}, l.Nodup → (∀ x ∈ l, x ∈ l') → l.length ≤ l'.length
  | [], _, _, _ => Nat.zero_le _
  | x :: r, l', h, hs => by
    obtain ⟨h1, h2⟩ := List.nodup_cons.1 h
    have hx := hs x (by simp)
    have := nodup_le (l := r) (l' := l'.erase x) h2 (fun y hy => by
      have hne : y ≠ x := fun e => h1 (e ▸ hy)
      exact (List.mem_erase_of_ne hne).2 (hs y (by simp [hy])))
    rw [List.length_erase_of_mem hx] at this
    have : 0 < l'.length := List.length_pos_of_mem hx
    simp only [List.length_cons]; omega
theorem all_length {m : List (Nt × Int)} (h : MOk m) : (allM m).length = m.length := by
  have hk : (keysM m).length = m.length := by simp [keysM]
  have hm : ∀ x, x ∈ allM m ↔ x ∈ keysM m := fun x => by
    rw [mem_all h, ne_eq, look_none, Classical.not_not]
  have h1 := nodup_le (sorted_nodup (all_sorted h)) (fun x hx => (hm x).1 hx)
  have h2 := nodup_le h.nodup (fun x hx => (hm x).2 hx)
  omega
theorem all_congr {m m' : List (Nt × Int)} (h : ∀ x, look m x = look m' x) : allM m = allM m' := by
  have : ∀ k x, lst m k x = lst m' k x := by
    intro k
    induction k with
    | zero => intro x; simp only [lst]; rw [h]
    | succ k ih => intro x; simp only [lst]; rw [h, ih, ih]
  exact this 32 _
theorem lst_nil {m : List (Nt × Int)} (hm : NetsOk m) {k : Nat} {a : Int} {n : Nat} (hn : n + k = 32) (h : netF (a, (n : Int)) = 0) (hno : ∀ y, look m y ≠ none → inB y (a, (n : Int)) = false) : lst m k (a, (n : Int)) = [] := by
  rw [List.eq_nil_iff_forall_not_mem]
  intro y hy
  obtain ⟨h1, h2⟩ := (mem_lst hm k hn h y).1 hy
  rw [hno y h1] at h2; cases h2
end Go.Proofs.YtgdlkjahlajcpaaGreatDoor
