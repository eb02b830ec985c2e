/- The Internet checksum: what sum.folded and sum.Sum compute. -/
import Derived.Test.YtimdnfakgobadaaWords
namespace Go.Proofs.Ytimdnfakgobadaa
open Go.ChangeShapes Go.WideShapes Go.ChangeAt Go.RowKit

/-- the ones' sum folded -/
def fo (n : Int) : Int := if n = 0 then 0 else (n - 1) % 65535 + 1
theorem fo_small (n : Int) (h0 : 0 ≤ n) (h : n ≤ 65535) : fo n = n := by unfold fo; split <;> omega
theorem fo_step (n : Int) (h : 65535 < n) : fo (n / 65536 + n % 65536) = fo n := by
  unfold fo; split <;> split <;> omega
theorem fo_rng (n : Int) : 0 ≤ fo n ∧ fo n ≤ 65535 := by unfold fo; split <;> omega

theorem and16 (m : Int) (h0 : 0 ≤ m) (h1 : m ≤ 9223372036854775807) : bits BinOp.and IntKind.u64 m 65535 = m % 65536 := by
  have := u64_and m 65535 h0 (by omega) (by omega) (by omega)
  rw [this]
  have e : m.toNat &&& (65535 : Int).toNat = m.toNat % 65536 := nat_mask16 m.toNat
  rw [e]
  omega

set_option maxHeartbeats 400000 in
theorem folded_any (n : Int) (w : World) (h0 : 0 ≤ n) (h1 : n ≤ 9223372036854775807) :
    Calls Try.prog 24 #[.int .u64 n] w fun e w' => e = .returned (.int .u16 (fo n)) ∧ w = w' := by
  go_enter Try.func24, Try.ntmps24
  go_wp2
  go_loop [0] (fun v => ∃ m : Int, 0 ≤ m ∧ m ≤ 9223372036854775807 ∧ fo m = fo n ∧ v = .int .u64 m) (fun v => (intOf v).toNat)
  case atStart => exact ⟨n, h0, h1, rfl, rfl⟩
  case round =>
    obtain ⟨m, hm0, hm1, hf, rfl⟩ := hrel
    have HF := Lib.hid hf; clear hf
    by_cases hlt : 65535 < m
    · have ha := and16 m hm0 hm1
      have hw : IntKind.u64.wrap (m / 65536 + m % 65536) = m / 65536 + m % 65536 := IntWalk.u64_in _ ⟨by omega, by omega⟩
      go_wp2
      exact ⟨⟨m / 65536 + m % 65536, by omega, by omega, (fo_step m hlt).trans HF.out, rfl⟩, by simp [intOf]; omega⟩
    · go_wp2
      go_ret
      exact ⟨by simp only [Array.getD]; exact ret_int ((fo_small m hm0 (by omega)).symm.trans HF.out), rfl⟩

/-- the weighed sum of bytes: 256 at even places -/
def bsum : Bool → List Int → Int
  | _, [] => 0
  | true, x :: r => 256 * x + bsum false r
  | false, x :: r => x + bsum true r
def wsum (l : List Int) : Int := bsum true l

theorem bsum_snoc (b : Bool) (l : List Int) (x : Int) : bsum b (l ++ [x]) = bsum b l + bsum (if l.length % 2 = 0 then b else !b) [x] := by
  induction l generalizing b with
  | nil => cases b <;> simp [bsum]
  | cons y r ih =>
    have e : (if (y :: r).length % 2 = 0 then b else !b) = (if r.length % 2 = 0 then !b else b) := by
      simp only [List.length_cons]
      by_cases h : r.length % 2 = 0
      · rw [if_pos h, if_neg (by omega)]
      · rw [if_neg h, if_pos (by omega)]
    have e2 : (if r.length % 2 = 0 then !b else !!b) = (if r.length % 2 = 0 then !b else b) := by simp
    rw [e, List.cons_append]
    cases b
    · simp only [bsum, ih]; simp only [Bool.not_false, Bool.not_true]; omega
    · simp only [bsum, ih]; simp only [Bool.not_false, Bool.not_true]; omega
theorem take_snoc {l : List Int} {k : Nat} {x : Int} (h : l[k]? = some x) : l.take (k + 1) = l.take k ++ [x] := by
  rw [List.take_add_one, h]; rfl
theorem wsum_take {l : List Int} {k : Nat} {x : Int} (h : l[k]? = some x) : wsum (l.take (k + 1)) = wsum (l.take k) + if k % 2 = 0 then 256 * x else x := by
  have hk : k < l.length := (List.getElem?_eq_some_iff.1 h).1
  rw [take_snoc h]
  unfold wsum
  rw [bsum_snoc, List.length_take, Nat.min_eq_left (by omega)]
  by_cases hk : k % 2 = 0 <;> simp [hk, bsum]
theorem bsum_rng (b : Bool) (l : List Int) (h : ∀ x ∈ l, 0 ≤ x ∧ x ≤ 255) : 0 ≤ bsum b l ∧ bsum b l ≤ 65280 * l.length := by
  induction l generalizing b with
  | nil => cases b <;> simp [bsum]
  | cons y r ih =>
    have h1 := h y (by simp)
    have h2 := ih (!b) (fun x hx => h x (by simp [hx]))
    cases b <;> simp only [bsum, List.length_cons, Bool.not_true, Bool.not_false] at * <;> omega
theorem wsum_rng (l : List Int) (k : Nat) (hk : k ≤ l.length) (h : ∀ x ∈ l, 0 ≤ x ∧ x ≤ 255) : 0 ≤ wsum (l.take k) ∧ wsum (l.take k) ≤ 65280 * k := by
  have := bsum_rng true (l.take k) (fun x hx => h x (List.mem_of_mem_take hx))
  rw [List.length_take, Nat.min_eq_left hk] at this
  exact this

theorem xor16 (m : Int) (h0 : 0 ≤ m) (h1 : m ≤ 65535) : bits BinOp.xor IntKind.u16 IntKind.u16.max m = 65535 - m := by
  obtain ⟨n, rfl⟩ := Int.eq_ofNat_of_zero_le h0
  have e := u16_xor_nat 65535 n (by omega) (by omega)
  have e2 : IntKind.u16.max = ((65535 : Nat) : Int) := by decide
  rw [e2, e]
  have h : n < 2 ^ 16 := by omega
  have e3 : 65535 ^^^ n = 65535 - n := by
    apply Nat.eq_of_testBit_eq
    intro i
    rw [show (65535 : Nat) - n = 2 ^ 16 - (n + 1) from by omega, Nat.testBit_two_pow_sub_succ h, Nat.testBit_xor, show (65535 : Nat) = 2 ^ 16 - 1 from by decide, Nat.testBit_two_pow_sub_one]
    by_cases hi : i < 16
    · simp [hi]
    · have : n.testBit i = false := Nat.testBit_lt_two_pow (Nat.lt_of_lt_of_le h (Nat.pow_le_pow_right (by omega) (by omega)))
      simp [hi, this]
  rw [e3]
  omega

set_option maxHeartbeats 400000 in
theorem sum_any (A : Option Addr) (c : Nat) (l : List Int) (w : World) (B : Nat) (hb : Bytes w B A l) (hl : l.length ≤ 140737488355328) :
    Calls Try.prog 11 #[.slice A l.length c] w fun e w' => e = .returned (.int .u16 (65535 - fo (wsum l))) ∧ w = w' := by
  go_enter Try.func11, Try.ntmps11
  go_wp2
  go_loop [3, 8] (fun n i => ∃ k : Nat, k ≤ l.length ∧ i = .int .i64 k ∧ n = .int .u64 (wsum (l.take k))) (fun _ i => l.length - (intOf i).toNat)
  case atStart => exact ⟨0, Nat.zero_le _, rfl, rfl⟩
  case round =>
    obtain ⟨k, hk, rfl, rfl⟩ := hrel
    have hr := wsum_rng l k hk hb.2
    by_cases hlt : k < l.length
    · obtain ⟨ad, x, rfl, _, hc, h0, h1, HX⟩ := hb.at_ hlt
      have hs := Lib.hid (wsum_take HX.out)
      generalize wsum (l.take k) = S at *
      by_cases hp : k % 2 = 0
      · go_wp2
        refine ⟨⟨k + 1, by omega, by go_num, ?_⟩, by simp [intOf]; omega⟩
        rw [hs.out, if_pos hp]; go_num
      · go_wp2
        refine ⟨⟨k + 1, by omega, by go_num, ?_⟩, by simp [intOf]; omega⟩
        rw [hs.out, if_neg hp]
    · have e : l.take k = l := List.take_of_length_le (by omega)
      have E := Lib.hid e; clear e
      go_wp2_with (go_at_call 24; refine (folded_any _ _ (by omega) (by omega)).mono ?_; rintro e w' ⟨rfl, rfl⟩)
      go_ret
      exact ⟨ret_int (by rw [E.out]; exact xor16 _ (fo_rng _).1 (fo_rng _).2), rfl⟩
end Go.Proofs.Ytimdnfakgobadaa
