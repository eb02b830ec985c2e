/- The Internet checksum: what sum.Right, sum.Swap, the reference's Folded and SumOf, and summed compute. -/
import Derived.Test.YtimdnfakgobadaaSumA
namespace Go.Proofs.Ytimdnfakgobadaa
open Go.ChangeShapes Go.WideShapes Go.ChangeAt Go.RowKit

/-- the sum of bytes -/
def S16 (l : List Int) : Int := 65535 - fo (wsum l)
theorem S16_rng (l : List Int) : 0 ≤ S16 l ∧ S16 l ≤ 65535 := by have := fo_rng (wsum l); unfold S16; omega
theorem bsum_append (b : Bool) (l m : List Int) : bsum b (l ++ m) = bsum b l + bsum (if l.length % 2 = 0 then b else !b) m := by
  induction l generalizing b with
  | nil => cases b <;> simp [bsum]
  | cons y r ih =>
    have e : (if (y :: r).length % 2 = 0 then b else !b) = (if r.length % 2 = 0 then !b else !!b) := by
      simp only [List.length_cons, Bool.not_not]
      by_cases h : r.length % 2 = 0
      · rw [if_pos h, if_neg (by omega)]
      · rw [if_neg h, if_pos (by omega)]
    rw [e, List.cons_append]
    cases b
    · simp only [bsum, ih, Bool.not_false]; omega
    · simp only [bsum, ih, Bool.not_true]; omega
theorem wsum_append (l m : List Int) (h : l.length % 2 = 0) : wsum (l ++ m) = wsum l + wsum m := by
  unfold wsum; rw [bsum_append, if_pos h]
/-- a sum in which a number has become another one -/
def W16 (s o n : Int) : Int := 65535 - fo (65535 - s + (65535 - o) + n)
theorem W16_rng (s o n : Int) : 0 ≤ W16 s o n ∧ W16 s o n ≤ 65535 := by have := fo_rng (65535 - s + (65535 - o) + n); unfold W16; omega

theorem Sum_any (A : Option Addr) (n : Nat) (c : Nat) (l : List Int) (w : World) (B : Nat) (hb : Bytes w B A l) (hn : n = l.length) (hl : n ≤ 140737488355328) :
    Calls Try.prog 11 #[.slice A n c] w fun e w' => e = .returned (.int .u16 (S16 l)) ∧ w = w' := by
  subst hn; exact sum_any A c l w B hb hl

set_option maxHeartbeats 400000 in
theorem Right_any (A : Option Addr) (n : Nat) (c : Nat) (l : List Int) (w : World) (B : Nat) (hb : Bytes w B A l) (hn : n = l.length) (hl : n ≤ 140737488355328) :
    Calls Try.prog 12 #[.slice A n c] w fun e w' => e = .returned (.bool (S16 l == 0)) ∧ w = w' := by
  have HN := Lib.hid hn; clear hn
  go_enter Try.func12, Try.ntmps12
  go_wp2_with (go_at_call 11; refine (Sum_any _ _ _ l _ B hb HN.out hl).mono ?_; rintro e w' ⟨rfl, rfl⟩)
  go_ret
  exact ⟨rfl, rfl⟩

set_option maxHeartbeats 400000 in
theorem Swap_any (s o n : Int) (w : World) (hs0 : 0 ≤ s) (hs1 : s ≤ 65535) (ho0 : 0 ≤ o) (ho1 : o ≤ 65535) (hn0 : 0 ≤ n) (hn1 : n ≤ 65535) :
    Calls Try.prog 13 #[.int .u16 s, .int .u16 o, .int .u16 n] w fun e w' => e = .returned (.int .u16 (W16 s o n)) ∧ w = w' := by
  have e1 := xor16 s hs0 hs1
  have e2 := xor16 o ho0 ho1
  have u1 := IntWalk.u64_in (65535 - s) ⟨by omega, by omega⟩
  have u2 := IntWalk.u64_in (65535 - o) ⟨by omega, by omega⟩
  have u3 := IntWalk.u64_in (65535 - s + (65535 - o)) ⟨by omega, by omega⟩
  have u4 := IntWalk.u64_in (65535 - s + (65535 - o) + n) ⟨by omega, by omega⟩
  have u5 := IntWalk.u64_in n ⟨by omega, by omega⟩
  go_enter Try.func13, Try.ntmps13
  go_wp2_with (go_at_call 24; refine (folded_any _ _ (by omega) (by omega)).mono ?_; rintro e w' ⟨rfl, rfl⟩)
  go_ret
  exact ⟨ret_int (xor16 _ (fo_rng _).1 (fo_rng _).2), rfl⟩

set_option maxHeartbeats 400000 in
theorem Folded_any (n : Int) (w : World) (h0 : 0 ≤ n) (h1 : n ≤ 9223372036854775807) :
    Calls Try.prog 15 #[.int .i64 n] w fun e w' => e = .returned (.int .i64 (fo n)) ∧ w = w' := by
  go_enter Try.func15, Try.ntmps15
  go_wp2
  go_loop [0] (fun v => ∃ m : Int, 0 ≤ m ∧ m ≤ 9223372036854775807 ∧ fo m = fo n ∧ v = .int .i64 m) (fun v => (intOf v).toNat)
  case atStart => exact ⟨n, h0, h1, rfl, rfl⟩
  case round =>
    obtain ⟨m, hm0, hm1, hf, rfl⟩ := hrel
    have HF := Lib.hid hf; clear hf
    by_cases hlt : 65535 < m
    · go_wp2
      exact ⟨⟨m % 65536 + m / 65536, by omega, by omega, by rw [Int.add_comm]; exact (fo_step m hlt).trans HF.out, rfl⟩, by simp [intOf]; omega⟩
    · go_wp2
      go_ret
      exact ⟨by simp only [Array.getD]; exact ret_int ((fo_small m hm0 (by omega)).symm.trans HF.out), rfl⟩

set_option maxHeartbeats 400000 in
theorem SumOf_any (A : Option Addr) (n : Nat) (c : Nat) (l : List Int) (w : World) (B : Nat) (hb : Bytes w B A l) (hn : n = l.length) (hl : n ≤ 140737488355328) :
    Calls Try.prog 16 #[.slice A n c] w fun e w' => e = .returned (.int .i64 (S16 l)) ∧ w = w' := by
  subst hn
  go_enter Try.func16, Try.ntmps16
  go_wp2
  go_loop [3, 4] (fun n i => ∃ k : Nat, k ≤ l.length ∧ i = .int .i64 k ∧ n = .int .i64 (wsum (l.take k))) (fun _ i => l.length - (intOf i).toNat)
  case atStart => exact ⟨0, Nat.zero_le _, rfl, rfl⟩
  case round =>
    obtain ⟨k, hk, rfl, rfl⟩ := hrel
    have hr := wsum_rng l k hk hb.2
    by_cases hlt : k < l.length
    · obtain ⟨ad, x, rfl, _, hc, h0, h1, HX⟩ := hb.at_ hlt
      have hs := Lib.hid (wsum_take HX.out)
      generalize wsum (l.take k) = S at *
      by_cases hp : k % 2 = 0
      · go_wp2
        refine ⟨⟨k + 1, by omega, by go_num, ?_⟩, by simp [intOf]; omega⟩
        rw [hs.out, if_pos hp]
      · go_wp2
        refine ⟨⟨k + 1, by omega, by go_num, ?_⟩, by simp [intOf]; omega⟩
        rw [hs.out, if_neg hp]
    · have e : l.take k = l := List.take_of_length_le (by omega)
      have E := Lib.hid e; clear e
      have hf := fo_rng (wsum (l.take k))
      go_wp2_with (go_at_call 15; refine (Folded_any _ _ (by omega) (by omega)).mono ?_; rintro e w' ⟨rfl, rfl⟩)
      go_ret
      exact ⟨ret_int (by rw [E.out]; rfl), rfl⟩

set_option maxHeartbeats 400000 in
theorem summed_any (w : World) :
    Calls Try.prog 10 #[] w fun e w' => e = .returned (.bool true) ∧ Below w.heap.size w w' := by
  go_enter Try.func10, Try.ntmps10
  go_wp2_with fail
  refine (Sum_any _ _ _ [0, 1, 242, 3] _ _ (Bytes.new w 5 _ [0, 1, 242, 3] rfl (by decide)) rfl (by decide)).mono ?_
  rintro e w' ⟨rfl, rfl⟩
  have hs : S16 [0, 1, 242, 3] = 3579 := by decide
  rw [hs]
  go_wp2
  go_ret
  exact ⟨rfl, (Below.refl _ _).alloc (Nat.le_refl _) _⟩
end Go.Proofs.Ytimdnfakgobadaa
