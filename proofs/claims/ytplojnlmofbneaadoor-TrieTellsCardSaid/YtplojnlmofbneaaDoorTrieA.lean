/- trie.New, bit and at, as contracts. -/
import Derived.Test.YtplojnlmofbneaaDoorTrieW
import Derived.Deep.QuietTactic
import Derived.BigQuiet
namespace Go.Proofs.YtplojnlmofbneaaDoor
open Go.ChangeShapes Go.WideShapes Go.ChangeAt Go.RowKit
set_option linter.unusedVariables false
set_option linter.unusedSimpArgs false
theorem bit_any (a : Int) (i : Nat) (w : World) (ha : is32 a) (hi : i < 32) :
    Calls Tryd.prog 37 #[.int .u32 a, .int .i64 i] w fun e w' => e = .returned (.int .u32 (bitI a i)) ∧ w = w' := by
  have HB : Hid (bitI a i = bits .and .u32 (a / 2 ^ (31 - i)) 1) := Lib.hid (by
    obtain ⟨x, rfl⟩ := Int.eq_ofNat_of_zero_le ha.1
    have h1 := ha.2
    have e : ((x : Int) / 2 ^ (31 - i)) = ((x / 2 ^ (31 - i) : Nat) : Int) := by simp
    have hlt : x / 2 ^ (31 - i) ≤ 4294967295 := Nat.le_trans (Nat.div_le_self _ _) (by omega)
    unfold bitI
    rw [e, show (1 : Int) = ((1 : Nat) : Int) from rfl, u32_and_nat _ _ (by omega) (by omega), Nat.and_one_is_mod]
    omega)
  obtain ⟨h0, h1⟩ := ha
  go_enter Tryd.func37, Tryd.ntmps37
  go_wp2
  go_ret
  exact ⟨by rw [HB.out]; rfl, rfl⟩
theorem New_any (w : World) :
    Calls Tryd.prog 9 #[] w fun e w' => e = .returned (.pointer (some ⟨w.heap.size, 0, none⟩)) ∧ w' = w.alloc (.cells #[.bool false, .int .i64 0, .pointer none, .pointer none, .int .i64 0] 75) := by
  go_enter Tryd.func9, Tryd.ntmps9
  go_wp2
  go_ret
  exact ⟨rfl, rfl⟩
theorem bit_is {a : Int} {i : Nat} {r : Int} (w : World) (ha : is32 a) (hi : i < 32) (hr : bitI a i = r) :
    Calls Tryd.prog 37 #[.int .u32 a, .int .i64 i] w fun e w' => e = .returned (.int .u32 r) ∧ w = w' := by
  rw [← hr]; exact bit_any a i w ha hi
theorem ptrO_none : ptrO none = .pointer none := rfl
theorem ptrO_some (b : Nat) : ptrO (some b) = .pointer (some ⟨b, 0, none⟩) := rfl
set_option maxHeartbeats 1000000 in
theorem at_any {w : World} {T B : Nat} {N : NM} {m : List (Nt × Int)} {a : Int} {n : Nat} (h : Tri w T B N m) (hn : n ≤ 32) (ha : is32 a) (hB : B ≤ w.heap.size) (hnet : fl (lowI n) a = a) :
    Calls Tryd.prog 36 #[.pointer (some ⟨T, 0, none⟩), .agg #[.int .u32 a, .int .i64 n]] w fun e w' => e = .returned (ptrO (N (a, (n : Int)))) ∧ Below w.heap.size w w' := by
  have HT := Lib.hid h
  have HB : Hid (∀ d, Below w.heap.size w ((w.alloc (.cells #[.int .u32 a, .int .i64 n] 32)).drewN d)) := Lib.hid (fun d => below_drewN ((Below.refl _ _).alloc (Nat.le_refl _) _) d)
  have h00 : N (trimN (a, (n : Int)) 0) = some T := by rw [trim_zero ha]; exact h.root
  have h0 : ptrO (N (trimN (a, (n : Int)) 0)) = .pointer (some ⟨T, 0, none⟩) := by rw [h00]; rfl
  have H0 := Lib.hid h0
  have HE : Hid (trimN (a, (n : Int)) n = (a, (n : Int))) := Lib.hid (trim_self rfl hnet)
  have HA := Lib.hid ha
  clear h00 h0 h hnet
  go_enter Tryd.func36, Tryd.ntmps36
  go_wp2
  go_loopw [5, 6] (fun x i wr => ∃ k d : Nat, k ≤ n ∧ i = .int .i64 k ∧ x = ptrO (N (trimN (a, (n : Int)) k)) ∧ wr = (w.alloc (.cells #[.int .u32 a, .int .i64 n] 32)).drewN d) (fun _ i _ => n - (intOf i).toNat)
  case atStart => exact ⟨0, 0, by omega, rfl, H0.out.symm, rfl⟩
  case round =>
    obtain ⟨k, d, hk, rfl, rfl, rfl⟩ := hrel
    have hT := HT.out
    cases hN : N (trimN (a, (n : Int)) k) with
    | none =>
      rw [ptrO_none]
      have HR : Hid (N (a, (n : Int)) = none) := Lib.hid (by rw [← HE.out]; exact hT.none_up hN n hk)
      clear hN hT
      by_cases hlt : k < n
      all_goals
        go_wp2
        go_ret
        exact ⟨by rw [HR.out]; rfl, HB.out _⟩
    | some b =>
      rw [ptrO_some]
      obtain ⟨v, -, ⟨c0, c1, c2, c3⟩, f0, f1, f2, f3⟩ := hT.cells hN
      have hbl := hT.lt hN
      have hbn : ¬ b = w.heap.size := by omega
      by_cases hlt : k < n
      · have HS := Lib.hid (trim_step (a, (n : Int)) k (by omega))
        rcases bitI_01 a k with hb | hb
        · have HBit := Lib.hid hb
          have HS2 : Hid (trimN (a, (n : Int)) (k + 1) = halfP (trimN (a, (n : Int)) k)) := Lib.hid (by rw [HS.out]; simp [hb])
          clear hb hN hT HS
          have hk31 : k < 32 := by omega
          rw [← HS2.out] at c2
          go_wp2
          go_quiet ((go_at_call 37; exact quiet_add_left (bit_is _ HA.out hk31 HBit.out)))
          go_wp2
          go_roundw
          case rel => exact ⟨k + 1, _, by omega, by go_num, rfl, rfl⟩
          case measure => simp [intOf]; omega
        · have HBit := Lib.hid hb
          have HS2 : Hid (trimN (a, (n : Int)) (k + 1) = halfQ (trimN (a, (n : Int)) k)) := Lib.hid (by rw [HS.out]; simp [hb])
          clear hb hN hT HS
          have hk31 : k < 32 := by omega
          rw [← HS2.out] at c3
          go_wp2
          go_quiet ((go_at_call 37; exact quiet_add_left (bit_is _ HA.out hk31 HBit.out)))
          go_wp2
          go_roundw
          case rel => exact ⟨k + 1, _, by omega, by go_num, rfl, rfl⟩
          case measure => simp [intOf]; omega
      · obtain rfl : k = n := by omega
        have HR : Hid (N (a, (k : Int)) = some b) := Lib.hid (by rw [← HE.out]; exact hN)
        clear hN hT
        go_wp2
        go_ret
        exact ⟨by rw [HR.out]; rfl, HB.out _⟩
end Go.Proofs.YtplojnlmofbneaaDoor
