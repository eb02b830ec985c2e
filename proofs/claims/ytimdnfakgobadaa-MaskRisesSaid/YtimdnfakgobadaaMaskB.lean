/- The walk of the law MaskRises. -/
import Derived.Test.YtimdnfakgobadaaMaskA
import Derived.Test.YtimdnfakgobadaaOpen
namespace Go.Proofs.Ytimdnfakgobadaa
open Go.ChangeShapes Go.WideShapes Go.ChangeAt Go.RowKit
set_option linter.unusedVariables false

theorem Mask_8 (w : World) : Calls Try.prog 17 #[.int .i64 8] w fun e w' => e = .returned (.tuple #[.int .u32 4278190080, .nilIface]) ∧ w = w' := by
  have h := Mask_in 8 w (by omega)
  have e : maskV 8 = 4278190080 := by decide
  rw [e] at h
  exact h
theorem and_fin : ∀ n k : Fin 33, n.val ≤ k.val → bits BinOp.and IntKind.u32 (maskV n.val) (maskV k.val) = maskV n.val := by decide +kernel
theorem and_mask (n k : Nat) (hk : k ≤ 32) (h : n ≤ k) : bits BinOp.and IntKind.u32 (maskV n) (maskV k) = maskV n := and_fin ⟨n, by omega⟩ ⟨k, by omega⟩ h

theorem half_fin : ∀ n : Fin 33, (wrap64 (wrap64 (4294967295 - maskV n.val) + 1) == wrap64 (2 ^ (32 - n.val))) = true := by decide +kernel
theorem half_eq (n : Nat) (h : n ≤ 32) : (wrap64 (wrap64 (4294967295 - maskV n) + 1) == wrap64 (2 ^ (32 - n))) = true := half_fin ⟨n, by omega⟩
theorem last4 {b1 b2 b3 b4 : Bool} (h : Hid ((b1 || b2 || b3 || b4) = true)) (h1 : ¬ b1 = true) (h2 : ¬ b2 = true) (h3 : ¬ b3 = true) : b4 = true := by
  have := h.out; rw [Bool.eq_false_iff.2 h1, Bool.eq_false_iff.2 h2, Bool.eq_false_iff.2 h3] at this; simpa using this
set_option maxHeartbeats 400000 in
theorem MaskRises_out (n k : Int) (w : World) (en ek : Value) (vn vk : Int) (hn : ∀ w, Calls Try.prog 17 #[.int .i64 n] w fun e w' => e = .returned (.tuple #[.int .u32 vn, en]) ∧ w = w')
    (hk : ∀ w, Calls Try.prog 17 #[.int .i64 k] w fun e w' => e = .returned (.tuple #[.int .u32 vk, ek]) ∧ w = w')
    (b1 b2 b3 b4 : Bool) (t1 : decide (n < 0) = b1) (t2 : decide (32 < n) = b2) (t3 : decide (k < 0) = b3) (t4 : decide (32 < k) = b4)
    (hen : en = .iface 32 (.int .i64 1) ∨ en = .nilIface ∧ ek = .iface 32 (.int .i64 1)) (hb : (b1 || b2 || b3 || b4) = true) :
    Calls Try.prog 8 #[.int .i64 n, .int .i64 k] w fun e w' => e = .returned (.bool true) ∧ Below w.heap.size w w' := by
  have HN := Lib.hid hn; have HK := Lib.hid hk; clear hn hk
  rcases hen with rfl | ⟨rfl, rfl⟩
  all_goals
    have HB := Lib.hid hb; clear hb
    go_enter Try.func8, Try.ntmps8
    go_wp2_with fail
    refine (HN.out _).mono ?_
    rintro e w' ⟨rfl, rfl⟩
    go_wp2_with fail
    refine (HK.out _).mono ?_
    rintro e w' ⟨rfl, rfl⟩
    go_wp2_with fail
    refine (Mask_8 _).mono ?_
    rintro e w' ⟨rfl, rfl⟩
    go_wp2_with fail
    · go_ret; exact ⟨rfl, Below.refl _ _⟩
    · go_ret; exact ⟨rfl, Below.refl _ _⟩
    · go_ret; exact ⟨rfl, Below.refl _ _⟩
    · go_ret; exact ⟨ret_bool (last4 HB ‹_› ‹_› ‹_›), Below.refl _ _⟩

set_option maxHeartbeats 400000 in
theorem MaskRises_in (n k : Nat) (w : World) (hn : n ≤ 32) (hk : k ≤ 32) :
    Calls Try.prog 8 #[.int .i64 n, .int .i64 k] w fun e w' => e = .returned (.bool true) ∧ Below w.heap.size w w' := by
  have hx := xor32 (maskV n) (maskV_rng n).1 (maskV_rng n).2
  have hr := maskV_rng n
  by_cases hkn : k < n
  · have tgt : decide ((k : Int) < (n : Int)) = true := by simpa using hkn
    go_enter Try.func8, Try.ntmps8
    go_wp2_with fail
    refine (Mask_in _ _ hn).mono ?_
    rintro e w' ⟨rfl, rfl⟩
    go_wp2_with fail
    refine (Mask_in _ _ hk).mono ?_
    rintro e w' ⟨rfl, rfl⟩
    go_wp2_with fail
    refine (Mask_8 _).mono ?_
    rintro e w' ⟨rfl, rfl⟩
    go_wp2_with fail
    refine (Len_any _ _ hr.1 hr.2).mono ?_
    have hl : maskL (maskV n) = n := maskL_of ⟨n, by omega⟩
    rw [hl, if_pos rfl]
    rintro e w' ⟨rfl, rfl⟩
    clear hl
    go_wp2_with fail
    go_ret
    exact ⟨ret_bool (half_eq n hn), Below.refl _ _⟩
  · have ha := and_mask n k hk (by omega)
    have tgt : decide ((k : Int) < (n : Int)) = false := by simpa using hkn
    go_enter Try.func8, Try.ntmps8
    go_wp2_with fail
    refine (Mask_in _ _ hn).mono ?_
    rintro e w' ⟨rfl, rfl⟩
    go_wp2_with fail
    refine (Mask_in _ _ hk).mono ?_
    rintro e w' ⟨rfl, rfl⟩
    go_wp2_with fail
    refine (Mask_8 _).mono ?_
    rintro e w' ⟨rfl, rfl⟩
    go_wp2_with fail
    refine (Len_any _ _ hr.1 hr.2).mono ?_
    have hl : maskL (maskV n) = n := maskL_of ⟨n, by omega⟩
    rw [hl, if_pos rfl]
    rintro e w' ⟨rfl, rfl⟩
    clear hl
    go_wp2_with fail
    go_ret
    exact ⟨ret_bool (half_eq n hn), Below.refl _ _⟩

theorem MaskRises_walk (w : World) (n : Int) (bn : -9223372036854775808 ≤ n ∧ n ≤ 9223372036854775807) (k : Int) (bk : -9223372036854775808 ≤ k ∧ k ≤ 9223372036854775807) :
    Calls Try.prog 8 #[.int .i64 n, .int .i64 k] w fun e w' => e = .returned (.bool true) ∧ Below w.heap.size w w' := by
  by_cases hn : n < 0 ∨ 32 < n
  · by_cases hk : k < 0 ∨ 32 < k
    · exact MaskRises_out n k w _ _ 0 0 (fun w => Mask_out n w hn) (fun w => Mask_out k w hk) _ _ _ _ rfl rfl rfl rfl (.inl rfl) (by simp; omega)
    · obtain ⟨k', rfl⟩ := Int.eq_ofNat_of_zero_le (show 0 ≤ k by omega)
      exact MaskRises_out n k' w _ _ 0 _ (fun w => Mask_out n w hn) (fun w => Mask_in k' w (by omega)) _ _ _ _ rfl rfl rfl rfl (.inl rfl) (by simp; omega)
  · obtain ⟨n', rfl⟩ := Int.eq_ofNat_of_zero_le (show 0 ≤ n by omega)
    by_cases hk : k < 0 ∨ 32 < k
    · exact MaskRises_out n' k w _ _ _ 0 (fun w => Mask_in n' w (by omega)) (fun w => Mask_out k w hk) _ _ _ _ rfl rfl rfl rfl (.inr ⟨rfl, rfl⟩) (by simp; omega)
    · obtain ⟨k', rfl⟩ := Int.eq_ofNat_of_zero_le (show 0 ≤ k by omega)
      exact MaskRises_in n' k' w (by omega) (by omega)
end Go.Proofs.Ytimdnfakgobadaa
