/- waywardenref1.MaskOf; the walk of the law MaskTells. -/
import Derived.Test.YtimdnfakgobadaaDoorMaskA
import Derived.Test.YtimdnfakgobadaaDoorErr
namespace Go.Proofs.YtimdnfakgobadaaDoor
open Go.ChangeShapes Go.WideShapes Go.ChangeAt Go.RowKit
set_option linter.unusedVariables false

theorem mask_step_fin : ∀ k : Fin 32, bits BinOp.or IntKind.u32 (maskV k.val) (2 ^ (31 - k.val)) = maskV (k.val + 1) := by decide +kernel
theorem mask_step (k : Nat) (h : k < 32) : bits BinOp.or IntKind.u32 (maskV k) (2 ^ (31 - k)) = maskV (k + 1) := mask_step_fin ⟨k, h⟩
theorem pow31_fin : ∀ k : Fin 32, (2 : Int) ^ (31 - k.val) % 4294967296 = 2 ^ (31 - k.val) := by decide
theorem pow31 (k : Nat) (h : k < 32) : (2 : Int) ^ (31 - k) % 4294967296 = 2 ^ (31 - k) := pow31_fin ⟨k, h⟩
set_option maxHeartbeats 400000 in
theorem MaskOf_any (n : Nat) (w : World) (hn : n ≤ 32) :
    Calls Tryd.prog 7 #[.int .i64 n] w fun e w' => e = .returned (.int .u32 (maskV n)) ∧ w = w' := by
  go_enter Tryd.func7, Tryd.ntmps7
  go_wp2
  go_loop [3, 4] (fun m i => ∃ k : Nat, k ≤ n ∧ i = .int .i64 k ∧ m = .int .u32 (maskV k)) (fun _ i => n - (intOf i).toNat)
  case atStart => exact ⟨0, Nat.zero_le _, rfl, by rfl⟩
  case round =>
    obtain ⟨k, hk, rfl, rfl⟩ := hrel
    by_cases hlt : k < n
    · have hs := mask_step k (by omega)
      have hp := pow31 k (by omega)
      have hu : IntKind.u64.wrap (31 - (k : Int)) = 31 - k := IntWalk.u64_in _ ⟨by omega, by omega⟩
      have hS := Lib.hid hs; have hP := Lib.hid hp; clear hs hp
      go_wp2
      refine ⟨⟨k + 1, by omega, by go_num, ?_⟩, by simp [intOf]; omega⟩
      rw [hP.out, hS.out]
    · have e : k = n := by omega
      subst e
      go_wp2
      go_ret
      exact ⟨rfl, rfl⟩

/-- how it stands behind the masks of less than k bits -/
def mtE (m : Int) (k : Nat) : Int := if maskL m < k ∧ maskV (maskL m) = m then 0 else 3
def mtA (m : Int) (k : Nat) : Int := if maskL m < k ∧ maskV (maskL m) = m then maskL m else 0
theorem mt_eq {m : Int} {k : Nat} (hk : k ≤ 32) (h : maskV k = m) : mtE m (k + 1) = 0 ∧ mtA m (k + 1) = k := by
  have hl : maskL m = k := by rw [← h]; exact maskL_of ⟨k, by omega⟩
  unfold mtE mtA
  rw [hl, if_pos ⟨by omega, h⟩, if_pos ⟨by omega, h⟩]
  exact ⟨rfl, rfl⟩
theorem mt_ne {m : Int} {k : Nat} (h : maskV k ≠ m) : mtE m (k + 1) = mtE m k ∧ mtA m (k + 1) = mtA m k := by
  have e : (maskL m < k + 1 ∧ maskV (maskL m) = m) = (maskL m < k ∧ maskV (maskL m) = m) := by
    apply propext
    constructor
    · rintro ⟨h1, h2⟩
      refine ⟨?_, h2⟩
      rcases Nat.lt_or_ge (maskL m) k with h3 | h3
      · exact h3
      · have : maskL m = k := by omega
        rw [this] at h2
        exact absurd h2 h
    · rintro ⟨h1, h2⟩
      exact ⟨by omega, h2⟩
  unfold mtE mtA
  simp only [e]
  exact ⟨trivial, trivial⟩
theorem mt_end (m : Int) : mtE m 33 = (if maskV (maskL m) = m then 0 else 3) ∧ mtA m 33 = (if maskV (maskL m) = m then (maskL m : Int) else 0) := by
  have := maskL_le m
  unfold mtE mtA
  have e : (maskL m < 33 ∧ maskV (maskL m) = m) = (maskV (maskL m) = m) := propext ⟨fun h => h.2, fun h => ⟨by omega, h⟩⟩
  simp only [e]
  exact ⟨trivial, trivial⟩
theorem mt_0 (m : Int) : mtE m 0 = 3 ∧ mtA m 0 = 0 := by
  unfold mtE mtA
  rw [if_neg (by omega), if_neg (by omega)]; exact ⟨rfl, rfl⟩

set_option maxHeartbeats 1000000 in
theorem MaskTells_core (w : World) (hg : HErr w) (n : Int) (m : Int) (m0 : 0 ≤ m) (m1 : m ≤ 4294967295) (e1 v1 : Int) (c1 c2 : Bool) (t1 : decide (n < 0) = c1) (t2 : decide (32 < n) = c2)
    (h1 : (e1 = 1 ∧ v1 = 0 ∧ (c1 || c2) = true) ∨ (e1 = 0 ∧ c1 = false ∧ c2 = false))
    (hN : ∀ w, Calls Tryd.prog 8 #[.int .i64 n] w fun e w' => e = .returned (.tuple #[.int .u32 v1, errV e1]) ∧ w = w')
    (hO : e1 = 0 → ∀ w, Calls Tryd.prog 7 #[.int .i64 n] w fun e w' => e = .returned (.int .u32 v1) ∧ w = w') :
    Calls Tryd.prog 3 #[.int .i64 n, .int .u32 m] w fun e w' => e = .returned (.bool true) ∧ Below w.heap.size w w' := by
  have HN := Lib.hid hN; have HO := Lib.hid hO; clear hN hO
  have HT1 := Lib.hid t1; have HT2 := Lib.hid t2
  rcases h1 with ⟨rfl, rfl, hc⟩ | ⟨rfl, rfl, rfl⟩
  · have HC := Lib.hid hc; clear hc
    go_enter Tryd.func3, Tryd.ntmps3
    rcases Bool.eq_false_or_eq_true c1 with rfl | rfl
    · go_wp2_with (first
        | (go_at_call 8; refine (HN.out _).mono ?_; rintro e w' ⟨rfl, rfl⟩)
        | (go_at_call 9; refine (Error_any 1 1 _ hg).mono ?_; rintro e w1 ⟨rfl, hb1⟩))
      clear HN HO HC t1 t2 HT1 HT2
      go_loop [5, 10, 11] (fun e a i => ∃ k : Nat, k ≤ 33 ∧ i = .int .i64 k ∧ e = .int .i64 (mtE m k) ∧ a = .int .i64 (mtA m k)) (fun _ _ i => 33 - (intOf i).toNat)
      case atStart => exact ⟨0, Nat.zero_le _, rfl, by rw [(mt_0 m).1], by rw [(mt_0 m).2]⟩
      case round =>
        obtain ⟨k, hk, rfl, rfl, rfl⟩ := hrel
        by_cases hlt : k < 33
        · have hlt' : k ≤ 32 := by omega
          have hl2 : (k : Int) ≤ 32 := by omega
          by_cases heq : maskV k = m
          · have hb : (maskV k == m) = true := by simpa using heq
            have H := Lib.hid (mt_eq hlt' heq); clear heq
            go_wp2_with (go_at_call 7; refine (MaskOf_any k _ hlt').mono ?_; rintro e w' ⟨rfl, rfl⟩)
            refine ⟨⟨k + 1, by omega, by go_num, by rw [H.out.1], by rw [H.out.2]⟩, by simp [intOf]; omega⟩
          · have hb : (maskV k == m) = false := by simpa using heq
            have H := Lib.hid (mt_ne heq); clear heq
            go_wp2_with (go_at_call 7; refine (MaskOf_any k _ hlt').mono ?_; rintro e w' ⟨rfl, rfl⟩)
            refine ⟨⟨k + 1, by omega, by go_num, by rw [H.out.1], by rw [H.out.2]⟩, by simp [intOf]; omega⟩
        · have e : k = 33 := by omega
          subst e
          have hE := mt_end m
          have hg1 := hg.below hb1
          by_cases heq : maskV (maskL m) = m
          · rw [if_pos heq, if_pos heq] at hE
            have hL : ∀ w, Calls Tryd.prog 10 #[.int .u32 m] w fun e w' => e = .returned (.tuple #[.int .i64 (maskL m), .nilIface]) ∧ w = w' := fun w => by
              have := Len_any m w m0 m1
              rwa [if_pos heq] at this
            have HL := Lib.hid hL; clear hL
            rw [hE.1, hE.2]
            clear hE heq
            go_wp2_with (first
              | (go_at_call 10; refine (HL.out _).mono ?_; rintro e w' ⟨rfl, rfl⟩)
              | (go_at_call 9; refine (Error_any 0 0 _ hg1).mono ?_; rintro e w2 ⟨rfl, hb2⟩))
            go_ret
            exact ⟨by simp, hb1.trans (hb2.mono hb1.size)⟩
          · rw [if_neg heq, if_neg heq] at hE
            have hL : ∀ w, Calls Tryd.prog 10 #[.int .u32 m] w fun e w' => e = .returned (.tuple #[.int .i64 0, .iface 23 (.int .i64 3)]) ∧ w = w' := fun w => by
              have := Len_any m w m0 m1
              rwa [if_neg heq] at this
            have HL := Lib.hid hL; clear hL
            rw [hE.1, hE.2]
            clear hE heq
            go_wp2_with (first
              | (go_at_call 10; refine (HL.out _).mono ?_; rintro e w' ⟨rfl, rfl⟩)
              | (go_at_call 9; refine (Error_any 3 3 _ hg1).mono ?_; rintro e w2 ⟨rfl, hb2⟩))
            go_ret
            exact ⟨by simp, hb1.trans (hb2.mono hb1.size)⟩
    · rcases Bool.eq_false_or_eq_true c2 with rfl | rfl
      · go_wp2_with (first
          | (go_at_call 8; refine (HN.out _).mono ?_; rintro e w' ⟨rfl, rfl⟩)
          | (go_at_call 9; refine (Error_any 1 1 _ hg).mono ?_; rintro e w1 ⟨rfl, hb1⟩))
        clear HN HO HC t1 t2 HT1 HT2
        go_loop [5, 10, 11] (fun e a i => ∃ k : Nat, k ≤ 33 ∧ i = .int .i64 k ∧ e = .int .i64 (mtE m k) ∧ a = .int .i64 (mtA m k)) (fun _ _ i => 33 - (intOf i).toNat)
        case atStart => exact ⟨0, Nat.zero_le _, rfl, by rw [(mt_0 m).1], by rw [(mt_0 m).2]⟩
        case round =>
          obtain ⟨k, hk, rfl, rfl, rfl⟩ := hrel
          by_cases hlt : k < 33
          · have hlt' : k ≤ 32 := by omega
            have hl2 : (k : Int) ≤ 32 := by omega
            by_cases heq : maskV k = m
            · have hb : (maskV k == m) = true := by simpa using heq
              have H := Lib.hid (mt_eq hlt' heq); clear heq
              go_wp2_with (go_at_call 7; refine (MaskOf_any k _ hlt').mono ?_; rintro e w' ⟨rfl, rfl⟩)
              refine ⟨⟨k + 1, by omega, by go_num, by rw [H.out.1], by rw [H.out.2]⟩, by simp [intOf]; omega⟩
            · have hb : (maskV k == m) = false := by simpa using heq
              have H := Lib.hid (mt_ne heq); clear heq
              go_wp2_with (go_at_call 7; refine (MaskOf_any k _ hlt').mono ?_; rintro e w' ⟨rfl, rfl⟩)
              refine ⟨⟨k + 1, by omega, by go_num, by rw [H.out.1], by rw [H.out.2]⟩, by simp [intOf]; omega⟩
          · have e : k = 33 := by omega
            subst e
            have hE := mt_end m
            have hg1 := hg.below hb1
            by_cases heq : maskV (maskL m) = m
            · rw [if_pos heq, if_pos heq] at hE
              have hL : ∀ w, Calls Tryd.prog 10 #[.int .u32 m] w fun e w' => e = .returned (.tuple #[.int .i64 (maskL m), .nilIface]) ∧ w = w' := fun w => by
                have := Len_any m w m0 m1
                rwa [if_pos heq] at this
              have HL := Lib.hid hL; clear hL
              rw [hE.1, hE.2]
              clear hE heq
              go_wp2_with (first
                | (go_at_call 10; refine (HL.out _).mono ?_; rintro e w' ⟨rfl, rfl⟩)
                | (go_at_call 9; refine (Error_any 0 0 _ hg1).mono ?_; rintro e w2 ⟨rfl, hb2⟩))
              go_ret
              exact ⟨by simp, hb1.trans (hb2.mono hb1.size)⟩
            · rw [if_neg heq, if_neg heq] at hE
              have hL : ∀ w, Calls Tryd.prog 10 #[.int .u32 m] w fun e w' => e = .returned (.tuple #[.int .i64 0, .iface 23 (.int .i64 3)]) ∧ w = w' := fun w => by
                have := Len_any m w m0 m1
                rwa [if_neg heq] at this
              have HL := Lib.hid hL; clear hL
              rw [hE.1, hE.2]
              clear hE heq
              go_wp2_with (first
                | (go_at_call 10; refine (HL.out _).mono ?_; rintro e w' ⟨rfl, rfl⟩)
                | (go_at_call 9; refine (Error_any 3 3 _ hg1).mono ?_; rintro e w2 ⟨rfl, hb2⟩))
              go_ret
              exact ⟨by simp, hb1.trans (hb2.mono hb1.size)⟩
      · exact absurd HC.out (by decide)
  · have hO' := HO.out rfl
    have HO' := Lib.hid hO'; clear hO' HT1 HT2
    go_enter Tryd.func3, Tryd.ntmps3
    go_wp2_with (first
      | (go_at_call 7; refine (HO'.out _).mono ?_; rintro e w' ⟨rfl, rfl⟩)
      | (go_at_call 8; refine (HN.out _).mono ?_; rintro e w' ⟨rfl, rfl⟩)
      | (go_at_call 9; refine (Error_any 0 0 _ hg).mono ?_; rintro e w1 ⟨rfl, hb1⟩))
    clear HN HO' HO t1 t2
    go_loop [5, 10, 11] (fun e a i => ∃ k : Nat, k ≤ 33 ∧ i = .int .i64 k ∧ e = .int .i64 (mtE m k) ∧ a = .int .i64 (mtA m k)) (fun _ _ i => 33 - (intOf i).toNat)
    case atStart => exact ⟨0, Nat.zero_le _, rfl, by rw [(mt_0 m).1], by rw [(mt_0 m).2]⟩
    case round =>
      obtain ⟨k, hk, rfl, rfl, rfl⟩ := hrel
      by_cases hlt : k < 33
      · have hlt' : k ≤ 32 := by omega
        have hl2 : (k : Int) ≤ 32 := by omega
        by_cases heq : maskV k = m
        · have hb : (maskV k == m) = true := by simpa using heq
          have H := Lib.hid (mt_eq hlt' heq); clear heq
          go_wp2_with (go_at_call 7; refine (MaskOf_any k _ hlt').mono ?_; rintro e w' ⟨rfl, rfl⟩)
          refine ⟨⟨k + 1, by omega, by go_num, by rw [H.out.1], by rw [H.out.2]⟩, by simp [intOf]; omega⟩
        · have hb : (maskV k == m) = false := by simpa using heq
          have H := Lib.hid (mt_ne heq); clear heq
          go_wp2_with (go_at_call 7; refine (MaskOf_any k _ hlt').mono ?_; rintro e w' ⟨rfl, rfl⟩)
          refine ⟨⟨k + 1, by omega, by go_num, by rw [H.out.1], by rw [H.out.2]⟩, by simp [intOf]; omega⟩
      · have e : k = 33 := by omega
        subst e
        have hE := mt_end m
        have hg1 := hg.below hb1
        by_cases heq : maskV (maskL m) = m
        · rw [if_pos heq, if_pos heq] at hE
          have hL : ∀ w, Calls Tryd.prog 10 #[.int .u32 m] w fun e w' => e = .returned (.tuple #[.int .i64 (maskL m), .nilIface]) ∧ w = w' := fun w => by
            have := Len_any m w m0 m1
            rwa [if_pos heq] at this
          have HL := Lib.hid hL; clear hL
          rw [hE.1, hE.2]
          clear hE heq
          go_wp2_with (first
            | (go_at_call 10; refine (HL.out _).mono ?_; rintro e w' ⟨rfl, rfl⟩)
            | (go_at_call 9; refine (Error_any 0 0 _ hg1).mono ?_; rintro e w2 ⟨rfl, hb2⟩))
          go_ret
          exact ⟨by simp, hb1.trans (hb2.mono hb1.size)⟩
        · rw [if_neg heq, if_neg heq] at hE
          have hL : ∀ w, Calls Tryd.prog 10 #[.int .u32 m] w fun e w' => e = .returned (.tuple #[.int .i64 0, .iface 23 (.int .i64 3)]) ∧ w = w' := fun w => by
            have := Len_any m w m0 m1
            rwa [if_neg heq] at this
          have HL := Lib.hid hL; clear hL
          rw [hE.1, hE.2]
          clear hE heq
          go_wp2_with (first
            | (go_at_call 10; refine (HL.out _).mono ?_; rintro e w' ⟨rfl, rfl⟩)
            | (go_at_call 9; refine (Error_any 3 3 _ hg1).mono ?_; rintro e w2 ⟨rfl, hb2⟩))
          go_ret
          exact ⟨by simp, hb1.trans (hb2.mono hb1.size)⟩

theorem MaskTells_walk (w : World) (n : Int) (bn : -9223372036854775808 ≤ n ∧ n ≤ 9223372036854775807) (m : Int) (bm : 0 ≤ m ∧ m ≤ 4294967295) (hg : HErr w) :
    Calls Tryd.prog 3 #[.int .i64 n, .int .u32 m] w fun e w' => e = .returned (.bool true) ∧ Below w.heap.size w w' := by
  by_cases hin : 0 ≤ n ∧ n ≤ 32
  · obtain ⟨k, rfl⟩ := Int.eq_ofNat_of_zero_le hin.1
    refine MaskTells_core w hg k m bm.1 bm.2 0 (maskV k) false false (by simp) (by simp; omega) (.inr ⟨rfl, rfl, rfl⟩) (fun w => Mask_in k w (by omega)) (fun _ w => MaskOf_any k w (by omega))
  · refine MaskTells_core w hg n m bm.1 bm.2 1 0 _ _ rfl rfl (.inl ⟨rfl, rfl, ?_⟩) (fun w => Mask_out n w (by omega)) (fun h => absurd h (by decide))
    simp; omega
end Go.Proofs.YtimdnfakgobadaaDoor
