/- Lists that are the same: waywardensame's Bytes, Entries and Message say so. -/
import Derived.Test.YtimdnfakgobadaaDoorWireE
namespace Go.Proofs.YtimdnfakgobadaaDoor
open Go.ChangeShapes Go.WideShapes Go.ChangeAt Go.RowKit
set_option linter.unusedVariables false
set_option linter.unusedSimpArgs false

set_option maxHeartbeats 400000 in
theorem Bytes_eq {w : World} {A A' : Option Addr} {n n' c c' : Nat} {l : List Int} (hr : R1 rdBytes w (.slice A n c) l) (hr' : R1 rdBytes w (.slice A' n' c') l) :
    Calls Tryd.prog 16 #[.slice A n c, .slice A' n' c'] w fun e w' => e = .returned (.bool true) ∧ ∃ k, w' = w.drewN k := by
  obtain ⟨hn, hnc, hcm⟩ := RdSlice.len hr
  have hnm : n ≤ 9223372036854775807 := by unfold maxLen at hcm; omega
  obtain ⟨hn', hnc', _⟩ := RdSlice.len hr'
  have hnn : n' = n := by omega
  subst hnn
  have t0 : ((n' : Int) != (n' : Int)) = false := by simp
  clear hn hcm hn'
  go_enter Tryd.func16, Tryd.ntmps16
  go_wp2
  go_loopw [5] (fun i wr => ∃ k : Nat, k ≤ n' ∧ i = .int .i64 k ∧ ∃ j, wr = w.drewN j) (fun i _ => n' - (intOf i).toNat)
  case atStart => exact ⟨0, Nat.zero_le _, rfl, 0, rfl⟩
  case round =>
    obtain ⟨k, hk, rfl, j, rfl⟩ := hrel
    by_cases hlt : k < n'
    · obtain ⟨b, o, x, rfl, _, HX, _, hc⟩ := RdSlice.atI hr hlt
      obtain ⟨b', o', y, rfl, _, HY, _, hc'⟩ := RdSlice.atI hr' hlt
      have hxy : y = x := by have h := HX.out; rw [HY.out] at h; injection h
      subst hxy
      have i0 : (0 : Int) ≤ (k : Int) := by omega
      have i1 : (k : Int) < (n' : Int) := by omega
      go_wp2
      go_quiet (fail)
      go_wp2
      exact ⟨⟨k + 1, by omega, by go_num, _, (by first | rfl | exact World.drewN_drewN _ _ _)⟩, by simp [intOf]; omega⟩
    · go_wp2
      go_ret
      exact ⟨rfl, _, rfl⟩
set_option maxHeartbeats 800000 in
theorem Entries_eq {w : World} {A A' : Option Addr} {n n' c c' : Nat} {l : List Entry} (hr : R1 rdEntries w (.slice A n c) l) (hr' : R1 rdEntries w (.slice A' n' c') l) :
    Calls Tryd.prog 20 #[.slice A n c, .slice A' n' c'] w fun e w' => e = .returned (.bool true) ∧ ∃ k, w' = w.drewN k := by
  obtain ⟨hn, hnc, hcm⟩ := RdSlice.len hr
  have hnm : n ≤ 9223372036854775807 := by unfold maxLen at hcm; omega
  obtain ⟨hn', hnc', _⟩ := RdSlice.len hr'
  have hnn : n' = n := by omega
  subst hnn
  have t0 : ((n' : Int) != (n' : Int)) = false := by simp
  clear hn hcm hn'
  go_enter Tryd.func20, Tryd.ntmps20
  go_wp2
  go_loopw [5] (fun i wr => ∃ k : Nat, k ≤ n' ∧ i = .int .i64 k ∧ ∃ j, wr = w.drewN j) (fun i _ => n' - (intOf i).toNat)
  case atStart => exact ⟨0, Nat.zero_le _, rfl, 0, rfl⟩
  case round =>
    obtain ⟨k, hk, rfl, j, rfl⟩ := hrel
    by_cases hlt : k < n'
    · obtain ⟨b, o, a, ln, t, hp, m, rfl, _, HX, _, c0, c1, c2, c3, c4⟩ := RdSlice.atE hr hlt
      obtain ⟨b', o', a', ln', t', hp', m', rfl, _, HY, _, d0, d1, d2, d3, d4⟩ := RdSlice.atE hr' hlt
      have hxy := HX.out
      rw [HY.out] at hxy
      simp only [Option.some.injEq, Prod.mk.injEq] at hxy
      obtain ⟨⟨rfl, rfl⟩, rfl, rfl, rfl⟩ := hxy
      have i0 : (0 : Int) ≤ (k : Int) := by omega
      have i1 : (k : Int) < (n' : Int) := by omega
      go_wp2
      go_quiet (fail)
      go_wp2
      exact ⟨⟨k + 1, by omega, by go_num, _, (by first | rfl | exact World.drewN_drewN _ _ _)⟩, by simp [intOf]; omega⟩
    · go_wp2
      go_ret
      exact ⟨rfl, _, rfl⟩
set_option maxHeartbeats 400000 in
theorem Message_eq {w : World} {q : Bool} {v v' : Value} {l : List Entry} (hr : R1 rdEntries w v l) (hr' : R1 rdEntries w v' l) :
    Calls Tryd.prog 19 #[.agg #[.bool q, v], .agg #[.bool q, v']] w fun e w' => e = .returned (.bool true) ∧ Below w.heap.size w w' := by
  obtain ⟨A, c, rfl⟩ := R1.form hr
  obtain ⟨A', c', rfl⟩ := R1.form hr'
  go_enter Tryd.func19, Tryd.ntmps19
  cases q
  all_goals
    go_wp2_with (go_at_call 20; refine (Entries_eq (R1.alloc (R1.alloc hr _) _) (R1.alloc (R1.alloc hr' _) _)).mono ?_; rintro e w5 ⟨rfl, k, rfl⟩)
    go_ret
    exact ⟨rfl, below_drewN (((Below.refl _ _).alloc (Nat.le_refl _) _).alloc (by simp) _) _⟩
end Go.Proofs.YtimdnfakgobadaaDoor
