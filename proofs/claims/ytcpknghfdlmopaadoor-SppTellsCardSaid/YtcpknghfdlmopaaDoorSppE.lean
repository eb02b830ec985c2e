/- waywardensame.Ints and Rows; spp.Stable and spp.Best. -/
import Derived.Test.YtcpknghfdlmopaaDoorSppD
namespace Go.Proofs.YtcpknghfdlmopaaDoor
open Go.ChangeShapes Go.WideShapes Go.ChangeAt Go.RowKit
set_option linter.unusedVariables false

set_option maxHeartbeats 400000 in
theorem Ints_any {w : World} {ok ok' : Nat → Prop} {A A' : Option Addr} {n n' c c' : Nat} {l m : List Int} (hr : rdInts w ok [.slice A n c] l) (hr' : rdInts w ok' [.slice A' n' c'] m) :
    Calls Tryd.prog 8 #[.slice A n c, .slice A' n' c'] w fun e w' => e = .returned (.bool (l == m)) ∧ ∃ k, w' = w.drewN k := by
  obtain ⟨hn, hnc, hcm⟩ := hr.len
  obtain ⟨hn', hnc', hcm'⟩ := hr'.len
  have hnm : n ≤ 9223372036854775807 := by unfold maxLen at hcm; omega
  have hnm' : n' ≤ 9223372036854775807 := by unfold maxLen at hcm'; omega
  clear hcm hcm'
  by_cases hne : n = n'
  · subst hne
    have HN := Lib.hid hn
    have HN' := Lib.hid hn'
    clear hn hn'
    go_enter Tryd.func8, Tryd.ntmps8
    go_wp2
    go_loopw [5] (fun i wr => ∃ k : Nat, k ≤ n ∧ i = .int .i64 k ∧ l.take k = m.take k ∧ ∃ j, wr = w.drewN j) (fun i _ => n - (intOf i).toNat)
    case atStart => exact ⟨0, Nat.zero_le _, rfl, rfl, 0, rfl⟩
    case round =>
      obtain ⟨k, hk, rfl, heq, j, rfl⟩ := hrel
      have HEQ := Lib.hid heq; clear heq
      by_cases hlt : k < n
      · obtain ⟨b, o, x, rfl, _, HX, _, hc⟩ := hr.atI hlt
        obtain ⟨b', o', y, rfl, _, HY, _, hc'⟩ := hr'.atI hlt
        have i0 : (0 : Int) ≤ (k : Int) := by omega
        have i1 : (k : Int) < (n : Int) := by omega
        by_cases hxy : x = y
        · have ht : (x != y) = false := by simpa using hxy
          have HXY := Lib.hid hxy; clear hxy
          go_wp2
          go_quiet (fail)
          go_wp2
          exact ⟨⟨k + 1, by omega, by go_num, by rw [take_succ_of HX.out, take_succ_of HY.out, HEQ.out, HXY.out], _, rfl⟩, by simp [intOf]; omega⟩
        · have ht : (x != y) = true := by simpa using hxy
          have hlm : (l == m) = false := by
            rw [beq_eq_false_iff_ne]; intro h; subst h
            have e1 := HX.out; have e2 := HY.out
            rw [e1] at e2; injection e2 with e2; exact hxy e2
          have HLM := Lib.hid hlm
          clear hxy hlm
          go_wp2
          go_quiet (fail)
          go_wp2
          go_ret
          exact ⟨ret_bool HLM.out.symm, _, World.drewN_drewN _ _ _⟩
      · have e : l = m := by
          have h := HEQ.out
          rw [List.take_of_length_le (by have := HN.out; omega), List.take_of_length_le (by have := HN'.out; omega)] at h
          exact h
        have hlm : (l == m) = true := by rw [e]; simp
        have HLM := Lib.hid hlm
        clear e hlm
        go_wp2
        go_ret
        exact ⟨ret_bool HLM.out.symm, _, rfl⟩
  · have hlm : (l == m) = false := by
      rw [beq_eq_false_iff_ne]; intro h; subst h; omega
    have HLM := Lib.hid hlm
    have ht : ((n : Int) != (n' : Int)) = true := by simp; omega
    clear hlm hn hn' hne
    go_enter Tryd.func8, Tryd.ntmps8
    go_wp2
    go_ret
    exact ⟨ret_bool HLM.out.symm, 0, rfl⟩
theorem Ints_v {w : World} {u v : Value} {l m : List Int} (hu : R1 rdInts w u l) (hv : R1 rdInts w v m) :
    Calls Tryd.prog 8 #[u, v] w fun e w' => e = .returned (.bool (l == m)) ∧ ∃ k, w' = w.drewN k := by
  obtain ⟨A, c, rfl⟩ := hu.form
  obtain ⟨A', c', rfl⟩ := hv.form
  exact Ints_any hu hv
theorem Equal_v {w : World} {u v : Value} {l m : List Int} (hu : R1 rdInts w u l) (hv : R1 rdInts w v m) :
    Calls Tryd.prog 18 #[u, v] w fun e w' => e = .returned (.bool (l == m)) ∧ ∃ k, w' = w.drewN k := by
  obtain ⟨A, c, rfl⟩ := hu.form
  obtain ⟨A', c', rfl⟩ := hv.form
  exact Equal_any hu hv

set_option maxHeartbeats 400000 in
theorem Rows_any {w : World} {ok ok' : Nat → Prop} {A A' : Option Addr} {n n' c c' : Nat} {l m : List (List Int)} (hr : rdInts2 w ok [.slice A n c] l) (hr' : rdInts2 w ok' [.slice A' n' c'] m) :
    Calls Tryd.prog 13 #[.slice A n c, .slice A' n' c'] w fun e w' => e = .returned (.bool (l == m)) ∧ ∃ k, w' = w.drewN k := by
  obtain ⟨hn, hnc, hcm⟩ := hr.len
  obtain ⟨hn', hnc', hcm'⟩ := hr'.len
  have hnm : n ≤ 9223372036854775807 := by unfold maxLen at hcm; omega
  have hnm' : n' ≤ 9223372036854775807 := by unfold maxLen at hcm'; omega
  clear hcm hcm'
  by_cases hne : n = n'
  · subst hne
    have HN := Lib.hid hn
    have HN' := Lib.hid hn'
    clear hn hn'
    go_enter Tryd.func13, Tryd.ntmps13
    go_wp2
    go_loopw [5] (fun i wr => ∃ k : Nat, k ≤ n ∧ i = .int .i64 k ∧ l.take k = m.take k ∧ ∃ j, wr = w.drewN j) (fun i _ => n - (intOf i).toNat)
    case atStart => exact ⟨0, Nat.zero_le _, rfl, rfl, 0, rfl⟩
    case round =>
      obtain ⟨k, hk, rfl, heq, j, rfl⟩ := hrel
      have HEQ := Lib.hid heq; clear heq
      by_cases hlt : k < n
      · obtain ⟨b, o, x, A2, c2, rfl, _, HX, hx, hc⟩ := hr.atS hlt
        obtain ⟨b', o', y, A3, c3, rfl, _, HY, hy, hc'⟩ := hr'.atS hlt
        have i0 : (0 : Int) ≤ (k : Int) := by omega
        have i1 : (k : Int) < (n : Int) := by omega
        cases hxy : (x == y)
        · have hlm : (l == m) = false := by
            rw [beq_eq_false_iff_ne]; intro h; subst h
            have e1 := HX.out; have e2 := HY.out
            rw [e1] at e2; injection e2 with e2; rw [e2] at hxy; simp at hxy
          have HLM := Lib.hid hlm
          have HXY := Lib.hid hxy
          clear hxy hlm
          go_wp2
          go_quiet ((go_at_call 8; exact quiet_add ((Ints_any (RdLaw.drewN hx _) (RdLaw.drewN hy _)).mono fun _ _ ⟨h1, h2⟩ => ⟨by rw [h1, HXY.out], h2⟩)))
          go_wp2
          go_ret
          exact ⟨ret_bool HLM.out.symm, _, rfl⟩
        · have HXY := Lib.hid hxy
          have HE : Hid (x = y) := Lib.hid (by simpa using hxy)
          clear hxy
          go_wp2
          go_quiet ((go_at_call 8; exact quiet_add ((Ints_any (RdLaw.drewN hx _) (RdLaw.drewN hy _)).mono fun _ _ ⟨h1, h2⟩ => ⟨by rw [h1, HXY.out], h2⟩)))
          go_wp2
          exact ⟨⟨k + 1, by omega, by go_num, by rw [take_succ_of HX.out, take_succ_of HY.out, HEQ.out, HE.out], _, rfl⟩, by simp [intOf]; omega⟩
      · have e : l = m := by
          have h := HEQ.out
          rw [List.take_of_length_le (by have := HN.out; omega), List.take_of_length_le (by have := HN'.out; omega)] at h
          exact h
        have hlm : (l == m) = true := by rw [e]; simp
        have HLM := Lib.hid hlm
        clear e hlm
        go_wp2
        go_ret
        exact ⟨ret_bool HLM.out.symm, _, rfl⟩
  · have hlm : (l == m) = false := by
      rw [beq_eq_false_iff_ne]; intro h; subst h; omega
    have HLM := Lib.hid hlm
    have ht : ((n : Int) != (n' : Int)) = true := by simp; omega
    clear hlm hn hn' hne
    go_enter Tryd.func13, Tryd.ntmps13
    go_wp2
    go_ret
    exact ⟨ret_bool HLM.out.symm, 0, rfl⟩
theorem Rows_v {w : World} {u v : Value} {l m : List (List Int)} (hu : R1 rdInts2 w u l) (hv : R1 rdInts2 w v m) :
    Calls Tryd.prog 13 #[u, v] w fun e w' => e = .returned (.bool (l == m)) ∧ ∃ k, w' = w.drewN k := by
  obtain ⟨A, c, rfl⟩ := hu.form
  obtain ⟨A', c', rfl⟩ := hv.form
  exact Rows_any hu hv
end Go.Proofs.YtcpknghfdlmopaaDoor
