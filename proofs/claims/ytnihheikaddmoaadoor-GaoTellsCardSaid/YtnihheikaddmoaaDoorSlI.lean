/- slices.Index, Contains, Equal, Clone at integers. -/
import Derived.Test.YtnihheikaddmoaaDoorTypes
import Derived.Test.YtnihheikaddmoaaDoorInts
namespace Go.Proofs.YtnihheikaddmoaaDoor
open Go.ChangeShapes Go.WideShapes Go.ChangeAt Go.RowKit
set_option linter.unusedVariables false

theorem i64_max : (9223372036854775807 : Nat) = maxLen := rfl
theorem wf64 {x : Int} (h : (Lit.int .i64 x).wf = true) : -9223372036854775808 ≤ x ∧ x ≤ 9223372036854775807 := bounds_i64 h

/-- is a number among some -/
def inB (l : List Int) (x : Int) : Bool := l.any (· == x)
theorem inB_take {l : List Int} {k : Nat} {y x : Int} (h : l[k]? = some y) : inB (l.take (k + 1)) x = (inB (l.take k) x || y == x) := by
  rw [take_succ_of h]; simp [inB]
theorem inB_true {l : List Int} {k : Nat} {y x : Int} (h : l[k]? = some y) (hy : y = x) : inB l x = true := by
  subst hy; exact List.any_eq_true.2 ⟨y, List.mem_of_getElem? h, by simp⟩
theorem inB_iff {l : List Int} {x : Int} : inB l x = true ↔ x ∈ l := by
  unfold inB; rw [List.any_eq_true]; constructor
  · rintro ⟨y, hy, h⟩; simp at h; subst h; exact hy
  · intro h; exact ⟨x, h, by simp⟩

set_option maxHeartbeats 400000 in
theorem Index_any {w : World} {ok : Nat → Prop} {A : Option Addr} {n c : Nat} {l : List Int} {x : Int} (hr : rdInts w ok [.slice A n c] l) (hx : -9223372036854775808 ≤ x ∧ x ≤ 9223372036854775807) :
    Calls Tryd.prog 42 #[.slice A n c, .int .i64 x] w fun e w' => ∃ r : Int, e = .returned (.int .i64 r) ∧ Hid (decide (0 ≤ r) = inB l x) ∧ -1 ≤ r ∧ r ≤ 9223372036854775807 ∧ w = w' := by
  obtain ⟨hn, hnc, hcm⟩ := hr.len
  have hnm : n ≤ 9223372036854775807 := by unfold maxLen at hcm; omega
  have HN := Lib.hid hn
  clear hn hcm
  go_enter Tryd.func42, Tryd.ntmps42
  go_wp2
  go_loop [8] (fun i => ∃ k : Nat, k ≤ n ∧ i = .int .i64 k ∧ inB (l.take k) x = false) (fun i => n - (intOf i).toNat)
  case atStart => exact ⟨0, Nat.zero_le _, rfl, rfl⟩
  case round =>
    obtain ⟨k, hk, rfl, hno⟩ := hrel
    have HNO := Lib.hid hno; clear hno
    by_cases hlt : k < n
    · obtain ⟨b, o, y, rfl, _, HY, _, hc⟩ := hr.atI hlt
      by_cases hyx : x = y
      · have ht : (x == y) = true := by simpa using hyx
        have hin := Lib.hid (inB_true HY.out hyx.symm)
        clear hyx
        go_wp2
        go_ret
        exact ⟨k, rfl, Lib.hid (by rw [hin.out]; simp), by omega, by omega, rfl⟩
      · have ht : (x == y) = false := by simpa using hyx
        have hin := Lib.hid (inB_take (x := x) HY.out)
        have hyx' : (y == x) = false := by simp; omega
        have HYX := Lib.hid hyx'
        clear hyx hyx'
        go_wp2
        exact ⟨⟨k + 1, by omega, by go_num, by rw [hin.out, HNO.out, HYX.out]; rfl⟩, by simp [intOf]; omega⟩
    · have e : l.take k = l := List.take_of_length_le (by have := HN.out; omega)
      go_wp2
      go_ret
      have := HNO.out
      rw [e] at this
      exact ⟨-1, rfl, Lib.hid (by rw [this]; rfl), by omega, by omega, rfl⟩

set_option maxHeartbeats 400000 in
theorem Contains_any {w : World} {ok : Nat → Prop} {A : Option Addr} {n c : Nat} {l : List Int} {x : Int} (hr : rdInts w ok [.slice A n c] l) (hx : -9223372036854775808 ≤ x ∧ x ≤ 9223372036854775807) :
    Calls Tryd.prog 34 #[.slice A n c, .int .i64 x] w fun e w' => e = .returned (.bool (inB l x)) ∧ w = w' := by
  go_enter Tryd.func34, Tryd.ntmps34
  go_wp2_with (go_at_call 42; refine (Index_any hr hx).mono ?_; rintro e w' ⟨r, rfl, HR, hr0, hr1, rfl⟩)
  go_ret
  exact ⟨ret_bool HR.out, rfl⟩

set_option maxHeartbeats 400000 in
theorem Equal_any {w : World} {ok ok' : Nat → Prop} {A A' : Option Addr} {n n' c c' : Nat} {l m : List Int} (hr : rdInts w ok [.slice A n c] l) (hr' : rdInts w ok' [.slice A' n' c'] m) :
    Calls Tryd.prog 25 #[.slice A n c, .slice A' n' c'] w fun e w' => e = .returned (.bool (l == m)) ∧ ∃ k, w' = w.drewN k := by
  obtain ⟨hn, hnc, hcm⟩ := hr.len
  obtain ⟨hn', hnc', hcm'⟩ := hr'.len
  have hnm : n ≤ 9223372036854775807 := by unfold maxLen at hcm; omega
  have hnm' : n' ≤ 9223372036854775807 := by unfold maxLen at hcm'; omega
  clear hcm hcm'
  by_cases hne : n = n'
  · subst hne
    have HN := Lib.hid hn
    have HN' := Lib.hid hn'
    clear hn hn'
    go_enter Tryd.func25, Tryd.ntmps25
    go_wp2
    go_loopw [13] (fun i wr => ∃ k : Nat, k ≤ n ∧ i = .int .i64 k ∧ l.take k = m.take k ∧ ∃ j, wr = w.drewN j) (fun i _ => n - (intOf i).toNat)
    case atStart => exact ⟨0, Nat.zero_le _, rfl, rfl, 0, rfl⟩
    case round =>
      obtain ⟨k, hk, rfl, heq, j, rfl⟩ := hrel
      have HEQ := Lib.hid heq; clear heq
      by_cases hlt : k < n
      · obtain ⟨b, o, x, rfl, _, HX, _, hc⟩ := hr.atI hlt
        obtain ⟨b', o', y, rfl, _, HY, _, hc'⟩ := hr'.atI hlt
        have i0 : (0 : Int) ≤ (k : Int) := by omega
        have i1 : (k : Int) < (n : Int) := by omega
        by_cases hxy : x = y
        · have ht : (x != y) = false := by simpa using hxy
          have HXY := Lib.hid hxy; clear hxy
          go_wp2
          go_quiet (fail)
          go_wp2
          exact ⟨⟨k + 1, by omega, by go_num, by rw [take_succ_of HX.out, take_succ_of HY.out, HEQ.out, HXY.out], _, rfl⟩, by simp [intOf]; omega⟩
        · have ht : (x != y) = true := by simpa using hxy
          have hlm : (l == m) = false := by
            rw [beq_eq_false_iff_ne]; intro h; subst h
            have e1 := HX.out; have e2 := HY.out
            rw [e1] at e2; injection e2 with e2; exact hxy e2
          have HLM := Lib.hid hlm
          clear hxy hlm
          go_wp2
          go_quiet (fail)
          go_wp2
          go_ret
          exact ⟨ret_bool HLM.out.symm, _, World.drewN_drewN _ _ _⟩
      · have e : l = m := by
          have h := HEQ.out
          rw [List.take_of_length_le (by have := HN.out; omega), List.take_of_length_le (by have := HN'.out; omega)] at h
          exact h
        have hlm : (l == m) = true := by rw [e]; simp
        have HLM := Lib.hid hlm
        clear e hlm
        go_wp2
        go_ret
        exact ⟨ret_bool HLM.out.symm, _, rfl⟩
  · have hlm : (l == m) = false := by
      rw [beq_eq_false_iff_ne]; intro h; subst h; omega
    have HLM := Lib.hid hlm
    have ht : ((n : Int) != (n' : Int)) = true := by simp; omega
    clear hlm hn hn' hne
    go_enter Tryd.func25, Tryd.ntmps25
    go_wp2
    go_ret
    exact ⟨ret_bool HLM.out.symm, 0, rfl⟩

theorem info_int : (Tryd.prog.info? 3).map (fun i => (i.zero, i.size, i.bytes)) = some (some (.int .i64 0), 1, 8) := by kernel_rfl
theorem reads_ints {w : World} {ok : Nat → Prop} {A : Option Addr} {n c : Nat} {l : List Int} (hr : rdInts w ok [.slice A n c] l) (hok : ∀ b, ok b → b < w.heap.size) : Reads w w.heap.size 1 A n (l.map (Value.int .i64)) := by
  obtain ⟨hn, _, _⟩ := hr.len
  refine ⟨by simp; omega, fun h0 => ?_⟩
  obtain ⟨b, o, x, rfl, hb, _⟩ := hr.atI h0
  refine ⟨⟨b, o, none⟩, rfl, hok b hb, fun j u hu => ?_⟩
  have hj : j < n := by
    rcases Nat.lt_or_ge j n with h | h
    · exact h
    · rw [List.getElem?_eq_none (by simp; omega)] at hu; cases hu
  obtain ⟨b', o', y, e, _, HY, _, hc⟩ := hr.atI hj
  simp only [Option.some.injEq, Addr.mk.injEq, and_true] at e
  obtain ⟨rfl, rfl⟩ := e
  rw [addr_add, hc]
  rw [List.getElem?_map, HY.out] at hu
  exact hu

theorem ints_wf {w : World} {ok : Nat → Prop} {A : Option Addr} {n c : Nat} {l : List Int} (hr : rdInts w ok [.slice A n c] l) : ∀ x ∈ l, (Lit.int .i64 x).wf = true := by
  intro x hx
  obtain ⟨hn, _, _⟩ := hr.len
  obtain ⟨i, hi, rfl⟩ := List.getElem_of_mem hx
  obtain ⟨_, _, y, _, _, HY, hw, _⟩ := hr.atI (i := i) (by omega)
  rw [List.getElem?_eq_getElem hi] at HY
  have := HY.out
  injection this with this
  rw [this]; exact hw
end Go.Proofs.YtnihheikaddmoaaDoor
