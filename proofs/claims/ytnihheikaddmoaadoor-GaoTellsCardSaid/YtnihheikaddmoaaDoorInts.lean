/- waywardensame.Ints; reading one integer out of a slice. -/
import Derived.Test.YtnihheikaddmoaaDoorOwnI
import Derived.Test.YtnihheikaddmoaaDoorTypes
import Derived.BigQuiet
namespace Go.Proofs.YtnihheikaddmoaaDoor
open Go.ChangeShapes Go.WideShapes Go.ChangeAt Go.RowKit
set_option linter.unusedVariables false
theorem take_succ_of {α : Type} {l : List α} {k : Nat} {x : α} (h : l[k]? = some x) : l.take (k + 1) = l.take k ++ [x] := by rw [List.take_add_one, h]; rfl
theorem drop_of {α : Type} {l : List α} {k : Nat} {x : α} (h : l[k]? = some x) : l.drop k = x :: l.drop (k + 1) := by
  obtain ⟨h1, h2⟩ := List.getElem?_eq_some_iff.1 h
  rw [List.drop_eq_getElem_cons h1, h2]
/-- a slice of integers that is known to lie somewhere: what its cells hold -/
theorem RdSlice.cellI {k : IntKind} {w : World} {ok : Nat → Prop} {b o n c : Nat} {xs : List Int} (h : RdSlice 1 (rdInt k) w ok [.slice (some ⟨b, o, none⟩) n c] xs) {i : Nat} {x : Int} (hx : xs[i]? = some x) : w.cell? ⟨b, o + i, none⟩ = some (.int k x) := by
  have hi : i < n := by have := (List.getElem?_eq_some_iff.1 hx).1; have := h.len.1; omega
  obtain ⟨b', o', y, e, _, HY, _, hc⟩ := h.atI hi
  simp only [Option.some.injEq, Addr.mk.injEq, and_true] at e
  obtain ⟨rfl, rfl⟩ := e
  have := HY.out
  rw [hx] at this
  injection this with this
  rw [this]; exact hc
theorem RdSlice.where_ {k : IntKind} {w : World} {ok : Nat → Prop} {A : Option Addr} {n c : Nat} {xs : List Int} (h : RdSlice 1 (rdInt k) w ok [.slice A n c] xs) (hn : 0 < n) : ∃ b o, A = some ⟨b, o, none⟩ ∧ ok b := by
  obtain ⟨b, o, y, e, hb, _⟩ := h.atI hn
  exact ⟨b, o, e, hb⟩
set_option maxHeartbeats 400000 in
theorem Ints_any {w : World} {ok ok' : Nat → Prop} {A A' : Option Addr} {n n' c c' : Nat} {l m : List Int} (hr : rdInts w ok [.slice A n c] l) (hr' : rdInts w ok' [.slice A' n' c'] m) :
    Calls Tryd.prog 36 #[.slice A n c, .slice A' n' c'] w fun e w' => e = .returned (.bool (l == m)) ∧ ∃ k, w' = w.drewN k := by
  obtain ⟨hn, hnc, hcm⟩ := hr.len
  obtain ⟨hn', hnc', hcm'⟩ := hr'.len
  have hnm : n ≤ 9223372036854775807 := by unfold maxLen at hcm; omega
  have hnm' : n' ≤ 9223372036854775807 := by unfold maxLen at hcm'; omega
  clear hcm hcm'
  by_cases hne : n = n'
  · subst hne
    have HN := Lib.hid hn
    have HN' := Lib.hid hn'
    clear hn hn'
    go_enter Tryd.func36, Tryd.ntmps36
    go_wp2
    go_loopw [5] (fun i wr => ∃ k : Nat, k ≤ n ∧ i = .int .i64 k ∧ l.take k = m.take k ∧ ∃ j, wr = w.drewN j) (fun i _ => n - (intOf i).toNat)
    case atStart => exact ⟨0, Nat.zero_le _, rfl, rfl, 0, rfl⟩
    case round =>
      obtain ⟨k, hk, rfl, heq, j, rfl⟩ := hrel
      have HEQ := Lib.hid heq; clear heq
      by_cases hlt : k < n
      · obtain ⟨b, o, x, rfl, _, HX, _, hc⟩ := hr.atI hlt
        obtain ⟨b', o', y, rfl, _, HY, _, hc'⟩ := hr'.atI hlt
        have i0 : (0 : Int) ≤ (k : Int) := by omega
        have i1 : (k : Int) < (n : Int) := by omega
        by_cases hxy : x = y
        · have ht : (x != y) = false := by simpa using hxy
          have HXY := Lib.hid hxy; clear hxy
          go_wp2
          go_quiet (fail)
          go_wp2
          exact ⟨⟨k + 1, by omega, by go_num, by rw [take_succ_of HX.out, take_succ_of HY.out, HEQ.out, HXY.out], _, rfl⟩, by simp [intOf]; omega⟩
        · have ht : (x != y) = true := by simpa using hxy
          have hlm : (l == m) = false := by
            rw [beq_eq_false_iff_ne]; intro h; subst h
            have e1 := HX.out; have e2 := HY.out
            rw [e1] at e2; injection e2 with e2; exact hxy e2
          have HLM := Lib.hid hlm
          clear hxy hlm
          go_wp2
          go_quiet (fail)
          go_wp2
          go_ret
          exact ⟨ret_bool HLM.out.symm, _, World.drewN_drewN _ _ _⟩
      · have e : l = m := by
          have h := HEQ.out
          rw [List.take_of_length_le (by have := HN.out; omega), List.take_of_length_le (by have := HN'.out; omega)] at h
          exact h
        have hlm : (l == m) = true := by rw [e]; simp
        have HLM := Lib.hid hlm
        clear e hlm
        go_wp2
        go_ret
        exact ⟨ret_bool HLM.out.symm, _, rfl⟩
  · have hlm : (l == m) = false := by
      rw [beq_eq_false_iff_ne]; intro h; subst h; omega
    have HLM := Lib.hid hlm
    have ht : ((n : Int) != (n' : Int)) = true := by simp; omega
    clear hlm hn hn' hne
    go_enter Tryd.func36, Tryd.ntmps36
    go_wp2
    go_ret
    exact ⟨ret_bool HLM.out.symm, 0, rfl⟩
theorem Ints_v {w : World} {u v : Value} {l m : List Int} (hu : R1 rdInts w u l) (hv : R1 rdInts w v m) :
    Calls Tryd.prog 36 #[u, v] w fun e w' => e = .returned (.bool (l == m)) ∧ ∃ k, w' = w.drewN k := by
  obtain ⟨A, c, rfl⟩ := hu.form
  obtain ⟨A', c', rfl⟩ := hv.form
  exact Ints_any hu hv
end Go.Proofs.YtnihheikaddmoaaDoor
