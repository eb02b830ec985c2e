/- waywardensame.Nets. -/
import Derived.Test.YtplojnlmofbneaaDoorOwnN
import Derived.BigQuiet
namespace Go.Proofs.YtplojnlmofbneaaDoor
open Go.ChangeShapes Go.WideShapes Go.ChangeAt Go.RowKit
set_option linter.unusedVariables false
theorem takeN_succ {α : Type} {l : List α} {k : Nat} {x : α} (h : l[k]? = some x) : l.take (k + 1) = l.take k ++ [x] := by rw [List.take_add_one, h]; rfl
set_option maxHeartbeats 1000000 in
theorem Nets_any {w : World} {ok ok' : Nat → Prop} {A A' : Option Addr} {n n' c c' : Nat} {l m : List (Int × Int)} {r : Bool} (hr : rdNets w ok [.slice A n c] l) (hr' : rdNets w ok' [.slice A' n' c'] m) (hR : decide (l = m) = r) :
    Calls Tryd.prog 22 #[.slice A n c, .slice A' n' c'] w fun e w' => e = .returned (.bool r) ∧ ∃ k, w' = w.drewN k := by
  obtain ⟨hn, hnc, hcm⟩ := hr.len
  obtain ⟨hn', hnc', hcm'⟩ := hr'.len
  have hnm : n ≤ 9223372036854775807 := by unfold maxLen at hcm; omega
  have hnm' : n' ≤ 9223372036854775807 := by unfold maxLen at hcm'; omega
  clear hcm hcm'
  by_cases hne : n = n'
  · subst hne
    have HN := Lib.hid hn
    have HN' := Lib.hid hn'
    have HR := Lib.hid hR
    clear hn hn' hR
    go_enter Tryd.func22, Tryd.ntmps22
    go_wp2
    go_loopw [5] (fun i wr => ∃ k : Nat, k ≤ n ∧ i = .int .i64 k ∧ Hid (l.take k = m.take k) ∧ ∃ j, wr = w.drewN j) (fun i _ => n - (intOf i).toNat)
    case atStart => exact ⟨0, Nat.zero_le _, rfl, Lib.hid rfl, 0, rfl⟩
    case round =>
      obtain ⟨k, hk, rfl, HEQ, j, rfl⟩ := hrel
      by_cases hlt : k < n
      · obtain ⟨b, o, ⟨x, x'⟩, rfl, _, HX, _, c0, c1⟩ := RdSlice.atN hr hlt
        obtain ⟨b', o', ⟨y, y'⟩, rfl, _, HY, _, d0, d1⟩ := RdSlice.atN hr' hlt
        have i0 : (0 : Int) ≤ (k : Int) := by omega
        have i1 : (k : Int) < (n : Int) := by omega
        by_cases h1 : x = y
        · subst h1
          by_cases h2 : x' = y'
          · subst h2
            go_wp2
            go_quiet (fail)
            go_wp2
            go_roundw
            case rel => exact ⟨k + 1, by omega, by go_num, Lib.hid (by rw [takeN_succ HX.out, takeN_succ HY.out, HEQ.out]), _, (by first | rfl | exact World.drewN_drewN _ _ _)⟩
            case measure => simp [intOf]; omega
          · have t1 : (x' == y') = false := by simpa using h2
            have HLM : Hid (r = false) := Lib.hid (by
              rw [← HR.out]; simp; intro h; subst h
              have e1 := HX.out; rw [HY.out] at e1
              simp at e1; exact h2 e1.symm)
            clear h2
            go_wp2
            go_quiet (fail)
            go_wp2
            go_ret
            exact ⟨ret_bool HLM.out.symm, _, World.drewN_drewN _ _ _⟩
        · have t1 : (x == y) = false := by simpa using h1
          have HLM : Hid (r = false) := Lib.hid (by
            rw [← HR.out]; simp; intro h; subst h
            have e1 := HX.out; rw [HY.out] at e1
            simp at e1; exact h1 e1.1.symm)
          clear h1
          go_wp2
          go_quiet (fail)
          go_wp2
          go_ret
          exact ⟨ret_bool HLM.out.symm, _, World.drewN_drewN _ _ _⟩
      · have e : l = m := by
          have h := HEQ.out
          rw [List.take_of_length_le (by have := HN.out; omega), List.take_of_length_le (by have := HN'.out; omega)] at h
          exact h
        have HLM : Hid (r = true) := Lib.hid (by rw [← HR.out, e]; simp)
        clear e
        go_wp2
        go_ret
        exact ⟨ret_bool HLM.out.symm, _, rfl⟩
  · have HLM : Hid (r = false) := Lib.hid (by rw [← hR]; simp; intro h; subst h; omega)
    have ht : ((n : Int) != (n' : Int)) = true := by simp; omega
    clear hn hn' hne hR
    go_enter Tryd.func22, Tryd.ntmps22
    go_wp2
    go_ret
    exact ⟨ret_bool HLM.out.symm, 0, rfl⟩
end Go.Proofs.YtplojnlmofbneaaDoor
