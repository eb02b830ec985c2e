/- The reference's tables: Places. -/
import Derived.Test.YtplojnlmofbneaaDoorTrieK
namespace Go.Proofs.YtplojnlmofbneaaDoor
open Go.ChangeShapes Go.WideShapes Go.ChangeAt Go.RowKit
set_option linter.unusedVariables false
set_option linter.unusedSimpArgs false
/-- the place of the first one that is x, counted from i; -1: none is -/
def placeI (x : Nt) : List Nt → Int → Int
  | [], _ => -1
  | y :: r, i => if y = x then i else placeI x r (i + 1)
set_option maxHeartbeats 1000000 in
theorem Places_any {w : World} {A : Option Addr} {n c : Nat} {l : List Nt} {a m : Int} (hr : R1 rdNets w (.slice A n c) l) :
    Calls Tryd.prog 16 #[.slice A n c, .agg #[.int .u32 a, .int .i64 m]] w fun e w' => e = .returned (.int .i64 (placeI (a, m) l 0)) ∧ Below w.heap.size w w' := by
  obtain ⟨hn, hnc, hcm⟩ := RdSlice.len hr
  have hnm : n ≤ 9223372036854775807 := by unfold maxLen at hcm; omega
  have HR := Lib.hid hr
  have HN := Lib.hid hn
  have HB0 := Lib.hid (below_1 w (.cells #[.int .u32 a, .int .i64 m] 32))
  obtain ⟨P, hP⟩ : ∃ P, placeI (a, m) l 0 = P := ⟨_, rfl⟩
  have HP := Lib.hid hP
  rw [hP]
  clear hcm hnc hr hn hP
  go_enter Tryd.func16, Tryd.ntmps16
  go_wp2
  go_loopw [5] (fun i wr => ∃ k : Nat, k ≤ n ∧ i = .int .i64 k ∧ Hid (placeI (a, m) (l.drop k) k = P) ∧ ∃ j, wr = (w.alloc (.cells #[.int .u32 a, .int .i64 m] 32)).drewN j) (fun i _ => n - (intOf i).toNat)
  case atStart => exact ⟨0, Nat.zero_le _, rfl, Lib.hid HP.out, 0, rfl⟩
  case round =>
    obtain ⟨k, hk, rfl, HK, j, rfl⟩ := hrel
    by_cases hlt : k < n
    · obtain ⟨b, o, ⟨x, x'⟩, rfl, hb, HX, _, c0, c1⟩ := RdSlice.atN HR.out hlt
      have d0 := (HB0.out.cell (p := ⟨b, o + k * 2, none⟩) hb).trans c0
      have d1 := (HB0.out.cell (p := ⟨b, o + k * 2 + 1, none⟩) hb).trans c1
      obtain ⟨z0, z1, _, _⟩ := row2 (heap_alloc_new w (.cells #[.int .u32 a, .int .i64 m] 32))
      have i0 : (0 : Int) ≤ (k : Int) := by omega
      have i1 : (k : Int) < (n : Int) := by omega
      have HD : Hid (l.drop k = (x, x') :: l.drop (k + 1)) := Lib.hid (by
        have h := HX.out
        obtain ⟨hk', e⟩ := List.getElem?_eq_some_iff.1 h
        rw [List.drop_eq_getElem_cons hk', e])
      clear c0 c1
      by_cases h1 : x = a
      · subst h1
        by_cases h2 : x' = m
        · subst h2
          have HQ : Hid (P = (k : Int)) := Lib.hid (by rw [← HK.out, HD.out]; simp [placeI])
          go_wp2
          go_quiet (fail)
          go_wp2
          go_ret
          exact ⟨by rw [HQ.out]; rfl, below_drewN (below_drewN HB0.out _) _⟩
        · have t1 : (x' == m) = false := by simpa using h2
          have HQ : Hid (placeI (x, m) (l.drop (k + 1)) ((k + 1 : Nat) : Int) = P) := Lib.hid (by
            have h := HK.out
            rw [HD.out] at h
            simp only [placeI] at h
            rw [if_neg (by simp; exact h2)] at h
            exact h)
          clear h2
          go_wp2
          go_quiet (fail)
          go_wp2
          go_roundw
          case rel => exact ⟨k + 1, by omega, by go_num, HQ, _, (by first | rfl | exact World.drewN_drewN _ _ _)⟩
          case measure => simp [intOf]; omega
      · have t1 : (x == a) = false := by simpa using h1
        have HQ : Hid (placeI (a, m) (l.drop (k + 1)) ((k + 1 : Nat) : Int) = P) := Lib.hid (by
          have h := HK.out
          rw [HD.out] at h
          simp only [placeI] at h
          rw [if_neg (by simp; intro e; exact absurd e h1)] at h
          exact h)
        clear h1
        go_wp2
        go_quiet (fail)
        go_wp2
        go_roundw
        case rel => exact ⟨k + 1, by omega, by go_num, HQ, _, (by first | rfl | exact World.drewN_drewN _ _ _)⟩
        case measure => simp [intOf]; omega
    · have HQ : Hid (P = -1) := Lib.hid (by
        rw [← HK.out, List.drop_eq_nil_of_le (by rw [← HN.out]; omega)]; rfl)
      go_wp2
      go_ret
      exact ⟨by rw [HQ.out]; rfl, below_drewN HB0.out _⟩
end Go.Proofs.YtplojnlmofbneaaDoor
