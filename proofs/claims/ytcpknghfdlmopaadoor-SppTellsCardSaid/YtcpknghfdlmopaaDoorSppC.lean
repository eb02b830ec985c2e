/- spp.right and spp.Check. -/
import Derived.Test.YtcpknghfdlmopaaDoorSppB
namespace Go.Proofs.YtcpknghfdlmopaaDoor
open Go.ChangeShapes Go.WideShapes Go.ChangeAt Go.RowKit
set_option linter.unusedVariables false

theorem RdSlice.take_ {α : Type} {size : Nat} {rd : Rdr α} {w : World} {ok : Nat → Prop} {A : Option Addr} {n c k : Nat} {l : List α} (h : RdSlice size rd w ok [.slice A n c] l) (hk : k ≤ n) : RdSlice size rd w ok [.slice A k c] (l.take k) := by
  obtain ⟨e, h1, h2⟩ := h.len
  obtain ⟨A', c', e', _, _, h3⟩ := h
  simp only [List.cons.injEq, Value.slice.injEq, and_true] at e'
  obtain ⟨rfl, _, rfl⟩ := e'
  have hl : (l.take k).length = k := by rw [List.length_take]; omega
  refine ⟨A, c, by rw [hl], by omega, h2, fun h0 => ?_⟩
  obtain ⟨b, o, hA, hb, hx⟩ := h3 (by omega)
  exact ⟨b, o, hA, hb, fun i x hi => hx i x (by
    rw [List.getElem?_take] at hi
    split at hi
    · exact hi
    · cases hi)⟩

def okAt (n : Int) (w : List Int) (k : Nat) : Bool := match w[k]? with
  | some x => decide (0 ≤ x) && decide (x < n) && !inB (w.take k) x
  | none => true
def allAt (n : Int) (w : List Int) (k : Nat) : Bool := (List.range k).all (okAt n w)
theorem allAt_succ (n : Int) (w : List Int) (k : Nat) : allAt n w (k + 1) = (allAt n w k && okAt n w k) := by
  unfold allAt; rw [List.range_succ, List.all_append]; simp
theorem allAt_false {n : Int} {w : List Int} {k m : Nat} (hk : k < m) (h : okAt n w k = false) : allAt n w m = false := by
  unfold allAt
  rw [List.all_eq_false]
  exact ⟨k, List.mem_range.2 hk, by simp [h]⟩
/-- is it a way from i to 0 -/
def rightB (n i : Int) (w : List Int) : Bool := decide (w ≠ []) && (w.head? == some i) && (w.getLast? == some 0) && allAt n w w.length

set_option maxHeartbeats 1000000 in
theorem right_bad {w : World} {ok : Nat → Prop} {A : Option Addr} {n c : Nat} {l : List Int} {N i : Int} (hr : rdInts w ok [.slice A n c] l) (hbad : l = [] ∨ (l.head? == some i) = false ∨ (l.getLast? == some 0) = false) :
    Calls Tryd.prog 16 #[.int .i64 N, .int .i64 i, .slice A n c] w fun e w' => e = .returned (.bool (rightB N i l)) ∧ w = w' := by
  have hR : rightB N i l = false := by
    unfold rightB
    rcases hbad with rfl | h | h
    · simp
    · simp [h]
    · simp [h]
  rw [hR]
  clear hR
  obtain ⟨hn, hnc, hcm⟩ := hr.len
  have hnm : n ≤ 9223372036854775807 := by unfold maxLen at hcm; omega
  by_cases h0 : n = 0
  · subst h0
    clear hn
    go_enter Tryd.func16, Tryd.ntmps16
    go_wp2
    go_ret
    exact ⟨rfl, rfl⟩
  · obtain ⟨b, o, x, rfl, _, HX, _, hc0⟩ := hr.atI (i := 0) (by omega)
    obtain ⟨b', o', y, e, _, HY, _, hc1⟩ := hr.atI (i := n - 1) (by omega)
    simp only [Option.some.injEq, Addr.mk.injEq, and_true] at e
    obtain ⟨rfl, rfl⟩ := e
    rw [Nat.add_zero] at hc0
    have hne : l ≠ [] := by rintro rfl; simp at hn; omega
    have h1 : l.head? = some x := by rw [List.head?_eq_getElem?]; exact HX.out
    have h2 : l.getLast? = some y := by rw [List.getLast?_eq_getElem?, ← hn]; exact HY.out
    have hbad' : (x == i) = false ∨ (y == 0) = false := by
      rcases hbad with h | h | h
      · exact absurd h hne
      · rw [h1] at h; exact .inl (by simpa using h)
      · rw [h2] at h; exact .inr (by simpa using h)
    clear hbad h1 h2 HX HY hn hne hcm
    have t0 : ((n : Int) == 0) = false := by simp; omega
    have t1 : (0 : Int) < (n : Int) := by omega
    have t2 : ((n : Int) - 1).toNat = n - 1 := by omega
    cases hx : (x == i)
    · have hx' : (x != i) = true := by simp only [bne, hx]; rfl
      clear hbad' hx
      go_enter Tryd.func16, Tryd.ntmps16
      go_wp2
      go_ret
      exact ⟨rfl, rfl⟩
    · have hx' : (x != i) = false := by simp only [bne, hx]; rfl
      have hy : (y != 0) = true := by
        rcases hbad' with h | h
        · rw [h] at hx; cases hx
        · simp only [bne, h]; rfl
      clear hbad' hx
      go_enter Tryd.func16, Tryd.ntmps16
      go_wp2
      go_ret
      exact ⟨rfl, rfl⟩

set_option maxHeartbeats 1000000 in
theorem right_go {w : World} {ok : Nat → Prop} {A : Option Addr} {n c : Nat} {l : List Int} {N i : Int} (hr : rdInts w ok [.slice A n c] l) (hne : l ≠ []) (hh : (l.head? == some i) = true) (hl : (l.getLast? == some 0) = true) :
    Calls Tryd.prog 16 #[.int .i64 N, .int .i64 i, .slice A n c] w fun e w' => e = .returned (.bool (rightB N i l)) ∧ w = w' := by
  have hR : rightB N i l = allAt N l l.length := by unfold rightB; rw [hh, hl]; simp [hne]
  rw [hR]
  clear hR
  obtain ⟨hn, hnc, hcm⟩ := hr.len
  have hnm : n ≤ 9223372036854775807 := by unfold maxLen at hcm; omega
  have h0 : 0 < n := by cases l <;> simp_all
  obtain ⟨b, o, x, rfl, hbb, HX, _, hc0⟩ := hr.atI (i := 0) (by omega)
  obtain ⟨b', o', y, e, _, HY, _, hc1⟩ := hr.atI (i := n - 1) (by omega)
  simp only [Option.some.injEq, Addr.mk.injEq, and_true] at e
  obtain ⟨rfl, rfl⟩ := e
  rw [Nat.add_zero] at hc0
  have hx : (x != i) = false := by rw [List.head?_eq_getElem?, HX.out] at hh; simpa [bne] using hh
  have hy : (y != 0) = false := by rw [List.getLast?_eq_getElem?, ← hn, HY.out] at hl; simpa [bne] using hl
  rw [← hn]
  have HN := Lib.hid hn
  clear HX HY hn hne hcm hh hl
  have t0 : ((n : Int) == 0) = false := by simp; omega
  have t1 : (0 : Int) < (n : Int) := by omega
  have t2 : ((n : Int) - 1).toNat = n - 1 := by omega
  go_enter Tryd.func16, Tryd.ntmps16
  go_wp2
  go_loop [30] (fun t => ∃ k : Nat, k ≤ n ∧ t = .int .i64 k ∧ allAt N l k = true) (fun t => n - (intOf t).toNat)
  case atStart => exact ⟨0, Nat.zero_le _, rfl, rfl⟩
  case round =>
    obtain ⟨k, hk, rfl, hall⟩ := hrel
    have HALL := Lib.hid hall; clear hall
    by_cases hlt : k < n
    · obtain ⟨b', o', z, e, _, HZ, hwz, hcz⟩ := hr.atI hlt
      simp only [Option.some.injEq, Addr.mk.injEq, and_true] at e
      obtain ⟨rfl, rfl⟩ := e
      have hz := bounds_i64 hwz
      have htk := hr.take_ hk
      have hat : okAt N l k = (decide (0 ≤ z) && decide (z < N) && !inB (l.take k) z) := by unfold okAt; rw [HZ.out]
      have hsuc := Lib.hid ((allAt_succ N l k).trans (by rw [HALL.out, hat]))
      have hbad := fun h => Lib.hid (allAt_false (n := N) (w := l) hlt (hat.trans h))
      by_cases z0 : z < 0
      · have HB := hbad (by simp; omega)
        clear hat hbad hsuc
        go_wp2
        go_ret
        exact ⟨ret_bool HB.out.symm, rfl⟩
      · by_cases z1 : z < N
        · cases hin : inB (l.take k) z
          · have HS : Hid (allAt N l (k + 1) = true) := Lib.hid (by rw [hsuc.out, hin]; simp; omega)
            have HIN := Lib.hid hin
            clear hat hbad hsuc hin
            go_wp2_with (go_at_call 22; refine (Contains_any htk hz).mono ?_; rintro e w' ⟨rfl, rfl⟩; rw [HIN.out])
            exact ⟨⟨k + 1, by omega, by go_num, HS.out⟩, by simp [intOf]; omega⟩
          · have HB := hbad (by rw [hin]; simp)
            have HIN := Lib.hid hin
            clear hat hbad hsuc hin
            go_wp2_with (go_at_call 22; refine (Contains_any htk hz).mono ?_; rintro e w' ⟨rfl, rfl⟩; rw [HIN.out])
            go_ret
            exact ⟨ret_bool HB.out.symm, rfl⟩
        · have HB := hbad (by simp; omega)
          clear hat hbad hsuc
          go_wp2
          go_ret
          exact ⟨ret_bool HB.out.symm, rfl⟩
    · have e : k = n := by omega
      subst e
      go_wp2
      go_ret
      exact ⟨ret_bool HALL.out.symm, rfl⟩

theorem right_any {w : World} {ok : Nat → Prop} {A : Option Addr} {n c : Nat} {l : List Int} {N i : Int} (hr : rdInts w ok [.slice A n c] l) :
    Calls Tryd.prog 16 #[.int .i64 N, .int .i64 i, .slice A n c] w fun e w' => e = .returned (.bool (rightB N i l)) ∧ w = w' := by
  by_cases h1 : l = []
  · exact right_bad hr (.inl h1)
  · cases h2 : (l.head? == some i)
    · exact right_bad hr (.inr (.inl h2))
    · cases h3 : (l.getLast? == some 0)
      · exact right_bad hr (.inr (.inr h3))
      · exact right_go hr h1 h2 h3
end Go.Proofs.YtcpknghfdlmopaaDoor
