/- spp.best: the first way that a node likes and may have. -/
import Derived.Test.YtcpknghfdlmopaaDoorSppA
namespace Go.Proofs.YtcpknghfdlmopaaDoor
open Go.ChangeShapes Go.WideShapes Go.ChangeAt Go.RowKit
set_option linter.unusedVariables false

def mayB (ways : List (List Int)) (x : List Int) : Bool := decide (1 < x.length) && inL ways x.tail
/-- the first one that may be had; else none -/
def pickP (row : List (List Int)) (ways : List (List Int)) : List Int := (row.find? (mayB ways)).getD []
def bestP (likes : List (List (List Int))) (ways : List (List Int)) (i : Nat) : List Int :=
  if i = 0 then [0] else pickP (likes[i]?.getD []) ways
theorem find_take_none {α : Type} {l : List α} {p : α → Bool} {k : Nat} {x : α} (h : (l.take k).find? p = none) (hx : l[k]? = some x) (hp : p x = false) : (l.take (k + 1)).find? p = none := by
  rw [take_succ_of hx, List.find?_append, h]; simp [hp]
theorem find_take_some {α : Type} {l : List α} {p : α → Bool} {k : Nat} {x : α} (h : (l.take k).find? p = none) (hx : l[k]? = some x) (hp : p x = true) : l.find? p = some x := by
  have e : l = l.take (k + 1) ++ l.drop (k + 1) := (List.take_append_drop _ _).symm
  rw [e, List.find?_append, take_succ_of hx, List.find?_append, h]; simp [hp]

set_option maxHeartbeats 400000 in
theorem best_zero {w : World} {v u : Value} :
    Calls Tryd.prog 19 #[v, u, .int .i64 0] w fun e w' => ∃ r, e = .returned r ∧ R1 rdInts w' r [0] ∧ Below w.heap.size w w' := by
  go_enter Tryd.func19, Tryd.ntmps19
  go_wp2
  go_ret
  refine ⟨_, rfl, ?_, (Below.refl _ _).alloc (Nat.le_refl _) _⟩
  refine RdSlice.new1 (cs := #[.int .i64 0]) (t := 3) (heap_alloc_new w _) (by simp) rfl (by decide) (by decide) (fun i x hi => ?_)
  match i, hi with
  | 0, hi => simp at hi; subst hi; exact ⟨_, rfl, rfl, by decide⟩

set_option maxHeartbeats 1000000 in
theorem best_pos {w : World} {A1 A2 : Option Addr} {n1 n2 c1 c2 : Nat} {gw i : Nat} {likes : List (List (List Int))} {ways : List (List Int)} (hlk : R1 rdInts3 w (.slice A1 n1 c1) likes) (hw : R1 rdInts2 w (.slice A2 n2 c2) ways)
    (hg : w.cell? ⟨gw, 0, none⟩ = some (.slice A2 n2 c2)) (hi0 : 0 < i) (hi : i < n1) (hsm : ∀ r ∈ likes, ∀ x ∈ r, x.length ≤ 1048576) :
    Calls Tryd.prog 19 #[.slice A1 n1 c1, .slice (some ⟨gw, 0, none⟩) 1 1, .int .i64 i] w fun e w' => ∃ r, e = .returned r ∧ R1 rdInts w' r (bestP likes ways i) ∧ Below w.heap.size w w' := by
  obtain ⟨_, _, hcm1⟩ := RdSlice.len hlk
  have hn1 : n1 ≤ 9223372036854775807 := by unfold maxLen at hcm1; omega
  obtain ⟨b1, o1, row, A3, c3, rfl, hb1, HROW, hrow, hc1⟩ := RdSlice.atS hlk hi
  have HS : Hid (∀ x ∈ row, x.length ≤ 1048576) := Lib.hid (hsm row (List.mem_of_getElem? HROW.out))
  have HB : Hid (bestP likes ways i = pickP row ways) := Lib.hid (by unfold bestP; rw [if_neg (by omega), HROW.out]; rfl)
  have hgb : gw < w.heap.size := World.block_lt_of_cell? w _ hg
  obtain ⟨_, hle3, hcm3⟩ := hrow.len
  have hn3 : row.length ≤ 9223372036854775807 := by unfold maxLen at hcm3; omega
  obtain ⟨m, hm⟩ : ∃ m, m = row.length := ⟨_, rfl⟩
  rw [← hm] at hrow hc1 hle3 hn3
  have HM := Lib.hid hm
  clear hm hsm hcm1 hcm3
  have ti : ((i : Int) == 0) = false := by simp; omega
  have ti0 : (0 : Int) ≤ (i : Int) := by omega
  have ti1 : (i : Int) < (n1 : Int) := by omega
  go_enter Tryd.func19, Tryd.ntmps19
  go_wp2
  go_loopw [17] (fun t wr => ∃ k : Nat, k ≤ m ∧ t = .int .i64 k ∧ (row.take k).find? (mayB ways) = none ∧ Below w.heap.size w wr) (fun t _ => m - (intOf t).toNat)
  case atStart => exact ⟨0, Nat.zero_le _, rfl, rfl, Below.refl _ _⟩
  case round =>
    obtain ⟨k, hk, rfl, hno, hbel⟩ := hrel
    have HNO := Lib.hid hno; clear hno
    by_cases hlt : k < m
    · have hroww : rdInts2 wr (· < w.heap.size) [.slice A3 m c3] row := RdLaw.keep hrow (fun _ hp => hbel.cell hp)
      obtain ⟨b, o, x, A4, c4, rfl, hb, HX, hrx, hc⟩ := hroww.atS hlt
      have hgr : wr.cell? ⟨gw, 0, none⟩ = some (.slice A2 n2 c2) := (hbel.cell (p := ⟨gw, 0, none⟩) hgb).trans hg
      have hz := hbel.size
      have hbr : b < wr.heap.size := Nat.lt_of_lt_of_le hb hz
      have hgbr : gw < wr.heap.size := Nat.lt_of_lt_of_le hgb hz
      have hx1 : R1 rdInts (wr.alloc (.cells #[.slice A4 x.length c4] 24)) (.slice A4 x.length c4) x := R1.alloc (RdLaw.mono hrx (fun b hb' => Nat.lt_of_lt_of_le hb' hz)) _
      have hw1 : R1 rdInts2 (wr.alloc (.cells #[.slice A4 x.length c4] 24)) (.slice A2 n2 c2) ways := R1.alloc (R1.below hw hbel) _
      obtain ⟨_, _, hcmx⟩ := hrx.len
      have hnx : x.length ≤ 9223372036854775807 := by unfold maxLen at hcmx; omega
      have hxs : x.length ≤ 1048576 := HS.out x (List.mem_of_getElem? HX.out)
      by_cases h1 : 1 < x.length
      · have hb1 : Below w.heap.size w (wr.alloc (.cells #[.slice A4 x.length c4] 24)) := hbel.alloc hz _
        cases hin : inL ways x.tail
        · have hmay : mayB ways x = false := by unfold mayB; rw [hin]; simp
          have hnx := Lib.hid (find_take_none HNO.out HX.out hmay)
          have HIN := Lib.hid hin; clear hin hmay
          go_wp2_with (go_at_call 23; refine (ContainsFunc_any (g := wr.heap.size) hw1 (by simp) hx1 h1).mono ?_; rintro e w' ⟨rfl, k2, rfl⟩; rw [HIN.out])
          exact ⟨⟨k + 1, by omega, by go_num, hnx.out, below_drewN hb1 _⟩, by simp [intOf]; omega⟩
        · have hmay : mayB ways x = true := by unfold mayB; rw [hin]; simpa using h1
          have hpk : pickP row ways = x := by unfold pickP; rw [find_take_some HNO.out HX.out hmay]; rfl
          have HPK := Lib.hid hpk
          have HIN := Lib.hid hin; clear hin hmay hpk
          have hxne : x ≠ [] := by intro h; rw [h] at h1; simp at h1
          have HNE := Lib.hid hxne; clear hxne
          go_wp2_with (first
            | (go_at_call 23; refine (ContainsFunc_any (g := wr.heap.size) hw1 (by simp) hx1 h1).mono ?_; rintro e w' ⟨rfl, k2, rfl⟩; rw [HIN.out])
            | (go_at_call 25; refine (Clone_any (R1.drewN hx1 _) hxs HNE.out).mono ?_; rintro e w' ⟨u, rfl, hu, hbu⟩))
          go_ret
          exact ⟨u, rfl, by rw [HB.out, HPK.out]; exact hu, (below_drewN hb1 _).trans (hbu.mono (by have := hz; simp; omega))⟩
      · have hmay : mayB ways x = false := by unfold mayB; simp [h1]
        have hnx := Lib.hid (find_take_none HNO.out HX.out hmay)
        clear hmay
        go_wp2
        exact ⟨⟨k + 1, by omega, by go_num, hnx.out, hbel.alloc hz _⟩, by simp [intOf]; omega⟩
    · have e : row.take k = row := List.take_of_length_le (by have := HM.out; omega)
      have hpk : pickP row ways = [] := by unfold pickP; have h := HNO.out; rw [e] at h; rw [h]; rfl
      have HPK := Lib.hid hpk
      clear e hpk
      go_wp2
      go_ret
      exact ⟨_, rfl, by rw [HB.out, HPK.out]; exact RdSlice.nil_, hbel⟩

theorem best_any {w : World} {v : Value} {A2 : Option Addr} {n2 c2 : Nat} {gw i : Nat} {likes : List (List (List Int))} {ways : List (List Int)} (hlk : R1 rdInts3 w v likes) (hw : R1 rdInts2 w (.slice A2 n2 c2) ways)
    (hg : w.cell? ⟨gw, 0, none⟩ = some (.slice A2 n2 c2)) (hi : i < likes.length) (hsm : ∀ r ∈ likes, ∀ x ∈ r, x.length ≤ 1048576) :
    Calls Tryd.prog 19 #[v, .slice (some ⟨gw, 0, none⟩) 1 1, .int .i64 i] w fun e w' => ∃ r, e = .returned r ∧ R1 rdInts w' r (bestP likes ways i) ∧ Below w.heap.size w w' := by
  obtain ⟨A1, c1, rfl⟩ := hlk.form
  by_cases h0 : i = 0
  · subst h0
    have e : bestP likes ways 0 = [0] := by unfold bestP; rw [if_pos rfl]
    rw [e]
    exact best_zero
  · exact best_pos hlk hw hg (by omega) hi hsm
end Go.Proofs.YtcpknghfdlmopaaDoor
