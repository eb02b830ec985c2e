/- spp.Check. -/
import Derived.Test.YtcpknghfdlmopaaDoorSppC
namespace Go.Proofs.YtcpknghfdlmopaaDoor
open Go.ChangeShapes Go.WideShapes Go.ChangeAt Go.RowKit
set_option linter.unusedVariables false

def rowOk (n : Nat) (likes : List (List (List Int))) (i : Nat) : Bool := (likes[i]?.getD []).all (rightB n i)
def chkTo (n : Nat) (likes : List (List (List Int))) (k : Nat) : Bool := (List.range k).all (rowOk n likes)
theorem chkTo_succ (n : Nat) (likes : List (List (List Int))) (k : Nat) : chkTo n likes (k + 1) = (chkTo n likes k && rowOk n likes k) := by
  unfold chkTo; rw [List.range_succ, List.all_append]; simp
theorem chkTo_false {n : Nat} {likes : List (List (List Int))} {k m : Nat} (hk : k < m) (h : rowOk n likes k = false) : chkTo n likes m = false := by
  unfold chkTo; rw [List.all_eq_false]; exact ⟨k, List.mem_range.2 hk, by simp [h]⟩
theorem all_take_succ {α : Type} {l : List α} {p : α → Bool} {k : Nat} {x : α} (h : l[k]? = some x) : (l.take (k + 1)).all p = ((l.take k).all p && p x) := by
  rw [take_succ_of h, List.all_append]; simp
theorem all_false_of {α : Type} {l : List α} {p : α → Bool} {k : Nat} {x : α} (h : l[k]? = some x) (hp : p x = false) : l.all p = false := by
  rw [List.all_eq_false]; exact ⟨x, List.mem_of_getElem? h, by simp [hp]⟩
/-- what is wrong: 0 nothing -/
def sppF (likes : List (List (List Int))) : Int := if likes.length < 1 ∨ 8 < likes.length then 1 else if chkTo likes.length likes likes.length = true then 0 else 3

set_option maxHeartbeats 1000000 in
theorem Check_any {w : World} {v : Value} {likes : List (List (List Int))} (hlk : R1 rdInts3 w v likes) :
    Calls Tryd.prog 7 #[v] w fun e w' => e = .returned (errV (sppF likes)) ∧ w = w' := by
  obtain ⟨A, c, rfl⟩ := hlk.form
  obtain ⟨_, hnc, hcm⟩ := RdSlice.len hlk
  have hnm : likes.length ≤ 9223372036854775807 := by unfold maxLen at hcm; omega
  obtain ⟨n, hn⟩ : ∃ n, n = likes.length := ⟨_, rfl⟩
  rw [← hn] at hlk hnm ⊢
  by_cases hb : n < 1 ∨ 8 < n
  · have hF : sppF likes = 1 := by unfold sppF; rw [if_pos (by omega)]
    rw [hF]
    clear hF hn hlk
    rcases hb with h | h
    · go_enter Tryd.func7, Tryd.ntmps7
      go_wp2
      go_ret
      exact ⟨rfl, rfl⟩
    · have h' : ¬ (n : Int) < 1 := by omega
      go_enter Tryd.func7, Tryd.ntmps7
      go_wp2
      go_ret
      exact ⟨rfl, rfl⟩
  · have h1 : ¬ (n : Int) < 1 := by omega
    have h2 : ¬ 8 < (n : Int) := by omega
    have hF : sppF likes = if chkTo n likes n = true then 0 else 3 := by unfold sppF; rw [if_neg (by omega), hn]
    have HF := Lib.hid hF; have HN := Lib.hid hn
    clear hF hn hnc hcm
    go_enter Tryd.func7, Tryd.ntmps7
    go_wp2
    go_loop [18] (fun t => ∃ k : Nat, k ≤ n ∧ t = .int .i64 k ∧ chkTo n likes k = true) (fun t => n - (intOf t).toNat)
    case atStart => exact ⟨0, Nat.zero_le _, rfl, rfl⟩
    case round =>
      obtain ⟨k, hk, rfl, hall⟩ := hrel
      have HALL := Lib.hid hall; clear hall
      by_cases hlt : k < n
      · obtain ⟨b, o, row, A2, c2, rfl, _, HROW, hrow, hc⟩ := RdSlice.atS hlk hlt
        obtain ⟨_, _, hcm2⟩ := hrow.len
        have hm2 : row.length ≤ 9223372036854775807 := by unfold maxLen at hcm2; omega
        have hrk := Lib.hid (show rowOk n likes k = row.all (rightB n k) by unfold rowOk; rw [HROW.out]; rfl)
        have hsuc := Lib.hid ((chkTo_succ n likes k).trans (by rw [HALL.out, hrk.out]))
        obtain ⟨m, hm⟩ : ∃ m, m = row.length := ⟨_, rfl⟩
        rw [← hm] at hrow hc hm2
        have HM := Lib.hid hm
        clear hm hcm2
        go_wp2
        go_loop [25] (fun t => ∃ j : Nat, j ≤ m ∧ t = .int .i64 j ∧ (row.take j).all (rightB n k) = true) (fun t => m - (intOf t).toNat)
        case atStart => exact ⟨0, Nat.zero_le _, rfl, rfl⟩
        case round =>
          obtain ⟨j, hj, rfl, hal⟩ := hrel
          have HAL := Lib.hid hal; clear hal
          by_cases hlj : j < m
          · obtain ⟨b3, o3, x, A3, c3, rfl, _, HX, hrx, hcx⟩ := hrow.atS hlj
            cases hR : rightB n k x
            · have hbad := Lib.hid (chkTo_false (n := n) (likes := likes) hlt (hrk.out.trans (all_false_of HX.out hR)))
              have HR := Lib.hid hR; clear hR
              go_wp2_with (go_at_call 16; refine (right_any hrx).mono ?_; rintro e w' ⟨rfl, rfl⟩; rw [HR.out])
              go_ret
              exact ⟨by rw [HF.out, hbad.out]; rfl, rfl⟩
            · have hs := Lib.hid ((all_take_succ (p := rightB n k) HX.out).trans (by rw [HAL.out, hR]))
              have HR := Lib.hid hR; clear hR
              go_wp2_with (go_at_call 16; refine (right_any hrx).mono ?_; rintro e w' ⟨rfl, rfl⟩; rw [HR.out])
              exact ⟨⟨j + 1, by omega, by go_num, hs.out⟩, by simp [intOf]; omega⟩
          · have e : row.take j = row := List.take_of_length_le (by have := HM.out; omega)
            have hS : Hid (chkTo n likes (k + 1) = true) := Lib.hid (by have h := HAL.out; rw [e] at h; rw [hsuc.out, h]; rfl)
            clear e
            go_wp2
            exact ⟨⟨k + 1, by omega, by go_num, hS.out⟩, by simp [intOf]; omega⟩
      · have e : k = n := by omega
        subst e
        go_wp2
        go_ret
        exact ⟨by rw [HF.out, HALL.out]; rfl, rfl⟩

/-- What is right has short ways. -/
theorem allAt_small : ∀ (n : Nat) (w : List Int), allAt n w w.length = true → w.length ≤ n := by
  intro n w h
  have hmem : ∀ (k : Nat) (x : Int), w[k]? = some x → 0 ≤ x ∧ x < n ∧ x ∉ w.take k := by
    intro k x hx
    have hk : k < w.length := (List.getElem?_eq_some_iff.1 hx).1
    have := List.all_eq_true.1 h k (List.mem_range.2 hk)
    unfold okAt at this
    rw [hx] at this
    simp only [Bool.and_eq_true, decide_eq_true_eq, Bool.not_eq_true'] at this
    refine ⟨this.1.1, this.1.2, fun hm => ?_⟩
    have := inB_iff.2 hm
    simp_all
  have hnd : w.Nodup := by
    rw [List.Nodup, List.pairwise_iff_getElem]
    intro i j hi hj hij he
    have e2 : w[j]? = some w[i] := by rw [List.getElem?_eq_getElem hj, ← he]
    refine (hmem j _ e2).2.2 ?_
    rw [List.mem_take_iff_getElem]
    exact ⟨i, by omega, rfl⟩
  have hsub : (w.map Int.toNat).length ≤ n := by
    have hnd2 : (w.map Int.toNat).Nodup := by
      refine List.Pairwise.map _ ?_ (List.Pairwise.imp_of_mem (R := (· ≠ ·)) (S := fun a b => a ≠ b ∧ 0 ≤ a ∧ 0 ≤ b) ?_ hnd)
      · rintro a b ⟨h1, h2, h3⟩ h4; omega
      · intro a b ha hb hne
        obtain ⟨i, hi, rfl⟩ := List.getElem_of_mem ha
        obtain ⟨j, hj, rfl⟩ := List.getElem_of_mem hb
        exact ⟨hne, (hmem i _ (List.getElem?_eq_getElem hi)).1, (hmem j _ (List.getElem?_eq_getElem hj)).1⟩
    have hs : (w.map Int.toNat) ⊆ List.range n := by
      intro a ha
      obtain ⟨x, hx, rfl⟩ := List.mem_map.1 ha
      obtain ⟨i, hi, rfl⟩ := List.getElem_of_mem hx
      have := hmem i _ (List.getElem?_eq_getElem hi)
      exact List.mem_range.2 (by omega)
    have := List.Nodup.length_le_of_subset hnd2 hs
    simpa using this
  simpa using hsub
theorem sppF_small {likes : List (List (List Int))} (h : sppF likes = 0) : likes.length ≤ 8 ∧ 1 ≤ likes.length ∧ ∀ r ∈ likes, ∀ x ∈ r, x.length ≤ 8 := by
  unfold sppF at h
  split at h
  · cases h
  · rename_i hl
    split at h
    · rename_i hc
      refine ⟨by omega, by omega, fun r hr x hx => ?_⟩
      obtain ⟨i, hi, rfl⟩ := List.getElem_of_mem hr
      have h1 := List.all_eq_true.1 hc i (List.mem_range.2 hi)
      unfold rowOk at h1
      rw [List.getElem?_eq_getElem hi] at h1
      have h2 := List.all_eq_true.1 h1 x hx
      unfold rightB at h2
      simp only [Bool.and_eq_true] at h2
      have := allAt_small _ _ h2.2
      omega
    · cases h
end Go.Proofs.YtcpknghfdlmopaaDoor
