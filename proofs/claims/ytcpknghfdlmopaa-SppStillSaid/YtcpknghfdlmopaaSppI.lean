/- waywardenlaw5.liked; the walk of the law SppNever. -/
import Derived.Test.YtcpknghfdlmopaaSppH
namespace Go.Proofs.Ytcpknghfdlmopaa
open Go.ChangeShapes Go.WideShapes Go.ChangeAt Go.RowKit
set_option linter.unusedVariables false
set_option maxHeartbeats 400000 in
theorem liked_any (w : World) :
    Calls Try.prog 5 #[] w fun e w' => e = .returned (.bool true) ∧ Below w.heap.size w w' := by
  go_enter Try.func5, Try.ntmps5
  go_wp2_with fail
  refine (Run_any (likes := [[], [[1, 0]]]) (order := [1]) (by
    refine R1.alloc ?_ _
    refine R1.new (by simp) rfl (by decide) (all2 ⟨RdSlice.nil_, ?_, trivial⟩)
    refine R1.new (by simp) rfl (by decide) (all2 ⟨?_, trivial⟩)
    exact new_ints rfl rfl rfl (by decide) (by decide)) (by exact new_ints (by simp) rfl rfl (by decide) (by decide))).mono ?_
  rintro e w1 ⟨r, rfl, hr, hb1⟩
  have e1 : runF [[], [[1, 0]]] [1] = 0 := by decide
  have e2 : runV [[], [[1, 0]]] [1] = [[0], [1, 0]] := by decide
  rw [e1, errV_zero]
  rw [e2] at hr
  have hbw : Below w.heap.size w w1 := (((((Below.refl _ _).alloc (Nat.le_refl _) _).alloc (by simp) _).alloc (by simp; omega) _).alloc (by simp; omega) _).trans (hb1.mono (by simp; omega))
  have hz := hbw.size
  clear e1 e2 hb1
  go_wp2_with fail
  refine (Rows_v (m := [[0], [1, 0]]) (by exact R1.alloc (R1.alloc (R1.alloc hr _) _) _) (by
    refine R1.new (by simp) rfl (by decide) (all2 ⟨?_, ?_, trivial⟩)
    · refine R1.alloc ?_ _
      exact new_ints (by simp) rfl rfl (by decide) (by decide)
    · exact new_ints (by simp) rfl rfl (by decide) (by decide))).mono ?_
  rintro e w2 ⟨rfl, k, rfl⟩
  go_wp2
  go_ret
  exact ⟨rfl, below_drewN (((hbw.alloc hz _).alloc (by simp; omega) _).alloc (by simp; omega) _) _⟩

def likesN : List (List (List Int)) := [[], [[1, 2, 0], [1, 0]], [[2, 3, 0], [2, 0]], [[3, 1, 0], [3, 0]]]
theorem pick_two {ways : List (List Int)} {x y : List Int} {b : Bool} (hx : 1 < x.length) (hy : 1 < y.length) (h1 : inL ways x.tail = b) (h2 : inL ways y.tail = true) : pickP [x, y] ways = if b = true then x else y := by
  unfold pickP mayB
  simp only [List.find?, h1, h2, decide_eq_true hx, decide_eq_true hy, Bool.true_and]
  cases b <;> rfl
theorem never (ways : List (List Int)) (h : ways.length = 4) : stTo likesN ways ways.length = false := by
  cases hst : stTo likesN ways ways.length with
  | false => rfl
  | true =>
    exfalso
    rw [h] at hst
    match ways, h with
    | [a, b, c, d], _ =>
      unfold stTo at hst
      have h0 := List.all_eq_true.1 hst 0 (by decide)
      have h1 := List.all_eq_true.1 hst 1 (by decide)
      have h2 := List.all_eq_true.1 hst 2 (by decide)
      have h3 := List.all_eq_true.1 hst 3 (by decide)
      simp only [List.getElem?_cons_zero, List.getElem?_cons_succ, Option.getD_some, beq_iff_eq] at h0 h1 h2 h3
      have ha : a = [0] := by rw [h0]; unfold bestP; rw [if_pos rfl]
      have hz : inL [a, b, c, d] [0] = true := by rw [ha]; simp [inL]
      obtain ⟨B1, hB1⟩ : ∃ B, inL [a, b, c, d] [2, 0] = B := ⟨_, rfl⟩
      obtain ⟨B2, hB2⟩ : ∃ B, inL [a, b, c, d] [3, 0] = B := ⟨_, rfl⟩
      obtain ⟨B3, hB3⟩ : ∃ B, inL [a, b, c, d] [1, 0] = B := ⟨_, rfl⟩
      have e1 : b = if B1 = true then [1, 2, 0] else [1, 0] := by rw [h1]; unfold bestP; rw [if_neg (by decide)]; exact pick_two (by decide) (by decide) hB1 hz
      have e2 : c = if B2 = true then [2, 3, 0] else [2, 0] := by rw [h2]; unfold bestP; rw [if_neg (by decide)]; exact pick_two (by decide) (by decide) hB2 hz
      have e3 : d = if B3 = true then [3, 1, 0] else [3, 0] := by rw [h3]; unfold bestP; rw [if_neg (by decide)]; exact pick_two (by decide) (by decide) hB3 hz
      clear h0 h1 h2 h3 hst hz
      cases B1 <;> cases B2 <;> cases B3 <;> (simp only [Bool.false_eq_true, if_true, if_false] at e1 e2 e3; subst ha; subst e1; subst e2; subst e3; revert hB1 hB2 hB3; decide)
theorem sppF_N : sppF likesN = 0 := by decide
theorem stP_N (ways : List (List Int)) : stP likesN ways = false := by
  unfold stP stF
  by_cases h : ways.length = 4
  · rw [never ways h]; simp
  · rw [if_neg (by rw [sppF_N]; simp), if_pos (by show ways.length ≠ 4; exact h)]; rfl
theorem stF_N (ways : List (List Int)) : stF likesN ways = if ways.length = 4 then 0 else 3 := by
  unfold stF
  rw [if_neg (by rw [sppF_N]; simp)]
  by_cases h : ways.length = 4
  · rw [if_neg (by show ¬ ways.length ≠ 4; simp [h]), if_pos h]
  · rw [if_pos (by show ways.length ≠ 4; exact h), if_neg h]
theorem runP_len (likes : List (List (List Int))) (l : List Int) (rows r : List (List Int)) (h : runP likes l rows = some r) : r.length = rows.length := by
  induction l generalizing rows with
  | nil => simp [runP] at h; subst h; rfl
  | cons a l ih =>
    simp only [runP] at h
    split at h
    · cases h
    · have := ih _ h; simpa using this
theorem runV_len {likes : List (List (List Int))} {order : List Int} (h : runF likes order = 0) : (runV likes order).length = likes.length := by
  unfold runF at h
  split at h
  · rename_i h1; exact absurd h h1
  · rename_i h1
    unfold runV
    rw [if_neg h1]
    cases hr : runP likes order (rows0 likes) with
    | none => rw [hr] at h; simp at h
    | some r =>
      have := runP_len _ _ _ _ hr
      have hl := (sppF_small (by simpa using h1)).2.1
      simp only [Option.getD_some, this, rows0, List.length_cons, List.length_replicate]
      omega

/-- the world behind the likes' making -/
@[reducible] def wN (w : World) : World := ((((((((((w.alloc (.cells #[.int .i64 1, .int .i64 2, .int .i64 0] 3)).alloc (.cells #[.int .i64 1, .int .i64 0] 3)).alloc (.cells #[.slice (some ⟨w.heap.size, 0, none⟩) 3 3, .slice (some ⟨w.heap.size + 1, 0, none⟩) 2 2] 23)).alloc (.cells #[.int .i64 2, .int .i64 3, .int .i64 0] 3)).alloc (.cells #[.int .i64 2, .int .i64 0] 3)).alloc (.cells #[.slice (some ⟨w.heap.size + 1 + 1 + 1, 0, none⟩) 3 3, .slice (some ⟨w.heap.size + 1 + 1 + 1 + 1, 0, none⟩) 2 2] 23)).alloc (.cells #[.int .i64 3, .int .i64 1, .int .i64 0] 3)).alloc (.cells #[.int .i64 3, .int .i64 0] 3)).alloc (.cells #[.slice (some ⟨w.heap.size + 1 + 1 + 1 + 1 + 1 + 1, 0, none⟩) 3 3, .slice (some ⟨w.heap.size + 1 + 1 + 1 + 1 + 1 + 1 + 1, 0, none⟩) 2 2] 23)).alloc (.cells #[.slice none 0 0, .slice (some ⟨w.heap.size + 1 + 1, 0, none⟩) 2 2, .slice (some ⟨w.heap.size + 1 + 1 + 1 + 1 + 1, 0, none⟩) 2 2, .slice (some ⟨w.heap.size + 1 + 1 + 1 + 1 + 1 + 1 + 1 + 1, 0, none⟩) 2 2] 22))
theorem row_rd (W : World) (g : Nat) (a b c d e : Int) (hg : W.heap.size = g) (h1 : ∀ z ∈ [a, b, c], (Lit.int .i64 z).wf = true) (h2 : ∀ z ∈ [d, e], (Lit.int .i64 z).wf = true) :
    R1 rdInts2 (((W.alloc (.cells #[.int .i64 a, .int .i64 b, .int .i64 c] 3)).alloc (.cells #[.int .i64 d, .int .i64 e] 3)).alloc (.cells #[.slice (some ⟨g, 0, none⟩) 3 3, .slice (some ⟨g + 1, 0, none⟩) 2 2] 23)) (.slice (some ⟨g + 1 + 1, 0, none⟩) 2 2) [[a, b, c], [d, e]] := by
  refine R1.new (by simp; omega) rfl (by decide) (all2 ⟨?_, ?_, trivial⟩)
  · refine R1.alloc ?_ _
    exact new_ints (n := 3) hg rfl rfl (by decide) h1
  · exact new_ints (n := 2) (by simp; omega) rfl rfl (by decide) h2
theorem rdN (w : World) : R1 rdInts3 (wN w) (.slice (some ⟨w.heap.size + 1 + 1 + 1 + 1 + 1 + 1 + 1 + 1 + 1, 0, none⟩) 4 4) likesN := by
  refine R1.new (by simp) rfl (by decide) (all2 ⟨RdSlice.nil_, ?_, ?_, ?_, trivial⟩)
  · exact R1.alloc (R1.alloc (R1.alloc (R1.alloc (R1.alloc (R1.alloc (row_rd w _ 1 2 0 1 0 rfl (by decide) (by decide)) _) _) _) _) _) _
  · exact R1.alloc (R1.alloc (R1.alloc (row_rd _ _ 2 3 0 2 0 (by simp) (by decide) (by decide)) _) _) _
  · exact row_rd _ _ 3 1 0 3 0 (by simp) (by decide) (by decide)
theorem belN (w : World) : Below w.heap.size w (wN w) := by
  have h : ∀ (a : World) (o : Obj), Below w.heap.size w a → Below w.heap.size w (a.alloc o) := fun a o ha => ha.alloc ha.size o
  exact h _ _ (h _ _ (h _ _ (h _ _ (h _ _ (h _ _ (h _ _ (h _ _ (h _ _ (h _ _ (Below.refl _ _))))))))))

set_option maxHeartbeats 1000000 in
theorem SppNever_walk (w : World) (A1 : Option Addr) (n1 c1 : Nat) (ways : List (List Int)) (rr1 : RV rdInts2 w (.slice A1 n1 c1) ways) (q1 : ways.length * 24 ≤ reachBytes ∧ ∀ x ∈ ways, x.length * 8 ≤ reachBytes ∧ ∀ y ∈ x, True)
    (A2 : Option Addr) (n2 c2 : Nat) (order : List Int) (rr2 : RV rdInts w (.slice A2 n2 c2) order) (q2 : order.length * 8 ≤ reachBytes ∧ ∀ x ∈ order, True) :
    Calls Try.prog 3 #[.slice A1 n1 c1, .slice A2 n2 c2] w fun e w' => e = .returned (.bool true) ∧ Below w.heap.size w w' := by
  have hw : R1 rdInts2 w (.slice A1 n1 c1) ways := rr1
  have ho : R1 rdInts w (.slice A2 n2 c2) order := rr2
  obtain ⟨hn1, _, hm1⟩ := RdSlice.len hw
  have hn1' : n1 ≤ 9223372036854775807 := by unfold maxLen at hm1; omega
  have HN := Lib.hid hn1
  clear rr1 rr2 q1 q2 hn1 hm1
  go_enter Try.func3, Try.ntmps3
  go_wp2_with fail
  refine (liked_any _).mono ?_
  rintro e w1 ⟨rfl, hb1⟩
  have hz1 := hb1.size
  have hw1 := hw.below hb1
  have ho1 := ho.below hb1
  clear hw ho
  go_wp2_with fail
  refine (Stable_any (w := wN w1) (rdN w1) (hw1.below (belN w1))).mono ?_
  rintro e w2 ⟨rfl, hb2⟩
  have hb12 : Below w1.heap.size w1 w2 := (belN w1).trans (hb2.mono (belN w1).size)
  have hlk2 := (rdN w1).below hb2
  have ho2 := ho1.below hb12
  have hbw2 : Below w.heap.size w w2 := hb1.trans (hb12.mono hz1)
  clear hb2 hb12 hw1 ho1 hb1 hz1
  rw [stP_N, stF_N]
  by_cases h4 : ways.length = 4
  · rw [if_pos h4, errV_zero]
    have tn : ((n1 : Int) != 4) = false := by have := HN.out; simp; omega
    clear h4
    go_wp2_with fail
    refine (Run_any hlk2 ho2).mono ?_
    rintro e w3 ⟨r, rfl, hr, hb3⟩
    have hb3' : Below w.heap.size w w3 := hbw2.trans (hb3.mono hbw2.size)
    have hlk3 := hlk2.below hb3
    clear hb3 hlk2 ho2 hbw2
    by_cases hf : runF likesN order = 0
    · have hst : stF likesN (runV likesN order) = 0 := by rw [stF_N, if_pos (by rw [runV_len hf]; rfl)]
      have HST := Lib.hid hst
      rw [hf, errV_zero]
      clear hst hf
      go_wp2_with fail
      refine (Stable_any hlk3 hr).mono ?_
      rintro e w4 ⟨rfl, hb4⟩
      rw [stP_N, HST.out, errV_zero]
      go_wp2
      go_ret
      exact ⟨rfl, hb3'.trans (hb4.mono hb3'.size)⟩
    · rw [errV_ne hf]
      clear hf
      go_wp2
      go_ret
      exact ⟨rfl, hb3'⟩
  · rw [if_neg h4, errV_ne (by decide)]
    have tn : ((n1 : Int) != 4) = true := by have := HN.out; simp; omega
    clear h4
    go_wp2_with fail
    refine (Run_any hlk2 ho2).mono ?_
    rintro e w3 ⟨r, rfl, hr, hb3⟩
    have hb3' : Below w.heap.size w w3 := hbw2.trans (hb3.mono hbw2.size)
    have hlk3 := hlk2.below hb3
    clear hb3 hlk2 ho2 hbw2
    by_cases hf : runF likesN order = 0
    · have hst : stF likesN (runV likesN order) = 0 := by rw [stF_N, if_pos (by rw [runV_len hf]; rfl)]
      have HST := Lib.hid hst
      rw [hf, errV_zero]
      clear hst hf
      go_wp2_with fail
      refine (Stable_any hlk3 hr).mono ?_
      rintro e w4 ⟨rfl, hb4⟩
      rw [stP_N, HST.out, errV_zero]
      go_wp2
      go_ret
      exact ⟨rfl, hb3'.trans (hb4.mono hb3'.size)⟩
    · rw [errV_ne hf]
      clear hf
      go_wp2
      go_ret
      exact ⟨rfl, hb3'⟩
end Go.Proofs.Ytcpknghfdlmopaa
