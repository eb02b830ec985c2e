/- The walk of the law SppStill. -/
import Derived.Test.YtcpknghfdlmopaaSppI
namespace Go.Proofs.Ytcpknghfdlmopaa
open Go.ChangeShapes Go.WideShapes Go.ChangeAt Go.RowKit
set_option linter.unusedVariables false

theorem set_eq {rows : List (List Int)} {i : Nat} {x y : List Int} (h : rows[i]? = some y) : (rows.set i x == rows) = (x == y) := by
  obtain ⟨hi, rfl⟩ := List.getElem?_eq_some_iff.1 h
  rw [Bool.eq_iff_iff, beq_iff_eq, beq_iff_eq]
  constructor
  · intro he
    have := congrArg (fun l => l[i]?) he
    simp only [List.getElem?_set, if_pos hi, List.getElem?_eq_getElem hi, if_true] at this
    exact Option.some.inj this
  · intro he
    rw [he, List.set_getElem_self]
theorem stTo_at {likes : List (List (List Int))} {ways : List (List Int)} {m i : Nat} {y : List Int} (h : stTo likes ways m = true) (hi : i < m) (hy : ways[i]? = some y) : (bestP likes ways i == y) = true := by
  have := List.all_eq_true.1 h i (List.mem_range.2 hi)
  rw [hy] at this
  simp only [Option.getD_some, beq_iff_eq] at this
  rw [beq_iff_eq]; exact this.symm
theorem run_snoc {likes : List (List (List Int))} {order : List Int} {i : Nat} (h : runF likes order = 0) (hi : i < likes.length) :
    runF likes (order ++ [(i : Int)]) = 0 ∧ runV likes (order ++ [(i : Int)]) = (runV likes order).set i (bestP likes (runV likes order) i) := by
  unfold runF at h
  split at h
  · rename_i h1; exact absurd h h1
  · rename_i h1
    unfold runF runV
    rw [if_neg h1, if_neg h1, if_neg h1]
    cases hr : runP likes order (rows0 likes) with
    | none => rw [hr] at h; simp at h
    | some r =>
      rw [runP_snoc, hr]
      have h'' : ¬ ((i : Int) < 0 ∨ (likes.length : Int) ≤ (i : Int)) := by omega
      simp only [Option.bind_some, if_neg h'']
      exact ⟨rfl, rfl⟩

set_option maxHeartbeats 1000000 in
theorem SppStill_out {w : World} {v u : Value} {likes : List (List (List Int))} {order : List Int} {i : Int} (hlk : R1 rdInts3 w v likes) (ho : R1 rdInts w u order) (hi : -9223372036854775808 ≤ i ∧ i ≤ 9223372036854775807)
    (hbad : runF likes order ≠ 0 ∨ i < 0 ∨ (likes.length : Int) ≤ i) :
    Calls Try.prog 4 #[v, u, .int .i64 i] w fun e w' => e = .returned (.bool true) ∧ Below w.heap.size w w' := by
  obtain ⟨A, c, rfl⟩ := hlk.form
  by_cases hf : runF likes order = 0
  · have hb : i < 0 ∨ (likes.length : Int) ≤ i := by rcases hbad with h | h; exact absurd hf h; exact h
    have HF : Hid (errV (runF likes order) = .nilIface) := Lib.hid (by rw [hf]; rfl)
    clear hbad hf
    by_cases h0 : i < 0
    · clear hb
      go_enter Try.func4, Try.ntmps4
      go_wp2_with fail
      refine (liked_any _).mono ?_
      rintro e w1 ⟨rfl, hb1⟩
      go_wp2_with fail
      refine (Run_any (hlk.below hb1) (ho.below hb1)).mono ?_
      rintro e w2 ⟨r, rfl, hr, hb2⟩
      rw [HF.out]
      go_wp2
      go_ret
      exact ⟨rfl, hb1.trans (hb2.mono hb1.size)⟩
    · have h1 : (likes.length : Int) ≤ i := by omega
      clear hb
      go_enter Try.func4, Try.ntmps4
      go_wp2_with fail
      refine (liked_any _).mono ?_
      rintro e w1 ⟨rfl, hb1⟩
      go_wp2_with fail
      refine (Run_any (hlk.below hb1) (ho.below hb1)).mono ?_
      rintro e w2 ⟨r, rfl, hr, hb2⟩
      rw [HF.out]
      go_wp2
      go_ret
      exact ⟨rfl, hb1.trans (hb2.mono hb1.size)⟩
  · have HF := Lib.hid (errV_ne hf)
    clear hbad hf
    go_enter Try.func4, Try.ntmps4
    go_wp2_with fail
    refine (liked_any _).mono ?_
    rintro e w1 ⟨rfl, hb1⟩
    go_wp2_with fail
    refine (Run_any (hlk.below hb1) (ho.below hb1)).mono ?_
    rintro e w2 ⟨r, rfl, hr, hb2⟩
    rw [HF.out]
    go_wp2
    go_ret
    exact ⟨rfl, hb1.trans (hb2.mono hb1.size)⟩

set_option maxHeartbeats 1000000 in
theorem SppStill_in {w : World} {A A2 : Option Addr} {n c n2 c2 : Nat} {likes : List (List (List Int))} {order : List Int} {i : Nat} (hlk : R1 rdInts3 w (.slice A n c) likes) (ho : R1 rdInts w (.slice A2 n2 c2) order) (hs : order.length * 8 ≤ reachBytes)
    (hf : runF likes order = 0) (hi : i < likes.length) :
    Calls Try.prog 4 #[.slice A n c, .slice A2 n2 c2, .int .i64 i] w fun e w' => e = .returned (.bool true) ∧ Below w.heap.size w w' := by
  obtain ⟨hn, _, _⟩ := RdSlice.len hlk
  obtain ⟨hn2, _, _⟩ := RdSlice.len ho
  obtain ⟨hq1, hq2⟩ := run_snoc hf hi
  have hlen := runV_len hf
  obtain ⟨rows, hrows⟩ : ∃ rows, rows = runV likes order := ⟨_, rfl⟩
  rw [← hrows] at hq2 hlen
  obtain ⟨y, hy⟩ : ∃ y, rows[i]? = some y := ⟨rows[i]'(by omega), List.getElem?_eq_getElem (by omega)⟩
  have hst : stF likes rows = 0 := by
    unfold stF
    have h0 : sppF likes = 0 := by unfold runF at hf; split at hf; exact hf; simp_all
    rw [if_neg (by simp [h0]), if_neg (by simp [hlen])]
  have hsame : (rows.set i (bestP likes rows i) == rows) = (bestP likes rows i == y) := set_eq hy
  obtain ⟨B, hB⟩ : ∃ B, (bestP likes rows i == y) = B := ⟨_, rfl⟩
  obtain ⟨S, hS⟩ : ∃ S, stP likes rows = S := ⟨_, rfl⟩
  have hSB : Hid (S = true → B = true) := Lib.hid fun h => by
    rw [← hS] at h
    unfold stP at h
    simp only [Bool.and_eq_true] at h
    rw [← hB]
    exact stTo_at h.2 (by omega) hy
  have H1 := Lib.hid (show runF likes order = 0 ∧ runV likes order = rows from ⟨hf, hrows.symm⟩)
  have H2 := Lib.hid (And.intro hq1 hq2)
  have H3 := Lib.hid hst
  have H4 := Lib.hid (hsame.trans hB)
  have H5 := Lib.hid hB
  have H6 := Lib.hid hS
  have H7 := Lib.hid hy
  have H8 := Lib.hid hlen
  have H9 := Lib.hid (show n2 = order.length ∧ order.length ≤ 17592186044415 from ⟨hn2, by have := reach_le; omega⟩)
  have hil : i < n := by omega
  have t0 : (0 : Int) ≤ (i : Int) := by omega
  have t1 : (i : Int) < (n : Int) := by omega
  have t2 : ¬ (i : Int) < 0 := by omega
  have t4 : (i : Int) < (likes.length : Int) := by omega
  have t3 : ¬ (n : Int) ≤ (i : Int) := by omega
  have HI := Lib.hid hi
  have wfi : (Lit.int .i64 (i : Int)).wf = true := by
    have h8 := (sppF_small (show sppF likes = 0 by unfold runF at hf; split at hf; exact hf; simp_all)).1
    exact WalkArith.wf_i64 (by omega)
  have WFI := Lib.hid wfi
  clear hn hn2 hq1 hq2 hlen hrows hy hst hsame hB hS hf hs hi wfi
  obtain ⟨i0, hi0, hz0, hz1, hz2⟩ := info_parts info_int
  go_enter Try.func4, Try.ntmps4
  go_wp2_with fail
  refine (liked_any _).mono ?_
  rintro e w1 ⟨rfl, hb1⟩
  have hlk1 := hlk.below hb1
  have ho1 := ho.below hb1
  clear hlk ho
  go_wp2_with fail
  refine (Run_any hlk1 ho1).mono ?_
  rintro e w2 ⟨r, rfl, hr, hb2⟩
  have hbw2 : Below w.heap.size w w2 := hb1.trans (hb2.mono hb1.size)
  have hlk2 := hlk1.below hb2
  have ho2 := ho1.below hb2
  rw [H1.out.1, errV_zero]
  rw [H1.out.2] at hr
  clear hb1 hb2 hlk1 ho1
  obtain ⟨Ar, cr, hrf⟩ := hr.form
  rw [H8.out] at hrf
  have HRF := Lib.hid hrf; clear hrf
  go_wp2_with fail
  refine (Stable_any hlk2 hr).mono ?_
  rintro e w3 ⟨rfl, hb3⟩
  have hbw3 : Below w.heap.size w w3 := hbw2.trans (hb3.mono hbw2.size)
  have hlk3 := hlk2.below hb3
  have ho3 := ho2.below hb3
  have hr3 := hr.below hb3
  rw [H3.out, errV_zero, H6.out]
  clear hbw2 hb3 hlk2 ho2 hr
  have hz3 := hbw3.size
  have hrd := reads_ints ho3 (fun b h => h)
  have hwfo : Hid (∀ x ∈ order, (Lit.int .i64 x).wf = true) := Lib.hid (ints_wf ho3)
  go_wp2_with (first
    | (at_builtin
       refine wpList_append_any _ rfl (.tmp 47) (.tmp 48) _ rfl w3.heap.size 3 i0 _ 1 8 Try.underlying23 hi0 hz0 hz1 hz2 rfl (by omega) _ 0 [] rfl (own_empty 3 1 _) w3.heap.size _ n2 c2 _ rfl (hrd.alloc (Nat.le_refl _) _) (one_ints _ _) (by have := H9.out; simp only [maxLen]; omega) (by have := H9.out; omega) (by simp) ?_
       intro v4 w4 hown4 hg4 _
       have hb4 : Below w3.heap.size w3 w4 := below_grown ((Below.refl _ _).alloc (Nat.le_refl _) _) (own_empty 3 1 _) hg4 (Nat.le_refl _) (by simp)
       clear hg4)
    | (at_builtin
       refine wpList_append_any _ rfl (.tmp 49) (.tmp 51) _ rfl w3.heap.size 3 i0 _ 1 8 Try.underlying23 hi0 hz0 hz1 hz2 rfl (by omega) v4 (0 + n2) _ rfl (hown4.alloc _) (w4.heap.size + 1) _ 1 1 [.int .i64 i] rfl (Reads.new _ _ 1 1 _ rfl) (by intro u hu; simp at hu; subst hu; rfl) (by have := H9.out; simp only [maxLen]; omega) (by have := H9.out; omega) (by have := hb4.size; simp; omega) ?_
       intro v5 w5 hown5 hg5 _
       have hb5 : Below w3.heap.size w3 w5 := below_grown (hb4.alloc hb4.size _) (hown4.alloc _) hg5 (Nat.le_refl _) (by have := hb4.size; simp; omega)
       clear hg5))
  have ho5 : R1 rdInts w5 v5 (order ++ [(i : Int)]) := R1.of_own_ints (by simpa using hown5) (by
    intro x hx
    rcases List.mem_append.1 hx with hx | hx
    · exact hwfo.out x hx
    · simp only [List.mem_singleton] at hx; subst hx; exact WFI.out)
  refine (Run_any (hlk3.below hb5) ho5).mono ?_
  rintro e w6 ⟨q, rfl, hq, hb6⟩
  rw [H2.out.1, errV_zero]
  rw [H2.out.2] at hq
  have hb36 : Below w3.heap.size w3 w6 := hb5.trans (hb6.mono hb5.size)
  have hr6 := hr3.below hb36
  have hlk6 := hlk3.below hb36
  have hbw6 : Below w.heap.size w w6 := hbw3.trans (hb36.mono hz3)
  clear hb4 hb5 hb6 hb36 hown4 hown5 hr3 hlk3 hbw3 ho5 ho3 hrd hz3 hz0 hz1 hz2 hi0
  go_wp2_with fail
  refine (Rows_v hq hr6).mono ?_
  rintro e w7 ⟨rfl, k7, rfl⟩
  rw [H4.out]
  go_wp2_with fail
  refine (Best_any (hlk6.drewN _) (hr6.drewN _) H3.out HI.out).mono ?_
  rintro e w8 ⟨b, rfl, hb, hb8⟩
  have hr8 := (hr6.drewN k7).below hb8
  have hbw8 : Below w.heap.size w w8 := (below_drewN hbw6 k7).trans (hb8.mono (below_drewN hbw6 k7).size)
  clear hq hr6 hlk6 hbw6 hb8
  rw [HRF.out] at hr8 ⊢
  obtain ⟨gb, go, yy, Ay, cy, rfl, _, HYY, hyr, hcy⟩ := RdSlice.atS hr8 HI.out
  have hyy : yy = y := by have h1 := HYY.out; rw [H7.out] at h1; injection h1 with h1; exact h1.symm
  rw [hyy] at hyr hcy
  clear hyy HYY hr8
  go_wp2_with fail
  refine (Ints_v hb hyr).mono ?_
  rintro e w9 ⟨rfl, k9, rfl⟩
  rw [H5.out]
  cases B
  · cases S
    · go_wp2
      go_ret
      exact ⟨rfl, below_drewN hbw8 _⟩
    · exact absurd (hSB.out rfl) (by decide)
  · go_wp2
    all_goals go_ret
    all_goals exact ⟨rfl, below_drewN hbw8 _⟩

theorem SppStill_walk (w : World) (A : Option Addr) (n c : Nat) (likes : List (List (List Int))) (rr1 : RV rdInts3 w (.slice A n c) likes) (q1 : likes.length * 24 ≤ reachBytes ∧ ∀ x ∈ likes, x.length * 24 ≤ reachBytes ∧ ∀ y ∈ x, y.length * 8 ≤ reachBytes ∧ ∀ z ∈ y, True)
    (A2 : Option Addr) (n2 c2 : Nat) (order : List Int) (rr2 : RV rdInts w (.slice A2 n2 c2) order) (q2 : order.length * 8 ≤ reachBytes ∧ ∀ x ∈ order, True) (i : Int) (hi : -9223372036854775808 ≤ i ∧ i ≤ 9223372036854775807) :
    Calls Try.prog 4 #[.slice A n c, .slice A2 n2 c2, .int .i64 i] w fun e w' => e = .returned (.bool true) ∧ Below w.heap.size w w' := by
  by_cases hbad : runF likes order ≠ 0 ∨ i < 0 ∨ (likes.length : Int) ≤ i
  · exact SppStill_out (show R1 rdInts3 w _ likes from rr1) (show R1 rdInts w _ order from rr2) hi hbad
  · have hf : runF likes order = 0 := by
      by_cases h : runF likes order = 0
      · exact h
      · exact absurd (.inl h) hbad
    have h2 : ¬ (i < 0 ∨ (likes.length : Int) ≤ i) := fun h => hbad (.inr h)
    obtain ⟨k, rfl⟩ := Int.eq_ofNat_of_zero_le (show 0 ≤ i by omega)
    exact SppStill_in (show R1 rdInts3 w _ likes from rr1) (show R1 rdInts w _ order from rr2) q2.1 hf (by omega)
end Go.Proofs.Ytcpknghfdlmopaa
