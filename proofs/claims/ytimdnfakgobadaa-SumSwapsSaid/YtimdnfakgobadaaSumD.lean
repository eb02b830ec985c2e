/- The walk of the law SumSets. -/
import Derived.Test.YtimdnfakgobadaaSumC
namespace Go.Proofs.Ytimdnfakgobadaa
open Go.ChangeShapes Go.WideShapes Go.ChangeAt Go.RowKit
set_option linter.unusedVariables false

theorem wsum_two (l : List Int) (h : l.length % 2 = 0) (x y : Int) : wsum (l ++ [x, y]) = wsum l + (256 * x + y) := by
  rw [wsum_append l _ h]; simp [wsum, bsum]
theorem wsum_nonneg (l : List Int) (h : ∀ x ∈ l, 0 ≤ x ∧ x ≤ 255) : 0 ≤ wsum l := (bsum_rng true l h).1
theorem right_own (n : Int) (h : 0 ≤ n) : 65535 - fo (n + (65535 - fo n)) = 0 := by unfold fo; split <;> split <;> omega
theorem right_other (n o : Int) (h : 0 ≤ n) (h0 : 0 ≤ o) (h1 : o ≤ 65535) :
    65535 - fo (n + o) = 0 ↔ o % 65535 = (65535 - fo n) % 65535 ∧ ((65535 - fo n) ≠ 65535 ∨ o ≠ 0) := by
  unfold fo; split <;> split <;> omega

theorem close1 {b1 b2 b3 b4 : Bool} (h : Hid (b4 = (b1 && (b2 || b3)))) (h1 : b1 = true) (h2 : b2 = true) : b4 = true := by
  have := h.out; rw [h1, h2] at this; simpa using this
theorem close2 {b1 b2 b3 b4 : Bool} (h : Hid (b4 = (b1 && (b2 || b3)))) (h1 : b1 = true) (h2 : ¬ b2 = true) : (b4 == b3) = true := by
  have := h.out; rw [h1, Bool.eq_false_iff.2 h2] at this; simpa using this
theorem close3 {b1 b2 b3 b4 : Bool} (h : Hid (b4 = (b1 && (b2 || b3)))) (h1 : ¬ b1 = true) : (!b4) = true := by
  have := h.out; rw [Bool.eq_false_iff.2 h1] at this; simpa using this

set_option maxHeartbeats 400000 in
theorem SumSets_even (w : World) (A : Option Addr) (n c : Nat) (l : List Int) (hb : Bytes w w.heap.size A l) (hn : n = l.length) (hl : n ≤ 140737488351232) (hev : n % 2 = 0)
    (o : Int) (h0 : 0 ≤ o) (h1 : o ≤ 65535) (s : Int) (hs : Hid (s = S16 l)) (s0 : 0 ≤ s) (s1 : s ≤ 65535)
    (hx : Hid (S16 (l ++ [s / 256, s % 256]) = 0))
    (y : Int) (hy : Hid (S16 (l ++ [o / 256, o % 256]) = y))
    (b1 b2 b3 b4 : Bool) (t1 : (o % 65535 == s % 65535) = b1) (t2 : (s != 65535) = b2) (t3 : (o != 0) = b3) (t4 : (y == 0) = b4) (hbb : Hid (b4 = (b1 && (b2 || b3)))) :
    Calls Try.prog 4 #[.slice A n c, .int .u16 o] w fun e w' => e = .returned (.bool true) ∧ Below w.heap.size w w' := by
  have HN := Lib.hid hn; clear hn
  have u1 : IntKind.u8.wrap (s / 256) = s / 256 := by rw [IntKind.wrap_u8']; omega
  have u2 : IntKind.u8.wrap s = s % 256 := by rw [IntKind.wrap_u8']
  have u3 : IntKind.u8.wrap (o / 256) = o / 256 := by rw [IntKind.wrap_u8']; omega
  have u4 : IntKind.u8.wrap o = o % 256 := by rw [IntKind.wrap_u8']
  go_enter Try.func4, Try.ntmps4
  go_wp2_with fail
  refine (summed_any _).mono ?_
  rintro e w1 ⟨rfl, hb1⟩
  go_wp2_with fail
  refine (Sum_any _ _ _ l _ _ (hb.below hb1) HN.out (by omega)).mono ?_
  rintro e w' ⟨rfl, rfl⟩
  rw [← hs.out]
  have hz1 := hb1.size
  go_wp2_with (first
    | (at_builtin
       refine wpList_append_bytes _ rfl (.tmp 17) (.tmp 18) _ rfl w1.heap.size 5 Try.underlying22 info8 _ [] rfl (OwnB.empty _ _) w.heap.size A _ _ l rfl HN.out ((hb.below hb1).alloc hz1 _) (by have := HN.out; simp; omega) (by simp) ?_
       intro v2 w2 hown2 hg2
       have hb2 : Below w.heap.size w w2 := below_grown (hb1.alloc hz1 _) (OwnB.empty _ _).1 hg2 hz1 (by simp; omega)
       have hz2 : w1.heap.size ≤ w2.heap.size := by have := hg2.size; simp at this; omega
       clear hg2)
    | (at_builtin
       refine wpList_append_bytes _ rfl (.tmp 19) (.tmp 25) _ rfl w1.heap.size 5 Try.underlying22 info8 v2 ([] ++ l) rfl ⟨hown2.1.alloc _, hown2.2⟩ (w2.heap.size + 1) _ _ _ [s / 256, s % 256] rfl rfl (Bytes.new _ _ _ [s / 256, s % 256] rfl (by simp; omega)) (by have := HN.out; simp; omega) (by simp; omega) ?_
       intro v3 w3 hown3 hg3
       have hb3 : Below w.heap.size w w3 := below_grown (hb2.alloc hb2.size _) (hown2.1.alloc _) hg3 hz1 (by have := hb2.size; simp; omega)
       have hz3 : w1.heap.size ≤ w3.heap.size := by have := hg3.size; simp at this; omega
       clear hg3)
    | (at_builtin
       refine wpList_append_bytes _ rfl (.tmp 27) (.tmp 28) _ rfl w3.heap.size 5 Try.underlying22 info8 _ [] rfl (OwnB.empty _ _) w.heap.size A _ _ l rfl HN.out ((hb.below hb3).alloc hb3.size _) (by have := HN.out; simp; omega) (by simp) ?_
       intro v4 w4 hown4 hg4
       have hb4 : Below w.heap.size w w4 := below_grown (hb3.alloc hb3.size _) (OwnB.empty _ _).1 hg4 hb3.size (by have := hb3.size; simp; omega)
       have hb34 : Below w3.heap.size w3 w4 := below_grown ((Below.refl _ _).alloc (Nat.le_refl _) _) (OwnB.empty _ _).1 hg4 (Nat.le_refl _) (by simp)
       clear hg4)
    | (at_builtin
       refine wpList_append_bytes _ rfl (.tmp 29) (.tmp 35) _ rfl w3.heap.size 5 Try.underlying22 info8 v4 ([] ++ l) rfl ⟨hown4.1.alloc _, hown4.2⟩ (w4.heap.size + 1) _ _ _ [o / 256, o % 256] rfl rfl (Bytes.new _ _ _ [o / 256, o % 256] rfl (by simp; omega)) (by have := HN.out; simp; omega) (by have := hb34.size; simp; omega) ?_
       intro v5 w5 hown5 hg5
       have hb5 : Below w.heap.size w w5 := below_grown (hb4.alloc hb4.size _) (hown4.1.alloc _) hg5 hb3.size (by have := hb4.size; simp; omega)
       have hb35 : Below w3.heap.size w3 w5 := below_grown (hb34.alloc hb34.size _) (hown4.1.alloc _) hg5 (Nat.le_refl _) (by have := hb34.size; simp; omega)
       clear hg5)
    | (go_at_call 12
       refine (Right_v _ _ v3 (l ++ [s / 256, s % 256]) (hown3.v.below hb35) (by have := HN.out; simp; omega)).mono ?_; rintro e w' ⟨rfl, rfl⟩; rw [hx.out]; clear hown3)
    | (go_at_call 12
       refine (Right_v _ _ v5 (l ++ [o / 256, o % 256]) hown5.v (by have := HN.out; simp; omega)).mono ?_; rintro e w' ⟨rfl, rfl⟩; rw [hy.out]))
  all_goals go_ret
  all_goals refine ⟨ret_bool ?_, hb5⟩
  · exact close1 hbb ‹_› ‹_›
  · exact close2 hbb ‹_› ‹_›
  · exact close3 hbb ‹_›

set_option maxHeartbeats 400000 in
theorem SumSets_walk (w : World) (A : Option Addr) (n c : Nat) (l : List Int) (rr : RdBytes w w.heap.size (Value.slice A n c).cells.toList l) (hc : l.length * 1 ≤ reachBytes ∧ ∀ x ∈ l, True)
    (o : Int) (ho : 0 ≤ o ∧ o ≤ 65535) :
    Calls Try.prog 4 #[.slice A n c, .int .u16 o] w fun e w' => e = .returned (.bool true) ∧ Below w.heap.size w w' := by
  obtain ⟨hb, hn, _, _⟩ := bytes_of_rd rr
  have hl : n ≤ 140737488351232 := by have := hc.1; have := reach_le; omega
  clear rr hc
  by_cases hev : n % 2 = 0
  · have hw := wsum_nonneg l hb.2
    have hx : S16 (l ++ [S16 l / 256, S16 l % 256]) = 0 := by
      have e : 256 * (S16 l / 256) + S16 l % 256 = S16 l := by omega
      unfold S16 at *
      rw [wsum_two l (by omega), e]
      exact right_own _ hw
    have hy : S16 (l ++ [o / 256, o % 256]) = 65535 - fo (wsum l + o) := by
      have e : 256 * (o / 256) + o % 256 = o := by omega
      unfold S16
      rw [wsum_two l (by omega), e]
    have hr := right_other (wsum l) o hw ho.1 ho.2
    refine SumSets_even w A n c l hb hn hl hev o ho.1 ho.2 (S16 l) (Lib.hid rfl) (S16_rng l).1 (S16_rng l).2 (Lib.hid hx) _ (Lib.hid hy) _ _ _ _ rfl rfl rfl rfl (Lib.hid ?_)
    have e1 : S16 l = 65535 - fo (wsum l) := rfl
    rw [e1, Bool.eq_iff_iff]
    simp only [beq_iff_eq, Bool.and_eq_true, Bool.or_eq_true, bne_iff_ne]
    exact hr
  · go_enter Try.func4, Try.ntmps4
    go_wp2_with fail
    refine (summed_any _).mono ?_
    rintro e w1 ⟨rfl, hb1⟩
    go_wp2_with fail
    go_ret
    exact ⟨rfl, hb1⟩
end Go.Proofs.Ytimdnfakgobadaa
