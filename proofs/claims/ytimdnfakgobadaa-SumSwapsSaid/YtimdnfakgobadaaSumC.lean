/- The walks of the laws SumTells and SumOrder. -/
import Derived.Test.YtimdnfakgobadaaSumB
import Derived.Test.YtimdnfakgobadaaOpen
namespace Go.Proofs.Ytimdnfakgobadaa
open Go.ChangeShapes Go.WideShapes Go.ChangeAt Go.RowKit
set_option linter.unusedVariables false

set_option maxHeartbeats 400000 in
theorem SumTells_walk (w : World) (A : Option Addr) (n c : Nat) (l : List Int) (rr : RdBytes w w.heap.size (Value.slice A n c).cells.toList l) (hc : l.length * 1 ≤ reachBytes ∧ ∀ x ∈ l, True)
    (s : Int) (hs : 0 ≤ s ∧ s ≤ 65535) (o : Int) (ho : 0 ≤ o ∧ o ≤ 65535) (m : Int) (hm : 0 ≤ m ∧ m ≤ 65535) :
    Calls Try.prog 7 #[.slice A n c, .int .u16 s, .int .u16 o, .int .u16 m] w fun e w' => e = .returned (.bool true) ∧ Below w.heap.size w w' := by
  obtain ⟨hb, hn, _, _⟩ := bytes_of_rd rr
  have hl : n ≤ 140737488355328 := by have := hc.1; have := reach_le; omega
  obtain ⟨hs0, hs1⟩ := hs
  obtain ⟨ho0, ho1⟩ := ho
  obtain ⟨hm0, hm1⟩ := hm
  clear rr hc
  have HN := Lib.hid hn; clear hn
  have hW : 65535 - fo (65535 - s + 65535 - o + m) = W16 s o m := by unfold W16; rw [show 65535 - s + 65535 - o + m = 65535 - s + (65535 - o) + m from by omega]
  have hr := S16_rng l
  have hr2 := W16_rng s o m
  have hf := fo_rng (65535 - s + 65535 - o + m)
  go_enter Try.func7, Try.ntmps7
  go_wp2_with fail
  refine (summed_any _).mono ?_
  rintro e w1 ⟨rfl, hb1⟩
  have hB := hb.below hb1
  go_wp2_with (first
    | (go_at_call 15; refine (Folded_any _ _ (by omega) (by omega)).mono ?_; rintro e w' ⟨rfl, rfl⟩)
    | (go_at_call 11; refine (Sum_any _ _ _ l _ _ hB HN.out hl).mono ?_; rintro e w' ⟨rfl, rfl⟩)
    | (go_at_call 16; refine (SumOf_any _ _ _ l _ _ hB HN.out hl).mono ?_; rintro e w' ⟨rfl, rfl⟩)
    | (go_at_call 12; refine (Right_any _ _ _ l _ _ hB HN.out hl).mono ?_; rintro e w' ⟨rfl, rfl⟩)
    | (go_at_call 13; refine (Swap_any _ _ _ _ hs0 hs1 ho0 ho1 hm0 hm1).mono ?_; rintro e w' ⟨rfl, rfl⟩))
  go_ret
  exact ⟨rfl, hb1⟩

theorem info8 : (Try.prog.info? 5).map (fun i => (i.zero, i.size, i.bytes)) = some (some (.int .u8 0), 1, 1) := by kernel_rfl
theorem Sum_v (w : World) (B : Nat) (v : Value) (l : List Int) (h : VBytes w B v l) (hl : l.length ≤ 140737488355328) :
    Calls Try.prog 11 #[v] w fun e w' => e = .returned (.int .u16 (S16 l)) ∧ w = w' := by
  obtain ⟨A, n, c, rfl, rfl, hb⟩ := h
  exact Sum_any A _ c l w B hb rfl hl
theorem Right_v (w : World) (B : Nat) (v : Value) (l : List Int) (h : VBytes w B v l) (hl : l.length ≤ 140737488355328) :
    Calls Try.prog 12 #[v] w fun e w' => e = .returned (.bool (S16 l == 0)) ∧ w = w' := by
  obtain ⟨A, n, c, rfl, rfl, hb⟩ := h
  exact Right_any A _ c l w B hb rfl hl

set_option maxHeartbeats 400000 in
theorem SumOrder_walk (w : World) (A : Option Addr) (n c : Nat) (a : List Int) (ra : RdBytes w w.heap.size (Value.slice A n c).cells.toList a) (hca : a.length * 1 ≤ reachBytes ∧ ∀ x ∈ a, True)
    (A' : Option Addr) (n' c' : Nat) (b : List Int) (rb : RdBytes w w.heap.size (Value.slice A' n' c').cells.toList b) (hcb : b.length * 1 ≤ reachBytes ∧ ∀ x ∈ b, True)
    (hk : bulkL (fun _ => 1) a + 1 + (bulkL (fun _ => 1) b + 1) ≤ 1048576) :
    Calls Try.prog 3 #[.slice A n c, .slice A' n' c'] w fun e w' => e = .returned (.bool true) ∧ Below w.heap.size w w' := by
  obtain ⟨hba, hna, _, _⟩ := bytes_of_rd ra
  obtain ⟨hbb, hnb, _, _⟩ := bytes_of_rd rb
  have k1 := bulkL_len (fun _ : Int => 1) (by simp) a
  have k2 := bulkL_len (fun _ : Int => 1) (by simp) b
  have hab : a.length + b.length ≤ 1048576 := by omega
  have h1 : n ≤ 1048576 := by omega
  have h2 : n' ≤ 1048576 := by omega
  have hev : n % 2 = 0 → n' % 2 = 0 → S16 (a ++ b) = S16 (b ++ a) := fun e1 e2 => by
    unfold S16; rw [wsum_append a b (by omega), wsum_append b a (by omega), Int.add_comm]
  clear ra rb hca hcb hk k1 k2
  have HA := Lib.hid hna; have HB := Lib.hid hnb; clear hna hnb
  by_cases e1 : n % 2 = 0
  · by_cases e2 : n' % 2 = 0
    · have he := Lib.hid (hev e1 e2)
      clear hev
      go_enter Try.func3, Try.ntmps3
      go_wp2_with fail
      refine (summed_any _).mono ?_
      rintro e w1 ⟨rfl, hb1⟩
      have hA1 := hba.below hb1
      have hB1 := hbb.below hb1
      have hz1 := hb1.size
      go_wp2_with (first
        | (at_builtin
           refine wpList_append_bytes _ rfl (.tmp 20) (.tmp 21) _ rfl w1.heap.size 5 Try.underlying22 info8 _ [] rfl (OwnB.empty _ _) w.heap.size A _ _ a rfl HA.out (hA1.alloc hz1 _) (by simp; omega) (by simp) ?_
           intro v2 w2 hown2 hg2
           have hb2 : Below w.heap.size w w2 := below_grown (hb1.alloc hz1 _) (OwnB.empty _ _).1 hg2 hz1 (by simp; omega)
           have hz2 : w1.heap.size ≤ w2.heap.size := by have := hg2.size; simp at this; omega
           clear hg2)
        | (at_builtin
           refine wpList_append_bytes _ rfl (.tmp 22) (.tmp 23) _ rfl w1.heap.size 5 Try.underlying22 info8 v2 ([] ++ a) rfl hown2 w.heap.size A' _ _ b rfl HB.out (hbb.below hb2) (by simp; omega) hz2 ?_
           intro v3 w3 hown3 hg3
           have hb3 : Below w.heap.size w w3 := below_grown hb2 hown2.1 hg3 hz1 hb2.size
           clear hg3)
        | (at_builtin
           refine wpList_append_bytes _ rfl (.tmp 26) (.tmp 27) _ rfl w3.heap.size 5 Try.underlying22 info8 _ [] rfl (OwnB.empty _ _) w.heap.size A' _ _ b rfl HB.out ((hbb.below hb3).alloc hb3.size _) (by simp; omega) (by simp) ?_
           intro v4 w4 hown4 hg4
           have hb4 : Below w.heap.size w w4 := below_grown (hb3.alloc hb3.size _) (OwnB.empty _ _).1 hg4 hb3.size (by have := hb3.size; simp; omega)
           have hz4 : w3.heap.size ≤ w4.heap.size := by have := hg4.size; simp at this; omega
           clear hg4)
        | (at_builtin
           refine wpList_append_bytes _ rfl (.tmp 28) (.tmp 29) _ rfl w3.heap.size 5 Try.underlying22 info8 v4 ([] ++ b) rfl hown4 w.heap.size A _ _ a rfl HA.out (hba.below hb4) (by simp; omega) hz4 ?_
           intro v5 w5 hown5 hg5
           have hb5 : Below w.heap.size w w5 := below_grown hb4 hown4.1 hg5 hb3.size hb4.size
           clear hg5)
        | (go_at_call 11
           first | (refine (Sum_v _ _ v3 _ hown3.v (by simp; omega)).mono ?_; rintro e w' ⟨rfl, rfl⟩; clear hown3) | (refine (Sum_v _ _ v5 _ hown5.v (by simp; omega)).mono ?_; rintro e w' ⟨rfl, rfl⟩; simp only [List.nil_append]; rw [he.out])))
      go_ret
      exact ⟨rfl, hb5⟩
    · go_enter Try.func3, Try.ntmps3
      go_wp2_with fail
      refine (summed_any _).mono ?_
      rintro e w1 ⟨rfl, hb1⟩
      go_wp2_with fail
      go_ret
      exact ⟨rfl, hb1⟩
  · go_enter Try.func3, Try.ntmps3
    go_wp2_with fail
    refine (summed_any _).mono ?_
    rintro e w1 ⟨rfl, hb1⟩
    go_wp2_with fail
    go_ret
    exact ⟨rfl, hb1⟩
end Go.Proofs.Ytimdnfakgobadaa
