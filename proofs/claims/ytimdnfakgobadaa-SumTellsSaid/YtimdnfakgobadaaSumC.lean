/- The walks of the laws SumTells, SumOrder, SumSets, SumSwaps. -/
import Derived.Test.YtimdnfakgobadaaSumB
import Derived.Test.YtimdnfakgobadaaOpen
namespace Go.Proofs.Ytimdnfakgobadaa
open Go.ChangeShapes Go.WideShapes Go.ChangeAt Go.RowKit

set_option maxHeartbeats 400000 in
theorem SumTells_walk (w : World) (A : Option Addr) (n c : Nat) (l : List Int) (rr : RdBytes w w.heap.size (Value.slice A n c).cells.toList l) (hc : l.length * 1 ≤ reachBytes ∧ ∀ x ∈ l, True)
    (s : Int) (hs : 0 ≤ s ∧ s ≤ 65535) (o : Int) (ho : 0 ≤ o ∧ o ≤ 65535) (m : Int) (hm : 0 ≤ m ∧ m ≤ 65535) :
    Calls Try.prog 7 #[.slice A n c, .int .u16 s, .int .u16 o, .int .u16 m] w fun e w' => e = .returned (.bool true) ∧ Below w.heap.size w w' := by
  obtain ⟨hb, hn, _, _⟩ := bytes_of_rd rr
  have hl : n ≤ 140737488355328 := by have := hc.1; have := reach_le; omega
  obtain ⟨hs0, hs1⟩ := hs
  obtain ⟨ho0, ho1⟩ := ho
  obtain ⟨hm0, hm1⟩ := hm
  clear rr hc
  have HN := Lib.hid hn; clear hn
  have hW : 65535 - fo (65535 - s + 65535 - o + m) = W16 s o m := by unfold W16; rw [show 65535 - s + 65535 - o + m = 65535 - s + (65535 - o) + m from by omega]
  have hr := S16_rng l
  have hr2 := W16_rng s o m
  have hf := fo_rng (65535 - s + 65535 - o + m)
  go_enter Try.func7, Try.ntmps7
  go_wp2_with fail
  refine (summed_any _).mono ?_
  rintro e w1 ⟨rfl, hb1⟩
  have hB := hb.below hb1
  go_wp2_with (first
    | (go_at_call 15; refine (Folded_any _ _ (by omega) (by omega)).mono ?_; rintro e w' ⟨rfl, rfl⟩)
    | (go_at_call 11; refine (Sum_any _ _ _ l _ _ hB HN.out hl).mono ?_; rintro e w' ⟨rfl, rfl⟩)
    | (go_at_call 16; refine (SumOf_any _ _ _ l _ _ hB HN.out hl).mono ?_; rintro e w' ⟨rfl, rfl⟩)
    | (go_at_call 12; refine (Right_any _ _ _ l _ _ hB HN.out hl).mono ?_; rintro e w' ⟨rfl, rfl⟩)
    | (go_at_call 13; refine (Swap_any _ _ _ _ hs0 hs1 ho0 ho1 hm0 hm1).mono ?_; rintro e w' ⟨rfl, rfl⟩))
  go_ret
  exact ⟨rfl, hb1⟩
end Go.Proofs.Ytimdnfakgobadaa
