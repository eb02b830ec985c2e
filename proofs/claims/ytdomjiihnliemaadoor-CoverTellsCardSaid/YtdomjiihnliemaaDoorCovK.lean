/- waywardenlaw1.covered, and what the laws on covers share. -/
import Derived.Test.YtdomjiihnliemaaDoorCovF
namespace Go.Proofs.YtdomjiihnliemaaDoor
open Go.ChangeShapes Go.WideShapes Go.ChangeAt Go.RowKit
set_option linter.unusedVariables false
set_option linter.unusedSimpArgs false
theorem new_nets {w : World} {us : Array Value} {l : List Nn} {n : Nat} (h : us.toList = l.flatMap nC) (hn : l.length = n) (hm : n ≤ 1000) (hw : ∀ x ∈ l, wfN x) :
    OwnN (w.alloc (.cells us 29)) w.heap.size (.slice (some ⟨w.heap.size, 0, none⟩) n n) l := by
  subst hn
  have hs : us.size = l.length * 2 := by rw [← Array.length_toList, h, nC_len]
  refine ⟨⟨nC_len l, .inr ⟨w.heap.size, l.length, us, rfl, Nat.le_refl _, heap_alloc_new w _, Nat.le_refl _, by simp only [maxLen]; omega, hs, ?_⟩⟩, hw⟩
  rw [h, List.take_of_length_le (by rw [nC_len]; exact Nat.le_refl _)]
theorem known_cov : coverV [(167772160, 9), (176160768, 9)] = [(167772160, 8)] := by
  refine cover_one (fun x hx => ?_) ⟨by decide, fun _ h => by simp at h, trivial⟩ fun y => ?_
  · simp only [List.mem_cons, List.not_mem_nil, or_false] at hx
    rcases hx with rfl | rfl <;> decide
  · have h := sib_has (t := (167772160, 9)) (n := (176160768, 9)) (by decide) (by decide) (by decide) y
    have e : upN (176160768, 9) = (167772160, 8) := by decide
    rw [e] at h
    rw [hasL_cons, hasL_cons, hasL_cons, h]
    cases hasB (167772160, 9) y <;> cases hasB (176160768, 9) y <;> rfl
theorem known_wf : ∀ x ∈ [((167772160 : Int), (9 : Int)), (176160768, 9)], wfN x := by
  intro x hx
  simp only [List.mem_cons, List.not_mem_nil, or_false] at hx
  rcases hx with rfl | rfl <;> exact ⟨by decide, by decide⟩
set_option maxHeartbeats 1000000 in
theorem covered_any (w : World) : Calls Tryd.prog 4 #[] w fun e w' => e = .returned (.bool true) ∧ Below w.heap.size w w' := by
  have HK := Lib.hid (new_nets (w := w) (us := #[.int .u32 167772160, .int .i64 9, .int .u32 176160768, .int .i64 9]) (l := [(167772160, 9), (176160768, 9)]) (n := 2) rfl rfl (by omega) known_wf)
  have HB0 := Lib.hid (below_a1 w (.cells #[.int .u32 167772160, .int .i64 9, .int .u32 176160768, .int .i64 9] 29))
  have HC := Lib.hid (Cover_any HK.out.read)
  clear HK
  go_enter Tryd.func4, Tryd.ntmps4
  go_wp2_with fail
  go_at_call 8
  (with_reducible refine HC.out.mono ?_)
  rintro e w1 ⟨v, rfl, -, ho, hb1⟩
  have hz : covF [(167772160, 9), (176160768, 9)] = 0 := by decide
  have ho := ho hz
  rw [known_cov] at ho
  rw [hz, errV_zero]
  obtain ⟨g, cap, rfl, -, -, -, hc⟩ := own_pos ho.1 (by decide)
  have d0 := hc 0 _ rfl
  have d1 := hc 1 _ rfl
  simp only [Nat.add_zero, Nat.zero_add] at d0 d1
  rw [show [((167772160 : Int), (8 : Int))].length = 1 from rfl]
  have HB := Lib.hid (HB0.out.trans (hb1.mono (by simp)))
  clear hb1 ho hz hc
  go_wp2
  go_ret
  exact ⟨rfl, HB.out⟩
/-- the nets that a cover tells, as a slice -/
theorem CovPost.cases {w w' : World} {l : List Nn} {e : Ending} (h : CovPost w l e w') : (covF l ≠ 0 ∧ e = .returned (.tuple #[.slice none 0 0, .iface 25 (.int .i64 (covF l))]) ∧ Below w.heap.size w w') ∨
    (covF l = 0 ∧ ∃ A L c, L = (coverV l).length ∧ e = .returned (.tuple #[.slice A L c, .nilIface]) ∧ OwnN w' w.heap.size (.slice A L c) (coverV l) ∧ Below w.heap.size w w') := by
  obtain ⟨v, he, h1, h2, hb⟩ := h
  by_cases hF : covF l = 0
  · right
    have ho := h2 hF
    obtain ⟨A, c, rfl⟩ := ho.form
    exact ⟨hF, A, _, c, rfl, by rw [he, hF]; rfl, ho, hb⟩
  · left
    rw [h1 hF, errV_ne hF] at he
    exact ⟨hF, he, hb⟩
theorem cov_of_cov {l : List Nn} (h : covF l = 0) : covF (coverV l) = 0 := by
  obtain ⟨h1, h2⟩ := covF_zero.1 h
  exact covF_zero.2 ⟨cover_valid h1, by have := (cover_all h1).2.2; omega⟩
theorem sl_form {w : World} {ok : Nat → Prop} {A : Option Addr} {n c : Nat} {l : List Nn} (h : rdNets w ok [.slice A n c] l) : l.length = n := (RdSlice.len h).1.symm
theorem rd_below {w w' : World} {v : Value} {l : List Nn} (h : rdNets w (· < w.heap.size) [v] l) (hb : Below w.heap.size w w') : rdNets w' (· < w'.heap.size) [v] l := (show R1 rdNets w v l from h).below hb
theorem net_parts {w : World} {A : Array Value} {x : Int × Int} (h : RV rdNet w (.agg A) x) : ∃ a l : Int, x = (a, l) ∧ A = #[.int .u32 a, .int .i64 l] ∧ is32 a ∧ -9223372036854775808 ≤ l ∧ l ≤ 9223372036854775807 := by
  obtain ⟨c0, c1, e, ⟨e0, w0⟩, ⟨e1, w1⟩⟩ := h
  obtain ⟨a, l⟩ := x
  subst e0; subst e1
  have e2 : A.toList = [.int .u32 a, .int .i64 l] := by simpa [Value.cells] using e
  have b1 := bounds_i64 w1
  exact ⟨a, l, rfl, by rw [← Array.toArray_toList (xs := A), e2], bounds_u32 w0, by omega, by omega⟩
end Go.Proofs.YtdomjiihnliemaaDoor
