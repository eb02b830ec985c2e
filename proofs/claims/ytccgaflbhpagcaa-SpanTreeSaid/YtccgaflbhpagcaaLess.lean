/- waywardenref2.LessLink. -/
import Derived.Test.YtccgaflbhpagcaaCost
namespace Go.Proofs.Ytccgaflbhpagcaa
open Go.ChangeShapes Go.WideShapes Go.ChangeAt Go.RowKit Sp
set_option linter.unusedVariables false
set_option linter.unusedSimpArgs false
def lessL (l : List Lnk) (a b : Int) : List Lnk := l.filter fun x => !pairB x (a, b, 0)
theorem less_snoc {l : List Lnk} {a b : Int} {k : Nat} {x : Lnk} (h : l[k]? = some x) : lessL (l.take (k + 1)) a b = lessL (l.take k) a b ++ (if pairB x (a, b, 0) = true then [] else [x]) := by
  rw [take_succ_of h]; unfold lessL; rw [List.filter_append]
  cases e : pairB x (a, b, 0) <;> simp [List.filter_cons, e]
set_option maxRecDepth 100000 in
set_option maxHeartbeats 4000000 in
theorem Less_any {w : World} {A : Option Addr} {m c : Nat} {l : List Lnk} (hl : R1 rdLinks w (.slice A m c) l) (hr : l.length ≤ 5864062013000) (a b : Int) :
    Calls Try.prog 11 #[.slice A m c, .int .i64 a, .int .i64 b] w fun e w' => ∃ v, e = .returned v ∧ OwnT 36 w' w.heap.size v (lessL l a b) ∧ Below w.heap.size w w' := by
  obtain ⟨hm, hle, hcm⟩ := RdSlice.len hl
  have hm0 : m ≤ 9223372036854775807 := by unfold maxLen at hcm; omega
  have hm1 : m ≤ 5864062013000 := by omega
  have HL := Lib.hid hl
  have HM := Lib.hid hm
  clear hl hm hle hcm hr
  go_enter Try.func11, Try.ntmps11
  go_wp2
  go_loopw [7, 8] (fun v t wr => ∃ k : Nat, k ≤ m ∧ t = .int .i64 k ∧ OwnT 36 wr w.heap.size v (lessL (l.take k) a b) ∧ Below w.heap.size w wr) (fun _ t _ => m - (intOf t).toNat)
  case atStart => exact ⟨0, Nat.zero_le _, rfl, OwnT.nil_ _ _ _, Below.refl _ _⟩
  case round =>
    obtain ⟨k, hk, rfl, hown, hb⟩ := hrel
    have HOWN := Lib.hid hown
    have HB := Lib.hid hb
    clear hown hb
    by_cases hlt : k < m
    · obtain ⟨g, o, x, y, z, rfl, hbb, HX, ⟨wx, wy, wz⟩, d0, d1, d2⟩ := RdSlice.atL HL.out hlt
      have c0 := (HB.out.cell hbb).trans d0
      have c1 := (HB.out.cell hbb).trans d1
      have c2 := (HB.out.cell hbb).trans d2
      have HS := Lib.hid (less_snoc (a := a) (b := b) HX.out)
      have HW := Lib.hid (show wf3 x y z from ⟨wx, wy, wz⟩)
      have s1 := HB.out.size
      have hlen : (lessL (l.take k) a b).length ≤ 5864062014000 := by
        have h1 := List.length_filter_le (fun x => !pairB x (a, b, 0)) (l.take k)
        rw [List.length_take] at h1
        show (List.filter _ _).length ≤ _
        omega
      clear wx wy wz d0 d1 d2
      have i0 : (0 : Int) ≤ (k : Int) := by omega
      have i1 : (k : Int) < (m : Int) := by omega
      cases t1 : (x == a) <;> cases t2 : (y == b) <;> cases t3 : (x == b) <;> cases t4 : (y == a)
      all_goals
        first
          | (have hp : pairB (x, y, z) (a, b, 0) = true := pair_yes (by first | exact .inl ⟨by simpa using t1, by simpa using t2⟩ | exact .inr ⟨by simpa using t3, by simpa using t4⟩)
             have HS2 := Lib.hid (HS.out.trans (by rw [if_pos hp, List.append_nil]))
             clear hp
             go_wp2
             go_roundw
             case rel => exact ⟨k + 1, by omega, by go_num, by rw [HS2.out]; exact HOWN.out, HB.out⟩
             case measure => simp [intOf]; omega)
          | (have hp : pairB (x, y, z) (a, b, 0) = false := pair_no (by simp only [beq_eq_false_iff_ne, beq_iff_eq, ne_eq] at t1 t2 t3 t4; simp only; omega)
             have HS2 : Hid (lessL (l.take (k + 1)) a b = lessL (l.take k) a b ++ [(x, y, z)]) := Lib.hid (HS.out.trans (by rw [if_neg (by rw [hp]; simp)]))
             clear hp
             go_wp2_with (first
               | (at_builtin; go_loud (refine wpList_append_three rfl _ _ 22 36 Try.underlying22 link_info rfl w.heap.size _ _ rfl (HOWN.out.alloc _) wr.heap.size (x, y, z) 36 rfl (heap_alloc_new wr _) HW.out hlen (by simp; omega) ?_); intro v' w2 hown2 hgrow2)
               | go_in)
             have s2 := hgrow2.size
             simp at s2
             go_roundw
             case rel => exact ⟨k + 1, by omega, by go_num, by rw [HS2.out]; exact hown2, hgrow2.below (HB.out.alloc s1 _) (HOWN.out.alloc _).1 (Nat.le_refl _) (by simp; omega)⟩
             case measure => simp [intOf]; omega)
          | fail
    · have ek : k = m := by omega
      subst ek
      have e : l.take k = l := List.take_of_length_le (by rw [HM.out]; exact Nat.le_refl _)
      have HE := Lib.hid e
      clear e
      go_wp2
      go_ret
      exact ⟨_, rfl, by have := HOWN.out; rw [HE.out] at this; exact this, HB.out⟩
theorem less_sub (l : List Lnk) (a b : Int) : (lessL l a b).Sublist l := List.filter_sublist
theorem less_lt {l : List Lnk} {k : Nat} {x : Lnk} (h : l[k]? = some x) : (lessL l x.1 x.2.1).length < l.length := by
  have hp : pairB x (x.1, x.2.1, 0) = true := pair_yes (.inl ⟨rfl, rfl⟩)
  have h1 : (lessL l x.1 x.2.1).length ≤ l.length := (less_sub l _ _).length_le
  rcases Nat.lt_or_ge (lessL l x.1 x.2.1).length l.length with h2 | h2
  · exact h2
  · have e := (less_sub l x.1 x.2.1).eq_of_length_le h2
    have hm : x ∈ lessL l x.1 x.2.1 := by rw [e]; exact List.mem_of_getElem? h
    have := (List.mem_filter.1 hm).2
    rw [hp] at this; cases this
end Go.Proofs.Ytccgaflbhpagcaa
