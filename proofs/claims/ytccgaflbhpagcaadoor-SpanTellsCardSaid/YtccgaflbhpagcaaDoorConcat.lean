/- slices.Concat of two lists of links. -/
import Derived.Test.YtccgaflbhpagcaaDoorAppL
namespace Go.Proofs.YtccgaflbhpagcaaDoor
open Go.ChangeShapes Go.WideShapes Go.ChangeAt Go.RowKit Sp
set_option linter.unusedVariables false
set_option maxRecDepth 100000 in
set_option maxHeartbeats 2000000 in
theorem Concat_two {w : World} {g : Nat} {A A' : Option Addr} {m m' c c' : Nat} {t : TypeId} {l l' : List Lnk} (hg : w.heap[g]? = some (.cells #[.slice A m c, .slice A' m' c'] t (0, 0)))
    (h1 : R1 (RdSlice 3 rdT) w (.slice A m c) l) (h2 : R1 (RdSlice 3 rdT) w (.slice A' m' c') l') (hl : l.length + l'.length ≤ 5864062014000) :
    Calls Tryd.prog 23 #[.slice (some ⟨g, 0, none⟩) 2 2] w fun e w' => ∃ v, e = .returned v ∧ OwnT 29 w' w.heap.size v (l ++ l') ∧ Below w.heap.size w w' := by
  obtain ⟨hm, _, _⟩ := RdSlice.len h1
  obtain ⟨hm', _, _⟩ := RdSlice.len h2
  have hgl := size_of_block hg
  have c0 : w.cell? ⟨g, 0, none⟩ = some (.slice A m c) := by rw [cell_of_row _ g _ _ _ (0, 0) hg]; rfl
  have c1 : w.cell? ⟨g, 1, none⟩ = some (.slice A' m' c') := by rw [cell_of_row _ g _ _ _ (0, 0) hg]; rfl
  have hs : m + m' ≤ 5864062014000 := by omega
  have hw1 : IntKind.i64.wrap ((m : Int) + (m' : Int)) = (m : Int) + (m' : Int) := by rw [IntKind.wrap_i64]; omega
  have hn0 : ¬ ((m : Int) < 0) := by omega
  have hn1 : ¬ ((m : Int) + (m' : Int) < 0) := by omega
  have H1 := Lib.hid h1
  have H2 := Lib.hid h2
  have HM := Lib.hid hm
  have HM' := Lib.hid hm'
  clear h1 h2 hm hm' hg
  go_enter Tryd.func23, Tryd.ntmps23
  go_wp2
  refine wp_loop_rounds 3 ?_
  rw [rounds_succ]
  go_wp2
  rw [rounds_succ]
  go_wp2
  rw [rounds_succ]
  go_wp2_with (first
    | (go_at_call 28
       go_loud (refine (Grow0_any (m + m') hs w).mono ?_)
       rintro e w1 ⟨v, rfl, hown, hb⟩)
    | fail)
  have d0 := (hb.cell (p := ⟨g, 0, none⟩) hgl).trans c0
  have d1 := (hb.cell (p := ⟨g, 1, none⟩) hgl).trans c1
  have s1 := hb.size
  refine wp_loop_rounds 3 ?_
  rw [rounds_succ]
  go_wp2_with (first
    | (at_builtin; go_loud (refine wpList_append_threes rfl _ _ 22 29 Tryd.underlying22 link_info rfl w.heap.size _ [] rfl hown A m c l rfl (H1.out.below hb) (by rw [List.length_nil]; omega) s1 ?_); intro v2 w2 hown2 hgrow2)
    | go_in)
  have hb2 := hgrow2.below hb hown.1 (Nat.le_refl _) s1
  have e0 := (hb2.cell (p := ⟨g, 0, none⟩) hgl).trans c0
  have e1 := (hb2.cell (p := ⟨g, 1, none⟩) hgl).trans c1
  have s2 := hb2.size
  rw [rounds_succ]
  go_wp2_with (first
    | (at_builtin; go_loud (refine wpList_append_threes rfl _ _ 22 29 Tryd.underlying22 link_info rfl w.heap.size _ _ rfl hown2 A' m' c' l' rfl (H2.out.below hb2) (by rw [List.nil_append]; exact hl) s2 ?_); intro v3 w3 hown3 hgrow3)
    | go_in)
  have hb3 := hgrow3.below hb2 hown2.1 (Nat.le_refl _) s2
  rw [rounds_succ]
  go_wp2
  go_ret
  exact ⟨_, rfl, by simpa using hown3, hb3⟩
end Go.Proofs.YtccgaflbhpagcaaDoor
