/- span.Tree: IndexFunc by its closure; Clone. -/
import Derived.Test.YtccgaflbhpagcaaDoorTreeA
namespace Go.Proofs.YtccgaflbhpagcaaDoor
open Go.ChangeShapes Go.WideShapes Go.ChangeAt Go.RowKit Sp
set_option linter.unusedVariables false
set_option linter.unusedSimpArgs false
/-- the first one that is not used -/
def Idx (B : List Bel) (l : List Lnk) (r : Int) : Prop := (r = -1 ∧ treeOf B l = l) ∨ ∃ j : Nat, r = (j : Int) ∧ j < l.length ∧ treeOf B (l.take j) = l.take j ∧ ∃ x, l[j]? = some x ∧ usedB B x = false
theorem tree_snoc {B : List Bel} {l : List Lnk} {k : Nat} {x : Lnk} (h : l[k]? = some x) : treeOf B (l.take (k + 1)) = treeOf B (l.take k) ++ (if usedB B x = true then [x] else []) := by
  rw [take_succ_of h]; unfold treeOf; rw [List.filter_append]; simp [List.filter_cons]
def IdxPost (w : World) (B : List Bel) (l : List Lnk) (e : Ending) (w' : World) : Prop := ∃ r : Int, e = .returned (.int .i64 r) ∧ Idx B l r ∧ Below w.heap.size w w'
set_option maxRecDepth 100000 in
set_option maxHeartbeats 2000000 in
theorem IndexFunc_tree {w : World} {base gp : Nat} {A A' : Option Addr} {n c m c' : Nat} {B : List Bel} {l : List Lnk} (hc : Cap w base gp A n c B) (hl : R1 rdLinks w (.slice A' m c') l) (hn : ∀ x ∈ l, InL n x) :
    Calls Tryd.prog 27 #[.slice A' m c', .func (Fn.func 20) #[] #[.pointer (some ⟨gp, 0, none⟩)]] w (IdxPost w B l) := by
  obtain ⟨hm, hle, hcm⟩ := RdSlice.len hl
  have hm0 : m ≤ 9223372036854775807 := by unfold maxLen at hcm; omega
  have HC := Lib.hid hc
  have HL := Lib.hid hl
  have HM := Lib.hid hm
  have HN := Lib.hid hn
  clear hc hl hm hn hcm hle
  go_enter Tryd.func27, Tryd.ntmps27
  go_wp2
  go_loopw [8] (fun t wr => ∃ k : Nat, k ≤ m ∧ t = .int .i64 k ∧ treeOf B (l.take k) = l.take k ∧ Below w.heap.size w wr) (fun t _ => m - (intOf t).toNat)
  case atStart => exact ⟨0, Nat.zero_le _, rfl, rfl, Below.refl _ _⟩
  case round =>
    obtain ⟨k, hk, rfl, he, hb⟩ := hrel
    have HE := Lib.hid he
    have HB := Lib.hid hb
    have s1 := hb.size
    clear he hb
    by_cases hlt : k < m
    · obtain ⟨g, o, x, y, z, rfl, hbb, HX, ⟨wx, wy, wz⟩, d0, d1, d2⟩ := RdSlice.atL HL.out hlt
      have c0 := (HB.out.cell hbb).trans d0
      have c1 := (HB.out.cell hbb).trans d1
      have c2 := (HB.out.cell hbb).trans d2
      have HK := Lib.hid (HC.out.below (HB.out.mono HC.out.le))
      have hx := HN.out _ (List.mem_of_getElem? HX.out)
      obtain ⟨hx0, hx1, hx2, hx3⟩ := hx
      simp only at hx0 hx1 hx2 hx3
      obtain ⟨a, rfl⟩ := Int.eq_ofNat_of_zero_le hx0
      obtain ⟨b, rfl⟩ := Int.eq_ofNat_of_zero_le hx2
      obtain ⟨r, hr⟩ : ∃ r, (!usedB B ((a : Int), (b : Int), z)) = r := ⟨_, rfl⟩
      have HR := Lib.hid hr
      have HS := Lib.hid (tree_snoc (B := B) HX.out)
      have HT := Lib.hid (take_succ_of HX.out)
      have hlm : k < l.length := by have := HM.out; omega
      have HCL := Lib.hid (fun W : World => fun h : Cap W base gp A n c B => clos_tree h (a := a) (b := b) (c := z) (by omega) (by omega) HR.out)
      clear hr d0 d1 d2 wx wy wz hx0 hx1 hx2 hx3
      cases r
      · have hu : usedB B ((a : Int), (b : Int), z) = true := by simpa using HR.out
        have HU := Lib.hid hu
        clear hu
        go_wp2_with (first | (go_at_call 20; (with_reducible refine (HCL.out _ HK.out).mono ?_); rintro e w1 ⟨rfl, hb1⟩; have HB1 := Lib.hid (HB.out.trans (hb1.mono s1)); clear hb1) | fail)
        go_roundw
        case rel => exact ⟨k + 1, by omega, by go_num, by rw [HS.out, HE.out, HT.out, if_pos HU.out], HB1.out⟩
        case measure => simp [intOf]; omega
      · have hu : usedB B ((a : Int), (b : Int), z) = false := by simpa using HR.out
        have HU := Lib.hid hu
        clear hu
        go_wp2_with (first | (go_at_call 20; (with_reducible refine (HCL.out _ HK.out).mono ?_); rintro e w1 ⟨rfl, hb1⟩; have HB1 := Lib.hid (HB.out.trans (hb1.mono s1)); clear hb1) | fail)
        go_ret
        exact ⟨_, rfl, .inr ⟨k, rfl, hlm, HE.out, _, HX.out, HU.out⟩, HB1.out⟩
    · have ek : k = m := by omega
      subst ek
      have e : l.take k = l := List.take_of_length_le (by rw [HM.out]; exact Nat.le_refl _)
      have HE2 : Hid (treeOf B l = l) := Lib.hid (by have := HE.out; rw [e] at this; exact this)
      clear e
      go_wp2
      go_ret
      exact ⟨_, rfl, .inl ⟨rfl, HE2.out⟩, HB.out⟩
set_option maxRecDepth 100000 in
set_option maxHeartbeats 2000000 in
theorem Clone_any {w : World} {A : Option Addr} {m c : Nat} {l : List Lnk} (hl : R1 rdLinks w (.slice A m c) l) (hlen : l.length ≤ 5864062014000) :
    Calls Tryd.prog 19 #[.slice A m c] w fun e w' => ∃ v, e = .returned v ∧ OwnT 29 w' w.heap.size v l ∧ Below w.heap.size w w' := by
  have HL := Lib.hid hl
  obtain ⟨hm, hle, hcm⟩ := RdSlice.len hl
  cases A with
  | none =>
    have hm0 : m = 0 := by
      rcases Nat.eq_zero_or_pos m with h | h
      · exact h
      · obtain ⟨b, o, _, _, _, e, _⟩ := RdSlice.atL hl h; cases e
    subst hm0
    have el : l = [] := List.length_eq_zero_iff.1 hm.symm
    subst el
    have hnil := fun W => run_eq_nil (P := Tryd.prog) W none 0 c Tryd.underlying22
    clear hl hm hle hcm
    go_enter Tryd.func19, Tryd.ntmps19
    go_wp2
    go_ret
    exact ⟨_, rfl, OwnT.nil_ _ _ _, Below.refl _ _⟩
  | some a =>
    have hnil := fun W => run_eq_nil (P := Tryd.prog) W (some a) m c Tryd.underlying22
    have hown : OwnT 29 (w.alloc (.cells #[] 29)) w.heap.size (.slice (some ⟨w.heap.size, 0, none⟩) 0 0) [] := ⟨World.ownsRow_made w #[] 0 (Nat.le_refl _) (by decide) rfl, by simp⟩
    have HOWN := Lib.hid hown
    clear hl hm hle hcm hown
    go_enter Tryd.func19, Tryd.ntmps19
    go_wp2_with (first
      | (at_builtin; go_loud (refine wpList_append_threes rfl _ _ 22 29 Tryd.underlying22 link_info rfl w.heap.size _ [] rfl HOWN.out (some a) m c l rfl (HL.out.alloc _) (by rw [List.length_nil]; omega) (by simp) ?_); intro v2 w2 hown2 hgrow2)
      | go_in)
    have hb := hgrow2.below ((Below.refl _ _).alloc (Nat.le_refl _) _) HOWN.out.1 (Nat.le_refl _) (by simp)
    go_ret
    exact ⟨_, rfl, by simpa using hown2, hb⟩
end Go.Proofs.YtccgaflbhpagcaaDoor
