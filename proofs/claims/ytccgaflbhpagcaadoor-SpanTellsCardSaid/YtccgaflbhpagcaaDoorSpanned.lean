/- waywardenlaw5.spanned. -/
import Derived.Test.YtccgaflbhpagcaaDoorUps
import Derived.Test.YtccgaflbhpagcaaDoorInts
namespace Go.Proofs.YtccgaflbhpagcaaDoor
open Go.ChangeShapes Go.WideShapes Go.ChangeAt Go.RowKit Sp
set_option linter.unusedVariables false
theorem one_link {w : World} {g : Nat} {a b c : Int} {t : TypeId} (h : w.heap[g]? = some (.cells #[.int .i64 a, .int .i64 b, .int .i64 c] t (0, 0))) (hw : wf3 a b c) : R1 (RdSlice 3 rdT) w (.slice (some ⟨g, 0, none⟩) 1 1) [(a, b, c)] := by
  refine ⟨_, 1, rfl, Nat.le_refl _, by decide, fun _ => ⟨g, 0, rfl, size_of_block h, fun i x hi => ?_⟩⟩
  match i, hi with
  | 0, hi =>
    simp only [List.getElem?_cons_zero, Option.some.injEq] at hi
    subst hi
    refine ⟨tC (a, b, c), rfl, rd_tC hw, fun j u hu => ?_⟩
    rw [cell_of_row _ g _ _ _ (0, 0) h]
    simpa [tC] using hu
theorem ok013 : OkL 2 [(0, 1, 3)] := ⟨by intro x hx; simp at hx; subst hx; decide, by simp⟩
theorem last013 {B : List Bel} (h : Last 2 (arcsOf [(0, 1, 3)]) B) : (B.map fun x => x.2.2) = [-1, 0] := by
  have h2 : Last 2 (arcsOf [(0, 1, 3)]) [(0, 0, -1), (0, 3, 0)] := ⟨1, by decide, by decide⟩
  rw [h.one (ok_arcs ok013) (by omega) h2]; rfl
theorem ints2 {a b : Int} {w : World} {t : TypeId} (h : ∀ x ∈ [a, b], (Lit.int .i64 x).wf = true) : R1 (RdSlice 1 (rdInt .i64)) (w.alloc (.cells #[.int .i64 a, .int .i64 b] t)) (.slice (some ⟨w.heap.size, 0, none⟩) 2 2) [a, b] :=
  new_ints rfl rfl rfl (by decide) h
theorem Ups_013 {w : World} {A : Option Addr} {c m : Nat} (hl : R1 rdLinks w (.slice A m c) [(0, 1, 3)]) : Calls Tryd.prog 11 #[.int .i64 2, .slice A m c] w (UpsPost w 2 [(0, 1, 3)]) := Ups_yes (n := 2) hl ok013 (by omega) (by omega)
set_option maxRecDepth 100000 in
theorem spanned_any (w : World) : Calls Tryd.prog 4 #[] w fun e w' => e = .returned (.bool true) ∧ Below w.heap.size w w' := by
  have hwf : wf3 0 1 3 := ⟨by decide, by decide, by decide⟩
  have HW2 := Lib.hid (show ∀ x ∈ [(-1 : Int), 0], (Lit.int .i64 x).wf = true by intro x hx; simp at hx; rcases hx with rfl | rfl <;> decide)
  go_enter Tryd.func4, Tryd.ntmps4
  go_wp2_with fail
  go_at_call 11
  (with_reducible refine (Ups_013 (one_link (a := 0) (b := 1) (c := 3) (heap_alloc_new _ _) hwf)).mono ?_)
  rintro e w1 ⟨v, B, rfl, hv, hlast, hb⟩
  have hl := last013 hlast
  rw [hl] at hv
  have HV := Lib.hid hv
  have HB := Lib.hid hb
  have s1 := hb.size
  clear hv hb hlast hl
  go_wp2_with fail
  go_at_call 10
  (with_reducible refine (Ints_v (HV.out.alloc _) (ints2 HW2.out)).mono ?_)
  rintro e w2 ⟨rfl, k, rfl⟩
  go_wp2
  go_ret
  exact ⟨rfl, below_drewN ((((Below.refl _ _).alloc (Nat.le_refl _) _).trans (HB.out.mono (by simp))).alloc (by simp at s1; omega) _) k⟩
end Go.Proofs.YtccgaflbhpagcaaDoor
