/- SpanTells: the walk, where something is wrong. -/
import Derived.Test.YtccgaflbhpagcaaDoorTellsA
namespace Go.Proofs.YtccgaflbhpagcaaDoor
open Go.ChangeShapes Go.WideShapes Go.ChangeAt Go.RowKit Sp
set_option linter.unusedVariables false
set_option linter.unusedSimpArgs false
theorem nil_i (w : World) : R1 (RdSlice 1 (rdInt .i64)) w (.slice none 0 0) [] := RdSlice.nil_
theorem nil_l (w : World) : R1 rdLinks w (.slice none 0 0) [] := RdSlice.nil_
set_option maxRecDepth 100000 in
set_option maxHeartbeats 4000000 in
theorem SpanTells_bad {w : World} {n k : Int} {A : Option Addr} {c m : Nat} {l : List Lnk} (hl : R1 rdLinks w (.slice A m c) l) (hr : l.length * 24 ≤ 140737488351232) (hg : graphE n l = k) (h0 : k ≠ 0) (he : HErr w) :
    Calls Tryd.prog 3 #[.int .i64 n, .slice A m c] w fun e w' => e = .returned (.bool true) ∧ Below w.heap.size w w' := by
  have HU := Lib.hid (show Bun w w A m c l (.slice none 0 0) (.slice none 0 0) (.slice none 0 0) [] [] [] from ⟨Below.refl _ _, hl, he, nil_i w, nil_i w, nil_l w⟩)
  have HG := Lib.hid hg
  have t0 : (k == 0) = false := by simpa using h0
  clear hl hg he
  go_enter Tryd.func3, Tryd.ntmps3
  go_wp2_with fail
  go_at_call 4
  (with_reducible refine (spanned_any _).mono ?_)
  rintro e w1 ⟨rfl, hb1⟩
  have HU2 := Lib.hid (HU.out.below hb1)
  clear HU
  have HU := HU2
  clear HU2 hb1
  go_wp2_with fail
  go_at_call 5
  (with_reducible refine (GFault_any HU.out.lk HG.out).mono ?_)
  rintro e w1 ⟨rfl, hb1⟩
  have HU2 := Lib.hid (HU.out.below hb1)
  clear HU
  have HU := HU2
  clear HU2 hb1
  go_wp2
  refine wp_loop_rounds 1 ?_
  rw [rounds_succ]
  go_wp2
  refine wp_loop_rounds 1 ?_
  rw [rounds_succ]
  go_wp2_with fail
  go_at_call 8
  (with_reducible refine (Roots_no HU.out.lk hr HG.out h0).mono ?_)
  rintro e w1 ⟨rfl, hb1⟩
  have HU2 := Lib.hid (HU.out.below hb1)
  clear HU
  have HU := HU2
  clear HU2 hb1
  go_wp2_with fail
  go_at_call 9
  (with_reducible refine (error_is (errV_ne h0) (beq_self_eq_true k) _ HU.out.er).mono ?_)
  rintro e w1 ⟨rfl, hb1⟩
  have HU2 := Lib.hid (HU.out.below hb1)
  clear HU
  have HU := HU2
  clear HU2 hb1
  go_wp2_with fail
  go_at_call 10
  (with_reducible refine (Ints_same (nil_i _) HU.out.r7).mono ?_)
  rintro e w1 ⟨rfl, d, rfl⟩
  have HU2 := Lib.hid (HU.out.drewN d)
  clear HU
  have HU := HU2
  clear HU2
  go_wp2_with fail
  go_at_call 11
  (with_reducible refine (Ups_no HU.out.lk hr HG.out h0).mono ?_)
  rintro e w1 ⟨rfl, hb1⟩
  have HU2 := Lib.hid (HU.out.below hb1)
  clear HU
  have HU := HU2
  clear HU2 hb1
  go_wp2_with fail
  go_at_call 9
  (with_reducible refine (error_is (errV_ne h0) (beq_self_eq_true k) _ HU.out.er).mono ?_)
  rintro e w1 ⟨rfl, hb1⟩
  have HU2 := Lib.hid (HU.out.below hb1)
  clear HU
  have HU := HU2
  clear HU2 hb1
  go_wp2_with fail
  go_at_call 10
  (with_reducible refine (Ints_same (nil_i _) HU.out.r8).mono ?_)
  rintro e w1 ⟨rfl, d, rfl⟩
  have HU2 := Lib.hid (HU.out.drewN d)
  clear HU
  have HU := HU2
  clear HU2
  go_wp2_with fail
  go_at_call 12
  (with_reducible refine (Tree_no HU.out.lk hr HG.out h0).mono ?_)
  rintro e w1 ⟨rfl, hb1⟩
  have HU2 := Lib.hid (HU.out.below hb1)
  clear HU
  have HU := HU2
  clear HU2 hb1
  go_wp2_with fail
  go_at_call 9
  (with_reducible refine (error_is (errV_ne h0) (beq_self_eq_true k) _ HU.out.er).mono ?_)
  rintro e w1 ⟨rfl, hb1⟩
  have HU2 := Lib.hid (HU.out.below hb1)
  clear HU
  have HU := HU2
  clear HU2 hb1
  go_wp2_with fail
  go_at_call 13
  (with_reducible refine (Links_v (nil_l _) HU.out.r9).mono ?_)
  rintro e w1 ⟨rfl, d, rfl⟩
  have HU2 := Lib.hid (HU.out.drewN d)
  clear HU
  have HU := HU2
  clear HU2
  go_wp2
  go_ret
  exact ⟨rfl, HU.out.bel⟩
end Go.Proofs.YtccgaflbhpagcaaDoor
