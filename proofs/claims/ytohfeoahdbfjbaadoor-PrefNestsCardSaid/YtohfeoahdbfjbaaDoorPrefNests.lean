/- PrefNests: the walk. -/
import Derived.Test.YtohfeoahdbfjbaaDoorBl
namespace Go.Proofs.YtohfeoahdbfjbaaDoor
open Go.ChangeShapes Go.WideShapes Go.ChangeAt Go.RowKit
set_option linter.unusedVariables false
set_option linter.unusedSimpArgs false

set_option maxRecDepth 100000 in
set_option maxHeartbeats 2000000 in
theorem nests_s11 (W : World) (hg : HStr W) (a l c n x : Int) (ha : is32 a) (hc : is32 c) (hx : is32 x) (hab : inB (a, l) (a, l) = true) (hp : hasB (a, l) x = true) (hac : inB (a, l) (c, n) = true) :
    Calls Tryd.prog 6 #[.agg #[.int .u32 a, .int .i64 l], .agg #[.int .u32 a, .int .i64 l], .agg #[.int .u32 c, .int .i64 n], .int .u32 x] W fun e w' => e = .returned (.bool true) ∧ Below W.heap.size W w' := by
  have HAB := Lib.hid hab
  have HP := Lib.hid hp
  have HAC := Lib.hid hac
  have HA := Lib.hid ha
  have HBB := Lib.hid ha
  have HC := Lib.hid hc
  have HX := Lib.hid hx
  clear hab hp hac
  have HBA := HAB
  have HQ := HP
  have HBC := HAC
  have HG := Lib.hid hg
  have hst := BL.start3 W (netB a l) (netB a l) (netB c n)
  have HB := Lib.hid hst
  clear hst hg
  go_enter Tryd.func6, Tryd.ntmps6
  go_wp2_with fail
  go_at_call 22
  (with_reducible refine (known_any _ (HG.out.on HB.out.bel)).mono ?_); rintro e w1 ⟨rfl, hb⟩
  have hB := HB.out.below hb
  clear HB hb
  obtain ⟨c0a, c0b, _, _⟩ := row2 (hB.blk (W.heap.size) (netB (a) (l)) (by simp))
  have z0 := size_of_block (hB.blk (W.heap.size) (netB (a) (l)) (by simp))
  obtain ⟨c1a, c1b, _, _⟩ := row2 (hB.blk (W.heap.size + 1) (netB (a) (l)) (by simp))
  have z1 := size_of_block (hB.blk (W.heap.size + 1) (netB (a) (l)) (by simp))
  obtain ⟨c2a, c2b, _, _⟩ := row2 (hB.blk (W.heap.size + 2) (netB (c) (n)) (by simp))
  have z2 := size_of_block (hB.blk (W.heap.size + 2) (netB (c) (n)) (by simp))
  have zz := hB.bel.size
  have HB := Lib.hid hB; clear hB
  go_wp2_with fail
  go_at_call 26
  (with_reducible refine (has_is HP.out HA.out HX.out _).mono ?_); rintro e w2 ⟨rfl, hb⟩
  have hB := HB.out.below hb
  clear HB hb c0a c0b z0 c1a c1b z1 c2a c2b z2 zz
  obtain ⟨c0a, c0b, _, _⟩ := row2 (hB.blk (W.heap.size) (netB (a) (l)) (by simp))
  have z0 := size_of_block (hB.blk (W.heap.size) (netB (a) (l)) (by simp))
  obtain ⟨c1a, c1b, _, _⟩ := row2 (hB.blk (W.heap.size + 1) (netB (a) (l)) (by simp))
  have z1 := size_of_block (hB.blk (W.heap.size + 1) (netB (a) (l)) (by simp))
  obtain ⟨c2a, c2b, _, _⟩ := row2 (hB.blk (W.heap.size + 2) (netB (c) (n)) (by simp))
  have z2 := size_of_block (hB.blk (W.heap.size + 2) (netB (c) (n)) (by simp))
  have zz := hB.bel.size
  have HB := Lib.hid hB; clear hB
  go_wp2_with fail
  go_at_call 26
  (with_reducible refine (has_is HQ.out HBB.out HX.out _).mono ?_); rintro e w3 ⟨rfl, hb⟩
  have hB := HB.out.below hb
  clear HB hb c0a c0b z0 c1a c1b z1 c2a c2b z2 zz
  obtain ⟨c0a, c0b, _, _⟩ := row2 (hB.blk (W.heap.size) (netB (a) (l)) (by simp))
  have z0 := size_of_block (hB.blk (W.heap.size) (netB (a) (l)) (by simp))
  obtain ⟨c1a, c1b, _, _⟩ := row2 (hB.blk (W.heap.size + 1) (netB (a) (l)) (by simp))
  have z1 := size_of_block (hB.blk (W.heap.size + 1) (netB (a) (l)) (by simp))
  obtain ⟨c2a, c2b, _, _⟩ := row2 (hB.blk (W.heap.size + 2) (netB (c) (n)) (by simp))
  have z2 := size_of_block (hB.blk (W.heap.size + 2) (netB (c) (n)) (by simp))
  have zz := hB.bel.size
  have HB := Lib.hid hB; clear hB
  go_wp2_with fail
  go_at_call 27
  (with_reducible refine (in_is HAB.out HA.out HBB.out _).mono ?_); rintro e w4 ⟨rfl, hb⟩
  have hB := HB.out.below hb
  clear HB hb c0a c0b z0 c1a c1b z1 c2a c2b z2 zz
  obtain ⟨c0a, c0b, _, _⟩ := row2 (hB.blk (W.heap.size) (netB (a) (l)) (by simp))
  have z0 := size_of_block (hB.blk (W.heap.size) (netB (a) (l)) (by simp))
  obtain ⟨c1a, c1b, _, _⟩ := row2 (hB.blk (W.heap.size + 1) (netB (a) (l)) (by simp))
  have z1 := size_of_block (hB.blk (W.heap.size + 1) (netB (a) (l)) (by simp))
  obtain ⟨c2a, c2b, _, _⟩ := row2 (hB.blk (W.heap.size + 2) (netB (c) (n)) (by simp))
  have z2 := size_of_block (hB.blk (W.heap.size + 2) (netB (c) (n)) (by simp))
  have zz := hB.bel.size
  have HB := Lib.hid hB; clear hB
  go_wp2_with fail
  go_at_call 27
  (with_reducible refine (in_is HAB.out HA.out HBB.out _).mono ?_); rintro e w5 ⟨rfl, hb⟩
  have hB := HB.out.below hb
  clear HB hb c0a c0b z0 c1a c1b z1 c2a c2b z2 zz
  obtain ⟨c0a, c0b, _, _⟩ := row2 (hB.blk (W.heap.size) (netB (a) (l)) (by simp))
  have z0 := size_of_block (hB.blk (W.heap.size) (netB (a) (l)) (by simp))
  obtain ⟨c1a, c1b, _, _⟩ := row2 (hB.blk (W.heap.size + 1) (netB (a) (l)) (by simp))
  have z1 := size_of_block (hB.blk (W.heap.size + 1) (netB (a) (l)) (by simp))
  obtain ⟨c2a, c2b, _, _⟩ := row2 (hB.blk (W.heap.size + 2) (netB (c) (n)) (by simp))
  have z2 := size_of_block (hB.blk (W.heap.size + 2) (netB (c) (n)) (by simp))
  have zz := hB.bel.size
  have HB := Lib.hid hB; clear hB
  go_wp2_with fail
  go_at_call 27
  (with_reducible refine (in_is HBA.out HBB.out HA.out _).mono ?_); rintro e w6 ⟨rfl, hb⟩
  have hB := HB.out.below hb
  clear HB hb c0a c0b z0 c1a c1b z1 c2a c2b z2 zz
  obtain ⟨c0a, c0b, _, _⟩ := row2 (hB.blk (W.heap.size) (netB (a) (l)) (by simp))
  have z0 := size_of_block (hB.blk (W.heap.size) (netB (a) (l)) (by simp))
  obtain ⟨c1a, c1b, _, _⟩ := row2 (hB.blk (W.heap.size + 1) (netB (a) (l)) (by simp))
  have z1 := size_of_block (hB.blk (W.heap.size + 1) (netB (a) (l)) (by simp))
  obtain ⟨c2a, c2b, _, _⟩ := row2 (hB.blk (W.heap.size + 2) (netB (c) (n)) (by simp))
  have z2 := size_of_block (hB.blk (W.heap.size + 2) (netB (c) (n)) (by simp))
  have zz := hB.bel.size
  have HB := Lib.hid hB; clear hB
  go_wp2_with fail
  go_at_call 27
  (with_reducible refine (in_is HAB.out HA.out HBB.out _).mono ?_); rintro e w7 ⟨rfl, hb⟩
  have hB := HB.out.below hb
  clear HB hb c0a c0b z0 c1a c1b z1 c2a c2b z2 zz
  obtain ⟨c0a, c0b, _, _⟩ := row2 (hB.blk (W.heap.size) (netB (a) (l)) (by simp))
  have z0 := size_of_block (hB.blk (W.heap.size) (netB (a) (l)) (by simp))
  obtain ⟨c1a, c1b, _, _⟩ := row2 (hB.blk (W.heap.size + 1) (netB (a) (l)) (by simp))
  have z1 := size_of_block (hB.blk (W.heap.size + 1) (netB (a) (l)) (by simp))
  obtain ⟨c2a, c2b, _, _⟩ := row2 (hB.blk (W.heap.size + 2) (netB (c) (n)) (by simp))
  have z2 := size_of_block (hB.blk (W.heap.size + 2) (netB (c) (n)) (by simp))
  have zz := hB.bel.size
  have HB := Lib.hid hB; clear hB
  go_wp2_with fail
  go_at_call 27
  (with_reducible refine (in_is HBC.out HBB.out HC.out _).mono ?_); rintro e w8 ⟨rfl, hb⟩
  have hB := HB.out.below hb
  clear HB hb c0a c0b z0 c1a c1b z1 c2a c2b z2 zz
  obtain ⟨c0a, c0b, _, _⟩ := row2 (hB.blk (W.heap.size) (netB (a) (l)) (by simp))
  have z0 := size_of_block (hB.blk (W.heap.size) (netB (a) (l)) (by simp))
  obtain ⟨c1a, c1b, _, _⟩ := row2 (hB.blk (W.heap.size + 1) (netB (a) (l)) (by simp))
  have z1 := size_of_block (hB.blk (W.heap.size + 1) (netB (a) (l)) (by simp))
  obtain ⟨c2a, c2b, _, _⟩ := row2 (hB.blk (W.heap.size + 2) (netB (c) (n)) (by simp))
  have z2 := size_of_block (hB.blk (W.heap.size + 2) (netB (c) (n)) (by simp))
  have zz := hB.bel.size
  have HB := Lib.hid hB; clear hB
  go_wp2_with fail
  go_at_call 27
  (with_reducible refine (in_is HAC.out HA.out HC.out _).mono ?_); rintro e w9 ⟨rfl, hb⟩
  have hB := HB.out.below hb
  clear HB hb c0a c0b z0 c1a c1b z1 c2a c2b z2 zz
  obtain ⟨c0a, c0b, _, _⟩ := row2 (hB.blk (W.heap.size) (netB (a) (l)) (by simp))
  have z0 := size_of_block (hB.blk (W.heap.size) (netB (a) (l)) (by simp))
  obtain ⟨c1a, c1b, _, _⟩ := row2 (hB.blk (W.heap.size + 1) (netB (a) (l)) (by simp))
  have z1 := size_of_block (hB.blk (W.heap.size + 1) (netB (a) (l)) (by simp))
  obtain ⟨c2a, c2b, _, _⟩ := row2 (hB.blk (W.heap.size + 2) (netB (c) (n)) (by simp))
  have z2 := size_of_block (hB.blk (W.heap.size + 2) (netB (c) (n)) (by simp))
  have zz := hB.bel.size
  have HB := Lib.hid hB; clear hB
  go_wp2_with fail
  go_at_call 27
  (with_reducible refine (in_is HAB.out HA.out HBB.out _).mono ?_); rintro e w10 ⟨rfl, hb⟩
  have hB := HB.out.below hb
  clear HB hb c0a c0b z0 c1a c1b z1 c2a c2b z2 zz
  obtain ⟨c0a, c0b, _, _⟩ := row2 (hB.blk (W.heap.size) (netB (a) (l)) (by simp))
  have z0 := size_of_block (hB.blk (W.heap.size) (netB (a) (l)) (by simp))
  obtain ⟨c1a, c1b, _, _⟩ := row2 (hB.blk (W.heap.size + 1) (netB (a) (l)) (by simp))
  have z1 := size_of_block (hB.blk (W.heap.size + 1) (netB (a) (l)) (by simp))
  obtain ⟨c2a, c2b, _, _⟩ := row2 (hB.blk (W.heap.size + 2) (netB (c) (n)) (by simp))
  have z2 := size_of_block (hB.blk (W.heap.size + 2) (netB (c) (n)) (by simp))
  have zz := hB.bel.size
  have HB := Lib.hid hB; clear hB
  go_wp2_with fail
  go_at_call 26
  (with_reducible refine (has_is HP.out HA.out HX.out _).mono ?_); rintro e w11 ⟨rfl, hb⟩
  have hB := HB.out.below hb
  clear HB hb c0a c0b z0 c1a c1b z1 c2a c2b z2 zz
  obtain ⟨c0a, c0b, _, _⟩ := row2 (hB.blk (W.heap.size) (netB (a) (l)) (by simp))
  have z0 := size_of_block (hB.blk (W.heap.size) (netB (a) (l)) (by simp))
  obtain ⟨c1a, c1b, _, _⟩ := row2 (hB.blk (W.heap.size + 1) (netB (a) (l)) (by simp))
  have z1 := size_of_block (hB.blk (W.heap.size + 1) (netB (a) (l)) (by simp))
  obtain ⟨c2a, c2b, _, _⟩ := row2 (hB.blk (W.heap.size + 2) (netB (c) (n)) (by simp))
  have z2 := size_of_block (hB.blk (W.heap.size + 2) (netB (c) (n)) (by simp))
  have zz := hB.bel.size
  have HB := Lib.hid hB; clear hB
  go_wp2_with fail
  go_at_call 26
  (with_reducible refine (has_is HQ.out HBB.out HX.out _).mono ?_); rintro e w12 ⟨rfl, hb⟩
  have hB := HB.out.below hb
  clear HB hb c0a c0b z0 c1a c1b z1 c2a c2b z2 zz
  obtain ⟨c0a, c0b, _, _⟩ := row2 (hB.blk (W.heap.size) (netB (a) (l)) (by simp))
  have z0 := size_of_block (hB.blk (W.heap.size) (netB (a) (l)) (by simp))
  obtain ⟨c1a, c1b, _, _⟩ := row2 (hB.blk (W.heap.size + 1) (netB (a) (l)) (by simp))
  have z1 := size_of_block (hB.blk (W.heap.size + 1) (netB (a) (l)) (by simp))
  obtain ⟨c2a, c2b, _, _⟩ := row2 (hB.blk (W.heap.size + 2) (netB (c) (n)) (by simp))
  have z2 := size_of_block (hB.blk (W.heap.size + 2) (netB (c) (n)) (by simp))
  have zz := hB.bel.size
  have HB := Lib.hid hB; clear hB
  go_wp2
  go_ret
  exact ⟨rfl, (HB.out).bel⟩

set_option maxRecDepth 100000 in
set_option maxHeartbeats 2000000 in
theorem nests_s10 (W : World) (hg : HStr W) (a l c n x : Int) (ha : is32 a) (hc : is32 c) (hx : is32 x) (hab : inB (a, l) (a, l) = true) (hp : hasB (a, l) x = true) (hac : inB (a, l) (c, n) = false) :
    Calls Tryd.prog 6 #[.agg #[.int .u32 a, .int .i64 l], .agg #[.int .u32 a, .int .i64 l], .agg #[.int .u32 c, .int .i64 n], .int .u32 x] W fun e w' => e = .returned (.bool true) ∧ Below W.heap.size W w' := by
  have HAB := Lib.hid hab
  have HP := Lib.hid hp
  have HAC := Lib.hid hac
  have HA := Lib.hid ha
  have HBB := Lib.hid ha
  have HC := Lib.hid hc
  have HX := Lib.hid hx
  clear hab hp hac
  have HBA := HAB
  have HQ := HP
  have HBC := HAC
  have HG := Lib.hid hg
  have hst := BL.start3 W (netB a l) (netB a l) (netB c n)
  have HB := Lib.hid hst
  clear hst hg
  go_enter Tryd.func6, Tryd.ntmps6
  go_wp2_with fail
  go_at_call 22
  (with_reducible refine (known_any _ (HG.out.on HB.out.bel)).mono ?_); rintro e w1 ⟨rfl, hb⟩
  have hB := HB.out.below hb
  clear HB hb
  obtain ⟨c0a, c0b, _, _⟩ := row2 (hB.blk (W.heap.size) (netB (a) (l)) (by simp))
  have z0 := size_of_block (hB.blk (W.heap.size) (netB (a) (l)) (by simp))
  obtain ⟨c1a, c1b, _, _⟩ := row2 (hB.blk (W.heap.size + 1) (netB (a) (l)) (by simp))
  have z1 := size_of_block (hB.blk (W.heap.size + 1) (netB (a) (l)) (by simp))
  obtain ⟨c2a, c2b, _, _⟩ := row2 (hB.blk (W.heap.size + 2) (netB (c) (n)) (by simp))
  have z2 := size_of_block (hB.blk (W.heap.size + 2) (netB (c) (n)) (by simp))
  have zz := hB.bel.size
  have HB := Lib.hid hB; clear hB
  go_wp2_with fail
  go_at_call 26
  (with_reducible refine (has_is HP.out HA.out HX.out _).mono ?_); rintro e w2 ⟨rfl, hb⟩
  have hB := HB.out.below hb
  clear HB hb c0a c0b z0 c1a c1b z1 c2a c2b z2 zz
  obtain ⟨c0a, c0b, _, _⟩ := row2 (hB.blk (W.heap.size) (netB (a) (l)) (by simp))
  have z0 := size_of_block (hB.blk (W.heap.size) (netB (a) (l)) (by simp))
  obtain ⟨c1a, c1b, _, _⟩ := row2 (hB.blk (W.heap.size + 1) (netB (a) (l)) (by simp))
  have z1 := size_of_block (hB.blk (W.heap.size + 1) (netB (a) (l)) (by simp))
  obtain ⟨c2a, c2b, _, _⟩ := row2 (hB.blk (W.heap.size + 2) (netB (c) (n)) (by simp))
  have z2 := size_of_block (hB.blk (W.heap.size + 2) (netB (c) (n)) (by simp))
  have zz := hB.bel.size
  have HB := Lib.hid hB; clear hB
  go_wp2_with fail
  go_at_call 26
  (with_reducible refine (has_is HQ.out HBB.out HX.out _).mono ?_); rintro e w3 ⟨rfl, hb⟩
  have hB := HB.out.below hb
  clear HB hb c0a c0b z0 c1a c1b z1 c2a c2b z2 zz
  obtain ⟨c0a, c0b, _, _⟩ := row2 (hB.blk (W.heap.size) (netB (a) (l)) (by simp))
  have z0 := size_of_block (hB.blk (W.heap.size) (netB (a) (l)) (by simp))
  obtain ⟨c1a, c1b, _, _⟩ := row2 (hB.blk (W.heap.size + 1) (netB (a) (l)) (by simp))
  have z1 := size_of_block (hB.blk (W.heap.size + 1) (netB (a) (l)) (by simp))
  obtain ⟨c2a, c2b, _, _⟩ := row2 (hB.blk (W.heap.size + 2) (netB (c) (n)) (by simp))
  have z2 := size_of_block (hB.blk (W.heap.size + 2) (netB (c) (n)) (by simp))
  have zz := hB.bel.size
  have HB := Lib.hid hB; clear hB
  go_wp2_with fail
  go_at_call 27
  (with_reducible refine (in_is HAB.out HA.out HBB.out _).mono ?_); rintro e w4 ⟨rfl, hb⟩
  have hB := HB.out.below hb
  clear HB hb c0a c0b z0 c1a c1b z1 c2a c2b z2 zz
  obtain ⟨c0a, c0b, _, _⟩ := row2 (hB.blk (W.heap.size) (netB (a) (l)) (by simp))
  have z0 := size_of_block (hB.blk (W.heap.size) (netB (a) (l)) (by simp))
  obtain ⟨c1a, c1b, _, _⟩ := row2 (hB.blk (W.heap.size + 1) (netB (a) (l)) (by simp))
  have z1 := size_of_block (hB.blk (W.heap.size + 1) (netB (a) (l)) (by simp))
  obtain ⟨c2a, c2b, _, _⟩ := row2 (hB.blk (W.heap.size + 2) (netB (c) (n)) (by simp))
  have z2 := size_of_block (hB.blk (W.heap.size + 2) (netB (c) (n)) (by simp))
  have zz := hB.bel.size
  have HB := Lib.hid hB; clear hB
  go_wp2_with fail
  go_at_call 27
  (with_reducible refine (in_is HAB.out HA.out HBB.out _).mono ?_); rintro e w5 ⟨rfl, hb⟩
  have hB := HB.out.below hb
  clear HB hb c0a c0b z0 c1a c1b z1 c2a c2b z2 zz
  obtain ⟨c0a, c0b, _, _⟩ := row2 (hB.blk (W.heap.size) (netB (a) (l)) (by simp))
  have z0 := size_of_block (hB.blk (W.heap.size) (netB (a) (l)) (by simp))
  obtain ⟨c1a, c1b, _, _⟩ := row2 (hB.blk (W.heap.size + 1) (netB (a) (l)) (by simp))
  have z1 := size_of_block (hB.blk (W.heap.size + 1) (netB (a) (l)) (by simp))
  obtain ⟨c2a, c2b, _, _⟩ := row2 (hB.blk (W.heap.size + 2) (netB (c) (n)) (by simp))
  have z2 := size_of_block (hB.blk (W.heap.size + 2) (netB (c) (n)) (by simp))
  have zz := hB.bel.size
  have HB := Lib.hid hB; clear hB
  go_wp2_with fail
  go_at_call 27
  (with_reducible refine (in_is HBA.out HBB.out HA.out _).mono ?_); rintro e w6 ⟨rfl, hb⟩
  have hB := HB.out.below hb
  clear HB hb c0a c0b z0 c1a c1b z1 c2a c2b z2 zz
  obtain ⟨c0a, c0b, _, _⟩ := row2 (hB.blk (W.heap.size) (netB (a) (l)) (by simp))
  have z0 := size_of_block (hB.blk (W.heap.size) (netB (a) (l)) (by simp))
  obtain ⟨c1a, c1b, _, _⟩ := row2 (hB.blk (W.heap.size + 1) (netB (a) (l)) (by simp))
  have z1 := size_of_block (hB.blk (W.heap.size + 1) (netB (a) (l)) (by simp))
  obtain ⟨c2a, c2b, _, _⟩ := row2 (hB.blk (W.heap.size + 2) (netB (c) (n)) (by simp))
  have z2 := size_of_block (hB.blk (W.heap.size + 2) (netB (c) (n)) (by simp))
  have zz := hB.bel.size
  have HB := Lib.hid hB; clear hB
  go_wp2_with fail
  go_at_call 27
  (with_reducible refine (in_is HAB.out HA.out HBB.out _).mono ?_); rintro e w7 ⟨rfl, hb⟩
  have hB := HB.out.below hb
  clear HB hb c0a c0b z0 c1a c1b z1 c2a c2b z2 zz
  obtain ⟨c0a, c0b, _, _⟩ := row2 (hB.blk (W.heap.size) (netB (a) (l)) (by simp))
  have z0 := size_of_block (hB.blk (W.heap.size) (netB (a) (l)) (by simp))
  obtain ⟨c1a, c1b, _, _⟩ := row2 (hB.blk (W.heap.size + 1) (netB (a) (l)) (by simp))
  have z1 := size_of_block (hB.blk (W.heap.size + 1) (netB (a) (l)) (by simp))
  obtain ⟨c2a, c2b, _, _⟩ := row2 (hB.blk (W.heap.size + 2) (netB (c) (n)) (by simp))
  have z2 := size_of_block (hB.blk (W.heap.size + 2) (netB (c) (n)) (by simp))
  have zz := hB.bel.size
  have HB := Lib.hid hB; clear hB
  go_wp2_with fail
  go_at_call 27
  (with_reducible refine (in_is HBC.out HBB.out HC.out _).mono ?_); rintro e w8 ⟨rfl, hb⟩
  have hB := HB.out.below hb
  clear HB hb c0a c0b z0 c1a c1b z1 c2a c2b z2 zz
  obtain ⟨c0a, c0b, _, _⟩ := row2 (hB.blk (W.heap.size) (netB (a) (l)) (by simp))
  have z0 := size_of_block (hB.blk (W.heap.size) (netB (a) (l)) (by simp))
  obtain ⟨c1a, c1b, _, _⟩ := row2 (hB.blk (W.heap.size + 1) (netB (a) (l)) (by simp))
  have z1 := size_of_block (hB.blk (W.heap.size + 1) (netB (a) (l)) (by simp))
  obtain ⟨c2a, c2b, _, _⟩ := row2 (hB.blk (W.heap.size + 2) (netB (c) (n)) (by simp))
  have z2 := size_of_block (hB.blk (W.heap.size + 2) (netB (c) (n)) (by simp))
  have zz := hB.bel.size
  have HB := Lib.hid hB; clear hB
  go_wp2_with fail
  go_at_call 27
  (with_reducible refine (in_is HAB.out HA.out HBB.out _).mono ?_); rintro e w9 ⟨rfl, hb⟩
  have hB := HB.out.below hb
  clear HB hb c0a c0b z0 c1a c1b z1 c2a c2b z2 zz
  obtain ⟨c0a, c0b, _, _⟩ := row2 (hB.blk (W.heap.size) (netB (a) (l)) (by simp))
  have z0 := size_of_block (hB.blk (W.heap.size) (netB (a) (l)) (by simp))
  obtain ⟨c1a, c1b, _, _⟩ := row2 (hB.blk (W.heap.size + 1) (netB (a) (l)) (by simp))
  have z1 := size_of_block (hB.blk (W.heap.size + 1) (netB (a) (l)) (by simp))
  obtain ⟨c2a, c2b, _, _⟩ := row2 (hB.blk (W.heap.size + 2) (netB (c) (n)) (by simp))
  have z2 := size_of_block (hB.blk (W.heap.size + 2) (netB (c) (n)) (by simp))
  have zz := hB.bel.size
  have HB := Lib.hid hB; clear hB
  go_wp2_with fail
  go_at_call 26
  (with_reducible refine (has_is HP.out HA.out HX.out _).mono ?_); rintro e w10 ⟨rfl, hb⟩
  have hB := HB.out.below hb
  clear HB hb c0a c0b z0 c1a c1b z1 c2a c2b z2 zz
  obtain ⟨c0a, c0b, _, _⟩ := row2 (hB.blk (W.heap.size) (netB (a) (l)) (by simp))
  have z0 := size_of_block (hB.blk (W.heap.size) (netB (a) (l)) (by simp))
  obtain ⟨c1a, c1b, _, _⟩ := row2 (hB.blk (W.heap.size + 1) (netB (a) (l)) (by simp))
  have z1 := size_of_block (hB.blk (W.heap.size + 1) (netB (a) (l)) (by simp))
  obtain ⟨c2a, c2b, _, _⟩ := row2 (hB.blk (W.heap.size + 2) (netB (c) (n)) (by simp))
  have z2 := size_of_block (hB.blk (W.heap.size + 2) (netB (c) (n)) (by simp))
  have zz := hB.bel.size
  have HB := Lib.hid hB; clear hB
  go_wp2_with fail
  go_at_call 26
  (with_reducible refine (has_is HQ.out HBB.out HX.out _).mono ?_); rintro e w11 ⟨rfl, hb⟩
  have hB := HB.out.below hb
  clear HB hb c0a c0b z0 c1a c1b z1 c2a c2b z2 zz
  obtain ⟨c0a, c0b, _, _⟩ := row2 (hB.blk (W.heap.size) (netB (a) (l)) (by simp))
  have z0 := size_of_block (hB.blk (W.heap.size) (netB (a) (l)) (by simp))
  obtain ⟨c1a, c1b, _, _⟩ := row2 (hB.blk (W.heap.size + 1) (netB (a) (l)) (by simp))
  have z1 := size_of_block (hB.blk (W.heap.size + 1) (netB (a) (l)) (by simp))
  obtain ⟨c2a, c2b, _, _⟩ := row2 (hB.blk (W.heap.size + 2) (netB (c) (n)) (by simp))
  have z2 := size_of_block (hB.blk (W.heap.size + 2) (netB (c) (n)) (by simp))
  have zz := hB.bel.size
  have HB := Lib.hid hB; clear hB
  go_wp2
  go_ret
  exact ⟨rfl, (HB.out).bel⟩

set_option maxRecDepth 100000 in
set_option maxHeartbeats 2000000 in
theorem nests_s01 (W : World) (hg : HStr W) (a l c n x : Int) (ha : is32 a) (hc : is32 c) (hx : is32 x) (hab : inB (a, l) (a, l) = true) (hp : hasB (a, l) x = false) (hac : inB (a, l) (c, n) = true) :
    Calls Tryd.prog 6 #[.agg #[.int .u32 a, .int .i64 l], .agg #[.int .u32 a, .int .i64 l], .agg #[.int .u32 c, .int .i64 n], .int .u32 x] W fun e w' => e = .returned (.bool true) ∧ Below W.heap.size W w' := by
  have HAB := Lib.hid hab
  have HP := Lib.hid hp
  have HAC := Lib.hid hac
  have HA := Lib.hid ha
  have HBB := Lib.hid ha
  have HC := Lib.hid hc
  have HX := Lib.hid hx
  clear hab hp hac
  have HBA := HAB
  have HQ := HP
  have HBC := HAC
  have HG := Lib.hid hg
  have hst := BL.start3 W (netB a l) (netB a l) (netB c n)
  have HB := Lib.hid hst
  clear hst hg
  go_enter Tryd.func6, Tryd.ntmps6
  go_wp2_with fail
  go_at_call 22
  (with_reducible refine (known_any _ (HG.out.on HB.out.bel)).mono ?_); rintro e w1 ⟨rfl, hb⟩
  have hB := HB.out.below hb
  clear HB hb
  obtain ⟨c0a, c0b, _, _⟩ := row2 (hB.blk (W.heap.size) (netB (a) (l)) (by simp))
  have z0 := size_of_block (hB.blk (W.heap.size) (netB (a) (l)) (by simp))
  obtain ⟨c1a, c1b, _, _⟩ := row2 (hB.blk (W.heap.size + 1) (netB (a) (l)) (by simp))
  have z1 := size_of_block (hB.blk (W.heap.size + 1) (netB (a) (l)) (by simp))
  obtain ⟨c2a, c2b, _, _⟩ := row2 (hB.blk (W.heap.size + 2) (netB (c) (n)) (by simp))
  have z2 := size_of_block (hB.blk (W.heap.size + 2) (netB (c) (n)) (by simp))
  have zz := hB.bel.size
  have HB := Lib.hid hB; clear hB
  go_wp2_with fail
  go_at_call 26
  (with_reducible refine (has_is HP.out HA.out HX.out _).mono ?_); rintro e w2 ⟨rfl, hb⟩
  have hB := HB.out.below hb
  clear HB hb c0a c0b z0 c1a c1b z1 c2a c2b z2 zz
  obtain ⟨c0a, c0b, _, _⟩ := row2 (hB.blk (W.heap.size) (netB (a) (l)) (by simp))
  have z0 := size_of_block (hB.blk (W.heap.size) (netB (a) (l)) (by simp))
  obtain ⟨c1a, c1b, _, _⟩ := row2 (hB.blk (W.heap.size + 1) (netB (a) (l)) (by simp))
  have z1 := size_of_block (hB.blk (W.heap.size + 1) (netB (a) (l)) (by simp))
  obtain ⟨c2a, c2b, _, _⟩ := row2 (hB.blk (W.heap.size + 2) (netB (c) (n)) (by simp))
  have z2 := size_of_block (hB.blk (W.heap.size + 2) (netB (c) (n)) (by simp))
  have zz := hB.bel.size
  have HB := Lib.hid hB; clear hB
  go_wp2_with fail
  go_at_call 27
  (with_reducible refine (in_is HAB.out HA.out HBB.out _).mono ?_); rintro e w3 ⟨rfl, hb⟩
  have hB := HB.out.below hb
  clear HB hb c0a c0b z0 c1a c1b z1 c2a c2b z2 zz
  obtain ⟨c0a, c0b, _, _⟩ := row2 (hB.blk (W.heap.size) (netB (a) (l)) (by simp))
  have z0 := size_of_block (hB.blk (W.heap.size) (netB (a) (l)) (by simp))
  obtain ⟨c1a, c1b, _, _⟩ := row2 (hB.blk (W.heap.size + 1) (netB (a) (l)) (by simp))
  have z1 := size_of_block (hB.blk (W.heap.size + 1) (netB (a) (l)) (by simp))
  obtain ⟨c2a, c2b, _, _⟩ := row2 (hB.blk (W.heap.size + 2) (netB (c) (n)) (by simp))
  have z2 := size_of_block (hB.blk (W.heap.size + 2) (netB (c) (n)) (by simp))
  have zz := hB.bel.size
  have HB := Lib.hid hB; clear hB
  go_wp2_with fail
  go_at_call 27
  (with_reducible refine (in_is HBA.out HBB.out HA.out _).mono ?_); rintro e w4 ⟨rfl, hb⟩
  have hB := HB.out.below hb
  clear HB hb c0a c0b z0 c1a c1b z1 c2a c2b z2 zz
  obtain ⟨c0a, c0b, _, _⟩ := row2 (hB.blk (W.heap.size) (netB (a) (l)) (by simp))
  have z0 := size_of_block (hB.blk (W.heap.size) (netB (a) (l)) (by simp))
  obtain ⟨c1a, c1b, _, _⟩ := row2 (hB.blk (W.heap.size + 1) (netB (a) (l)) (by simp))
  have z1 := size_of_block (hB.blk (W.heap.size + 1) (netB (a) (l)) (by simp))
  obtain ⟨c2a, c2b, _, _⟩ := row2 (hB.blk (W.heap.size + 2) (netB (c) (n)) (by simp))
  have z2 := size_of_block (hB.blk (W.heap.size + 2) (netB (c) (n)) (by simp))
  have zz := hB.bel.size
  have HB := Lib.hid hB; clear hB
  go_wp2_with fail
  go_at_call 27
  (with_reducible refine (in_is HAB.out HA.out HBB.out _).mono ?_); rintro e w5 ⟨rfl, hb⟩
  have hB := HB.out.below hb
  clear HB hb c0a c0b z0 c1a c1b z1 c2a c2b z2 zz
  obtain ⟨c0a, c0b, _, _⟩ := row2 (hB.blk (W.heap.size) (netB (a) (l)) (by simp))
  have z0 := size_of_block (hB.blk (W.heap.size) (netB (a) (l)) (by simp))
  obtain ⟨c1a, c1b, _, _⟩ := row2 (hB.blk (W.heap.size + 1) (netB (a) (l)) (by simp))
  have z1 := size_of_block (hB.blk (W.heap.size + 1) (netB (a) (l)) (by simp))
  obtain ⟨c2a, c2b, _, _⟩ := row2 (hB.blk (W.heap.size + 2) (netB (c) (n)) (by simp))
  have z2 := size_of_block (hB.blk (W.heap.size + 2) (netB (c) (n)) (by simp))
  have zz := hB.bel.size
  have HB := Lib.hid hB; clear hB
  go_wp2_with fail
  go_at_call 27
  (with_reducible refine (in_is HBC.out HBB.out HC.out _).mono ?_); rintro e w6 ⟨rfl, hb⟩
  have hB := HB.out.below hb
  clear HB hb c0a c0b z0 c1a c1b z1 c2a c2b z2 zz
  obtain ⟨c0a, c0b, _, _⟩ := row2 (hB.blk (W.heap.size) (netB (a) (l)) (by simp))
  have z0 := size_of_block (hB.blk (W.heap.size) (netB (a) (l)) (by simp))
  obtain ⟨c1a, c1b, _, _⟩ := row2 (hB.blk (W.heap.size + 1) (netB (a) (l)) (by simp))
  have z1 := size_of_block (hB.blk (W.heap.size + 1) (netB (a) (l)) (by simp))
  obtain ⟨c2a, c2b, _, _⟩ := row2 (hB.blk (W.heap.size + 2) (netB (c) (n)) (by simp))
  have z2 := size_of_block (hB.blk (W.heap.size + 2) (netB (c) (n)) (by simp))
  have zz := hB.bel.size
  have HB := Lib.hid hB; clear hB
  go_wp2_with fail
  go_at_call 27
  (with_reducible refine (in_is HAC.out HA.out HC.out _).mono ?_); rintro e w7 ⟨rfl, hb⟩
  have hB := HB.out.below hb
  clear HB hb c0a c0b z0 c1a c1b z1 c2a c2b z2 zz
  obtain ⟨c0a, c0b, _, _⟩ := row2 (hB.blk (W.heap.size) (netB (a) (l)) (by simp))
  have z0 := size_of_block (hB.blk (W.heap.size) (netB (a) (l)) (by simp))
  obtain ⟨c1a, c1b, _, _⟩ := row2 (hB.blk (W.heap.size + 1) (netB (a) (l)) (by simp))
  have z1 := size_of_block (hB.blk (W.heap.size + 1) (netB (a) (l)) (by simp))
  obtain ⟨c2a, c2b, _, _⟩ := row2 (hB.blk (W.heap.size + 2) (netB (c) (n)) (by simp))
  have z2 := size_of_block (hB.blk (W.heap.size + 2) (netB (c) (n)) (by simp))
  have zz := hB.bel.size
  have HB := Lib.hid hB; clear hB
  go_wp2_with fail
  go_at_call 27
  (with_reducible refine (in_is HAB.out HA.out HBB.out _).mono ?_); rintro e w8 ⟨rfl, hb⟩
  have hB := HB.out.below hb
  clear HB hb c0a c0b z0 c1a c1b z1 c2a c2b z2 zz
  obtain ⟨c0a, c0b, _, _⟩ := row2 (hB.blk (W.heap.size) (netB (a) (l)) (by simp))
  have z0 := size_of_block (hB.blk (W.heap.size) (netB (a) (l)) (by simp))
  obtain ⟨c1a, c1b, _, _⟩ := row2 (hB.blk (W.heap.size + 1) (netB (a) (l)) (by simp))
  have z1 := size_of_block (hB.blk (W.heap.size + 1) (netB (a) (l)) (by simp))
  obtain ⟨c2a, c2b, _, _⟩ := row2 (hB.blk (W.heap.size + 2) (netB (c) (n)) (by simp))
  have z2 := size_of_block (hB.blk (W.heap.size + 2) (netB (c) (n)) (by simp))
  have zz := hB.bel.size
  have HB := Lib.hid hB; clear hB
  go_wp2_with fail
  go_at_call 26
  (with_reducible refine (has_is HP.out HA.out HX.out _).mono ?_); rintro e w9 ⟨rfl, hb⟩
  have hB := HB.out.below hb
  clear HB hb c0a c0b z0 c1a c1b z1 c2a c2b z2 zz
  obtain ⟨c0a, c0b, _, _⟩ := row2 (hB.blk (W.heap.size) (netB (a) (l)) (by simp))
  have z0 := size_of_block (hB.blk (W.heap.size) (netB (a) (l)) (by simp))
  obtain ⟨c1a, c1b, _, _⟩ := row2 (hB.blk (W.heap.size + 1) (netB (a) (l)) (by simp))
  have z1 := size_of_block (hB.blk (W.heap.size + 1) (netB (a) (l)) (by simp))
  obtain ⟨c2a, c2b, _, _⟩ := row2 (hB.blk (W.heap.size + 2) (netB (c) (n)) (by simp))
  have z2 := size_of_block (hB.blk (W.heap.size + 2) (netB (c) (n)) (by simp))
  have zz := hB.bel.size
  have HB := Lib.hid hB; clear hB
  go_wp2
  go_ret
  exact ⟨rfl, (HB.out).bel⟩

set_option maxRecDepth 100000 in
set_option maxHeartbeats 2000000 in
theorem nests_s00 (W : World) (hg : HStr W) (a l c n x : Int) (ha : is32 a) (hc : is32 c) (hx : is32 x) (hab : inB (a, l) (a, l) = true) (hp : hasB (a, l) x = false) (hac : inB (a, l) (c, n) = false) :
    Calls Tryd.prog 6 #[.agg #[.int .u32 a, .int .i64 l], .agg #[.int .u32 a, .int .i64 l], .agg #[.int .u32 c, .int .i64 n], .int .u32 x] W fun e w' => e = .returned (.bool true) ∧ Below W.heap.size W w' := by
  have HAB := Lib.hid hab
  have HP := Lib.hid hp
  have HAC := Lib.hid hac
  have HA := Lib.hid ha
  have HBB := Lib.hid ha
  have HC := Lib.hid hc
  have HX := Lib.hid hx
  clear hab hp hac
  have HBA := HAB
  have HQ := HP
  have HBC := HAC
  have HG := Lib.hid hg
  have hst := BL.start3 W (netB a l) (netB a l) (netB c n)
  have HB := Lib.hid hst
  clear hst hg
  go_enter Tryd.func6, Tryd.ntmps6
  go_wp2_with fail
  go_at_call 22
  (with_reducible refine (known_any _ (HG.out.on HB.out.bel)).mono ?_); rintro e w1 ⟨rfl, hb⟩
  have hB := HB.out.below hb
  clear HB hb
  obtain ⟨c0a, c0b, _, _⟩ := row2 (hB.blk (W.heap.size) (netB (a) (l)) (by simp))
  have z0 := size_of_block (hB.blk (W.heap.size) (netB (a) (l)) (by simp))
  obtain ⟨c1a, c1b, _, _⟩ := row2 (hB.blk (W.heap.size + 1) (netB (a) (l)) (by simp))
  have z1 := size_of_block (hB.blk (W.heap.size + 1) (netB (a) (l)) (by simp))
  obtain ⟨c2a, c2b, _, _⟩ := row2 (hB.blk (W.heap.size + 2) (netB (c) (n)) (by simp))
  have z2 := size_of_block (hB.blk (W.heap.size + 2) (netB (c) (n)) (by simp))
  have zz := hB.bel.size
  have HB := Lib.hid hB; clear hB
  go_wp2_with fail
  go_at_call 26
  (with_reducible refine (has_is HP.out HA.out HX.out _).mono ?_); rintro e w2 ⟨rfl, hb⟩
  have hB := HB.out.below hb
  clear HB hb c0a c0b z0 c1a c1b z1 c2a c2b z2 zz
  obtain ⟨c0a, c0b, _, _⟩ := row2 (hB.blk (W.heap.size) (netB (a) (l)) (by simp))
  have z0 := size_of_block (hB.blk (W.heap.size) (netB (a) (l)) (by simp))
  obtain ⟨c1a, c1b, _, _⟩ := row2 (hB.blk (W.heap.size + 1) (netB (a) (l)) (by simp))
  have z1 := size_of_block (hB.blk (W.heap.size + 1) (netB (a) (l)) (by simp))
  obtain ⟨c2a, c2b, _, _⟩ := row2 (hB.blk (W.heap.size + 2) (netB (c) (n)) (by simp))
  have z2 := size_of_block (hB.blk (W.heap.size + 2) (netB (c) (n)) (by simp))
  have zz := hB.bel.size
  have HB := Lib.hid hB; clear hB
  go_wp2_with fail
  go_at_call 27
  (with_reducible refine (in_is HAB.out HA.out HBB.out _).mono ?_); rintro e w3 ⟨rfl, hb⟩
  have hB := HB.out.below hb
  clear HB hb c0a c0b z0 c1a c1b z1 c2a c2b z2 zz
  obtain ⟨c0a, c0b, _, _⟩ := row2 (hB.blk (W.heap.size) (netB (a) (l)) (by simp))
  have z0 := size_of_block (hB.blk (W.heap.size) (netB (a) (l)) (by simp))
  obtain ⟨c1a, c1b, _, _⟩ := row2 (hB.blk (W.heap.size + 1) (netB (a) (l)) (by simp))
  have z1 := size_of_block (hB.blk (W.heap.size + 1) (netB (a) (l)) (by simp))
  obtain ⟨c2a, c2b, _, _⟩ := row2 (hB.blk (W.heap.size + 2) (netB (c) (n)) (by simp))
  have z2 := size_of_block (hB.blk (W.heap.size + 2) (netB (c) (n)) (by simp))
  have zz := hB.bel.size
  have HB := Lib.hid hB; clear hB
  go_wp2_with fail
  go_at_call 27
  (with_reducible refine (in_is HBA.out HBB.out HA.out _).mono ?_); rintro e w4 ⟨rfl, hb⟩
  have hB := HB.out.below hb
  clear HB hb c0a c0b z0 c1a c1b z1 c2a c2b z2 zz
  obtain ⟨c0a, c0b, _, _⟩ := row2 (hB.blk (W.heap.size) (netB (a) (l)) (by simp))
  have z0 := size_of_block (hB.blk (W.heap.size) (netB (a) (l)) (by simp))
  obtain ⟨c1a, c1b, _, _⟩ := row2 (hB.blk (W.heap.size + 1) (netB (a) (l)) (by simp))
  have z1 := size_of_block (hB.blk (W.heap.size + 1) (netB (a) (l)) (by simp))
  obtain ⟨c2a, c2b, _, _⟩ := row2 (hB.blk (W.heap.size + 2) (netB (c) (n)) (by simp))
  have z2 := size_of_block (hB.blk (W.heap.size + 2) (netB (c) (n)) (by simp))
  have zz := hB.bel.size
  have HB := Lib.hid hB; clear hB
  go_wp2_with fail
  go_at_call 27
  (with_reducible refine (in_is HAB.out HA.out HBB.out _).mono ?_); rintro e w5 ⟨rfl, hb⟩
  have hB := HB.out.below hb
  clear HB hb c0a c0b z0 c1a c1b z1 c2a c2b z2 zz
  obtain ⟨c0a, c0b, _, _⟩ := row2 (hB.blk (W.heap.size) (netB (a) (l)) (by simp))
  have z0 := size_of_block (hB.blk (W.heap.size) (netB (a) (l)) (by simp))
  obtain ⟨c1a, c1b, _, _⟩ := row2 (hB.blk (W.heap.size + 1) (netB (a) (l)) (by simp))
  have z1 := size_of_block (hB.blk (W.heap.size + 1) (netB (a) (l)) (by simp))
  obtain ⟨c2a, c2b, _, _⟩ := row2 (hB.blk (W.heap.size + 2) (netB (c) (n)) (by simp))
  have z2 := size_of_block (hB.blk (W.heap.size + 2) (netB (c) (n)) (by simp))
  have zz := hB.bel.size
  have HB := Lib.hid hB; clear hB
  go_wp2_with fail
  go_at_call 27
  (with_reducible refine (in_is HBC.out HBB.out HC.out _).mono ?_); rintro e w6 ⟨rfl, hb⟩
  have hB := HB.out.below hb
  clear HB hb c0a c0b z0 c1a c1b z1 c2a c2b z2 zz
  obtain ⟨c0a, c0b, _, _⟩ := row2 (hB.blk (W.heap.size) (netB (a) (l)) (by simp))
  have z0 := size_of_block (hB.blk (W.heap.size) (netB (a) (l)) (by simp))
  obtain ⟨c1a, c1b, _, _⟩ := row2 (hB.blk (W.heap.size + 1) (netB (a) (l)) (by simp))
  have z1 := size_of_block (hB.blk (W.heap.size + 1) (netB (a) (l)) (by simp))
  obtain ⟨c2a, c2b, _, _⟩ := row2 (hB.blk (W.heap.size + 2) (netB (c) (n)) (by simp))
  have z2 := size_of_block (hB.blk (W.heap.size + 2) (netB (c) (n)) (by simp))
  have zz := hB.bel.size
  have HB := Lib.hid hB; clear hB
  go_wp2_with fail
  go_at_call 27
  (with_reducible refine (in_is HAB.out HA.out HBB.out _).mono ?_); rintro e w7 ⟨rfl, hb⟩
  have hB := HB.out.below hb
  clear HB hb c0a c0b z0 c1a c1b z1 c2a c2b z2 zz
  obtain ⟨c0a, c0b, _, _⟩ := row2 (hB.blk (W.heap.size) (netB (a) (l)) (by simp))
  have z0 := size_of_block (hB.blk (W.heap.size) (netB (a) (l)) (by simp))
  obtain ⟨c1a, c1b, _, _⟩ := row2 (hB.blk (W.heap.size + 1) (netB (a) (l)) (by simp))
  have z1 := size_of_block (hB.blk (W.heap.size + 1) (netB (a) (l)) (by simp))
  obtain ⟨c2a, c2b, _, _⟩ := row2 (hB.blk (W.heap.size + 2) (netB (c) (n)) (by simp))
  have z2 := size_of_block (hB.blk (W.heap.size + 2) (netB (c) (n)) (by simp))
  have zz := hB.bel.size
  have HB := Lib.hid hB; clear hB
  go_wp2_with fail
  go_at_call 26
  (with_reducible refine (has_is HP.out HA.out HX.out _).mono ?_); rintro e w8 ⟨rfl, hb⟩
  have hB := HB.out.below hb
  clear HB hb c0a c0b z0 c1a c1b z1 c2a c2b z2 zz
  obtain ⟨c0a, c0b, _, _⟩ := row2 (hB.blk (W.heap.size) (netB (a) (l)) (by simp))
  have z0 := size_of_block (hB.blk (W.heap.size) (netB (a) (l)) (by simp))
  obtain ⟨c1a, c1b, _, _⟩ := row2 (hB.blk (W.heap.size + 1) (netB (a) (l)) (by simp))
  have z1 := size_of_block (hB.blk (W.heap.size + 1) (netB (a) (l)) (by simp))
  obtain ⟨c2a, c2b, _, _⟩ := row2 (hB.blk (W.heap.size + 2) (netB (c) (n)) (by simp))
  have z2 := size_of_block (hB.blk (W.heap.size + 2) (netB (c) (n)) (by simp))
  have zz := hB.bel.size
  have HB := Lib.hid hB; clear hB
  go_wp2
  go_ret
  exact ⟨rfl, (HB.out).bel⟩

set_option maxRecDepth 100000 in
set_option maxHeartbeats 2000000 in
theorem nests_t111 (W : World) (hg : HStr W) (a l b m c n x : Int) (ha : is32 a) (hb : is32 b) (hc : is32 c) (hx : is32 x) (hab : inB (a, l) (b, m) = true) (hba : inB (b, m) (a, l) = false) (hp : hasB (a, l) x = true) (hq : hasB (b, m) x = true) (hbc : inB (b, m) (c, n) = true) (hac : inB (a, l) (c, n) = true) :
    Calls Tryd.prog 6 #[.agg #[.int .u32 a, .int .i64 l], .agg #[.int .u32 b, .int .i64 m], .agg #[.int .u32 c, .int .i64 n], .int .u32 x] W fun e w' => e = .returned (.bool true) ∧ Below W.heap.size W w' := by
  have HAB := Lib.hid hab
  have HBA := Lib.hid hba
  have HP := Lib.hid hp
  have HQ := Lib.hid hq
  have HBC := Lib.hid hbc
  have HAC := Lib.hid hac
  have HA := Lib.hid ha
  have HBB := Lib.hid hb
  have HC := Lib.hid hc
  have HX := Lib.hid hx
  clear hab hba hp hq hbc hac
  have HG := Lib.hid hg
  have hst := BL.start3 W (netB a l) (netB b m) (netB c n)
  have HB := Lib.hid hst
  clear hst hg
  go_enter Tryd.func6, Tryd.ntmps6
  go_wp2_with fail
  go_at_call 22
  (with_reducible refine (known_any _ (HG.out.on HB.out.bel)).mono ?_); rintro e w1 ⟨rfl, hb⟩
  have hB := HB.out.below hb
  clear HB hb
  obtain ⟨c0a, c0b, _, _⟩ := row2 (hB.blk (W.heap.size) (netB (a) (l)) (by simp))
  have z0 := size_of_block (hB.blk (W.heap.size) (netB (a) (l)) (by simp))
  obtain ⟨c1a, c1b, _, _⟩ := row2 (hB.blk (W.heap.size + 1) (netB (b) (m)) (by simp))
  have z1 := size_of_block (hB.blk (W.heap.size + 1) (netB (b) (m)) (by simp))
  obtain ⟨c2a, c2b, _, _⟩ := row2 (hB.blk (W.heap.size + 2) (netB (c) (n)) (by simp))
  have z2 := size_of_block (hB.blk (W.heap.size + 2) (netB (c) (n)) (by simp))
  have zz := hB.bel.size
  have HB := Lib.hid hB; clear hB
  go_wp2_with fail
  go_at_call 26
  (with_reducible refine (has_is HP.out HA.out HX.out _).mono ?_); rintro e w2 ⟨rfl, hb⟩
  have hB := HB.out.below hb
  clear HB hb c0a c0b z0 c1a c1b z1 c2a c2b z2 zz
  obtain ⟨c0a, c0b, _, _⟩ := row2 (hB.blk (W.heap.size) (netB (a) (l)) (by simp))
  have z0 := size_of_block (hB.blk (W.heap.size) (netB (a) (l)) (by simp))
  obtain ⟨c1a, c1b, _, _⟩ := row2 (hB.blk (W.heap.size + 1) (netB (b) (m)) (by simp))
  have z1 := size_of_block (hB.blk (W.heap.size + 1) (netB (b) (m)) (by simp))
  obtain ⟨c2a, c2b, _, _⟩ := row2 (hB.blk (W.heap.size + 2) (netB (c) (n)) (by simp))
  have z2 := size_of_block (hB.blk (W.heap.size + 2) (netB (c) (n)) (by simp))
  have zz := hB.bel.size
  have HB := Lib.hid hB; clear hB
  go_wp2_with fail
  go_at_call 26
  (with_reducible refine (has_is HQ.out HBB.out HX.out _).mono ?_); rintro e w3 ⟨rfl, hb⟩
  have hB := HB.out.below hb
  clear HB hb c0a c0b z0 c1a c1b z1 c2a c2b z2 zz
  obtain ⟨c0a, c0b, _, _⟩ := row2 (hB.blk (W.heap.size) (netB (a) (l)) (by simp))
  have z0 := size_of_block (hB.blk (W.heap.size) (netB (a) (l)) (by simp))
  obtain ⟨c1a, c1b, _, _⟩ := row2 (hB.blk (W.heap.size + 1) (netB (b) (m)) (by simp))
  have z1 := size_of_block (hB.blk (W.heap.size + 1) (netB (b) (m)) (by simp))
  obtain ⟨c2a, c2b, _, _⟩ := row2 (hB.blk (W.heap.size + 2) (netB (c) (n)) (by simp))
  have z2 := size_of_block (hB.blk (W.heap.size + 2) (netB (c) (n)) (by simp))
  have zz := hB.bel.size
  have HB := Lib.hid hB; clear hB
  go_wp2_with fail
  go_at_call 27
  (with_reducible refine (in_is HAB.out HA.out HBB.out _).mono ?_); rintro e w4 ⟨rfl, hb⟩
  have hB := HB.out.below hb
  clear HB hb c0a c0b z0 c1a c1b z1 c2a c2b z2 zz
  obtain ⟨c0a, c0b, _, _⟩ := row2 (hB.blk (W.heap.size) (netB (a) (l)) (by simp))
  have z0 := size_of_block (hB.blk (W.heap.size) (netB (a) (l)) (by simp))
  obtain ⟨c1a, c1b, _, _⟩ := row2 (hB.blk (W.heap.size + 1) (netB (b) (m)) (by simp))
  have z1 := size_of_block (hB.blk (W.heap.size + 1) (netB (b) (m)) (by simp))
  obtain ⟨c2a, c2b, _, _⟩ := row2 (hB.blk (W.heap.size + 2) (netB (c) (n)) (by simp))
  have z2 := size_of_block (hB.blk (W.heap.size + 2) (netB (c) (n)) (by simp))
  have zz := hB.bel.size
  have HB := Lib.hid hB; clear hB
  go_wp2_with fail
  go_at_call 27
  (with_reducible refine (in_is HAB.out HA.out HBB.out _).mono ?_); rintro e w5 ⟨rfl, hb⟩
  have hB := HB.out.below hb
  clear HB hb c0a c0b z0 c1a c1b z1 c2a c2b z2 zz
  obtain ⟨c0a, c0b, _, _⟩ := row2 (hB.blk (W.heap.size) (netB (a) (l)) (by simp))
  have z0 := size_of_block (hB.blk (W.heap.size) (netB (a) (l)) (by simp))
  obtain ⟨c1a, c1b, _, _⟩ := row2 (hB.blk (W.heap.size + 1) (netB (b) (m)) (by simp))
  have z1 := size_of_block (hB.blk (W.heap.size + 1) (netB (b) (m)) (by simp))
  obtain ⟨c2a, c2b, _, _⟩ := row2 (hB.blk (W.heap.size + 2) (netB (c) (n)) (by simp))
  have z2 := size_of_block (hB.blk (W.heap.size + 2) (netB (c) (n)) (by simp))
  have zz := hB.bel.size
  have HB := Lib.hid hB; clear hB
  go_wp2_with fail
  go_at_call 27
  (with_reducible refine (in_is HBA.out HBB.out HA.out _).mono ?_); rintro e w6 ⟨rfl, hb⟩
  have hB := HB.out.below hb
  clear HB hb c0a c0b z0 c1a c1b z1 c2a c2b z2 zz
  obtain ⟨c0a, c0b, _, _⟩ := row2 (hB.blk (W.heap.size) (netB (a) (l)) (by simp))
  have z0 := size_of_block (hB.blk (W.heap.size) (netB (a) (l)) (by simp))
  obtain ⟨c1a, c1b, _, _⟩ := row2 (hB.blk (W.heap.size + 1) (netB (b) (m)) (by simp))
  have z1 := size_of_block (hB.blk (W.heap.size + 1) (netB (b) (m)) (by simp))
  obtain ⟨c2a, c2b, _, _⟩ := row2 (hB.blk (W.heap.size + 2) (netB (c) (n)) (by simp))
  have z2 := size_of_block (hB.blk (W.heap.size + 2) (netB (c) (n)) (by simp))
  have zz := hB.bel.size
  have HB := Lib.hid hB; clear hB
  go_wp2_with fail
  go_at_call 27
  (with_reducible refine (in_is HAB.out HA.out HBB.out _).mono ?_); rintro e w7 ⟨rfl, hb⟩
  have hB := HB.out.below hb
  clear HB hb c0a c0b z0 c1a c1b z1 c2a c2b z2 zz
  obtain ⟨c0a, c0b, _, _⟩ := row2 (hB.blk (W.heap.size) (netB (a) (l)) (by simp))
  have z0 := size_of_block (hB.blk (W.heap.size) (netB (a) (l)) (by simp))
  obtain ⟨c1a, c1b, _, _⟩ := row2 (hB.blk (W.heap.size + 1) (netB (b) (m)) (by simp))
  have z1 := size_of_block (hB.blk (W.heap.size + 1) (netB (b) (m)) (by simp))
  obtain ⟨c2a, c2b, _, _⟩ := row2 (hB.blk (W.heap.size + 2) (netB (c) (n)) (by simp))
  have z2 := size_of_block (hB.blk (W.heap.size + 2) (netB (c) (n)) (by simp))
  have zz := hB.bel.size
  have HB := Lib.hid hB; clear hB
  go_wp2_with fail
  go_at_call 27
  (with_reducible refine (in_is HBC.out HBB.out HC.out _).mono ?_); rintro e w8 ⟨rfl, hb⟩
  have hB := HB.out.below hb
  clear HB hb c0a c0b z0 c1a c1b z1 c2a c2b z2 zz
  obtain ⟨c0a, c0b, _, _⟩ := row2 (hB.blk (W.heap.size) (netB (a) (l)) (by simp))
  have z0 := size_of_block (hB.blk (W.heap.size) (netB (a) (l)) (by simp))
  obtain ⟨c1a, c1b, _, _⟩ := row2 (hB.blk (W.heap.size + 1) (netB (b) (m)) (by simp))
  have z1 := size_of_block (hB.blk (W.heap.size + 1) (netB (b) (m)) (by simp))
  obtain ⟨c2a, c2b, _, _⟩ := row2 (hB.blk (W.heap.size + 2) (netB (c) (n)) (by simp))
  have z2 := size_of_block (hB.blk (W.heap.size + 2) (netB (c) (n)) (by simp))
  have zz := hB.bel.size
  have HB := Lib.hid hB; clear hB
  go_wp2_with fail
  go_at_call 27
  (with_reducible refine (in_is HAC.out HA.out HC.out _).mono ?_); rintro e w9 ⟨rfl, hb⟩
  have hB := HB.out.below hb
  clear HB hb c0a c0b z0 c1a c1b z1 c2a c2b z2 zz
  obtain ⟨c0a, c0b, _, _⟩ := row2 (hB.blk (W.heap.size) (netB (a) (l)) (by simp))
  have z0 := size_of_block (hB.blk (W.heap.size) (netB (a) (l)) (by simp))
  obtain ⟨c1a, c1b, _, _⟩ := row2 (hB.blk (W.heap.size + 1) (netB (b) (m)) (by simp))
  have z1 := size_of_block (hB.blk (W.heap.size + 1) (netB (b) (m)) (by simp))
  obtain ⟨c2a, c2b, _, _⟩ := row2 (hB.blk (W.heap.size + 2) (netB (c) (n)) (by simp))
  have z2 := size_of_block (hB.blk (W.heap.size + 2) (netB (c) (n)) (by simp))
  have zz := hB.bel.size
  have HB := Lib.hid hB; clear hB
  go_wp2_with fail
  go_at_call 27
  (with_reducible refine (in_is HAB.out HA.out HBB.out _).mono ?_); rintro e w10 ⟨rfl, hb⟩
  have hB := HB.out.below hb
  clear HB hb c0a c0b z0 c1a c1b z1 c2a c2b z2 zz
  obtain ⟨c0a, c0b, _, _⟩ := row2 (hB.blk (W.heap.size) (netB (a) (l)) (by simp))
  have z0 := size_of_block (hB.blk (W.heap.size) (netB (a) (l)) (by simp))
  obtain ⟨c1a, c1b, _, _⟩ := row2 (hB.blk (W.heap.size + 1) (netB (b) (m)) (by simp))
  have z1 := size_of_block (hB.blk (W.heap.size + 1) (netB (b) (m)) (by simp))
  obtain ⟨c2a, c2b, _, _⟩ := row2 (hB.blk (W.heap.size + 2) (netB (c) (n)) (by simp))
  have z2 := size_of_block (hB.blk (W.heap.size + 2) (netB (c) (n)) (by simp))
  have zz := hB.bel.size
  have HB := Lib.hid hB; clear hB
  go_wp2_with fail
  go_at_call 26
  (with_reducible refine (has_is HP.out HA.out HX.out _).mono ?_); rintro e w11 ⟨rfl, hb⟩
  have hB := HB.out.below hb
  clear HB hb c0a c0b z0 c1a c1b z1 c2a c2b z2 zz
  obtain ⟨c0a, c0b, _, _⟩ := row2 (hB.blk (W.heap.size) (netB (a) (l)) (by simp))
  have z0 := size_of_block (hB.blk (W.heap.size) (netB (a) (l)) (by simp))
  obtain ⟨c1a, c1b, _, _⟩ := row2 (hB.blk (W.heap.size + 1) (netB (b) (m)) (by simp))
  have z1 := size_of_block (hB.blk (W.heap.size + 1) (netB (b) (m)) (by simp))
  obtain ⟨c2a, c2b, _, _⟩ := row2 (hB.blk (W.heap.size + 2) (netB (c) (n)) (by simp))
  have z2 := size_of_block (hB.blk (W.heap.size + 2) (netB (c) (n)) (by simp))
  have zz := hB.bel.size
  have HB := Lib.hid hB; clear hB
  go_wp2_with fail
  go_at_call 26
  (with_reducible refine (has_is HQ.out HBB.out HX.out _).mono ?_); rintro e w12 ⟨rfl, hb⟩
  have hB := HB.out.below hb
  clear HB hb c0a c0b z0 c1a c1b z1 c2a c2b z2 zz
  obtain ⟨c0a, c0b, _, _⟩ := row2 (hB.blk (W.heap.size) (netB (a) (l)) (by simp))
  have z0 := size_of_block (hB.blk (W.heap.size) (netB (a) (l)) (by simp))
  obtain ⟨c1a, c1b, _, _⟩ := row2 (hB.blk (W.heap.size + 1) (netB (b) (m)) (by simp))
  have z1 := size_of_block (hB.blk (W.heap.size + 1) (netB (b) (m)) (by simp))
  obtain ⟨c2a, c2b, _, _⟩ := row2 (hB.blk (W.heap.size + 2) (netB (c) (n)) (by simp))
  have z2 := size_of_block (hB.blk (W.heap.size + 2) (netB (c) (n)) (by simp))
  have zz := hB.bel.size
  have HB := Lib.hid hB; clear hB
  go_wp2
  go_ret
  exact ⟨rfl, (HB.out).bel⟩

set_option maxRecDepth 100000 in
set_option maxHeartbeats 2000000 in
theorem nests_t110 (W : World) (hg : HStr W) (a l b m c n x : Int) (ha : is32 a) (hb : is32 b) (hc : is32 c) (hx : is32 x) (hab : inB (a, l) (b, m) = true) (hba : inB (b, m) (a, l) = false) (hp : hasB (a, l) x = true) (hq : hasB (b, m) x = true) (hbc : inB (b, m) (c, n) = false) :
    Calls Tryd.prog 6 #[.agg #[.int .u32 a, .int .i64 l], .agg #[.int .u32 b, .int .i64 m], .agg #[.int .u32 c, .int .i64 n], .int .u32 x] W fun e w' => e = .returned (.bool true) ∧ Below W.heap.size W w' := by
  have HAB := Lib.hid hab
  have HBA := Lib.hid hba
  have HP := Lib.hid hp
  have HQ := Lib.hid hq
  have HBC := Lib.hid hbc
  have HA := Lib.hid ha
  have HBB := Lib.hid hb
  have HC := Lib.hid hc
  have HX := Lib.hid hx
  clear hab hba hp hq hbc
  have HG := Lib.hid hg
  have hst := BL.start3 W (netB a l) (netB b m) (netB c n)
  have HB := Lib.hid hst
  clear hst hg
  go_enter Tryd.func6, Tryd.ntmps6
  go_wp2_with fail
  go_at_call 22
  (with_reducible refine (known_any _ (HG.out.on HB.out.bel)).mono ?_); rintro e w1 ⟨rfl, hb⟩
  have hB := HB.out.below hb
  clear HB hb
  obtain ⟨c0a, c0b, _, _⟩ := row2 (hB.blk (W.heap.size) (netB (a) (l)) (by simp))
  have z0 := size_of_block (hB.blk (W.heap.size) (netB (a) (l)) (by simp))
  obtain ⟨c1a, c1b, _, _⟩ := row2 (hB.blk (W.heap.size + 1) (netB (b) (m)) (by simp))
  have z1 := size_of_block (hB.blk (W.heap.size + 1) (netB (b) (m)) (by simp))
  obtain ⟨c2a, c2b, _, _⟩ := row2 (hB.blk (W.heap.size + 2) (netB (c) (n)) (by simp))
  have z2 := size_of_block (hB.blk (W.heap.size + 2) (netB (c) (n)) (by simp))
  have zz := hB.bel.size
  have HB := Lib.hid hB; clear hB
  go_wp2_with fail
  go_at_call 26
  (with_reducible refine (has_is HP.out HA.out HX.out _).mono ?_); rintro e w2 ⟨rfl, hb⟩
  have hB := HB.out.below hb
  clear HB hb c0a c0b z0 c1a c1b z1 c2a c2b z2 zz
  obtain ⟨c0a, c0b, _, _⟩ := row2 (hB.blk (W.heap.size) (netB (a) (l)) (by simp))
  have z0 := size_of_block (hB.blk (W.heap.size) (netB (a) (l)) (by simp))
  obtain ⟨c1a, c1b, _, _⟩ := row2 (hB.blk (W.heap.size + 1) (netB (b) (m)) (by simp))
  have z1 := size_of_block (hB.blk (W.heap.size + 1) (netB (b) (m)) (by simp))
  obtain ⟨c2a, c2b, _, _⟩ := row2 (hB.blk (W.heap.size + 2) (netB (c) (n)) (by simp))
  have z2 := size_of_block (hB.blk (W.heap.size + 2) (netB (c) (n)) (by simp))
  have zz := hB.bel.size
  have HB := Lib.hid hB; clear hB
  go_wp2_with fail
  go_at_call 26
  (with_reducible refine (has_is HQ.out HBB.out HX.out _).mono ?_); rintro e w3 ⟨rfl, hb⟩
  have hB := HB.out.below hb
  clear HB hb c0a c0b z0 c1a c1b z1 c2a c2b z2 zz
  obtain ⟨c0a, c0b, _, _⟩ := row2 (hB.blk (W.heap.size) (netB (a) (l)) (by simp))
  have z0 := size_of_block (hB.blk (W.heap.size) (netB (a) (l)) (by simp))
  obtain ⟨c1a, c1b, _, _⟩ := row2 (hB.blk (W.heap.size + 1) (netB (b) (m)) (by simp))
  have z1 := size_of_block (hB.blk (W.heap.size + 1) (netB (b) (m)) (by simp))
  obtain ⟨c2a, c2b, _, _⟩ := row2 (hB.blk (W.heap.size + 2) (netB (c) (n)) (by simp))
  have z2 := size_of_block (hB.blk (W.heap.size + 2) (netB (c) (n)) (by simp))
  have zz := hB.bel.size
  have HB := Lib.hid hB; clear hB
  go_wp2_with fail
  go_at_call 27
  (with_reducible refine (in_is HAB.out HA.out HBB.out _).mono ?_); rintro e w4 ⟨rfl, hb⟩
  have hB := HB.out.below hb
  clear HB hb c0a c0b z0 c1a c1b z1 c2a c2b z2 zz
  obtain ⟨c0a, c0b, _, _⟩ := row2 (hB.blk (W.heap.size) (netB (a) (l)) (by simp))
  have z0 := size_of_block (hB.blk (W.heap.size) (netB (a) (l)) (by simp))
  obtain ⟨c1a, c1b, _, _⟩ := row2 (hB.blk (W.heap.size + 1) (netB (b) (m)) (by simp))
  have z1 := size_of_block (hB.blk (W.heap.size + 1) (netB (b) (m)) (by simp))
  obtain ⟨c2a, c2b, _, _⟩ := row2 (hB.blk (W.heap.size + 2) (netB (c) (n)) (by simp))
  have z2 := size_of_block (hB.blk (W.heap.size + 2) (netB (c) (n)) (by simp))
  have zz := hB.bel.size
  have HB := Lib.hid hB; clear hB
  go_wp2_with fail
  go_at_call 27
  (with_reducible refine (in_is HAB.out HA.out HBB.out _).mono ?_); rintro e w5 ⟨rfl, hb⟩
  have hB := HB.out.below hb
  clear HB hb c0a c0b z0 c1a c1b z1 c2a c2b z2 zz
  obtain ⟨c0a, c0b, _, _⟩ := row2 (hB.blk (W.heap.size) (netB (a) (l)) (by simp))
  have z0 := size_of_block (hB.blk (W.heap.size) (netB (a) (l)) (by simp))
  obtain ⟨c1a, c1b, _, _⟩ := row2 (hB.blk (W.heap.size + 1) (netB (b) (m)) (by simp))
  have z1 := size_of_block (hB.blk (W.heap.size + 1) (netB (b) (m)) (by simp))
  obtain ⟨c2a, c2b, _, _⟩ := row2 (hB.blk (W.heap.size + 2) (netB (c) (n)) (by simp))
  have z2 := size_of_block (hB.blk (W.heap.size + 2) (netB (c) (n)) (by simp))
  have zz := hB.bel.size
  have HB := Lib.hid hB; clear hB
  go_wp2_with fail
  go_at_call 27
  (with_reducible refine (in_is HBA.out HBB.out HA.out _).mono ?_); rintro e w6 ⟨rfl, hb⟩
  have hB := HB.out.below hb
  clear HB hb c0a c0b z0 c1a c1b z1 c2a c2b z2 zz
  obtain ⟨c0a, c0b, _, _⟩ := row2 (hB.blk (W.heap.size) (netB (a) (l)) (by simp))
  have z0 := size_of_block (hB.blk (W.heap.size) (netB (a) (l)) (by simp))
  obtain ⟨c1a, c1b, _, _⟩ := row2 (hB.blk (W.heap.size + 1) (netB (b) (m)) (by simp))
  have z1 := size_of_block (hB.blk (W.heap.size + 1) (netB (b) (m)) (by simp))
  obtain ⟨c2a, c2b, _, _⟩ := row2 (hB.blk (W.heap.size + 2) (netB (c) (n)) (by simp))
  have z2 := size_of_block (hB.blk (W.heap.size + 2) (netB (c) (n)) (by simp))
  have zz := hB.bel.size
  have HB := Lib.hid hB; clear hB
  go_wp2_with fail
  go_at_call 27
  (with_reducible refine (in_is HAB.out HA.out HBB.out _).mono ?_); rintro e w7 ⟨rfl, hb⟩
  have hB := HB.out.below hb
  clear HB hb c0a c0b z0 c1a c1b z1 c2a c2b z2 zz
  obtain ⟨c0a, c0b, _, _⟩ := row2 (hB.blk (W.heap.size) (netB (a) (l)) (by simp))
  have z0 := size_of_block (hB.blk (W.heap.size) (netB (a) (l)) (by simp))
  obtain ⟨c1a, c1b, _, _⟩ := row2 (hB.blk (W.heap.size + 1) (netB (b) (m)) (by simp))
  have z1 := size_of_block (hB.blk (W.heap.size + 1) (netB (b) (m)) (by simp))
  obtain ⟨c2a, c2b, _, _⟩ := row2 (hB.blk (W.heap.size + 2) (netB (c) (n)) (by simp))
  have z2 := size_of_block (hB.blk (W.heap.size + 2) (netB (c) (n)) (by simp))
  have zz := hB.bel.size
  have HB := Lib.hid hB; clear hB
  go_wp2_with fail
  go_at_call 27
  (with_reducible refine (in_is HBC.out HBB.out HC.out _).mono ?_); rintro e w8 ⟨rfl, hb⟩
  have hB := HB.out.below hb
  clear HB hb c0a c0b z0 c1a c1b z1 c2a c2b z2 zz
  obtain ⟨c0a, c0b, _, _⟩ := row2 (hB.blk (W.heap.size) (netB (a) (l)) (by simp))
  have z0 := size_of_block (hB.blk (W.heap.size) (netB (a) (l)) (by simp))
  obtain ⟨c1a, c1b, _, _⟩ := row2 (hB.blk (W.heap.size + 1) (netB (b) (m)) (by simp))
  have z1 := size_of_block (hB.blk (W.heap.size + 1) (netB (b) (m)) (by simp))
  obtain ⟨c2a, c2b, _, _⟩ := row2 (hB.blk (W.heap.size + 2) (netB (c) (n)) (by simp))
  have z2 := size_of_block (hB.blk (W.heap.size + 2) (netB (c) (n)) (by simp))
  have zz := hB.bel.size
  have HB := Lib.hid hB; clear hB
  go_wp2_with fail
  go_at_call 27
  (with_reducible refine (in_is HAB.out HA.out HBB.out _).mono ?_); rintro e w9 ⟨rfl, hb⟩
  have hB := HB.out.below hb
  clear HB hb c0a c0b z0 c1a c1b z1 c2a c2b z2 zz
  obtain ⟨c0a, c0b, _, _⟩ := row2 (hB.blk (W.heap.size) (netB (a) (l)) (by simp))
  have z0 := size_of_block (hB.blk (W.heap.size) (netB (a) (l)) (by simp))
  obtain ⟨c1a, c1b, _, _⟩ := row2 (hB.blk (W.heap.size + 1) (netB (b) (m)) (by simp))
  have z1 := size_of_block (hB.blk (W.heap.size + 1) (netB (b) (m)) (by simp))
  obtain ⟨c2a, c2b, _, _⟩ := row2 (hB.blk (W.heap.size + 2) (netB (c) (n)) (by simp))
  have z2 := size_of_block (hB.blk (W.heap.size + 2) (netB (c) (n)) (by simp))
  have zz := hB.bel.size
  have HB := Lib.hid hB; clear hB
  go_wp2_with fail
  go_at_call 26
  (with_reducible refine (has_is HP.out HA.out HX.out _).mono ?_); rintro e w10 ⟨rfl, hb⟩
  have hB := HB.out.below hb
  clear HB hb c0a c0b z0 c1a c1b z1 c2a c2b z2 zz
  obtain ⟨c0a, c0b, _, _⟩ := row2 (hB.blk (W.heap.size) (netB (a) (l)) (by simp))
  have z0 := size_of_block (hB.blk (W.heap.size) (netB (a) (l)) (by simp))
  obtain ⟨c1a, c1b, _, _⟩ := row2 (hB.blk (W.heap.size + 1) (netB (b) (m)) (by simp))
  have z1 := size_of_block (hB.blk (W.heap.size + 1) (netB (b) (m)) (by simp))
  obtain ⟨c2a, c2b, _, _⟩ := row2 (hB.blk (W.heap.size + 2) (netB (c) (n)) (by simp))
  have z2 := size_of_block (hB.blk (W.heap.size + 2) (netB (c) (n)) (by simp))
  have zz := hB.bel.size
  have HB := Lib.hid hB; clear hB
  go_wp2_with fail
  go_at_call 26
  (with_reducible refine (has_is HQ.out HBB.out HX.out _).mono ?_); rintro e w11 ⟨rfl, hb⟩
  have hB := HB.out.below hb
  clear HB hb c0a c0b z0 c1a c1b z1 c2a c2b z2 zz
  obtain ⟨c0a, c0b, _, _⟩ := row2 (hB.blk (W.heap.size) (netB (a) (l)) (by simp))
  have z0 := size_of_block (hB.blk (W.heap.size) (netB (a) (l)) (by simp))
  obtain ⟨c1a, c1b, _, _⟩ := row2 (hB.blk (W.heap.size + 1) (netB (b) (m)) (by simp))
  have z1 := size_of_block (hB.blk (W.heap.size + 1) (netB (b) (m)) (by simp))
  obtain ⟨c2a, c2b, _, _⟩ := row2 (hB.blk (W.heap.size + 2) (netB (c) (n)) (by simp))
  have z2 := size_of_block (hB.blk (W.heap.size + 2) (netB (c) (n)) (by simp))
  have zz := hB.bel.size
  have HB := Lib.hid hB; clear hB
  go_wp2
  go_ret
  exact ⟨rfl, (HB.out).bel⟩

set_option maxRecDepth 100000 in
set_option maxHeartbeats 2000000 in
theorem nests_t01 (W : World) (hg : HStr W) (a l b m c n x : Int) (ha : is32 a) (hb : is32 b) (hc : is32 c) (hx : is32 x) (hab : inB (a, l) (b, m) = true) (hba : inB (b, m) (a, l) = false) (hp : hasB (a, l) x = false) (hbc : inB (b, m) (c, n) = true) (hac : inB (a, l) (c, n) = true) :
    Calls Tryd.prog 6 #[.agg #[.int .u32 a, .int .i64 l], .agg #[.int .u32 b, .int .i64 m], .agg #[.int .u32 c, .int .i64 n], .int .u32 x] W fun e w' => e = .returned (.bool true) ∧ Below W.heap.size W w' := by
  have HAB := Lib.hid hab
  have HBA := Lib.hid hba
  have HP := Lib.hid hp
  have HBC := Lib.hid hbc
  have HAC := Lib.hid hac
  have HA := Lib.hid ha
  have HBB := Lib.hid hb
  have HC := Lib.hid hc
  have HX := Lib.hid hx
  clear hab hba hp hbc hac
  have HG := Lib.hid hg
  have hst := BL.start3 W (netB a l) (netB b m) (netB c n)
  have HB := Lib.hid hst
  clear hst hg
  go_enter Tryd.func6, Tryd.ntmps6
  go_wp2_with fail
  go_at_call 22
  (with_reducible refine (known_any _ (HG.out.on HB.out.bel)).mono ?_); rintro e w1 ⟨rfl, hb⟩
  have hB := HB.out.below hb
  clear HB hb
  obtain ⟨c0a, c0b, _, _⟩ := row2 (hB.blk (W.heap.size) (netB (a) (l)) (by simp))
  have z0 := size_of_block (hB.blk (W.heap.size) (netB (a) (l)) (by simp))
  obtain ⟨c1a, c1b, _, _⟩ := row2 (hB.blk (W.heap.size + 1) (netB (b) (m)) (by simp))
  have z1 := size_of_block (hB.blk (W.heap.size + 1) (netB (b) (m)) (by simp))
  obtain ⟨c2a, c2b, _, _⟩ := row2 (hB.blk (W.heap.size + 2) (netB (c) (n)) (by simp))
  have z2 := size_of_block (hB.blk (W.heap.size + 2) (netB (c) (n)) (by simp))
  have zz := hB.bel.size
  have HB := Lib.hid hB; clear hB
  go_wp2_with fail
  go_at_call 26
  (with_reducible refine (has_is HP.out HA.out HX.out _).mono ?_); rintro e w2 ⟨rfl, hb⟩
  have hB := HB.out.below hb
  clear HB hb c0a c0b z0 c1a c1b z1 c2a c2b z2 zz
  obtain ⟨c0a, c0b, _, _⟩ := row2 (hB.blk (W.heap.size) (netB (a) (l)) (by simp))
  have z0 := size_of_block (hB.blk (W.heap.size) (netB (a) (l)) (by simp))
  obtain ⟨c1a, c1b, _, _⟩ := row2 (hB.blk (W.heap.size + 1) (netB (b) (m)) (by simp))
  have z1 := size_of_block (hB.blk (W.heap.size + 1) (netB (b) (m)) (by simp))
  obtain ⟨c2a, c2b, _, _⟩ := row2 (hB.blk (W.heap.size + 2) (netB (c) (n)) (by simp))
  have z2 := size_of_block (hB.blk (W.heap.size + 2) (netB (c) (n)) (by simp))
  have zz := hB.bel.size
  have HB := Lib.hid hB; clear hB
  go_wp2_with fail
  go_at_call 27
  (with_reducible refine (in_is HAB.out HA.out HBB.out _).mono ?_); rintro e w3 ⟨rfl, hb⟩
  have hB := HB.out.below hb
  clear HB hb c0a c0b z0 c1a c1b z1 c2a c2b z2 zz
  obtain ⟨c0a, c0b, _, _⟩ := row2 (hB.blk (W.heap.size) (netB (a) (l)) (by simp))
  have z0 := size_of_block (hB.blk (W.heap.size) (netB (a) (l)) (by simp))
  obtain ⟨c1a, c1b, _, _⟩ := row2 (hB.blk (W.heap.size + 1) (netB (b) (m)) (by simp))
  have z1 := size_of_block (hB.blk (W.heap.size + 1) (netB (b) (m)) (by simp))
  obtain ⟨c2a, c2b, _, _⟩ := row2 (hB.blk (W.heap.size + 2) (netB (c) (n)) (by simp))
  have z2 := size_of_block (hB.blk (W.heap.size + 2) (netB (c) (n)) (by simp))
  have zz := hB.bel.size
  have HB := Lib.hid hB; clear hB
  go_wp2_with fail
  go_at_call 27
  (with_reducible refine (in_is HBA.out HBB.out HA.out _).mono ?_); rintro e w4 ⟨rfl, hb⟩
  have hB := HB.out.below hb
  clear HB hb c0a c0b z0 c1a c1b z1 c2a c2b z2 zz
  obtain ⟨c0a, c0b, _, _⟩ := row2 (hB.blk (W.heap.size) (netB (a) (l)) (by simp))
  have z0 := size_of_block (hB.blk (W.heap.size) (netB (a) (l)) (by simp))
  obtain ⟨c1a, c1b, _, _⟩ := row2 (hB.blk (W.heap.size + 1) (netB (b) (m)) (by simp))
  have z1 := size_of_block (hB.blk (W.heap.size + 1) (netB (b) (m)) (by simp))
  obtain ⟨c2a, c2b, _, _⟩ := row2 (hB.blk (W.heap.size + 2) (netB (c) (n)) (by simp))
  have z2 := size_of_block (hB.blk (W.heap.size + 2) (netB (c) (n)) (by simp))
  have zz := hB.bel.size
  have HB := Lib.hid hB; clear hB
  go_wp2_with fail
  go_at_call 27
  (with_reducible refine (in_is HAB.out HA.out HBB.out _).mono ?_); rintro e w5 ⟨rfl, hb⟩
  have hB := HB.out.below hb
  clear HB hb c0a c0b z0 c1a c1b z1 c2a c2b z2 zz
  obtain ⟨c0a, c0b, _, _⟩ := row2 (hB.blk (W.heap.size) (netB (a) (l)) (by simp))
  have z0 := size_of_block (hB.blk (W.heap.size) (netB (a) (l)) (by simp))
  obtain ⟨c1a, c1b, _, _⟩ := row2 (hB.blk (W.heap.size + 1) (netB (b) (m)) (by simp))
  have z1 := size_of_block (hB.blk (W.heap.size + 1) (netB (b) (m)) (by simp))
  obtain ⟨c2a, c2b, _, _⟩ := row2 (hB.blk (W.heap.size + 2) (netB (c) (n)) (by simp))
  have z2 := size_of_block (hB.blk (W.heap.size + 2) (netB (c) (n)) (by simp))
  have zz := hB.bel.size
  have HB := Lib.hid hB; clear hB
  go_wp2_with fail
  go_at_call 27
  (with_reducible refine (in_is HBC.out HBB.out HC.out _).mono ?_); rintro e w6 ⟨rfl, hb⟩
  have hB := HB.out.below hb
  clear HB hb c0a c0b z0 c1a c1b z1 c2a c2b z2 zz
  obtain ⟨c0a, c0b, _, _⟩ := row2 (hB.blk (W.heap.size) (netB (a) (l)) (by simp))
  have z0 := size_of_block (hB.blk (W.heap.size) (netB (a) (l)) (by simp))
  obtain ⟨c1a, c1b, _, _⟩ := row2 (hB.blk (W.heap.size + 1) (netB (b) (m)) (by simp))
  have z1 := size_of_block (hB.blk (W.heap.size + 1) (netB (b) (m)) (by simp))
  obtain ⟨c2a, c2b, _, _⟩ := row2 (hB.blk (W.heap.size + 2) (netB (c) (n)) (by simp))
  have z2 := size_of_block (hB.blk (W.heap.size + 2) (netB (c) (n)) (by simp))
  have zz := hB.bel.size
  have HB := Lib.hid hB; clear hB
  go_wp2_with fail
  go_at_call 27
  (with_reducible refine (in_is HAC.out HA.out HC.out _).mono ?_); rintro e w7 ⟨rfl, hb⟩
  have hB := HB.out.below hb
  clear HB hb c0a c0b z0 c1a c1b z1 c2a c2b z2 zz
  obtain ⟨c0a, c0b, _, _⟩ := row2 (hB.blk (W.heap.size) (netB (a) (l)) (by simp))
  have z0 := size_of_block (hB.blk (W.heap.size) (netB (a) (l)) (by simp))
  obtain ⟨c1a, c1b, _, _⟩ := row2 (hB.blk (W.heap.size + 1) (netB (b) (m)) (by simp))
  have z1 := size_of_block (hB.blk (W.heap.size + 1) (netB (b) (m)) (by simp))
  obtain ⟨c2a, c2b, _, _⟩ := row2 (hB.blk (W.heap.size + 2) (netB (c) (n)) (by simp))
  have z2 := size_of_block (hB.blk (W.heap.size + 2) (netB (c) (n)) (by simp))
  have zz := hB.bel.size
  have HB := Lib.hid hB; clear hB
  go_wp2_with fail
  go_at_call 27
  (with_reducible refine (in_is HAB.out HA.out HBB.out _).mono ?_); rintro e w8 ⟨rfl, hb⟩
  have hB := HB.out.below hb
  clear HB hb c0a c0b z0 c1a c1b z1 c2a c2b z2 zz
  obtain ⟨c0a, c0b, _, _⟩ := row2 (hB.blk (W.heap.size) (netB (a) (l)) (by simp))
  have z0 := size_of_block (hB.blk (W.heap.size) (netB (a) (l)) (by simp))
  obtain ⟨c1a, c1b, _, _⟩ := row2 (hB.blk (W.heap.size + 1) (netB (b) (m)) (by simp))
  have z1 := size_of_block (hB.blk (W.heap.size + 1) (netB (b) (m)) (by simp))
  obtain ⟨c2a, c2b, _, _⟩ := row2 (hB.blk (W.heap.size + 2) (netB (c) (n)) (by simp))
  have z2 := size_of_block (hB.blk (W.heap.size + 2) (netB (c) (n)) (by simp))
  have zz := hB.bel.size
  have HB := Lib.hid hB; clear hB
  go_wp2_with fail
  go_at_call 26
  (with_reducible refine (has_is HP.out HA.out HX.out _).mono ?_); rintro e w9 ⟨rfl, hb⟩
  have hB := HB.out.below hb
  clear HB hb c0a c0b z0 c1a c1b z1 c2a c2b z2 zz
  obtain ⟨c0a, c0b, _, _⟩ := row2 (hB.blk (W.heap.size) (netB (a) (l)) (by simp))
  have z0 := size_of_block (hB.blk (W.heap.size) (netB (a) (l)) (by simp))
  obtain ⟨c1a, c1b, _, _⟩ := row2 (hB.blk (W.heap.size + 1) (netB (b) (m)) (by simp))
  have z1 := size_of_block (hB.blk (W.heap.size + 1) (netB (b) (m)) (by simp))
  obtain ⟨c2a, c2b, _, _⟩ := row2 (hB.blk (W.heap.size + 2) (netB (c) (n)) (by simp))
  have z2 := size_of_block (hB.blk (W.heap.size + 2) (netB (c) (n)) (by simp))
  have zz := hB.bel.size
  have HB := Lib.hid hB; clear hB
  go_wp2
  go_ret
  exact ⟨rfl, (HB.out).bel⟩

set_option maxRecDepth 100000 in
set_option maxHeartbeats 2000000 in
theorem nests_t00 (W : World) (hg : HStr W) (a l b m c n x : Int) (ha : is32 a) (hb : is32 b) (hc : is32 c) (hx : is32 x) (hab : inB (a, l) (b, m) = true) (hba : inB (b, m) (a, l) = false) (hp : hasB (a, l) x = false) (hbc : inB (b, m) (c, n) = false) :
    Calls Tryd.prog 6 #[.agg #[.int .u32 a, .int .i64 l], .agg #[.int .u32 b, .int .i64 m], .agg #[.int .u32 c, .int .i64 n], .int .u32 x] W fun e w' => e = .returned (.bool true) ∧ Below W.heap.size W w' := by
  have HAB := Lib.hid hab
  have HBA := Lib.hid hba
  have HP := Lib.hid hp
  have HBC := Lib.hid hbc
  have HA := Lib.hid ha
  have HBB := Lib.hid hb
  have HC := Lib.hid hc
  have HX := Lib.hid hx
  clear hab hba hp hbc
  have HG := Lib.hid hg
  have hst := BL.start3 W (netB a l) (netB b m) (netB c n)
  have HB := Lib.hid hst
  clear hst hg
  go_enter Tryd.func6, Tryd.ntmps6
  go_wp2_with fail
  go_at_call 22
  (with_reducible refine (known_any _ (HG.out.on HB.out.bel)).mono ?_); rintro e w1 ⟨rfl, hb⟩
  have hB := HB.out.below hb
  clear HB hb
  obtain ⟨c0a, c0b, _, _⟩ := row2 (hB.blk (W.heap.size) (netB (a) (l)) (by simp))
  have z0 := size_of_block (hB.blk (W.heap.size) (netB (a) (l)) (by simp))
  obtain ⟨c1a, c1b, _, _⟩ := row2 (hB.blk (W.heap.size + 1) (netB (b) (m)) (by simp))
  have z1 := size_of_block (hB.blk (W.heap.size + 1) (netB (b) (m)) (by simp))
  obtain ⟨c2a, c2b, _, _⟩ := row2 (hB.blk (W.heap.size + 2) (netB (c) (n)) (by simp))
  have z2 := size_of_block (hB.blk (W.heap.size + 2) (netB (c) (n)) (by simp))
  have zz := hB.bel.size
  have HB := Lib.hid hB; clear hB
  go_wp2_with fail
  go_at_call 26
  (with_reducible refine (has_is HP.out HA.out HX.out _).mono ?_); rintro e w2 ⟨rfl, hb⟩
  have hB := HB.out.below hb
  clear HB hb c0a c0b z0 c1a c1b z1 c2a c2b z2 zz
  obtain ⟨c0a, c0b, _, _⟩ := row2 (hB.blk (W.heap.size) (netB (a) (l)) (by simp))
  have z0 := size_of_block (hB.blk (W.heap.size) (netB (a) (l)) (by simp))
  obtain ⟨c1a, c1b, _, _⟩ := row2 (hB.blk (W.heap.size + 1) (netB (b) (m)) (by simp))
  have z1 := size_of_block (hB.blk (W.heap.size + 1) (netB (b) (m)) (by simp))
  obtain ⟨c2a, c2b, _, _⟩ := row2 (hB.blk (W.heap.size + 2) (netB (c) (n)) (by simp))
  have z2 := size_of_block (hB.blk (W.heap.size + 2) (netB (c) (n)) (by simp))
  have zz := hB.bel.size
  have HB := Lib.hid hB; clear hB
  go_wp2_with fail
  go_at_call 27
  (with_reducible refine (in_is HAB.out HA.out HBB.out _).mono ?_); rintro e w3 ⟨rfl, hb⟩
  have hB := HB.out.below hb
  clear HB hb c0a c0b z0 c1a c1b z1 c2a c2b z2 zz
  obtain ⟨c0a, c0b, _, _⟩ := row2 (hB.blk (W.heap.size) (netB (a) (l)) (by simp))
  have z0 := size_of_block (hB.blk (W.heap.size) (netB (a) (l)) (by simp))
  obtain ⟨c1a, c1b, _, _⟩ := row2 (hB.blk (W.heap.size + 1) (netB (b) (m)) (by simp))
  have z1 := size_of_block (hB.blk (W.heap.size + 1) (netB (b) (m)) (by simp))
  obtain ⟨c2a, c2b, _, _⟩ := row2 (hB.blk (W.heap.size + 2) (netB (c) (n)) (by simp))
  have z2 := size_of_block (hB.blk (W.heap.size + 2) (netB (c) (n)) (by simp))
  have zz := hB.bel.size
  have HB := Lib.hid hB; clear hB
  go_wp2_with fail
  go_at_call 27
  (with_reducible refine (in_is HBA.out HBB.out HA.out _).mono ?_); rintro e w4 ⟨rfl, hb⟩
  have hB := HB.out.below hb
  clear HB hb c0a c0b z0 c1a c1b z1 c2a c2b z2 zz
  obtain ⟨c0a, c0b, _, _⟩ := row2 (hB.blk (W.heap.size) (netB (a) (l)) (by simp))
  have z0 := size_of_block (hB.blk (W.heap.size) (netB (a) (l)) (by simp))
  obtain ⟨c1a, c1b, _, _⟩ := row2 (hB.blk (W.heap.size + 1) (netB (b) (m)) (by simp))
  have z1 := size_of_block (hB.blk (W.heap.size + 1) (netB (b) (m)) (by simp))
  obtain ⟨c2a, c2b, _, _⟩ := row2 (hB.blk (W.heap.size + 2) (netB (c) (n)) (by simp))
  have z2 := size_of_block (hB.blk (W.heap.size + 2) (netB (c) (n)) (by simp))
  have zz := hB.bel.size
  have HB := Lib.hid hB; clear hB
  go_wp2_with fail
  go_at_call 27
  (with_reducible refine (in_is HAB.out HA.out HBB.out _).mono ?_); rintro e w5 ⟨rfl, hb⟩
  have hB := HB.out.below hb
  clear HB hb c0a c0b z0 c1a c1b z1 c2a c2b z2 zz
  obtain ⟨c0a, c0b, _, _⟩ := row2 (hB.blk (W.heap.size) (netB (a) (l)) (by simp))
  have z0 := size_of_block (hB.blk (W.heap.size) (netB (a) (l)) (by simp))
  obtain ⟨c1a, c1b, _, _⟩ := row2 (hB.blk (W.heap.size + 1) (netB (b) (m)) (by simp))
  have z1 := size_of_block (hB.blk (W.heap.size + 1) (netB (b) (m)) (by simp))
  obtain ⟨c2a, c2b, _, _⟩ := row2 (hB.blk (W.heap.size + 2) (netB (c) (n)) (by simp))
  have z2 := size_of_block (hB.blk (W.heap.size + 2) (netB (c) (n)) (by simp))
  have zz := hB.bel.size
  have HB := Lib.hid hB; clear hB
  go_wp2_with fail
  go_at_call 27
  (with_reducible refine (in_is HBC.out HBB.out HC.out _).mono ?_); rintro e w6 ⟨rfl, hb⟩
  have hB := HB.out.below hb
  clear HB hb c0a c0b z0 c1a c1b z1 c2a c2b z2 zz
  obtain ⟨c0a, c0b, _, _⟩ := row2 (hB.blk (W.heap.size) (netB (a) (l)) (by simp))
  have z0 := size_of_block (hB.blk (W.heap.size) (netB (a) (l)) (by simp))
  obtain ⟨c1a, c1b, _, _⟩ := row2 (hB.blk (W.heap.size + 1) (netB (b) (m)) (by simp))
  have z1 := size_of_block (hB.blk (W.heap.size + 1) (netB (b) (m)) (by simp))
  obtain ⟨c2a, c2b, _, _⟩ := row2 (hB.blk (W.heap.size + 2) (netB (c) (n)) (by simp))
  have z2 := size_of_block (hB.blk (W.heap.size + 2) (netB (c) (n)) (by simp))
  have zz := hB.bel.size
  have HB := Lib.hid hB; clear hB
  go_wp2_with fail
  go_at_call 27
  (with_reducible refine (in_is HAB.out HA.out HBB.out _).mono ?_); rintro e w7 ⟨rfl, hb⟩
  have hB := HB.out.below hb
  clear HB hb c0a c0b z0 c1a c1b z1 c2a c2b z2 zz
  obtain ⟨c0a, c0b, _, _⟩ := row2 (hB.blk (W.heap.size) (netB (a) (l)) (by simp))
  have z0 := size_of_block (hB.blk (W.heap.size) (netB (a) (l)) (by simp))
  obtain ⟨c1a, c1b, _, _⟩ := row2 (hB.blk (W.heap.size + 1) (netB (b) (m)) (by simp))
  have z1 := size_of_block (hB.blk (W.heap.size + 1) (netB (b) (m)) (by simp))
  obtain ⟨c2a, c2b, _, _⟩ := row2 (hB.blk (W.heap.size + 2) (netB (c) (n)) (by simp))
  have z2 := size_of_block (hB.blk (W.heap.size + 2) (netB (c) (n)) (by simp))
  have zz := hB.bel.size
  have HB := Lib.hid hB; clear hB
  go_wp2_with fail
  go_at_call 26
  (with_reducible refine (has_is HP.out HA.out HX.out _).mono ?_); rintro e w8 ⟨rfl, hb⟩
  have hB := HB.out.below hb
  clear HB hb c0a c0b z0 c1a c1b z1 c2a c2b z2 zz
  obtain ⟨c0a, c0b, _, _⟩ := row2 (hB.blk (W.heap.size) (netB (a) (l)) (by simp))
  have z0 := size_of_block (hB.blk (W.heap.size) (netB (a) (l)) (by simp))
  obtain ⟨c1a, c1b, _, _⟩ := row2 (hB.blk (W.heap.size + 1) (netB (b) (m)) (by simp))
  have z1 := size_of_block (hB.blk (W.heap.size + 1) (netB (b) (m)) (by simp))
  obtain ⟨c2a, c2b, _, _⟩ := row2 (hB.blk (W.heap.size + 2) (netB (c) (n)) (by simp))
  have z2 := size_of_block (hB.blk (W.heap.size + 2) (netB (c) (n)) (by simp))
  have zz := hB.bel.size
  have HB := Lib.hid hB; clear hB
  go_wp2
  go_ret
  exact ⟨rfl, (HB.out).bel⟩

set_option maxRecDepth 100000 in
set_option maxHeartbeats 2000000 in
theorem nests_u11 (W : World) (hg : HStr W) (a l b m c n x : Int) (ha : is32 a) (hb : is32 b) (hc : is32 c) (hx : is32 x) (hab : inB (a, l) (b, m) = false) (hba : inB (b, m) (a, l) = true) (hp : hasB (a, l) x = true) (hq : hasB (b, m) x = true) :
    Calls Tryd.prog 6 #[.agg #[.int .u32 a, .int .i64 l], .agg #[.int .u32 b, .int .i64 m], .agg #[.int .u32 c, .int .i64 n], .int .u32 x] W fun e w' => e = .returned (.bool true) ∧ Below W.heap.size W w' := by
  have HAB := Lib.hid hab
  have HBA := Lib.hid hba
  have HP := Lib.hid hp
  have HQ := Lib.hid hq
  have HA := Lib.hid ha
  have HBB := Lib.hid hb
  have HC := Lib.hid hc
  have HX := Lib.hid hx
  clear hab hba hp hq
  have HG := Lib.hid hg
  have hst := BL.start3 W (netB a l) (netB b m) (netB c n)
  have HB := Lib.hid hst
  clear hst hg
  go_enter Tryd.func6, Tryd.ntmps6
  go_wp2_with fail
  go_at_call 22
  (with_reducible refine (known_any _ (HG.out.on HB.out.bel)).mono ?_); rintro e w1 ⟨rfl, hb⟩
  have hB := HB.out.below hb
  clear HB hb
  obtain ⟨c0a, c0b, _, _⟩ := row2 (hB.blk (W.heap.size) (netB (a) (l)) (by simp))
  have z0 := size_of_block (hB.blk (W.heap.size) (netB (a) (l)) (by simp))
  obtain ⟨c1a, c1b, _, _⟩ := row2 (hB.blk (W.heap.size + 1) (netB (b) (m)) (by simp))
  have z1 := size_of_block (hB.blk (W.heap.size + 1) (netB (b) (m)) (by simp))
  obtain ⟨c2a, c2b, _, _⟩ := row2 (hB.blk (W.heap.size + 2) (netB (c) (n)) (by simp))
  have z2 := size_of_block (hB.blk (W.heap.size + 2) (netB (c) (n)) (by simp))
  have zz := hB.bel.size
  have HB := Lib.hid hB; clear hB
  go_wp2_with fail
  go_at_call 26
  (with_reducible refine (has_is HP.out HA.out HX.out _).mono ?_); rintro e w2 ⟨rfl, hb⟩
  have hB := HB.out.below hb
  clear HB hb c0a c0b z0 c1a c1b z1 c2a c2b z2 zz
  obtain ⟨c0a, c0b, _, _⟩ := row2 (hB.blk (W.heap.size) (netB (a) (l)) (by simp))
  have z0 := size_of_block (hB.blk (W.heap.size) (netB (a) (l)) (by simp))
  obtain ⟨c1a, c1b, _, _⟩ := row2 (hB.blk (W.heap.size + 1) (netB (b) (m)) (by simp))
  have z1 := size_of_block (hB.blk (W.heap.size + 1) (netB (b) (m)) (by simp))
  obtain ⟨c2a, c2b, _, _⟩ := row2 (hB.blk (W.heap.size + 2) (netB (c) (n)) (by simp))
  have z2 := size_of_block (hB.blk (W.heap.size + 2) (netB (c) (n)) (by simp))
  have zz := hB.bel.size
  have HB := Lib.hid hB; clear hB
  go_wp2_with fail
  go_at_call 26
  (with_reducible refine (has_is HQ.out HBB.out HX.out _).mono ?_); rintro e w3 ⟨rfl, hb⟩
  have hB := HB.out.below hb
  clear HB hb c0a c0b z0 c1a c1b z1 c2a c2b z2 zz
  obtain ⟨c0a, c0b, _, _⟩ := row2 (hB.blk (W.heap.size) (netB (a) (l)) (by simp))
  have z0 := size_of_block (hB.blk (W.heap.size) (netB (a) (l)) (by simp))
  obtain ⟨c1a, c1b, _, _⟩ := row2 (hB.blk (W.heap.size + 1) (netB (b) (m)) (by simp))
  have z1 := size_of_block (hB.blk (W.heap.size + 1) (netB (b) (m)) (by simp))
  obtain ⟨c2a, c2b, _, _⟩ := row2 (hB.blk (W.heap.size + 2) (netB (c) (n)) (by simp))
  have z2 := size_of_block (hB.blk (W.heap.size + 2) (netB (c) (n)) (by simp))
  have zz := hB.bel.size
  have HB := Lib.hid hB; clear hB
  go_wp2_with fail
  go_at_call 27
  (with_reducible refine (in_is HAB.out HA.out HBB.out _).mono ?_); rintro e w4 ⟨rfl, hb⟩
  have hB := HB.out.below hb
  clear HB hb c0a c0b z0 c1a c1b z1 c2a c2b z2 zz
  obtain ⟨c0a, c0b, _, _⟩ := row2 (hB.blk (W.heap.size) (netB (a) (l)) (by simp))
  have z0 := size_of_block (hB.blk (W.heap.size) (netB (a) (l)) (by simp))
  obtain ⟨c1a, c1b, _, _⟩ := row2 (hB.blk (W.heap.size + 1) (netB (b) (m)) (by simp))
  have z1 := size_of_block (hB.blk (W.heap.size + 1) (netB (b) (m)) (by simp))
  obtain ⟨c2a, c2b, _, _⟩ := row2 (hB.blk (W.heap.size + 2) (netB (c) (n)) (by simp))
  have z2 := size_of_block (hB.blk (W.heap.size + 2) (netB (c) (n)) (by simp))
  have zz := hB.bel.size
  have HB := Lib.hid hB; clear hB
  go_wp2_with fail
  go_at_call 27
  (with_reducible refine (in_is HBA.out HBB.out HA.out _).mono ?_); rintro e w5 ⟨rfl, hb⟩
  have hB := HB.out.below hb
  clear HB hb c0a c0b z0 c1a c1b z1 c2a c2b z2 zz
  obtain ⟨c0a, c0b, _, _⟩ := row2 (hB.blk (W.heap.size) (netB (a) (l)) (by simp))
  have z0 := size_of_block (hB.blk (W.heap.size) (netB (a) (l)) (by simp))
  obtain ⟨c1a, c1b, _, _⟩ := row2 (hB.blk (W.heap.size + 1) (netB (b) (m)) (by simp))
  have z1 := size_of_block (hB.blk (W.heap.size + 1) (netB (b) (m)) (by simp))
  obtain ⟨c2a, c2b, _, _⟩ := row2 (hB.blk (W.heap.size + 2) (netB (c) (n)) (by simp))
  have z2 := size_of_block (hB.blk (W.heap.size + 2) (netB (c) (n)) (by simp))
  have zz := hB.bel.size
  have HB := Lib.hid hB; clear hB
  go_wp2_with fail
  go_at_call 27
  (with_reducible refine (in_is HAB.out HA.out HBB.out _).mono ?_); rintro e w6 ⟨rfl, hb⟩
  have hB := HB.out.below hb
  clear HB hb c0a c0b z0 c1a c1b z1 c2a c2b z2 zz
  obtain ⟨c0a, c0b, _, _⟩ := row2 (hB.blk (W.heap.size) (netB (a) (l)) (by simp))
  have z0 := size_of_block (hB.blk (W.heap.size) (netB (a) (l)) (by simp))
  obtain ⟨c1a, c1b, _, _⟩ := row2 (hB.blk (W.heap.size + 1) (netB (b) (m)) (by simp))
  have z1 := size_of_block (hB.blk (W.heap.size + 1) (netB (b) (m)) (by simp))
  obtain ⟨c2a, c2b, _, _⟩ := row2 (hB.blk (W.heap.size + 2) (netB (c) (n)) (by simp))
  have z2 := size_of_block (hB.blk (W.heap.size + 2) (netB (c) (n)) (by simp))
  have zz := hB.bel.size
  have HB := Lib.hid hB; clear hB
  go_wp2_with fail
  go_at_call 27
  (with_reducible refine (in_is HAB.out HA.out HBB.out _).mono ?_); rintro e w7 ⟨rfl, hb⟩
  have hB := HB.out.below hb
  clear HB hb c0a c0b z0 c1a c1b z1 c2a c2b z2 zz
  obtain ⟨c0a, c0b, _, _⟩ := row2 (hB.blk (W.heap.size) (netB (a) (l)) (by simp))
  have z0 := size_of_block (hB.blk (W.heap.size) (netB (a) (l)) (by simp))
  obtain ⟨c1a, c1b, _, _⟩ := row2 (hB.blk (W.heap.size + 1) (netB (b) (m)) (by simp))
  have z1 := size_of_block (hB.blk (W.heap.size + 1) (netB (b) (m)) (by simp))
  obtain ⟨c2a, c2b, _, _⟩ := row2 (hB.blk (W.heap.size + 2) (netB (c) (n)) (by simp))
  have z2 := size_of_block (hB.blk (W.heap.size + 2) (netB (c) (n)) (by simp))
  have zz := hB.bel.size
  have HB := Lib.hid hB; clear hB
  go_wp2_with fail
  go_at_call 27
  (with_reducible refine (in_is HAB.out HA.out HBB.out _).mono ?_); rintro e w8 ⟨rfl, hb⟩
  have hB := HB.out.below hb
  clear HB hb c0a c0b z0 c1a c1b z1 c2a c2b z2 zz
  obtain ⟨c0a, c0b, _, _⟩ := row2 (hB.blk (W.heap.size) (netB (a) (l)) (by simp))
  have z0 := size_of_block (hB.blk (W.heap.size) (netB (a) (l)) (by simp))
  obtain ⟨c1a, c1b, _, _⟩ := row2 (hB.blk (W.heap.size + 1) (netB (b) (m)) (by simp))
  have z1 := size_of_block (hB.blk (W.heap.size + 1) (netB (b) (m)) (by simp))
  obtain ⟨c2a, c2b, _, _⟩ := row2 (hB.blk (W.heap.size + 2) (netB (c) (n)) (by simp))
  have z2 := size_of_block (hB.blk (W.heap.size + 2) (netB (c) (n)) (by simp))
  have zz := hB.bel.size
  have HB := Lib.hid hB; clear hB
  go_wp2
  go_ret
  exact ⟨rfl, (HB.out).bel⟩

set_option maxRecDepth 100000 in
set_option maxHeartbeats 2000000 in
theorem nests_u10 (W : World) (hg : HStr W) (a l b m c n x : Int) (ha : is32 a) (hb : is32 b) (hc : is32 c) (hx : is32 x) (hab : inB (a, l) (b, m) = false) (hp : hasB (a, l) x = true) (hq : hasB (b, m) x = false) :
    Calls Tryd.prog 6 #[.agg #[.int .u32 a, .int .i64 l], .agg #[.int .u32 b, .int .i64 m], .agg #[.int .u32 c, .int .i64 n], .int .u32 x] W fun e w' => e = .returned (.bool true) ∧ Below W.heap.size W w' := by
  have HAB := Lib.hid hab
  have HP := Lib.hid hp
  have HQ := Lib.hid hq
  have HA := Lib.hid ha
  have HBB := Lib.hid hb
  have HC := Lib.hid hc
  have HX := Lib.hid hx
  clear hab hp hq
  have HG := Lib.hid hg
  have hst := BL.start3 W (netB a l) (netB b m) (netB c n)
  have HB := Lib.hid hst
  clear hst hg
  go_enter Tryd.func6, Tryd.ntmps6
  go_wp2_with fail
  go_at_call 22
  (with_reducible refine (known_any _ (HG.out.on HB.out.bel)).mono ?_); rintro e w1 ⟨rfl, hb⟩
  have hB := HB.out.below hb
  clear HB hb
  obtain ⟨c0a, c0b, _, _⟩ := row2 (hB.blk (W.heap.size) (netB (a) (l)) (by simp))
  have z0 := size_of_block (hB.blk (W.heap.size) (netB (a) (l)) (by simp))
  obtain ⟨c1a, c1b, _, _⟩ := row2 (hB.blk (W.heap.size + 1) (netB (b) (m)) (by simp))
  have z1 := size_of_block (hB.blk (W.heap.size + 1) (netB (b) (m)) (by simp))
  obtain ⟨c2a, c2b, _, _⟩ := row2 (hB.blk (W.heap.size + 2) (netB (c) (n)) (by simp))
  have z2 := size_of_block (hB.blk (W.heap.size + 2) (netB (c) (n)) (by simp))
  have zz := hB.bel.size
  have HB := Lib.hid hB; clear hB
  go_wp2_with fail
  go_at_call 26
  (with_reducible refine (has_is HP.out HA.out HX.out _).mono ?_); rintro e w2 ⟨rfl, hb⟩
  have hB := HB.out.below hb
  clear HB hb c0a c0b z0 c1a c1b z1 c2a c2b z2 zz
  obtain ⟨c0a, c0b, _, _⟩ := row2 (hB.blk (W.heap.size) (netB (a) (l)) (by simp))
  have z0 := size_of_block (hB.blk (W.heap.size) (netB (a) (l)) (by simp))
  obtain ⟨c1a, c1b, _, _⟩ := row2 (hB.blk (W.heap.size + 1) (netB (b) (m)) (by simp))
  have z1 := size_of_block (hB.blk (W.heap.size + 1) (netB (b) (m)) (by simp))
  obtain ⟨c2a, c2b, _, _⟩ := row2 (hB.blk (W.heap.size + 2) (netB (c) (n)) (by simp))
  have z2 := size_of_block (hB.blk (W.heap.size + 2) (netB (c) (n)) (by simp))
  have zz := hB.bel.size
  have HB := Lib.hid hB; clear hB
  go_wp2_with fail
  go_at_call 26
  (with_reducible refine (has_is HQ.out HBB.out HX.out _).mono ?_); rintro e w3 ⟨rfl, hb⟩
  have hB := HB.out.below hb
  clear HB hb c0a c0b z0 c1a c1b z1 c2a c2b z2 zz
  obtain ⟨c0a, c0b, _, _⟩ := row2 (hB.blk (W.heap.size) (netB (a) (l)) (by simp))
  have z0 := size_of_block (hB.blk (W.heap.size) (netB (a) (l)) (by simp))
  obtain ⟨c1a, c1b, _, _⟩ := row2 (hB.blk (W.heap.size + 1) (netB (b) (m)) (by simp))
  have z1 := size_of_block (hB.blk (W.heap.size + 1) (netB (b) (m)) (by simp))
  obtain ⟨c2a, c2b, _, _⟩ := row2 (hB.blk (W.heap.size + 2) (netB (c) (n)) (by simp))
  have z2 := size_of_block (hB.blk (W.heap.size + 2) (netB (c) (n)) (by simp))
  have zz := hB.bel.size
  have HB := Lib.hid hB; clear hB
  go_wp2_with fail
  go_at_call 27
  (with_reducible refine (in_is HAB.out HA.out HBB.out _).mono ?_); rintro e w4 ⟨rfl, hb⟩
  have hB := HB.out.below hb
  clear HB hb c0a c0b z0 c1a c1b z1 c2a c2b z2 zz
  obtain ⟨c0a, c0b, _, _⟩ := row2 (hB.blk (W.heap.size) (netB (a) (l)) (by simp))
  have z0 := size_of_block (hB.blk (W.heap.size) (netB (a) (l)) (by simp))
  obtain ⟨c1a, c1b, _, _⟩ := row2 (hB.blk (W.heap.size + 1) (netB (b) (m)) (by simp))
  have z1 := size_of_block (hB.blk (W.heap.size + 1) (netB (b) (m)) (by simp))
  obtain ⟨c2a, c2b, _, _⟩ := row2 (hB.blk (W.heap.size + 2) (netB (c) (n)) (by simp))
  have z2 := size_of_block (hB.blk (W.heap.size + 2) (netB (c) (n)) (by simp))
  have zz := hB.bel.size
  have HB := Lib.hid hB; clear hB
  go_wp2_with fail
  go_at_call 27
  (with_reducible refine (in_is HAB.out HA.out HBB.out _).mono ?_); rintro e w5 ⟨rfl, hb⟩
  have hB := HB.out.below hb
  clear HB hb c0a c0b z0 c1a c1b z1 c2a c2b z2 zz
  obtain ⟨c0a, c0b, _, _⟩ := row2 (hB.blk (W.heap.size) (netB (a) (l)) (by simp))
  have z0 := size_of_block (hB.blk (W.heap.size) (netB (a) (l)) (by simp))
  obtain ⟨c1a, c1b, _, _⟩ := row2 (hB.blk (W.heap.size + 1) (netB (b) (m)) (by simp))
  have z1 := size_of_block (hB.blk (W.heap.size + 1) (netB (b) (m)) (by simp))
  obtain ⟨c2a, c2b, _, _⟩ := row2 (hB.blk (W.heap.size + 2) (netB (c) (n)) (by simp))
  have z2 := size_of_block (hB.blk (W.heap.size + 2) (netB (c) (n)) (by simp))
  have zz := hB.bel.size
  have HB := Lib.hid hB; clear hB
  go_wp2_with fail
  go_at_call 27
  (with_reducible refine (in_is HAB.out HA.out HBB.out _).mono ?_); rintro e w6 ⟨rfl, hb⟩
  have hB := HB.out.below hb
  clear HB hb c0a c0b z0 c1a c1b z1 c2a c2b z2 zz
  obtain ⟨c0a, c0b, _, _⟩ := row2 (hB.blk (W.heap.size) (netB (a) (l)) (by simp))
  have z0 := size_of_block (hB.blk (W.heap.size) (netB (a) (l)) (by simp))
  obtain ⟨c1a, c1b, _, _⟩ := row2 (hB.blk (W.heap.size + 1) (netB (b) (m)) (by simp))
  have z1 := size_of_block (hB.blk (W.heap.size + 1) (netB (b) (m)) (by simp))
  obtain ⟨c2a, c2b, _, _⟩ := row2 (hB.blk (W.heap.size + 2) (netB (c) (n)) (by simp))
  have z2 := size_of_block (hB.blk (W.heap.size + 2) (netB (c) (n)) (by simp))
  have zz := hB.bel.size
  have HB := Lib.hid hB; clear hB
  go_wp2
  go_ret
  exact ⟨rfl, (HB.out).bel⟩

set_option maxRecDepth 100000 in
set_option maxHeartbeats 2000000 in
theorem nests_u0 (W : World) (hg : HStr W) (a l b m c n x : Int) (ha : is32 a) (hb : is32 b) (hc : is32 c) (hx : is32 x) (hab : inB (a, l) (b, m) = false) (hp : hasB (a, l) x = false) :
    Calls Tryd.prog 6 #[.agg #[.int .u32 a, .int .i64 l], .agg #[.int .u32 b, .int .i64 m], .agg #[.int .u32 c, .int .i64 n], .int .u32 x] W fun e w' => e = .returned (.bool true) ∧ Below W.heap.size W w' := by
  have HAB := Lib.hid hab
  have HP := Lib.hid hp
  have HA := Lib.hid ha
  have HBB := Lib.hid hb
  have HC := Lib.hid hc
  have HX := Lib.hid hx
  clear hab hp
  have HG := Lib.hid hg
  have hst := BL.start3 W (netB a l) (netB b m) (netB c n)
  have HB := Lib.hid hst
  clear hst hg
  go_enter Tryd.func6, Tryd.ntmps6
  go_wp2_with fail
  go_at_call 22
  (with_reducible refine (known_any _ (HG.out.on HB.out.bel)).mono ?_); rintro e w1 ⟨rfl, hb⟩
  have hB := HB.out.below hb
  clear HB hb
  obtain ⟨c0a, c0b, _, _⟩ := row2 (hB.blk (W.heap.size) (netB (a) (l)) (by simp))
  have z0 := size_of_block (hB.blk (W.heap.size) (netB (a) (l)) (by simp))
  obtain ⟨c1a, c1b, _, _⟩ := row2 (hB.blk (W.heap.size + 1) (netB (b) (m)) (by simp))
  have z1 := size_of_block (hB.blk (W.heap.size + 1) (netB (b) (m)) (by simp))
  obtain ⟨c2a, c2b, _, _⟩ := row2 (hB.blk (W.heap.size + 2) (netB (c) (n)) (by simp))
  have z2 := size_of_block (hB.blk (W.heap.size + 2) (netB (c) (n)) (by simp))
  have zz := hB.bel.size
  have HB := Lib.hid hB; clear hB
  go_wp2_with fail
  go_at_call 26
  (with_reducible refine (has_is HP.out HA.out HX.out _).mono ?_); rintro e w2 ⟨rfl, hb⟩
  have hB := HB.out.below hb
  clear HB hb c0a c0b z0 c1a c1b z1 c2a c2b z2 zz
  obtain ⟨c0a, c0b, _, _⟩ := row2 (hB.blk (W.heap.size) (netB (a) (l)) (by simp))
  have z0 := size_of_block (hB.blk (W.heap.size) (netB (a) (l)) (by simp))
  obtain ⟨c1a, c1b, _, _⟩ := row2 (hB.blk (W.heap.size + 1) (netB (b) (m)) (by simp))
  have z1 := size_of_block (hB.blk (W.heap.size + 1) (netB (b) (m)) (by simp))
  obtain ⟨c2a, c2b, _, _⟩ := row2 (hB.blk (W.heap.size + 2) (netB (c) (n)) (by simp))
  have z2 := size_of_block (hB.blk (W.heap.size + 2) (netB (c) (n)) (by simp))
  have zz := hB.bel.size
  have HB := Lib.hid hB; clear hB
  go_wp2_with fail
  go_at_call 27
  (with_reducible refine (in_is HAB.out HA.out HBB.out _).mono ?_); rintro e w3 ⟨rfl, hb⟩
  have hB := HB.out.below hb
  clear HB hb c0a c0b z0 c1a c1b z1 c2a c2b z2 zz
  obtain ⟨c0a, c0b, _, _⟩ := row2 (hB.blk (W.heap.size) (netB (a) (l)) (by simp))
  have z0 := size_of_block (hB.blk (W.heap.size) (netB (a) (l)) (by simp))
  obtain ⟨c1a, c1b, _, _⟩ := row2 (hB.blk (W.heap.size + 1) (netB (b) (m)) (by simp))
  have z1 := size_of_block (hB.blk (W.heap.size + 1) (netB (b) (m)) (by simp))
  obtain ⟨c2a, c2b, _, _⟩ := row2 (hB.blk (W.heap.size + 2) (netB (c) (n)) (by simp))
  have z2 := size_of_block (hB.blk (W.heap.size + 2) (netB (c) (n)) (by simp))
  have zz := hB.bel.size
  have HB := Lib.hid hB; clear hB
  go_wp2_with fail
  go_at_call 27
  (with_reducible refine (in_is HAB.out HA.out HBB.out _).mono ?_); rintro e w4 ⟨rfl, hb⟩
  have hB := HB.out.below hb
  clear HB hb c0a c0b z0 c1a c1b z1 c2a c2b z2 zz
  obtain ⟨c0a, c0b, _, _⟩ := row2 (hB.blk (W.heap.size) (netB (a) (l)) (by simp))
  have z0 := size_of_block (hB.blk (W.heap.size) (netB (a) (l)) (by simp))
  obtain ⟨c1a, c1b, _, _⟩ := row2 (hB.blk (W.heap.size + 1) (netB (b) (m)) (by simp))
  have z1 := size_of_block (hB.blk (W.heap.size + 1) (netB (b) (m)) (by simp))
  obtain ⟨c2a, c2b, _, _⟩ := row2 (hB.blk (W.heap.size + 2) (netB (c) (n)) (by simp))
  have z2 := size_of_block (hB.blk (W.heap.size + 2) (netB (c) (n)) (by simp))
  have zz := hB.bel.size
  have HB := Lib.hid hB; clear hB
  go_wp2_with fail
  go_at_call 27
  (with_reducible refine (in_is HAB.out HA.out HBB.out _).mono ?_); rintro e w5 ⟨rfl, hb⟩
  have hB := HB.out.below hb
  clear HB hb c0a c0b z0 c1a c1b z1 c2a c2b z2 zz
  obtain ⟨c0a, c0b, _, _⟩ := row2 (hB.blk (W.heap.size) (netB (a) (l)) (by simp))
  have z0 := size_of_block (hB.blk (W.heap.size) (netB (a) (l)) (by simp))
  obtain ⟨c1a, c1b, _, _⟩ := row2 (hB.blk (W.heap.size + 1) (netB (b) (m)) (by simp))
  have z1 := size_of_block (hB.blk (W.heap.size + 1) (netB (b) (m)) (by simp))
  obtain ⟨c2a, c2b, _, _⟩ := row2 (hB.blk (W.heap.size + 2) (netB (c) (n)) (by simp))
  have z2 := size_of_block (hB.blk (W.heap.size + 2) (netB (c) (n)) (by simp))
  have zz := hB.bel.size
  have HB := Lib.hid hB; clear hB
  go_wp2
  go_ret
  exact ⟨rfl, (HB.out).bel⟩

theorem PrefNests_walk (W : World) (A0 : Array Value) (x0 : Int × Int) (h0 : RV rdNet W (.agg A0) x0) (c0 : True ∧ True) (A1 : Array Value) (x1 : Int × Int) (h1 : RV rdNet W (.agg A1) x1) (c1 : True ∧ True)
    (A2 : Array Value) (x2 : Int × Int) (h2 : RV rdNet W (.agg A2) x2) (c2 : True ∧ True) (x : Int) (hx : 0 ≤ x ∧ x ≤ 4294967295) (hg : HStr W) :
    Calls Tryd.prog 6 #[.agg A0, .agg A1, .agg A2, .int .u32 x] W fun e w' => e = .returned (.bool true) ∧ Below W.heap.size W w' := by
  obtain ⟨a, l, rfl, rfl, ha, _⟩ := net_parts h0
  obtain ⟨b, m, rfl, rfl, hb, _⟩ := net_parts h1
  obtain ⟨c, n, rfl, rfl, hc, _⟩ := net_parts h2
  have hx' : is32 x := hx
  clear hx h0 h1 h2
  cases hab : inB (a, l) (b, m) with
  | true =>
    cases hba : inB (b, m) (a, l) with
    | true =>
      have e := nests_two hab hba
      simp only [Prod.mk.injEq] at e
      obtain ⟨rfl, rfl⟩ := e
      cases hp : hasB (a, l) x <;> cases hac : inB (a, l) (c, n)
      · exact nests_s00 W hg a l c n x ha hc hx' hab hp hac
      · exact nests_s01 W hg a l c n x ha hc hx' hab hp hac
      · exact nests_s10 W hg a l c n x ha hc hx' hab hp hac
      · exact nests_s11 W hg a l c n x ha hc hx' hab hp hac
    | false =>
      cases hp : hasB (a, l) x <;> cases hbc : inB (b, m) (c, n)
      · exact nests_t00 W hg a l b m c n x ha hb hc hx' hab hba hp hbc
      · exact nests_t01 W hg a l b m c n x ha hb hc hx' hab hba hp hbc (nests_three hab hbc)
      · exact nests_t110 W hg a l b m c n x ha hb hc hx' hab hba hp (nests_four hab hp) hbc
      · exact nests_t111 W hg a l b m c n x ha hb hc hx' hab hba hp (nests_four hab hp) hbc (nests_three hab hbc)
  | false =>
    cases hp : hasB (a, l) x with
    | false => exact nests_u0 W hg a l b m c n x ha hb hc hx' hab hp
    | true =>
      cases hq : hasB (b, m) x with
      | false => exact nests_u10 W hg a l b m c n x ha hb hc hx' hab hp hq
      | true => exact nests_u11 W hg a l b m c n x ha hb hc hx' hab (nests_one hp hq hab) hp hq
end Go.Proofs.YtohfeoahdbfjbaaDoor
