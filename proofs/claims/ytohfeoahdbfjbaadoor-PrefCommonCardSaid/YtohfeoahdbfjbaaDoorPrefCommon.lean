/- PrefCommon: the walk. -/
import Derived.Test.YtohfeoahdbfjbaaDoorBl
namespace Go.Proofs.YtohfeoahdbfjbaaDoor
open Go.ChangeShapes Go.WideShapes Go.ChangeAt Go.RowKit
set_option linter.unusedVariables false
set_option linter.unusedSimpArgs false

set_option maxRecDepth 100000 in
set_option maxHeartbeats 2000000 in
theorem common_1 (W : World) (hg : HStr W) (a l b m c n : Int) (ha : is32 a) (hz : netF (a, l) ≠ 0) :
    Calls Tryd.prog 9 #[.agg #[.int .u32 a, .int .i64 l], .agg #[.int .u32 b, .int .i64 m], .agg #[.int .u32 c, .int .i64 n]] W fun e w' => e = .returned (.bool true) ∧ Below W.heap.size W w' := by
  have HA := Lib.hid ha
  have HZ := Lib.hid hz
  clear hz
  have HG := Lib.hid hg
  have hst := BL.start3 W (netB a l) (netB b m) (netB c n)
  have HB := Lib.hid hst
  clear hst hg
  go_enter Tryd.func9, Tryd.ntmps9
  go_wp2_with fail
  go_at_call 22
  (with_reducible refine (known_any _ (HG.out.on HB.out.bel)).mono ?_); rintro e w1 ⟨rfl, hb⟩
  have hB := HB.out.below hb
  clear HB hb
  obtain ⟨c0a, c0b, _, _⟩ := row2 (hB.blk (W.heap.size) (netB (a) (l)) (by simp))
  have z0 := size_of_block (hB.blk (W.heap.size) (netB (a) (l)) (by simp))
  obtain ⟨c1a, c1b, _, _⟩ := row2 (hB.blk (W.heap.size + 1) (netB (b) (m)) (by simp))
  have z1 := size_of_block (hB.blk (W.heap.size + 1) (netB (b) (m)) (by simp))
  obtain ⟨c2a, c2b, _, _⟩ := row2 (hB.blk (W.heap.size + 2) (netB (c) (n)) (by simp))
  have z2 := size_of_block (hB.blk (W.heap.size + 2) (netB (c) (n)) (by simp))
  have zz := hB.bel.size
  have HB := Lib.hid hB; clear hB
  go_wp2_with fail
  go_at_call 31
  (with_reducible refine (Common_bad1 _ HA.out HZ.out).mono ?_); rintro e w2 ⟨rfl, hb⟩
  have hB := HB.out.below hb
  clear HB hb c0a c0b z0 c1a c1b z1 c2a c2b z2 zz
  obtain ⟨c0a, c0b, _, _⟩ := row2 (hB.blk (W.heap.size) (netB (a) (l)) (by simp))
  have z0 := size_of_block (hB.blk (W.heap.size) (netB (a) (l)) (by simp))
  obtain ⟨c1a, c1b, _, _⟩ := row2 (hB.blk (W.heap.size + 1) (netB (b) (m)) (by simp))
  have z1 := size_of_block (hB.blk (W.heap.size + 1) (netB (b) (m)) (by simp))
  obtain ⟨c2a, c2b, _, _⟩ := row2 (hB.blk (W.heap.size + 2) (netB (c) (n)) (by simp))
  have z2 := size_of_block (hB.blk (W.heap.size + 2) (netB (c) (n)) (by simp))
  have zz := hB.bel.size
  have HB := Lib.hid hB; clear hB
  go_wp2_with fail
  go_at_call 25
  (with_reducible refine (Check_bad _ (is32_lo HA.out) (is32_hi HA.out) HZ.out).mono ?_); rintro e w3 ⟨rfl, hb⟩
  have hB := (HB.out.push _).below hb
  clear HB hb c0a c0b z0 c1a c1b z1 c2a c2b z2 zz
  obtain ⟨c0a, c0b, _, _⟩ := row2 (hB.blk (W.heap.size) (netB (a) (l)) (by simp))
  have z0 := size_of_block (hB.blk (W.heap.size) (netB (a) (l)) (by simp))
  obtain ⟨c1a, c1b, _, _⟩ := row2 (hB.blk (W.heap.size + 1) (netB (b) (m)) (by simp))
  have z1 := size_of_block (hB.blk (W.heap.size + 1) (netB (b) (m)) (by simp))
  obtain ⟨c2a, c2b, _, _⟩ := row2 (hB.blk (W.heap.size + 2) (netB (c) (n)) (by simp))
  have z2 := size_of_block (hB.blk (W.heap.size + 2) (netB (c) (n)) (by simp))
  obtain ⟨c3a, c3b, _, _⟩ := row2 (hB.blk (w2.heap.size) (netB (0) (0)) (by simp))
  have z3 := size_of_block (hB.blk (w2.heap.size) (netB (0) (0)) (by simp))
  have zz := hB.bel.size
  have HB := Lib.hid hB; clear hB
  go_wp2
  go_ret
  exact ⟨rfl, (HB.out).bel⟩

set_option maxRecDepth 100000 in
set_option maxHeartbeats 2000000 in
theorem common_2 (W : World) (hg : HStr W) (a l b m c n : Int) (ha : is32 a) (hb : is32 b) (hz : netF (a, l) = 0) (hy : netF (b, m) ≠ 0) :
    Calls Tryd.prog 9 #[.agg #[.int .u32 a, .int .i64 l], .agg #[.int .u32 b, .int .i64 m], .agg #[.int .u32 c, .int .i64 n]] W fun e w' => e = .returned (.bool true) ∧ Below W.heap.size W w' := by
  have HA := Lib.hid ha
  have HBB := Lib.hid hb
  have HZ := Lib.hid hz
  have HY := Lib.hid hy
  clear hz hy
  have HG := Lib.hid hg
  have hst := BL.start3 W (netB a l) (netB b m) (netB c n)
  have HB := Lib.hid hst
  clear hst hg
  go_enter Tryd.func9, Tryd.ntmps9
  go_wp2_with fail
  go_at_call 22
  (with_reducible refine (known_any _ (HG.out.on HB.out.bel)).mono ?_); rintro e w1 ⟨rfl, hb⟩
  have hB := HB.out.below hb
  clear HB hb
  obtain ⟨c0a, c0b, _, _⟩ := row2 (hB.blk (W.heap.size) (netB (a) (l)) (by simp))
  have z0 := size_of_block (hB.blk (W.heap.size) (netB (a) (l)) (by simp))
  obtain ⟨c1a, c1b, _, _⟩ := row2 (hB.blk (W.heap.size + 1) (netB (b) (m)) (by simp))
  have z1 := size_of_block (hB.blk (W.heap.size + 1) (netB (b) (m)) (by simp))
  obtain ⟨c2a, c2b, _, _⟩ := row2 (hB.blk (W.heap.size + 2) (netB (c) (n)) (by simp))
  have z2 := size_of_block (hB.blk (W.heap.size + 2) (netB (c) (n)) (by simp))
  have zz := hB.bel.size
  have HB := Lib.hid hB; clear hB
  go_wp2_with fail
  go_at_call 31
  (with_reducible refine (Common_bad2 _ HA.out HBB.out HZ.out HY.out).mono ?_); rintro e w2 ⟨rfl, hb⟩
  have hB := HB.out.below hb
  clear HB hb c0a c0b z0 c1a c1b z1 c2a c2b z2 zz
  obtain ⟨c0a, c0b, _, _⟩ := row2 (hB.blk (W.heap.size) (netB (a) (l)) (by simp))
  have z0 := size_of_block (hB.blk (W.heap.size) (netB (a) (l)) (by simp))
  obtain ⟨c1a, c1b, _, _⟩ := row2 (hB.blk (W.heap.size + 1) (netB (b) (m)) (by simp))
  have z1 := size_of_block (hB.blk (W.heap.size + 1) (netB (b) (m)) (by simp))
  obtain ⟨c2a, c2b, _, _⟩ := row2 (hB.blk (W.heap.size + 2) (netB (c) (n)) (by simp))
  have z2 := size_of_block (hB.blk (W.heap.size + 2) (netB (c) (n)) (by simp))
  have zz := hB.bel.size
  have HB := Lib.hid hB; clear hB
  go_wp2_with fail
  go_at_call 25
  (with_reducible refine (Check_ok _ (is32_lo HA.out) (is32_hi HA.out) HZ.out).mono ?_); rintro e w3 ⟨rfl, hb⟩
  have hB := (HB.out.push _).below hb
  clear HB hb c0a c0b z0 c1a c1b z1 c2a c2b z2 zz
  obtain ⟨c0a, c0b, _, _⟩ := row2 (hB.blk (W.heap.size) (netB (a) (l)) (by simp))
  have z0 := size_of_block (hB.blk (W.heap.size) (netB (a) (l)) (by simp))
  obtain ⟨c1a, c1b, _, _⟩ := row2 (hB.blk (W.heap.size + 1) (netB (b) (m)) (by simp))
  have z1 := size_of_block (hB.blk (W.heap.size + 1) (netB (b) (m)) (by simp))
  obtain ⟨c2a, c2b, _, _⟩ := row2 (hB.blk (W.heap.size + 2) (netB (c) (n)) (by simp))
  have z2 := size_of_block (hB.blk (W.heap.size + 2) (netB (c) (n)) (by simp))
  obtain ⟨c3a, c3b, _, _⟩ := row2 (hB.blk (w2.heap.size) (netB (0) (0)) (by simp))
  have z3 := size_of_block (hB.blk (w2.heap.size) (netB (0) (0)) (by simp))
  have zz := hB.bel.size
  have HB := Lib.hid hB; clear hB
  go_wp2_with fail
  go_at_call 25
  (with_reducible refine (Check_bad _ (is32_lo HBB.out) (is32_hi HBB.out) HY.out).mono ?_); rintro e w4 ⟨rfl, hb⟩
  have hB := HB.out.below hb
  clear HB hb c0a c0b z0 c1a c1b z1 c2a c2b z2 c3a c3b z3 zz
  obtain ⟨c0a, c0b, _, _⟩ := row2 (hB.blk (W.heap.size) (netB (a) (l)) (by simp))
  have z0 := size_of_block (hB.blk (W.heap.size) (netB (a) (l)) (by simp))
  obtain ⟨c1a, c1b, _, _⟩ := row2 (hB.blk (W.heap.size + 1) (netB (b) (m)) (by simp))
  have z1 := size_of_block (hB.blk (W.heap.size + 1) (netB (b) (m)) (by simp))
  obtain ⟨c2a, c2b, _, _⟩ := row2 (hB.blk (W.heap.size + 2) (netB (c) (n)) (by simp))
  have z2 := size_of_block (hB.blk (W.heap.size + 2) (netB (c) (n)) (by simp))
  obtain ⟨c3a, c3b, _, _⟩ := row2 (hB.blk (w2.heap.size) (netB (0) (0)) (by simp))
  have z3 := size_of_block (hB.blk (w2.heap.size) (netB (0) (0)) (by simp))
  have zz := hB.bel.size
  have HB := Lib.hid hB; clear hB
  go_wp2
  go_ret
  exact ⟨rfl, (HB.out).bel⟩

set_option maxRecDepth 100000 in
set_option maxHeartbeats 2000000 in
theorem common_3 (W : World) (hg : HStr W) (a b u v c n : Int) (k j : Nat) (ha : is32 a) (hb : is32 b) (hc : is32 c) (hu : is32 u) (hz : netF (a, (k : Int)) = 0) (hy : netF (b, (j : Int)) = 0) (h1 : comN (a, (k : Int)) (b, (j : Int)) = (u, v)) (h2 : comN (b, (j : Int)) (a, (k : Int)) = (u, v)) (han : inB (a, (k : Int)) (u, v) = true) (hbn : inB (b, (j : Int)) (u, v) = true) (hac : inB (a, (k : Int)) (c, n) = true) (hbc : inB (b, (j : Int)) (c, n) = true) (hnc : inB (u, v) (c, n) = true) :
    Calls Tryd.prog 9 #[.agg #[.int .u32 a, .int .i64 (k : Int)], .agg #[.int .u32 b, .int .i64 (j : Int)], .agg #[.int .u32 c, .int .i64 n]] W fun e w' => e = .returned (.bool true) ∧ Below W.heap.size W w' := by
  have HA := Lib.hid ha
  have HBB := Lib.hid hb
  have HC := Lib.hid hc
  have HU := Lib.hid hu
  have HZ := Lib.hid hz
  have HY := Lib.hid hy
  have H1 := Lib.hid h1
  have H2 := Lib.hid h2
  have HAN := Lib.hid han
  have HBN := Lib.hid hbn
  have HAC := Lib.hid hac
  clear hz hy h1 h2 han hbn hac
  have HBC := Lib.hid hbc
  clear hbc
  have HNC := Lib.hid hnc
  clear hnc
  have HG := Lib.hid hg
  have hst := BL.start3 W (netB a (k : Int)) (netB b (j : Int)) (netB c n)
  have HB := Lib.hid hst
  clear hst hg
  go_enter Tryd.func9, Tryd.ntmps9
  go_wp2_with fail
  go_at_call 22
  (with_reducible refine (known_any _ (HG.out.on HB.out.bel)).mono ?_); rintro e w1 ⟨rfl, hb⟩
  have hB := HB.out.below hb
  clear HB hb
  obtain ⟨c0a, c0b, _, _⟩ := row2 (hB.blk (W.heap.size) (netB (a) ((k : Int))) (by simp))
  have z0 := size_of_block (hB.blk (W.heap.size) (netB (a) ((k : Int))) (by simp))
  obtain ⟨c1a, c1b, _, _⟩ := row2 (hB.blk (W.heap.size + 1) (netB (b) ((j : Int))) (by simp))
  have z1 := size_of_block (hB.blk (W.heap.size + 1) (netB (b) ((j : Int))) (by simp))
  obtain ⟨c2a, c2b, _, _⟩ := row2 (hB.blk (W.heap.size + 2) (netB (c) (n)) (by simp))
  have z2 := size_of_block (hB.blk (W.heap.size + 2) (netB (c) (n)) (by simp))
  have zz := hB.bel.size
  have HB := Lib.hid hB; clear hB
  go_wp2_with fail
  go_at_call 31
  (with_reducible refine (Common_ok _ HA.out HBB.out HZ.out HY.out).mono ?_); rintro e w2 ⟨rfl, hb⟩; rw [H1.out, netV_mk]
  have hB := HB.out.below hb
  clear HB hb c0a c0b z0 c1a c1b z1 c2a c2b z2 zz
  obtain ⟨c0a, c0b, _, _⟩ := row2 (hB.blk (W.heap.size) (netB (a) ((k : Int))) (by simp))
  have z0 := size_of_block (hB.blk (W.heap.size) (netB (a) ((k : Int))) (by simp))
  obtain ⟨c1a, c1b, _, _⟩ := row2 (hB.blk (W.heap.size + 1) (netB (b) ((j : Int))) (by simp))
  have z1 := size_of_block (hB.blk (W.heap.size + 1) (netB (b) ((j : Int))) (by simp))
  obtain ⟨c2a, c2b, _, _⟩ := row2 (hB.blk (W.heap.size + 2) (netB (c) (n)) (by simp))
  have z2 := size_of_block (hB.blk (W.heap.size + 2) (netB (c) (n)) (by simp))
  have zz := hB.bel.size
  have HB := Lib.hid hB; clear hB
  go_wp2_with fail
  go_at_call 31
  (with_reducible refine (Common_ok _ HBB.out HA.out HY.out HZ.out).mono ?_); rintro e w3 ⟨rfl, hb⟩; rw [H2.out, netV_mk]
  have hB := (HB.out.push _).below hb
  clear HB hb c0a c0b z0 c1a c1b z1 c2a c2b z2 zz
  obtain ⟨c0a, c0b, _, _⟩ := row2 (hB.blk (W.heap.size) (netB (a) ((k : Int))) (by simp))
  have z0 := size_of_block (hB.blk (W.heap.size) (netB (a) ((k : Int))) (by simp))
  obtain ⟨c1a, c1b, _, _⟩ := row2 (hB.blk (W.heap.size + 1) (netB (b) ((j : Int))) (by simp))
  have z1 := size_of_block (hB.blk (W.heap.size + 1) (netB (b) ((j : Int))) (by simp))
  obtain ⟨c2a, c2b, _, _⟩ := row2 (hB.blk (W.heap.size + 2) (netB (c) (n)) (by simp))
  have z2 := size_of_block (hB.blk (W.heap.size + 2) (netB (c) (n)) (by simp))
  obtain ⟨c3a, c3b, _, _⟩ := row2 (hB.blk (w2.heap.size) (netB (u) (v)) (by simp))
  have z3 := size_of_block (hB.blk (w2.heap.size) (netB (u) (v)) (by simp))
  have zz := hB.bel.size
  have HB := Lib.hid hB; clear hB
  go_wp2_with fail
  go_at_call 27
  (with_reducible refine (in_is HAN.out HA.out HU.out _).mono ?_); rintro e w4 ⟨rfl, hb⟩
  have hB := (HB.out.push _).below hb
  clear HB hb c0a c0b z0 c1a c1b z1 c2a c2b z2 c3a c3b z3 zz
  obtain ⟨c0a, c0b, _, _⟩ := row2 (hB.blk (W.heap.size) (netB (a) ((k : Int))) (by simp))
  have z0 := size_of_block (hB.blk (W.heap.size) (netB (a) ((k : Int))) (by simp))
  obtain ⟨c1a, c1b, _, _⟩ := row2 (hB.blk (W.heap.size + 1) (netB (b) ((j : Int))) (by simp))
  have z1 := size_of_block (hB.blk (W.heap.size + 1) (netB (b) ((j : Int))) (by simp))
  obtain ⟨c2a, c2b, _, _⟩ := row2 (hB.blk (W.heap.size + 2) (netB (c) (n)) (by simp))
  have z2 := size_of_block (hB.blk (W.heap.size + 2) (netB (c) (n)) (by simp))
  obtain ⟨c3a, c3b, _, _⟩ := row2 (hB.blk (w2.heap.size) (netB (u) (v)) (by simp))
  have z3 := size_of_block (hB.blk (w2.heap.size) (netB (u) (v)) (by simp))
  obtain ⟨c4a, c4b, _, _⟩ := row2 (hB.blk (w3.heap.size) (netB (u) (v)) (by simp))
  have z4 := size_of_block (hB.blk (w3.heap.size) (netB (u) (v)) (by simp))
  have zz := hB.bel.size
  have HB := Lib.hid hB; clear hB
  go_wp2_with fail
  go_at_call 27
  (with_reducible refine (in_is HBN.out HBB.out HU.out _).mono ?_); rintro e w5 ⟨rfl, hb⟩
  have hB := HB.out.below hb
  clear HB hb c0a c0b z0 c1a c1b z1 c2a c2b z2 c3a c3b z3 c4a c4b z4 zz
  obtain ⟨c0a, c0b, _, _⟩ := row2 (hB.blk (W.heap.size) (netB (a) ((k : Int))) (by simp))
  have z0 := size_of_block (hB.blk (W.heap.size) (netB (a) ((k : Int))) (by simp))
  obtain ⟨c1a, c1b, _, _⟩ := row2 (hB.blk (W.heap.size + 1) (netB (b) ((j : Int))) (by simp))
  have z1 := size_of_block (hB.blk (W.heap.size + 1) (netB (b) ((j : Int))) (by simp))
  obtain ⟨c2a, c2b, _, _⟩ := row2 (hB.blk (W.heap.size + 2) (netB (c) (n)) (by simp))
  have z2 := size_of_block (hB.blk (W.heap.size + 2) (netB (c) (n)) (by simp))
  obtain ⟨c3a, c3b, _, _⟩ := row2 (hB.blk (w2.heap.size) (netB (u) (v)) (by simp))
  have z3 := size_of_block (hB.blk (w2.heap.size) (netB (u) (v)) (by simp))
  obtain ⟨c4a, c4b, _, _⟩ := row2 (hB.blk (w3.heap.size) (netB (u) (v)) (by simp))
  have z4 := size_of_block (hB.blk (w3.heap.size) (netB (u) (v)) (by simp))
  have zz := hB.bel.size
  have HB := Lib.hid hB; clear hB
  go_wp2_with fail
  go_at_call 27
  (with_reducible refine (in_is HAC.out HA.out HC.out _).mono ?_); rintro e w6 ⟨rfl, hb⟩
  have hB := HB.out.below hb
  clear HB hb c0a c0b z0 c1a c1b z1 c2a c2b z2 c3a c3b z3 c4a c4b z4 zz
  obtain ⟨c0a, c0b, _, _⟩ := row2 (hB.blk (W.heap.size) (netB (a) ((k : Int))) (by simp))
  have z0 := size_of_block (hB.blk (W.heap.size) (netB (a) ((k : Int))) (by simp))
  obtain ⟨c1a, c1b, _, _⟩ := row2 (hB.blk (W.heap.size + 1) (netB (b) ((j : Int))) (by simp))
  have z1 := size_of_block (hB.blk (W.heap.size + 1) (netB (b) ((j : Int))) (by simp))
  obtain ⟨c2a, c2b, _, _⟩ := row2 (hB.blk (W.heap.size + 2) (netB (c) (n)) (by simp))
  have z2 := size_of_block (hB.blk (W.heap.size + 2) (netB (c) (n)) (by simp))
  obtain ⟨c3a, c3b, _, _⟩ := row2 (hB.blk (w2.heap.size) (netB (u) (v)) (by simp))
  have z3 := size_of_block (hB.blk (w2.heap.size) (netB (u) (v)) (by simp))
  obtain ⟨c4a, c4b, _, _⟩ := row2 (hB.blk (w3.heap.size) (netB (u) (v)) (by simp))
  have z4 := size_of_block (hB.blk (w3.heap.size) (netB (u) (v)) (by simp))
  have zz := hB.bel.size
  have HB := Lib.hid hB; clear hB
  go_wp2_with fail
  go_at_call 27
  (with_reducible refine (in_is HBC.out HBB.out HC.out _).mono ?_); rintro e w7 ⟨rfl, hb⟩
  have hB := HB.out.below hb
  clear HB hb c0a c0b z0 c1a c1b z1 c2a c2b z2 c3a c3b z3 c4a c4b z4 zz
  obtain ⟨c0a, c0b, _, _⟩ := row2 (hB.blk (W.heap.size) (netB (a) ((k : Int))) (by simp))
  have z0 := size_of_block (hB.blk (W.heap.size) (netB (a) ((k : Int))) (by simp))
  obtain ⟨c1a, c1b, _, _⟩ := row2 (hB.blk (W.heap.size + 1) (netB (b) ((j : Int))) (by simp))
  have z1 := size_of_block (hB.blk (W.heap.size + 1) (netB (b) ((j : Int))) (by simp))
  obtain ⟨c2a, c2b, _, _⟩ := row2 (hB.blk (W.heap.size + 2) (netB (c) (n)) (by simp))
  have z2 := size_of_block (hB.blk (W.heap.size + 2) (netB (c) (n)) (by simp))
  obtain ⟨c3a, c3b, _, _⟩ := row2 (hB.blk (w2.heap.size) (netB (u) (v)) (by simp))
  have z3 := size_of_block (hB.blk (w2.heap.size) (netB (u) (v)) (by simp))
  obtain ⟨c4a, c4b, _, _⟩ := row2 (hB.blk (w3.heap.size) (netB (u) (v)) (by simp))
  have z4 := size_of_block (hB.blk (w3.heap.size) (netB (u) (v)) (by simp))
  have zz := hB.bel.size
  have HB := Lib.hid hB; clear hB
  go_wp2_with fail
  go_at_call 27
  (with_reducible refine (in_is HNC.out HU.out HC.out _).mono ?_); rintro e w8 ⟨rfl, hb⟩
  have hB := HB.out.below hb
  clear HB hb c0a c0b z0 c1a c1b z1 c2a c2b z2 c3a c3b z3 c4a c4b z4 zz
  obtain ⟨c0a, c0b, _, _⟩ := row2 (hB.blk (W.heap.size) (netB (a) ((k : Int))) (by simp))
  have z0 := size_of_block (hB.blk (W.heap.size) (netB (a) ((k : Int))) (by simp))
  obtain ⟨c1a, c1b, _, _⟩ := row2 (hB.blk (W.heap.size + 1) (netB (b) ((j : Int))) (by simp))
  have z1 := size_of_block (hB.blk (W.heap.size + 1) (netB (b) ((j : Int))) (by simp))
  obtain ⟨c2a, c2b, _, _⟩ := row2 (hB.blk (W.heap.size + 2) (netB (c) (n)) (by simp))
  have z2 := size_of_block (hB.blk (W.heap.size + 2) (netB (c) (n)) (by simp))
  obtain ⟨c3a, c3b, _, _⟩ := row2 (hB.blk (w2.heap.size) (netB (u) (v)) (by simp))
  have z3 := size_of_block (hB.blk (w2.heap.size) (netB (u) (v)) (by simp))
  obtain ⟨c4a, c4b, _, _⟩ := row2 (hB.blk (w3.heap.size) (netB (u) (v)) (by simp))
  have z4 := size_of_block (hB.blk (w3.heap.size) (netB (u) (v)) (by simp))
  have zz := hB.bel.size
  have HB := Lib.hid hB; clear hB
  go_wp2
  go_ret
  exact ⟨rfl, (HB.out).bel⟩

set_option maxRecDepth 100000 in
set_option maxHeartbeats 2000000 in
theorem common_4 (W : World) (hg : HStr W) (a b u v c n : Int) (k j : Nat) (ha : is32 a) (hb : is32 b) (hc : is32 c) (hu : is32 u) (hz : netF (a, (k : Int)) = 0) (hy : netF (b, (j : Int)) = 0) (h1 : comN (a, (k : Int)) (b, (j : Int)) = (u, v)) (h2 : comN (b, (j : Int)) (a, (k : Int)) = (u, v)) (han : inB (a, (k : Int)) (u, v) = true) (hbn : inB (b, (j : Int)) (u, v) = true) (hac : inB (a, (k : Int)) (c, n) = true) (hbc : inB (b, (j : Int)) (c, n) = false) :
    Calls Tryd.prog 9 #[.agg #[.int .u32 a, .int .i64 (k : Int)], .agg #[.int .u32 b, .int .i64 (j : Int)], .agg #[.int .u32 c, .int .i64 n]] W fun e w' => e = .returned (.bool true) ∧ Below W.heap.size W w' := by
  have HA := Lib.hid ha
  have HBB := Lib.hid hb
  have HC := Lib.hid hc
  have HU := Lib.hid hu
  have HZ := Lib.hid hz
  have HY := Lib.hid hy
  have H1 := Lib.hid h1
  have H2 := Lib.hid h2
  have HAN := Lib.hid han
  have HBN := Lib.hid hbn
  have HAC := Lib.hid hac
  clear hz hy h1 h2 han hbn hac
  have HBC := Lib.hid hbc
  clear hbc
  have HG := Lib.hid hg
  have hst := BL.start3 W (netB a (k : Int)) (netB b (j : Int)) (netB c n)
  have HB := Lib.hid hst
  clear hst hg
  go_enter Tryd.func9, Tryd.ntmps9
  go_wp2_with fail
  go_at_call 22
  (with_reducible refine (known_any _ (HG.out.on HB.out.bel)).mono ?_); rintro e w1 ⟨rfl, hb⟩
  have hB := HB.out.below hb
  clear HB hb
  obtain ⟨c0a, c0b, _, _⟩ := row2 (hB.blk (W.heap.size) (netB (a) ((k : Int))) (by simp))
  have z0 := size_of_block (hB.blk (W.heap.size) (netB (a) ((k : Int))) (by simp))
  obtain ⟨c1a, c1b, _, _⟩ := row2 (hB.blk (W.heap.size + 1) (netB (b) ((j : Int))) (by simp))
  have z1 := size_of_block (hB.blk (W.heap.size + 1) (netB (b) ((j : Int))) (by simp))
  obtain ⟨c2a, c2b, _, _⟩ := row2 (hB.blk (W.heap.size + 2) (netB (c) (n)) (by simp))
  have z2 := size_of_block (hB.blk (W.heap.size + 2) (netB (c) (n)) (by simp))
  have zz := hB.bel.size
  have HB := Lib.hid hB; clear hB
  go_wp2_with fail
  go_at_call 31
  (with_reducible refine (Common_ok _ HA.out HBB.out HZ.out HY.out).mono ?_); rintro e w2 ⟨rfl, hb⟩; rw [H1.out, netV_mk]
  have hB := HB.out.below hb
  clear HB hb c0a c0b z0 c1a c1b z1 c2a c2b z2 zz
  obtain ⟨c0a, c0b, _, _⟩ := row2 (hB.blk (W.heap.size) (netB (a) ((k : Int))) (by simp))
  have z0 := size_of_block (hB.blk (W.heap.size) (netB (a) ((k : Int))) (by simp))
  obtain ⟨c1a, c1b, _, _⟩ := row2 (hB.blk (W.heap.size + 1) (netB (b) ((j : Int))) (by simp))
  have z1 := size_of_block (hB.blk (W.heap.size + 1) (netB (b) ((j : Int))) (by simp))
  obtain ⟨c2a, c2b, _, _⟩ := row2 (hB.blk (W.heap.size + 2) (netB (c) (n)) (by simp))
  have z2 := size_of_block (hB.blk (W.heap.size + 2) (netB (c) (n)) (by simp))
  have zz := hB.bel.size
  have HB := Lib.hid hB; clear hB
  go_wp2_with fail
  go_at_call 31
  (with_reducible refine (Common_ok _ HBB.out HA.out HY.out HZ.out).mono ?_); rintro e w3 ⟨rfl, hb⟩; rw [H2.out, netV_mk]
  have hB := (HB.out.push _).below hb
  clear HB hb c0a c0b z0 c1a c1b z1 c2a c2b z2 zz
  obtain ⟨c0a, c0b, _, _⟩ := row2 (hB.blk (W.heap.size) (netB (a) ((k : Int))) (by simp))
  have z0 := size_of_block (hB.blk (W.heap.size) (netB (a) ((k : Int))) (by simp))
  obtain ⟨c1a, c1b, _, _⟩ := row2 (hB.blk (W.heap.size + 1) (netB (b) ((j : Int))) (by simp))
  have z1 := size_of_block (hB.blk (W.heap.size + 1) (netB (b) ((j : Int))) (by simp))
  obtain ⟨c2a, c2b, _, _⟩ := row2 (hB.blk (W.heap.size + 2) (netB (c) (n)) (by simp))
  have z2 := size_of_block (hB.blk (W.heap.size + 2) (netB (c) (n)) (by simp))
  obtain ⟨c3a, c3b, _, _⟩ := row2 (hB.blk (w2.heap.size) (netB (u) (v)) (by simp))
  have z3 := size_of_block (hB.blk (w2.heap.size) (netB (u) (v)) (by simp))
  have zz := hB.bel.size
  have HB := Lib.hid hB; clear hB
  go_wp2_with fail
  go_at_call 27
  (with_reducible refine (in_is HAN.out HA.out HU.out _).mono ?_); rintro e w4 ⟨rfl, hb⟩
  have hB := (HB.out.push _).below hb
  clear HB hb c0a c0b z0 c1a c1b z1 c2a c2b z2 c3a c3b z3 zz
  obtain ⟨c0a, c0b, _, _⟩ := row2 (hB.blk (W.heap.size) (netB (a) ((k : Int))) (by simp))
  have z0 := size_of_block (hB.blk (W.heap.size) (netB (a) ((k : Int))) (by simp))
  obtain ⟨c1a, c1b, _, _⟩ := row2 (hB.blk (W.heap.size + 1) (netB (b) ((j : Int))) (by simp))
  have z1 := size_of_block (hB.blk (W.heap.size + 1) (netB (b) ((j : Int))) (by simp))
  obtain ⟨c2a, c2b, _, _⟩ := row2 (hB.blk (W.heap.size + 2) (netB (c) (n)) (by simp))
  have z2 := size_of_block (hB.blk (W.heap.size + 2) (netB (c) (n)) (by simp))
  obtain ⟨c3a, c3b, _, _⟩ := row2 (hB.blk (w2.heap.size) (netB (u) (v)) (by simp))
  have z3 := size_of_block (hB.blk (w2.heap.size) (netB (u) (v)) (by simp))
  obtain ⟨c4a, c4b, _, _⟩ := row2 (hB.blk (w3.heap.size) (netB (u) (v)) (by simp))
  have z4 := size_of_block (hB.blk (w3.heap.size) (netB (u) (v)) (by simp))
  have zz := hB.bel.size
  have HB := Lib.hid hB; clear hB
  go_wp2_with fail
  go_at_call 27
  (with_reducible refine (in_is HBN.out HBB.out HU.out _).mono ?_); rintro e w5 ⟨rfl, hb⟩
  have hB := HB.out.below hb
  clear HB hb c0a c0b z0 c1a c1b z1 c2a c2b z2 c3a c3b z3 c4a c4b z4 zz
  obtain ⟨c0a, c0b, _, _⟩ := row2 (hB.blk (W.heap.size) (netB (a) ((k : Int))) (by simp))
  have z0 := size_of_block (hB.blk (W.heap.size) (netB (a) ((k : Int))) (by simp))
  obtain ⟨c1a, c1b, _, _⟩ := row2 (hB.blk (W.heap.size + 1) (netB (b) ((j : Int))) (by simp))
  have z1 := size_of_block (hB.blk (W.heap.size + 1) (netB (b) ((j : Int))) (by simp))
  obtain ⟨c2a, c2b, _, _⟩ := row2 (hB.blk (W.heap.size + 2) (netB (c) (n)) (by simp))
  have z2 := size_of_block (hB.blk (W.heap.size + 2) (netB (c) (n)) (by simp))
  obtain ⟨c3a, c3b, _, _⟩ := row2 (hB.blk (w2.heap.size) (netB (u) (v)) (by simp))
  have z3 := size_of_block (hB.blk (w2.heap.size) (netB (u) (v)) (by simp))
  obtain ⟨c4a, c4b, _, _⟩ := row2 (hB.blk (w3.heap.size) (netB (u) (v)) (by simp))
  have z4 := size_of_block (hB.blk (w3.heap.size) (netB (u) (v)) (by simp))
  have zz := hB.bel.size
  have HB := Lib.hid hB; clear hB
  go_wp2_with fail
  go_at_call 27
  (with_reducible refine (in_is HAC.out HA.out HC.out _).mono ?_); rintro e w6 ⟨rfl, hb⟩
  have hB := HB.out.below hb
  clear HB hb c0a c0b z0 c1a c1b z1 c2a c2b z2 c3a c3b z3 c4a c4b z4 zz
  obtain ⟨c0a, c0b, _, _⟩ := row2 (hB.blk (W.heap.size) (netB (a) ((k : Int))) (by simp))
  have z0 := size_of_block (hB.blk (W.heap.size) (netB (a) ((k : Int))) (by simp))
  obtain ⟨c1a, c1b, _, _⟩ := row2 (hB.blk (W.heap.size + 1) (netB (b) ((j : Int))) (by simp))
  have z1 := size_of_block (hB.blk (W.heap.size + 1) (netB (b) ((j : Int))) (by simp))
  obtain ⟨c2a, c2b, _, _⟩ := row2 (hB.blk (W.heap.size + 2) (netB (c) (n)) (by simp))
  have z2 := size_of_block (hB.blk (W.heap.size + 2) (netB (c) (n)) (by simp))
  obtain ⟨c3a, c3b, _, _⟩ := row2 (hB.blk (w2.heap.size) (netB (u) (v)) (by simp))
  have z3 := size_of_block (hB.blk (w2.heap.size) (netB (u) (v)) (by simp))
  obtain ⟨c4a, c4b, _, _⟩ := row2 (hB.blk (w3.heap.size) (netB (u) (v)) (by simp))
  have z4 := size_of_block (hB.blk (w3.heap.size) (netB (u) (v)) (by simp))
  have zz := hB.bel.size
  have HB := Lib.hid hB; clear hB
  go_wp2_with fail
  go_at_call 27
  (with_reducible refine (in_is HBC.out HBB.out HC.out _).mono ?_); rintro e w7 ⟨rfl, hb⟩
  have hB := HB.out.below hb
  clear HB hb c0a c0b z0 c1a c1b z1 c2a c2b z2 c3a c3b z3 c4a c4b z4 zz
  obtain ⟨c0a, c0b, _, _⟩ := row2 (hB.blk (W.heap.size) (netB (a) ((k : Int))) (by simp))
  have z0 := size_of_block (hB.blk (W.heap.size) (netB (a) ((k : Int))) (by simp))
  obtain ⟨c1a, c1b, _, _⟩ := row2 (hB.blk (W.heap.size + 1) (netB (b) ((j : Int))) (by simp))
  have z1 := size_of_block (hB.blk (W.heap.size + 1) (netB (b) ((j : Int))) (by simp))
  obtain ⟨c2a, c2b, _, _⟩ := row2 (hB.blk (W.heap.size + 2) (netB (c) (n)) (by simp))
  have z2 := size_of_block (hB.blk (W.heap.size + 2) (netB (c) (n)) (by simp))
  obtain ⟨c3a, c3b, _, _⟩ := row2 (hB.blk (w2.heap.size) (netB (u) (v)) (by simp))
  have z3 := size_of_block (hB.blk (w2.heap.size) (netB (u) (v)) (by simp))
  obtain ⟨c4a, c4b, _, _⟩ := row2 (hB.blk (w3.heap.size) (netB (u) (v)) (by simp))
  have z4 := size_of_block (hB.blk (w3.heap.size) (netB (u) (v)) (by simp))
  have zz := hB.bel.size
  have HB := Lib.hid hB; clear hB
  go_wp2
  go_ret
  exact ⟨rfl, (HB.out).bel⟩

set_option maxRecDepth 100000 in
set_option maxHeartbeats 2000000 in
theorem common_5 (W : World) (hg : HStr W) (a b u v c n : Int) (k j : Nat) (ha : is32 a) (hb : is32 b) (hc : is32 c) (hu : is32 u) (hz : netF (a, (k : Int)) = 0) (hy : netF (b, (j : Int)) = 0) (h1 : comN (a, (k : Int)) (b, (j : Int)) = (u, v)) (h2 : comN (b, (j : Int)) (a, (k : Int)) = (u, v)) (han : inB (a, (k : Int)) (u, v) = true) (hbn : inB (b, (j : Int)) (u, v) = true) (hac : inB (a, (k : Int)) (c, n) = false) :
    Calls Tryd.prog 9 #[.agg #[.int .u32 a, .int .i64 (k : Int)], .agg #[.int .u32 b, .int .i64 (j : Int)], .agg #[.int .u32 c, .int .i64 n]] W fun e w' => e = .returned (.bool true) ∧ Below W.heap.size W w' := by
  have HA := Lib.hid ha
  have HBB := Lib.hid hb
  have HC := Lib.hid hc
  have HU := Lib.hid hu
  have HZ := Lib.hid hz
  have HY := Lib.hid hy
  have H1 := Lib.hid h1
  have H2 := Lib.hid h2
  have HAN := Lib.hid han
  have HBN := Lib.hid hbn
  have HAC := Lib.hid hac
  clear hz hy h1 h2 han hbn hac
  have HG := Lib.hid hg
  have hst := BL.start3 W (netB a (k : Int)) (netB b (j : Int)) (netB c n)
  have HB := Lib.hid hst
  clear hst hg
  go_enter Tryd.func9, Tryd.ntmps9
  go_wp2_with fail
  go_at_call 22
  (with_reducible refine (known_any _ (HG.out.on HB.out.bel)).mono ?_); rintro e w1 ⟨rfl, hb⟩
  have hB := HB.out.below hb
  clear HB hb
  obtain ⟨c0a, c0b, _, _⟩ := row2 (hB.blk (W.heap.size) (netB (a) ((k : Int))) (by simp))
  have z0 := size_of_block (hB.blk (W.heap.size) (netB (a) ((k : Int))) (by simp))
  obtain ⟨c1a, c1b, _, _⟩ := row2 (hB.blk (W.heap.size + 1) (netB (b) ((j : Int))) (by simp))
  have z1 := size_of_block (hB.blk (W.heap.size + 1) (netB (b) ((j : Int))) (by simp))
  obtain ⟨c2a, c2b, _, _⟩ := row2 (hB.blk (W.heap.size + 2) (netB (c) (n)) (by simp))
  have z2 := size_of_block (hB.blk (W.heap.size + 2) (netB (c) (n)) (by simp))
  have zz := hB.bel.size
  have HB := Lib.hid hB; clear hB
  go_wp2_with fail
  go_at_call 31
  (with_reducible refine (Common_ok _ HA.out HBB.out HZ.out HY.out).mono ?_); rintro e w2 ⟨rfl, hb⟩; rw [H1.out, netV_mk]
  have hB := HB.out.below hb
  clear HB hb c0a c0b z0 c1a c1b z1 c2a c2b z2 zz
  obtain ⟨c0a, c0b, _, _⟩ := row2 (hB.blk (W.heap.size) (netB (a) ((k : Int))) (by simp))
  have z0 := size_of_block (hB.blk (W.heap.size) (netB (a) ((k : Int))) (by simp))
  obtain ⟨c1a, c1b, _, _⟩ := row2 (hB.blk (W.heap.size + 1) (netB (b) ((j : Int))) (by simp))
  have z1 := size_of_block (hB.blk (W.heap.size + 1) (netB (b) ((j : Int))) (by simp))
  obtain ⟨c2a, c2b, _, _⟩ := row2 (hB.blk (W.heap.size + 2) (netB (c) (n)) (by simp))
  have z2 := size_of_block (hB.blk (W.heap.size + 2) (netB (c) (n)) (by simp))
  have zz := hB.bel.size
  have HB := Lib.hid hB; clear hB
  go_wp2_with fail
  go_at_call 31
  (with_reducible refine (Common_ok _ HBB.out HA.out HY.out HZ.out).mono ?_); rintro e w3 ⟨rfl, hb⟩; rw [H2.out, netV_mk]
  have hB := (HB.out.push _).below hb
  clear HB hb c0a c0b z0 c1a c1b z1 c2a c2b z2 zz
  obtain ⟨c0a, c0b, _, _⟩ := row2 (hB.blk (W.heap.size) (netB (a) ((k : Int))) (by simp))
  have z0 := size_of_block (hB.blk (W.heap.size) (netB (a) ((k : Int))) (by simp))
  obtain ⟨c1a, c1b, _, _⟩ := row2 (hB.blk (W.heap.size + 1) (netB (b) ((j : Int))) (by simp))
  have z1 := size_of_block (hB.blk (W.heap.size + 1) (netB (b) ((j : Int))) (by simp))
  obtain ⟨c2a, c2b, _, _⟩ := row2 (hB.blk (W.heap.size + 2) (netB (c) (n)) (by simp))
  have z2 := size_of_block (hB.blk (W.heap.size + 2) (netB (c) (n)) (by simp))
  obtain ⟨c3a, c3b, _, _⟩ := row2 (hB.blk (w2.heap.size) (netB (u) (v)) (by simp))
  have z3 := size_of_block (hB.blk (w2.heap.size) (netB (u) (v)) (by simp))
  have zz := hB.bel.size
  have HB := Lib.hid hB; clear hB
  go_wp2_with fail
  go_at_call 27
  (with_reducible refine (in_is HAN.out HA.out HU.out _).mono ?_); rintro e w4 ⟨rfl, hb⟩
  have hB := (HB.out.push _).below hb
  clear HB hb c0a c0b z0 c1a c1b z1 c2a c2b z2 c3a c3b z3 zz
  obtain ⟨c0a, c0b, _, _⟩ := row2 (hB.blk (W.heap.size) (netB (a) ((k : Int))) (by simp))
  have z0 := size_of_block (hB.blk (W.heap.size) (netB (a) ((k : Int))) (by simp))
  obtain ⟨c1a, c1b, _, _⟩ := row2 (hB.blk (W.heap.size + 1) (netB (b) ((j : Int))) (by simp))
  have z1 := size_of_block (hB.blk (W.heap.size + 1) (netB (b) ((j : Int))) (by simp))
  obtain ⟨c2a, c2b, _, _⟩ := row2 (hB.blk (W.heap.size + 2) (netB (c) (n)) (by simp))
  have z2 := size_of_block (hB.blk (W.heap.size + 2) (netB (c) (n)) (by simp))
  obtain ⟨c3a, c3b, _, _⟩ := row2 (hB.blk (w2.heap.size) (netB (u) (v)) (by simp))
  have z3 := size_of_block (hB.blk (w2.heap.size) (netB (u) (v)) (by simp))
  obtain ⟨c4a, c4b, _, _⟩ := row2 (hB.blk (w3.heap.size) (netB (u) (v)) (by simp))
  have z4 := size_of_block (hB.blk (w3.heap.size) (netB (u) (v)) (by simp))
  have zz := hB.bel.size
  have HB := Lib.hid hB; clear hB
  go_wp2_with fail
  go_at_call 27
  (with_reducible refine (in_is HBN.out HBB.out HU.out _).mono ?_); rintro e w5 ⟨rfl, hb⟩
  have hB := HB.out.below hb
  clear HB hb c0a c0b z0 c1a c1b z1 c2a c2b z2 c3a c3b z3 c4a c4b z4 zz
  obtain ⟨c0a, c0b, _, _⟩ := row2 (hB.blk (W.heap.size) (netB (a) ((k : Int))) (by simp))
  have z0 := size_of_block (hB.blk (W.heap.size) (netB (a) ((k : Int))) (by simp))
  obtain ⟨c1a, c1b, _, _⟩ := row2 (hB.blk (W.heap.size + 1) (netB (b) ((j : Int))) (by simp))
  have z1 := size_of_block (hB.blk (W.heap.size + 1) (netB (b) ((j : Int))) (by simp))
  obtain ⟨c2a, c2b, _, _⟩ := row2 (hB.blk (W.heap.size + 2) (netB (c) (n)) (by simp))
  have z2 := size_of_block (hB.blk (W.heap.size + 2) (netB (c) (n)) (by simp))
  obtain ⟨c3a, c3b, _, _⟩ := row2 (hB.blk (w2.heap.size) (netB (u) (v)) (by simp))
  have z3 := size_of_block (hB.blk (w2.heap.size) (netB (u) (v)) (by simp))
  obtain ⟨c4a, c4b, _, _⟩ := row2 (hB.blk (w3.heap.size) (netB (u) (v)) (by simp))
  have z4 := size_of_block (hB.blk (w3.heap.size) (netB (u) (v)) (by simp))
  have zz := hB.bel.size
  have HB := Lib.hid hB; clear hB
  go_wp2_with fail
  go_at_call 27
  (with_reducible refine (in_is HAC.out HA.out HC.out _).mono ?_); rintro e w6 ⟨rfl, hb⟩
  have hB := HB.out.below hb
  clear HB hb c0a c0b z0 c1a c1b z1 c2a c2b z2 c3a c3b z3 c4a c4b z4 zz
  obtain ⟨c0a, c0b, _, _⟩ := row2 (hB.blk (W.heap.size) (netB (a) ((k : Int))) (by simp))
  have z0 := size_of_block (hB.blk (W.heap.size) (netB (a) ((k : Int))) (by simp))
  obtain ⟨c1a, c1b, _, _⟩ := row2 (hB.blk (W.heap.size + 1) (netB (b) ((j : Int))) (by simp))
  have z1 := size_of_block (hB.blk (W.heap.size + 1) (netB (b) ((j : Int))) (by simp))
  obtain ⟨c2a, c2b, _, _⟩ := row2 (hB.blk (W.heap.size + 2) (netB (c) (n)) (by simp))
  have z2 := size_of_block (hB.blk (W.heap.size + 2) (netB (c) (n)) (by simp))
  obtain ⟨c3a, c3b, _, _⟩ := row2 (hB.blk (w2.heap.size) (netB (u) (v)) (by simp))
  have z3 := size_of_block (hB.blk (w2.heap.size) (netB (u) (v)) (by simp))
  obtain ⟨c4a, c4b, _, _⟩ := row2 (hB.blk (w3.heap.size) (netB (u) (v)) (by simp))
  have z4 := size_of_block (hB.blk (w3.heap.size) (netB (u) (v)) (by simp))
  have zz := hB.bel.size
  have HB := Lib.hid hB; clear hB
  go_wp2
  go_ret
  exact ⟨rfl, (HB.out).bel⟩

theorem PrefCommon_walk (W : World) (A0 : Array Value) (x0 : Int × Int) (h0 : RV rdNet W (.agg A0) x0) (c0 : True ∧ True) (A1 : Array Value) (x1 : Int × Int) (h1 : RV rdNet W (.agg A1) x1) (c1 : True ∧ True)
    (A2 : Array Value) (x2 : Int × Int) (h2 : RV rdNet W (.agg A2) x2) (c2 : True ∧ True) (hg : HStr W) :
    Calls Tryd.prog 9 #[.agg A0, .agg A1, .agg A2] W fun e w' => e = .returned (.bool true) ∧ Below W.heap.size W w' := by
  obtain ⟨a, l, rfl, rfl, ha, _⟩ := net_parts h0
  obtain ⟨b, m, rfl, rfl, hb, _⟩ := net_parts h1
  obtain ⟨c, n, rfl, rfl, hc, _⟩ := net_parts h2
  clear h0 h1 h2
  by_cases hz : netF (a, l) = 0
  · by_cases hy : netF (b, m) = 0
    · obtain ⟨k, hk, ek, _⟩ := net_ok hz
      obtain ⟨j, hj, ej, _⟩ := net_ok hy
      simp only at ek ej
      subst ek; subst ej
      obtain ⟨uv, huv⟩ : ∃ uv, comN (a, (k : Int)) (b, (j : Int)) = uv := ⟨_, rfl⟩
      obtain ⟨u, v⟩ := uv
      have hu : is32 u := by
        have e : u = fl (lowI (comL (a, (k : Int)) (b, (j : Int)))) a := (congrArg Prod.fst huv).symm
        rw [e]; exact fl_32 (lowI_pos _) ha
      have h2 : comN (b, (j : Int)) (a, (k : Int)) = (u, v) := by rw [com_comm (a := (a, (k : Int))) (b := (b, (j : Int))) ha hb, huv]
      have han := com_in hz hy
      have hbn := com_in' (a := (a, (k : Int))) (b := (b, (j : Int))) ha hb hz hy
      rw [huv] at han hbn
      cases hac : inB (a, (k : Int)) (c, n) with
      | false => exact common_5 W hg a b u v c n k j ha hb hc hu hz hy huv h2 han hbn hac
      | true =>
        cases hbc : inB (b, (j : Int)) (c, n) with
        | false => exact common_4 W hg a b u v c n k j ha hb hc hu hz hy huv h2 han hbn hac hbc
        | true =>
          have hnc := com_least (a := (a, (k : Int))) (b := (b, (j : Int))) (c := (c, n)) ha hb hac hbc
          rw [huv] at hnc
          exact common_3 W hg a b u v c n k j ha hb hc hu hz hy huv h2 han hbn hac hbc hnc
    · exact common_2 W hg a l b m c n ha hb hz hy
  · exact common_1 W hg a l b m c n ha hz
end Go.Proofs.YtohfeoahdbfjbaaDoor
