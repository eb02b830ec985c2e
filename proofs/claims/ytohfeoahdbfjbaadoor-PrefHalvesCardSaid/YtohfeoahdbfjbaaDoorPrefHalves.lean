/- PrefHalves: the walk. -/
import Derived.Test.YtohfeoahdbfjbaaDoorBl
namespace Go.Proofs.YtohfeoahdbfjbaaDoor
open Go.ChangeShapes Go.WideShapes Go.ChangeAt Go.RowKit
set_option linter.unusedVariables false
set_option linter.unusedSimpArgs false

set_option maxRecDepth 100000 in
set_option maxHeartbeats 2000000 in
theorem halves_1 (W : World) (hg : HStr W) (a l x : Int) (ha : is32 a) (hz : netF (a, l) ≠ 0) :
    Calls Tryd.prog 8 #[.agg #[.int .u32 a, .int .i64 l], .int .u32 x] W fun e w' => e = .returned (.bool true) ∧ Below W.heap.size W w' := by
  have HA := Lib.hid ha
  have HZ := Lib.hid hz
  clear hz
  have HG := Lib.hid hg
  have hst := BL.start1 W (netB a l)
  have HB := Lib.hid hst
  clear hst hg
  go_enter Tryd.func8, Tryd.ntmps8
  go_wp2_with fail
  go_at_call 22
  (with_reducible refine (known_any _ (HG.out.on HB.out.bel)).mono ?_); rintro e w1 ⟨rfl, hb⟩
  have hB := HB.out.below hb
  clear HB hb
  obtain ⟨c0a, c0b, _, _⟩ := row2 (hB.blk (W.heap.size) (netB (a) (l)) (by simp))
  have z0 := size_of_block (hB.blk (W.heap.size) (netB (a) (l)) (by simp))
  have zz := hB.bel.size
  have HB := Lib.hid hB; clear hB
  go_wp2_with fail
  go_at_call 29
  (with_reducible refine (Halves_bad _ HA.out HZ.out).mono ?_); rintro e w2 ⟨rfl, hb⟩
  have hB := HB.out.below hb
  clear HB hb c0a c0b z0 zz
  obtain ⟨c0a, c0b, _, _⟩ := row2 (hB.blk (W.heap.size) (netB (a) (l)) (by simp))
  have z0 := size_of_block (hB.blk (W.heap.size) (netB (a) (l)) (by simp))
  have zz := hB.bel.size
  have HB := Lib.hid hB; clear hB
  go_wp2_with fail
  go_at_call 25
  (with_reducible refine (Check_bad _ (is32_lo HA.out) (is32_hi HA.out) HZ.out).mono ?_); rintro e w3 ⟨rfl, hb⟩
  have hB := (HB.out.push2 _ _).below hb
  clear HB hb c0a c0b z0 zz
  obtain ⟨c0a, c0b, _, _⟩ := row2 (hB.blk (W.heap.size) (netB (a) (l)) (by simp))
  have z0 := size_of_block (hB.blk (W.heap.size) (netB (a) (l)) (by simp))
  obtain ⟨c1a, c1b, _, _⟩ := row2 (hB.blk (w2.heap.size) (netB (0) (0)) (by simp))
  have z1 := size_of_block (hB.blk (w2.heap.size) (netB (0) (0)) (by simp))
  obtain ⟨c2a, c2b, _, _⟩ := row2 (hB.blk (w2.heap.size + 1) (netB (0) (0)) (by simp))
  have z2 := size_of_block (hB.blk (w2.heap.size + 1) (netB (0) (0)) (by simp))
  have zz := hB.bel.size
  have HB := Lib.hid hB; clear hB
  go_wp2
  go_ret
  exact ⟨rfl, (HB.out).bel⟩

set_option maxRecDepth 100000 in
set_option maxHeartbeats 2000000 in
theorem halves_2 (W : World) (hg : HStr W) (a x : Int) (ha : is32 a) (hz : netF (a, 32) = 0) :
    Calls Tryd.prog 8 #[.agg #[.int .u32 a, .int .i64 32], .int .u32 x] W fun e w' => e = .returned (.bool true) ∧ Below W.heap.size W w' := by
  have HA := Lib.hid ha
  have HZ := Lib.hid hz
  clear hz
  have HG := Lib.hid hg
  have hst := BL.start1 W (netB a 32)
  have HB := Lib.hid hst
  clear hst hg
  go_enter Tryd.func8, Tryd.ntmps8
  go_wp2_with fail
  go_at_call 22
  (with_reducible refine (known_any _ (HG.out.on HB.out.bel)).mono ?_); rintro e w1 ⟨rfl, hb⟩
  have hB := HB.out.below hb
  clear HB hb
  obtain ⟨c0a, c0b, _, _⟩ := row2 (hB.blk (W.heap.size) (netB (a) (32)) (by simp))
  have z0 := size_of_block (hB.blk (W.heap.size) (netB (a) (32)) (by simp))
  have zz := hB.bel.size
  have HB := Lib.hid hB; clear hB
  go_wp2_with fail
  go_at_call 29
  (with_reducible refine (Halves_one _ HA.out HZ.out).mono ?_); rintro e w2 ⟨rfl, hb⟩
  have hB := HB.out.below hb
  clear HB hb c0a c0b z0 zz
  obtain ⟨c0a, c0b, _, _⟩ := row2 (hB.blk (W.heap.size) (netB (a) (32)) (by simp))
  have z0 := size_of_block (hB.blk (W.heap.size) (netB (a) (32)) (by simp))
  have zz := hB.bel.size
  have HB := Lib.hid hB; clear hB
  go_wp2_with fail
  go_at_call 25
  (with_reducible refine (Check_ok _ (is32_lo HA.out) (is32_hi HA.out) HZ.out).mono ?_); rintro e w3 ⟨rfl, hb⟩
  have hB := (HB.out.push2 _ _).below hb
  clear HB hb c0a c0b z0 zz
  obtain ⟨c0a, c0b, _, _⟩ := row2 (hB.blk (W.heap.size) (netB (a) (32)) (by simp))
  have z0 := size_of_block (hB.blk (W.heap.size) (netB (a) (32)) (by simp))
  obtain ⟨c1a, c1b, _, _⟩ := row2 (hB.blk (w2.heap.size) (netB (0) (0)) (by simp))
  have z1 := size_of_block (hB.blk (w2.heap.size) (netB (0) (0)) (by simp))
  obtain ⟨c2a, c2b, _, _⟩ := row2 (hB.blk (w2.heap.size + 1) (netB (0) (0)) (by simp))
  have z2 := size_of_block (hB.blk (w2.heap.size + 1) (netB (0) (0)) (by simp))
  have zz := hB.bel.size
  have HB := Lib.hid hB; clear hB
  go_wp2
  go_ret
  exact ⟨rfl, (HB.out).bel⟩

set_option maxRecDepth 100000 in
set_option maxHeartbeats 2000000 in
theorem halves_tf (W : World) (hg : HStr W) (a b x : Int) (k : Nat) (hk : k < 32) (ha : is32 a) (hb : is32 b) (hx : is32 x) (hz : netF (a, (k : Int)) = 0) (he : a + lowI (k + 1) = b) (hp : netF (a, (k : Int) + 1) = 0) (hq : netF (b, (k : Int) + 1) = 0) (hu : fl (lowI k) a = a) (hv : fl (lowI k) b = a) (hl : lessB (a, (k : Int) + 1) (b, (k : Int) + 1) = true) (h1 : hasB (a, (k : Int) + 1) x = true) (h2 : hasB (b, (k : Int) + 1) x = false) (h3 : hasB (a, (k : Int)) x = true) :
    Calls Tryd.prog 8 #[.agg #[.int .u32 a, .int .i64 (k : Int)], .int .u32 x] W fun e w' => e = .returned (.bool true) ∧ Below W.heap.size W w' := by
  have HA := Lib.hid ha
  have HBB := Lib.hid hb
  have HX := Lib.hid hx
  have HZ := Lib.hid hz
  have HE := Lib.hid he
  have HP := Lib.hid hp
  have HQ := Lib.hid hq
  have HU := Lib.hid hu
  have HV := Lib.hid hv
  have HL := Lib.hid hl
  have H1 := Lib.hid h1
  have H2 := Lib.hid h2
  have H3 := Lib.hid h3
  clear hz he hp hq hu hv hl h1 h2 h3
  have HG := Lib.hid hg
  have hst := BL.start1 W (netB a (k : Int))
  have HB := Lib.hid hst
  clear hst hg
  go_enter Tryd.func8, Tryd.ntmps8
  go_wp2_with fail
  go_at_call 22
  (with_reducible refine (known_any _ (HG.out.on HB.out.bel)).mono ?_); rintro e w1 ⟨rfl, hb⟩
  have hB := HB.out.below hb
  clear HB hb
  obtain ⟨c0a, c0b, _, _⟩ := row2 (hB.blk (W.heap.size) (netB (a) ((k : Int))) (by simp))
  have z0 := size_of_block (hB.blk (W.heap.size) (netB (a) ((k : Int))) (by simp))
  have zz := hB.bel.size
  have HB := Lib.hid hB; clear hB
  go_wp2_with fail
  go_at_call 29
  (with_reducible refine (Halves_ok _ HA.out hk HZ.out).mono ?_); rintro e w2 ⟨rfl, hb⟩; rw [HE.out]
  have hB := HB.out.below hb
  clear HB hb c0a c0b z0 zz
  obtain ⟨c0a, c0b, _, _⟩ := row2 (hB.blk (W.heap.size) (netB (a) ((k : Int))) (by simp))
  have z0 := size_of_block (hB.blk (W.heap.size) (netB (a) ((k : Int))) (by simp))
  have zz := hB.bel.size
  have HB := Lib.hid hB; clear hB
  go_wp2_with fail
  go_at_call 30
  (with_reducible refine (Up_ok _ HA.out hk HP.out).mono ?_); rintro e w3 ⟨rfl, hb⟩; rw [HU.out]
  have hB := (HB.out.push2 _ _).below hb
  clear HB hb c0a c0b z0 zz
  obtain ⟨c0a, c0b, _, _⟩ := row2 (hB.blk (W.heap.size) (netB (a) ((k : Int))) (by simp))
  have z0 := size_of_block (hB.blk (W.heap.size) (netB (a) ((k : Int))) (by simp))
  obtain ⟨c1a, c1b, _, _⟩ := row2 (hB.blk (w2.heap.size) (netB (a) ((k : Int) + 1)) (by simp))
  have z1 := size_of_block (hB.blk (w2.heap.size) (netB (a) ((k : Int) + 1)) (by simp))
  obtain ⟨c2a, c2b, _, _⟩ := row2 (hB.blk (w2.heap.size + 1) (netB (b) ((k : Int) + 1)) (by simp))
  have z2 := size_of_block (hB.blk (w2.heap.size + 1) (netB (b) ((k : Int) + 1)) (by simp))
  have zz := hB.bel.size
  have HB := Lib.hid hB; clear hB
  go_wp2_with fail
  go_at_call 30
  (with_reducible refine (Up_ok _ HBB.out hk HQ.out).mono ?_); rintro e w4 ⟨rfl, hb⟩; rw [HV.out]
  have hB := (HB.out.push _).below hb
  clear HB hb c0a c0b z0 c1a c1b z1 c2a c2b z2 zz
  obtain ⟨c0a, c0b, _, _⟩ := row2 (hB.blk (W.heap.size) (netB (a) ((k : Int))) (by simp))
  have z0 := size_of_block (hB.blk (W.heap.size) (netB (a) ((k : Int))) (by simp))
  obtain ⟨c1a, c1b, _, _⟩ := row2 (hB.blk (w2.heap.size) (netB (a) ((k : Int) + 1)) (by simp))
  have z1 := size_of_block (hB.blk (w2.heap.size) (netB (a) ((k : Int) + 1)) (by simp))
  obtain ⟨c2a, c2b, _, _⟩ := row2 (hB.blk (w2.heap.size + 1) (netB (b) ((k : Int) + 1)) (by simp))
  have z2 := size_of_block (hB.blk (w2.heap.size + 1) (netB (b) ((k : Int) + 1)) (by simp))
  obtain ⟨c3a, c3b, _, _⟩ := row2 (hB.blk (w3.heap.size) (netB (a) ((k : Int))) (by simp))
  have z3 := size_of_block (hB.blk (w3.heap.size) (netB (a) ((k : Int))) (by simp))
  have zz := hB.bel.size
  have HB := Lib.hid hB; clear hB
  go_wp2_with fail
  go_at_call 28
  (with_reducible refine (less_is HL.out _).mono ?_); rintro e w5 ⟨rfl, hb⟩
  have hB := (HB.out.push _).below hb
  clear HB hb c0a c0b z0 c1a c1b z1 c2a c2b z2 c3a c3b z3 zz
  obtain ⟨c0a, c0b, _, _⟩ := row2 (hB.blk (W.heap.size) (netB (a) ((k : Int))) (by simp))
  have z0 := size_of_block (hB.blk (W.heap.size) (netB (a) ((k : Int))) (by simp))
  obtain ⟨c1a, c1b, _, _⟩ := row2 (hB.blk (w2.heap.size) (netB (a) ((k : Int) + 1)) (by simp))
  have z1 := size_of_block (hB.blk (w2.heap.size) (netB (a) ((k : Int) + 1)) (by simp))
  obtain ⟨c2a, c2b, _, _⟩ := row2 (hB.blk (w2.heap.size + 1) (netB (b) ((k : Int) + 1)) (by simp))
  have z2 := size_of_block (hB.blk (w2.heap.size + 1) (netB (b) ((k : Int) + 1)) (by simp))
  obtain ⟨c3a, c3b, _, _⟩ := row2 (hB.blk (w3.heap.size) (netB (a) ((k : Int))) (by simp))
  have z3 := size_of_block (hB.blk (w3.heap.size) (netB (a) ((k : Int))) (by simp))
  obtain ⟨c4a, c4b, _, _⟩ := row2 (hB.blk (w4.heap.size) (netB (a) ((k : Int))) (by simp))
  have z4 := size_of_block (hB.blk (w4.heap.size) (netB (a) ((k : Int))) (by simp))
  have zz := hB.bel.size
  have HB := Lib.hid hB; clear hB
  go_wp2_with fail
  go_at_call 26
  (with_reducible refine (has_is H1.out HA.out HX.out _).mono ?_); rintro e w6 ⟨rfl, hb⟩
  have hB := HB.out.below hb
  clear HB hb c0a c0b z0 c1a c1b z1 c2a c2b z2 c3a c3b z3 c4a c4b z4 zz
  obtain ⟨c0a, c0b, _, _⟩ := row2 (hB.blk (W.heap.size) (netB (a) ((k : Int))) (by simp))
  have z0 := size_of_block (hB.blk (W.heap.size) (netB (a) ((k : Int))) (by simp))
  obtain ⟨c1a, c1b, _, _⟩ := row2 (hB.blk (w2.heap.size) (netB (a) ((k : Int) + 1)) (by simp))
  have z1 := size_of_block (hB.blk (w2.heap.size) (netB (a) ((k : Int) + 1)) (by simp))
  obtain ⟨c2a, c2b, _, _⟩ := row2 (hB.blk (w2.heap.size + 1) (netB (b) ((k : Int) + 1)) (by simp))
  have z2 := size_of_block (hB.blk (w2.heap.size + 1) (netB (b) ((k : Int) + 1)) (by simp))
  obtain ⟨c3a, c3b, _, _⟩ := row2 (hB.blk (w3.heap.size) (netB (a) ((k : Int))) (by simp))
  have z3 := size_of_block (hB.blk (w3.heap.size) (netB (a) ((k : Int))) (by simp))
  obtain ⟨c4a, c4b, _, _⟩ := row2 (hB.blk (w4.heap.size) (netB (a) ((k : Int))) (by simp))
  have z4 := size_of_block (hB.blk (w4.heap.size) (netB (a) ((k : Int))) (by simp))
  have zz := hB.bel.size
  have HB := Lib.hid hB; clear hB
  go_wp2_with fail
  go_at_call 26
  (with_reducible refine (has_is H2.out HBB.out HX.out _).mono ?_); rintro e w7 ⟨rfl, hb⟩
  have hB := HB.out.below hb
  clear HB hb c0a c0b z0 c1a c1b z1 c2a c2b z2 c3a c3b z3 c4a c4b z4 zz
  obtain ⟨c0a, c0b, _, _⟩ := row2 (hB.blk (W.heap.size) (netB (a) ((k : Int))) (by simp))
  have z0 := size_of_block (hB.blk (W.heap.size) (netB (a) ((k : Int))) (by simp))
  obtain ⟨c1a, c1b, _, _⟩ := row2 (hB.blk (w2.heap.size) (netB (a) ((k : Int) + 1)) (by simp))
  have z1 := size_of_block (hB.blk (w2.heap.size) (netB (a) ((k : Int) + 1)) (by simp))
  obtain ⟨c2a, c2b, _, _⟩ := row2 (hB.blk (w2.heap.size + 1) (netB (b) ((k : Int) + 1)) (by simp))
  have z2 := size_of_block (hB.blk (w2.heap.size + 1) (netB (b) ((k : Int) + 1)) (by simp))
  obtain ⟨c3a, c3b, _, _⟩ := row2 (hB.blk (w3.heap.size) (netB (a) ((k : Int))) (by simp))
  have z3 := size_of_block (hB.blk (w3.heap.size) (netB (a) ((k : Int))) (by simp))
  obtain ⟨c4a, c4b, _, _⟩ := row2 (hB.blk (w4.heap.size) (netB (a) ((k : Int))) (by simp))
  have z4 := size_of_block (hB.blk (w4.heap.size) (netB (a) ((k : Int))) (by simp))
  have zz := hB.bel.size
  have HB := Lib.hid hB; clear hB
  go_wp2_with fail
  go_at_call 26
  (with_reducible refine (has_is H3.out HA.out HX.out _).mono ?_); rintro e w8 ⟨rfl, hb⟩
  have hB := HB.out.below hb
  clear HB hb c0a c0b z0 c1a c1b z1 c2a c2b z2 c3a c3b z3 c4a c4b z4 zz
  obtain ⟨c0a, c0b, _, _⟩ := row2 (hB.blk (W.heap.size) (netB (a) ((k : Int))) (by simp))
  have z0 := size_of_block (hB.blk (W.heap.size) (netB (a) ((k : Int))) (by simp))
  obtain ⟨c1a, c1b, _, _⟩ := row2 (hB.blk (w2.heap.size) (netB (a) ((k : Int) + 1)) (by simp))
  have z1 := size_of_block (hB.blk (w2.heap.size) (netB (a) ((k : Int) + 1)) (by simp))
  obtain ⟨c2a, c2b, _, _⟩ := row2 (hB.blk (w2.heap.size + 1) (netB (b) ((k : Int) + 1)) (by simp))
  have z2 := size_of_block (hB.blk (w2.heap.size + 1) (netB (b) ((k : Int) + 1)) (by simp))
  obtain ⟨c3a, c3b, _, _⟩ := row2 (hB.blk (w3.heap.size) (netB (a) ((k : Int))) (by simp))
  have z3 := size_of_block (hB.blk (w3.heap.size) (netB (a) ((k : Int))) (by simp))
  obtain ⟨c4a, c4b, _, _⟩ := row2 (hB.blk (w4.heap.size) (netB (a) ((k : Int))) (by simp))
  have z4 := size_of_block (hB.blk (w4.heap.size) (netB (a) ((k : Int))) (by simp))
  have zz := hB.bel.size
  have HB := Lib.hid hB; clear hB
  go_wp2
  go_ret
  exact ⟨rfl, (HB.out).bel⟩

set_option maxRecDepth 100000 in
set_option maxHeartbeats 2000000 in
theorem halves_ft (W : World) (hg : HStr W) (a b x : Int) (k : Nat) (hk : k < 32) (ha : is32 a) (hb : is32 b) (hx : is32 x) (hz : netF (a, (k : Int)) = 0) (he : a + lowI (k + 1) = b) (hp : netF (a, (k : Int) + 1) = 0) (hq : netF (b, (k : Int) + 1) = 0) (hu : fl (lowI k) a = a) (hv : fl (lowI k) b = a) (hl : lessB (a, (k : Int) + 1) (b, (k : Int) + 1) = true) (h1 : hasB (a, (k : Int) + 1) x = false) (h2 : hasB (b, (k : Int) + 1) x = true) (h3 : hasB (a, (k : Int)) x = true) :
    Calls Tryd.prog 8 #[.agg #[.int .u32 a, .int .i64 (k : Int)], .int .u32 x] W fun e w' => e = .returned (.bool true) ∧ Below W.heap.size W w' := by
  have HA := Lib.hid ha
  have HBB := Lib.hid hb
  have HX := Lib.hid hx
  have HZ := Lib.hid hz
  have HE := Lib.hid he
  have HP := Lib.hid hp
  have HQ := Lib.hid hq
  have HU := Lib.hid hu
  have HV := Lib.hid hv
  have HL := Lib.hid hl
  have H1 := Lib.hid h1
  have H2 := Lib.hid h2
  have H3 := Lib.hid h3
  clear hz he hp hq hu hv hl h1 h2 h3
  have HG := Lib.hid hg
  have hst := BL.start1 W (netB a (k : Int))
  have HB := Lib.hid hst
  clear hst hg
  go_enter Tryd.func8, Tryd.ntmps8
  go_wp2_with fail
  go_at_call 22
  (with_reducible refine (known_any _ (HG.out.on HB.out.bel)).mono ?_); rintro e w1 ⟨rfl, hb⟩
  have hB := HB.out.below hb
  clear HB hb
  obtain ⟨c0a, c0b, _, _⟩ := row2 (hB.blk (W.heap.size) (netB (a) ((k : Int))) (by simp))
  have z0 := size_of_block (hB.blk (W.heap.size) (netB (a) ((k : Int))) (by simp))
  have zz := hB.bel.size
  have HB := Lib.hid hB; clear hB
  go_wp2_with fail
  go_at_call 29
  (with_reducible refine (Halves_ok _ HA.out hk HZ.out).mono ?_); rintro e w2 ⟨rfl, hb⟩; rw [HE.out]
  have hB := HB.out.below hb
  clear HB hb c0a c0b z0 zz
  obtain ⟨c0a, c0b, _, _⟩ := row2 (hB.blk (W.heap.size) (netB (a) ((k : Int))) (by simp))
  have z0 := size_of_block (hB.blk (W.heap.size) (netB (a) ((k : Int))) (by simp))
  have zz := hB.bel.size
  have HB := Lib.hid hB; clear hB
  go_wp2_with fail
  go_at_call 30
  (with_reducible refine (Up_ok _ HA.out hk HP.out).mono ?_); rintro e w3 ⟨rfl, hb⟩; rw [HU.out]
  have hB := (HB.out.push2 _ _).below hb
  clear HB hb c0a c0b z0 zz
  obtain ⟨c0a, c0b, _, _⟩ := row2 (hB.blk (W.heap.size) (netB (a) ((k : Int))) (by simp))
  have z0 := size_of_block (hB.blk (W.heap.size) (netB (a) ((k : Int))) (by simp))
  obtain ⟨c1a, c1b, _, _⟩ := row2 (hB.blk (w2.heap.size) (netB (a) ((k : Int) + 1)) (by simp))
  have z1 := size_of_block (hB.blk (w2.heap.size) (netB (a) ((k : Int) + 1)) (by simp))
  obtain ⟨c2a, c2b, _, _⟩ := row2 (hB.blk (w2.heap.size + 1) (netB (b) ((k : Int) + 1)) (by simp))
  have z2 := size_of_block (hB.blk (w2.heap.size + 1) (netB (b) ((k : Int) + 1)) (by simp))
  have zz := hB.bel.size
  have HB := Lib.hid hB; clear hB
  go_wp2_with fail
  go_at_call 30
  (with_reducible refine (Up_ok _ HBB.out hk HQ.out).mono ?_); rintro e w4 ⟨rfl, hb⟩; rw [HV.out]
  have hB := (HB.out.push _).below hb
  clear HB hb c0a c0b z0 c1a c1b z1 c2a c2b z2 zz
  obtain ⟨c0a, c0b, _, _⟩ := row2 (hB.blk (W.heap.size) (netB (a) ((k : Int))) (by simp))
  have z0 := size_of_block (hB.blk (W.heap.size) (netB (a) ((k : Int))) (by simp))
  obtain ⟨c1a, c1b, _, _⟩ := row2 (hB.blk (w2.heap.size) (netB (a) ((k : Int) + 1)) (by simp))
  have z1 := size_of_block (hB.blk (w2.heap.size) (netB (a) ((k : Int) + 1)) (by simp))
  obtain ⟨c2a, c2b, _, _⟩ := row2 (hB.blk (w2.heap.size + 1) (netB (b) ((k : Int) + 1)) (by simp))
  have z2 := size_of_block (hB.blk (w2.heap.size + 1) (netB (b) ((k : Int) + 1)) (by simp))
  obtain ⟨c3a, c3b, _, _⟩ := row2 (hB.blk (w3.heap.size) (netB (a) ((k : Int))) (by simp))
  have z3 := size_of_block (hB.blk (w3.heap.size) (netB (a) ((k : Int))) (by simp))
  have zz := hB.bel.size
  have HB := Lib.hid hB; clear hB
  go_wp2_with fail
  go_at_call 28
  (with_reducible refine (less_is HL.out _).mono ?_); rintro e w5 ⟨rfl, hb⟩
  have hB := (HB.out.push _).below hb
  clear HB hb c0a c0b z0 c1a c1b z1 c2a c2b z2 c3a c3b z3 zz
  obtain ⟨c0a, c0b, _, _⟩ := row2 (hB.blk (W.heap.size) (netB (a) ((k : Int))) (by simp))
  have z0 := size_of_block (hB.blk (W.heap.size) (netB (a) ((k : Int))) (by simp))
  obtain ⟨c1a, c1b, _, _⟩ := row2 (hB.blk (w2.heap.size) (netB (a) ((k : Int) + 1)) (by simp))
  have z1 := size_of_block (hB.blk (w2.heap.size) (netB (a) ((k : Int) + 1)) (by simp))
  obtain ⟨c2a, c2b, _, _⟩ := row2 (hB.blk (w2.heap.size + 1) (netB (b) ((k : Int) + 1)) (by simp))
  have z2 := size_of_block (hB.blk (w2.heap.size + 1) (netB (b) ((k : Int) + 1)) (by simp))
  obtain ⟨c3a, c3b, _, _⟩ := row2 (hB.blk (w3.heap.size) (netB (a) ((k : Int))) (by simp))
  have z3 := size_of_block (hB.blk (w3.heap.size) (netB (a) ((k : Int))) (by simp))
  obtain ⟨c4a, c4b, _, _⟩ := row2 (hB.blk (w4.heap.size) (netB (a) ((k : Int))) (by simp))
  have z4 := size_of_block (hB.blk (w4.heap.size) (netB (a) ((k : Int))) (by simp))
  have zz := hB.bel.size
  have HB := Lib.hid hB; clear hB
  go_wp2_with fail
  go_at_call 26
  (with_reducible refine (has_is H1.out HA.out HX.out _).mono ?_); rintro e w6 ⟨rfl, hb⟩
  have hB := HB.out.below hb
  clear HB hb c0a c0b z0 c1a c1b z1 c2a c2b z2 c3a c3b z3 c4a c4b z4 zz
  obtain ⟨c0a, c0b, _, _⟩ := row2 (hB.blk (W.heap.size) (netB (a) ((k : Int))) (by simp))
  have z0 := size_of_block (hB.blk (W.heap.size) (netB (a) ((k : Int))) (by simp))
  obtain ⟨c1a, c1b, _, _⟩ := row2 (hB.blk (w2.heap.size) (netB (a) ((k : Int) + 1)) (by simp))
  have z1 := size_of_block (hB.blk (w2.heap.size) (netB (a) ((k : Int) + 1)) (by simp))
  obtain ⟨c2a, c2b, _, _⟩ := row2 (hB.blk (w2.heap.size + 1) (netB (b) ((k : Int) + 1)) (by simp))
  have z2 := size_of_block (hB.blk (w2.heap.size + 1) (netB (b) ((k : Int) + 1)) (by simp))
  obtain ⟨c3a, c3b, _, _⟩ := row2 (hB.blk (w3.heap.size) (netB (a) ((k : Int))) (by simp))
  have z3 := size_of_block (hB.blk (w3.heap.size) (netB (a) ((k : Int))) (by simp))
  obtain ⟨c4a, c4b, _, _⟩ := row2 (hB.blk (w4.heap.size) (netB (a) ((k : Int))) (by simp))
  have z4 := size_of_block (hB.blk (w4.heap.size) (netB (a) ((k : Int))) (by simp))
  have zz := hB.bel.size
  have HB := Lib.hid hB; clear hB
  go_wp2_with fail
  go_at_call 26
  (with_reducible refine (has_is H2.out HBB.out HX.out _).mono ?_); rintro e w7 ⟨rfl, hb⟩
  have hB := HB.out.below hb
  clear HB hb c0a c0b z0 c1a c1b z1 c2a c2b z2 c3a c3b z3 c4a c4b z4 zz
  obtain ⟨c0a, c0b, _, _⟩ := row2 (hB.blk (W.heap.size) (netB (a) ((k : Int))) (by simp))
  have z0 := size_of_block (hB.blk (W.heap.size) (netB (a) ((k : Int))) (by simp))
  obtain ⟨c1a, c1b, _, _⟩ := row2 (hB.blk (w2.heap.size) (netB (a) ((k : Int) + 1)) (by simp))
  have z1 := size_of_block (hB.blk (w2.heap.size) (netB (a) ((k : Int) + 1)) (by simp))
  obtain ⟨c2a, c2b, _, _⟩ := row2 (hB.blk (w2.heap.size + 1) (netB (b) ((k : Int) + 1)) (by simp))
  have z2 := size_of_block (hB.blk (w2.heap.size + 1) (netB (b) ((k : Int) + 1)) (by simp))
  obtain ⟨c3a, c3b, _, _⟩ := row2 (hB.blk (w3.heap.size) (netB (a) ((k : Int))) (by simp))
  have z3 := size_of_block (hB.blk (w3.heap.size) (netB (a) ((k : Int))) (by simp))
  obtain ⟨c4a, c4b, _, _⟩ := row2 (hB.blk (w4.heap.size) (netB (a) ((k : Int))) (by simp))
  have z4 := size_of_block (hB.blk (w4.heap.size) (netB (a) ((k : Int))) (by simp))
  have zz := hB.bel.size
  have HB := Lib.hid hB; clear hB
  go_wp2_with fail
  go_at_call 26
  (with_reducible refine (has_is H3.out HA.out HX.out _).mono ?_); rintro e w8 ⟨rfl, hb⟩
  have hB := HB.out.below hb
  clear HB hb c0a c0b z0 c1a c1b z1 c2a c2b z2 c3a c3b z3 c4a c4b z4 zz
  obtain ⟨c0a, c0b, _, _⟩ := row2 (hB.blk (W.heap.size) (netB (a) ((k : Int))) (by simp))
  have z0 := size_of_block (hB.blk (W.heap.size) (netB (a) ((k : Int))) (by simp))
  obtain ⟨c1a, c1b, _, _⟩ := row2 (hB.blk (w2.heap.size) (netB (a) ((k : Int) + 1)) (by simp))
  have z1 := size_of_block (hB.blk (w2.heap.size) (netB (a) ((k : Int) + 1)) (by simp))
  obtain ⟨c2a, c2b, _, _⟩ := row2 (hB.blk (w2.heap.size + 1) (netB (b) ((k : Int) + 1)) (by simp))
  have z2 := size_of_block (hB.blk (w2.heap.size + 1) (netB (b) ((k : Int) + 1)) (by simp))
  obtain ⟨c3a, c3b, _, _⟩ := row2 (hB.blk (w3.heap.size) (netB (a) ((k : Int))) (by simp))
  have z3 := size_of_block (hB.blk (w3.heap.size) (netB (a) ((k : Int))) (by simp))
  obtain ⟨c4a, c4b, _, _⟩ := row2 (hB.blk (w4.heap.size) (netB (a) ((k : Int))) (by simp))
  have z4 := size_of_block (hB.blk (w4.heap.size) (netB (a) ((k : Int))) (by simp))
  have zz := hB.bel.size
  have HB := Lib.hid hB; clear hB
  go_wp2
  go_ret
  exact ⟨rfl, (HB.out).bel⟩

set_option maxRecDepth 100000 in
set_option maxHeartbeats 2000000 in
theorem halves_ff (W : World) (hg : HStr W) (a b x : Int) (k : Nat) (hk : k < 32) (ha : is32 a) (hb : is32 b) (hx : is32 x) (hz : netF (a, (k : Int)) = 0) (he : a + lowI (k + 1) = b) (hp : netF (a, (k : Int) + 1) = 0) (hq : netF (b, (k : Int) + 1) = 0) (hu : fl (lowI k) a = a) (hv : fl (lowI k) b = a) (hl : lessB (a, (k : Int) + 1) (b, (k : Int) + 1) = true) (h1 : hasB (a, (k : Int) + 1) x = false) (h2 : hasB (b, (k : Int) + 1) x = false) (h3 : hasB (a, (k : Int)) x = false) :
    Calls Tryd.prog 8 #[.agg #[.int .u32 a, .int .i64 (k : Int)], .int .u32 x] W fun e w' => e = .returned (.bool true) ∧ Below W.heap.size W w' := by
  have HA := Lib.hid ha
  have HBB := Lib.hid hb
  have HX := Lib.hid hx
  have HZ := Lib.hid hz
  have HE := Lib.hid he
  have HP := Lib.hid hp
  have HQ := Lib.hid hq
  have HU := Lib.hid hu
  have HV := Lib.hid hv
  have HL := Lib.hid hl
  have H1 := Lib.hid h1
  have H2 := Lib.hid h2
  have H3 := Lib.hid h3
  clear hz he hp hq hu hv hl h1 h2 h3
  have HG := Lib.hid hg
  have hst := BL.start1 W (netB a (k : Int))
  have HB := Lib.hid hst
  clear hst hg
  go_enter Tryd.func8, Tryd.ntmps8
  go_wp2_with fail
  go_at_call 22
  (with_reducible refine (known_any _ (HG.out.on HB.out.bel)).mono ?_); rintro e w1 ⟨rfl, hb⟩
  have hB := HB.out.below hb
  clear HB hb
  obtain ⟨c0a, c0b, _, _⟩ := row2 (hB.blk (W.heap.size) (netB (a) ((k : Int))) (by simp))
  have z0 := size_of_block (hB.blk (W.heap.size) (netB (a) ((k : Int))) (by simp))
  have zz := hB.bel.size
  have HB := Lib.hid hB; clear hB
  go_wp2_with fail
  go_at_call 29
  (with_reducible refine (Halves_ok _ HA.out hk HZ.out).mono ?_); rintro e w2 ⟨rfl, hb⟩; rw [HE.out]
  have hB := HB.out.below hb
  clear HB hb c0a c0b z0 zz
  obtain ⟨c0a, c0b, _, _⟩ := row2 (hB.blk (W.heap.size) (netB (a) ((k : Int))) (by simp))
  have z0 := size_of_block (hB.blk (W.heap.size) (netB (a) ((k : Int))) (by simp))
  have zz := hB.bel.size
  have HB := Lib.hid hB; clear hB
  go_wp2_with fail
  go_at_call 30
  (with_reducible refine (Up_ok _ HA.out hk HP.out).mono ?_); rintro e w3 ⟨rfl, hb⟩; rw [HU.out]
  have hB := (HB.out.push2 _ _).below hb
  clear HB hb c0a c0b z0 zz
  obtain ⟨c0a, c0b, _, _⟩ := row2 (hB.blk (W.heap.size) (netB (a) ((k : Int))) (by simp))
  have z0 := size_of_block (hB.blk (W.heap.size) (netB (a) ((k : Int))) (by simp))
  obtain ⟨c1a, c1b, _, _⟩ := row2 (hB.blk (w2.heap.size) (netB (a) ((k : Int) + 1)) (by simp))
  have z1 := size_of_block (hB.blk (w2.heap.size) (netB (a) ((k : Int) + 1)) (by simp))
  obtain ⟨c2a, c2b, _, _⟩ := row2 (hB.blk (w2.heap.size + 1) (netB (b) ((k : Int) + 1)) (by simp))
  have z2 := size_of_block (hB.blk (w2.heap.size + 1) (netB (b) ((k : Int) + 1)) (by simp))
  have zz := hB.bel.size
  have HB := Lib.hid hB; clear hB
  go_wp2_with fail
  go_at_call 30
  (with_reducible refine (Up_ok _ HBB.out hk HQ.out).mono ?_); rintro e w4 ⟨rfl, hb⟩; rw [HV.out]
  have hB := (HB.out.push _).below hb
  clear HB hb c0a c0b z0 c1a c1b z1 c2a c2b z2 zz
  obtain ⟨c0a, c0b, _, _⟩ := row2 (hB.blk (W.heap.size) (netB (a) ((k : Int))) (by simp))
  have z0 := size_of_block (hB.blk (W.heap.size) (netB (a) ((k : Int))) (by simp))
  obtain ⟨c1a, c1b, _, _⟩ := row2 (hB.blk (w2.heap.size) (netB (a) ((k : Int) + 1)) (by simp))
  have z1 := size_of_block (hB.blk (w2.heap.size) (netB (a) ((k : Int) + 1)) (by simp))
  obtain ⟨c2a, c2b, _, _⟩ := row2 (hB.blk (w2.heap.size + 1) (netB (b) ((k : Int) + 1)) (by simp))
  have z2 := size_of_block (hB.blk (w2.heap.size + 1) (netB (b) ((k : Int) + 1)) (by simp))
  obtain ⟨c3a, c3b, _, _⟩ := row2 (hB.blk (w3.heap.size) (netB (a) ((k : Int))) (by simp))
  have z3 := size_of_block (hB.blk (w3.heap.size) (netB (a) ((k : Int))) (by simp))
  have zz := hB.bel.size
  have HB := Lib.hid hB; clear hB
  go_wp2_with fail
  go_at_call 28
  (with_reducible refine (less_is HL.out _).mono ?_); rintro e w5 ⟨rfl, hb⟩
  have hB := (HB.out.push _).below hb
  clear HB hb c0a c0b z0 c1a c1b z1 c2a c2b z2 c3a c3b z3 zz
  obtain ⟨c0a, c0b, _, _⟩ := row2 (hB.blk (W.heap.size) (netB (a) ((k : Int))) (by simp))
  have z0 := size_of_block (hB.blk (W.heap.size) (netB (a) ((k : Int))) (by simp))
  obtain ⟨c1a, c1b, _, _⟩ := row2 (hB.blk (w2.heap.size) (netB (a) ((k : Int) + 1)) (by simp))
  have z1 := size_of_block (hB.blk (w2.heap.size) (netB (a) ((k : Int) + 1)) (by simp))
  obtain ⟨c2a, c2b, _, _⟩ := row2 (hB.blk (w2.heap.size + 1) (netB (b) ((k : Int) + 1)) (by simp))
  have z2 := size_of_block (hB.blk (w2.heap.size + 1) (netB (b) ((k : Int) + 1)) (by simp))
  obtain ⟨c3a, c3b, _, _⟩ := row2 (hB.blk (w3.heap.size) (netB (a) ((k : Int))) (by simp))
  have z3 := size_of_block (hB.blk (w3.heap.size) (netB (a) ((k : Int))) (by simp))
  obtain ⟨c4a, c4b, _, _⟩ := row2 (hB.blk (w4.heap.size) (netB (a) ((k : Int))) (by simp))
  have z4 := size_of_block (hB.blk (w4.heap.size) (netB (a) ((k : Int))) (by simp))
  have zz := hB.bel.size
  have HB := Lib.hid hB; clear hB
  go_wp2_with fail
  go_at_call 26
  (with_reducible refine (has_is H1.out HA.out HX.out _).mono ?_); rintro e w6 ⟨rfl, hb⟩
  have hB := HB.out.below hb
  clear HB hb c0a c0b z0 c1a c1b z1 c2a c2b z2 c3a c3b z3 c4a c4b z4 zz
  obtain ⟨c0a, c0b, _, _⟩ := row2 (hB.blk (W.heap.size) (netB (a) ((k : Int))) (by simp))
  have z0 := size_of_block (hB.blk (W.heap.size) (netB (a) ((k : Int))) (by simp))
  obtain ⟨c1a, c1b, _, _⟩ := row2 (hB.blk (w2.heap.size) (netB (a) ((k : Int) + 1)) (by simp))
  have z1 := size_of_block (hB.blk (w2.heap.size) (netB (a) ((k : Int) + 1)) (by simp))
  obtain ⟨c2a, c2b, _, _⟩ := row2 (hB.blk (w2.heap.size + 1) (netB (b) ((k : Int) + 1)) (by simp))
  have z2 := size_of_block (hB.blk (w2.heap.size + 1) (netB (b) ((k : Int) + 1)) (by simp))
  obtain ⟨c3a, c3b, _, _⟩ := row2 (hB.blk (w3.heap.size) (netB (a) ((k : Int))) (by simp))
  have z3 := size_of_block (hB.blk (w3.heap.size) (netB (a) ((k : Int))) (by simp))
  obtain ⟨c4a, c4b, _, _⟩ := row2 (hB.blk (w4.heap.size) (netB (a) ((k : Int))) (by simp))
  have z4 := size_of_block (hB.blk (w4.heap.size) (netB (a) ((k : Int))) (by simp))
  have zz := hB.bel.size
  have HB := Lib.hid hB; clear hB
  go_wp2_with fail
  go_at_call 26
  (with_reducible refine (has_is H2.out HBB.out HX.out _).mono ?_); rintro e w7 ⟨rfl, hb⟩
  have hB := HB.out.below hb
  clear HB hb c0a c0b z0 c1a c1b z1 c2a c2b z2 c3a c3b z3 c4a c4b z4 zz
  obtain ⟨c0a, c0b, _, _⟩ := row2 (hB.blk (W.heap.size) (netB (a) ((k : Int))) (by simp))
  have z0 := size_of_block (hB.blk (W.heap.size) (netB (a) ((k : Int))) (by simp))
  obtain ⟨c1a, c1b, _, _⟩ := row2 (hB.blk (w2.heap.size) (netB (a) ((k : Int) + 1)) (by simp))
  have z1 := size_of_block (hB.blk (w2.heap.size) (netB (a) ((k : Int) + 1)) (by simp))
  obtain ⟨c2a, c2b, _, _⟩ := row2 (hB.blk (w2.heap.size + 1) (netB (b) ((k : Int) + 1)) (by simp))
  have z2 := size_of_block (hB.blk (w2.heap.size + 1) (netB (b) ((k : Int) + 1)) (by simp))
  obtain ⟨c3a, c3b, _, _⟩ := row2 (hB.blk (w3.heap.size) (netB (a) ((k : Int))) (by simp))
  have z3 := size_of_block (hB.blk (w3.heap.size) (netB (a) ((k : Int))) (by simp))
  obtain ⟨c4a, c4b, _, _⟩ := row2 (hB.blk (w4.heap.size) (netB (a) ((k : Int))) (by simp))
  have z4 := size_of_block (hB.blk (w4.heap.size) (netB (a) ((k : Int))) (by simp))
  have zz := hB.bel.size
  have HB := Lib.hid hB; clear hB
  go_wp2_with fail
  go_at_call 26
  (with_reducible refine (has_is H3.out HA.out HX.out _).mono ?_); rintro e w8 ⟨rfl, hb⟩
  have hB := HB.out.below hb
  clear HB hb c0a c0b z0 c1a c1b z1 c2a c2b z2 c3a c3b z3 c4a c4b z4 zz
  obtain ⟨c0a, c0b, _, _⟩ := row2 (hB.blk (W.heap.size) (netB (a) ((k : Int))) (by simp))
  have z0 := size_of_block (hB.blk (W.heap.size) (netB (a) ((k : Int))) (by simp))
  obtain ⟨c1a, c1b, _, _⟩ := row2 (hB.blk (w2.heap.size) (netB (a) ((k : Int) + 1)) (by simp))
  have z1 := size_of_block (hB.blk (w2.heap.size) (netB (a) ((k : Int) + 1)) (by simp))
  obtain ⟨c2a, c2b, _, _⟩ := row2 (hB.blk (w2.heap.size + 1) (netB (b) ((k : Int) + 1)) (by simp))
  have z2 := size_of_block (hB.blk (w2.heap.size + 1) (netB (b) ((k : Int) + 1)) (by simp))
  obtain ⟨c3a, c3b, _, _⟩ := row2 (hB.blk (w3.heap.size) (netB (a) ((k : Int))) (by simp))
  have z3 := size_of_block (hB.blk (w3.heap.size) (netB (a) ((k : Int))) (by simp))
  obtain ⟨c4a, c4b, _, _⟩ := row2 (hB.blk (w4.heap.size) (netB (a) ((k : Int))) (by simp))
  have z4 := size_of_block (hB.blk (w4.heap.size) (netB (a) ((k : Int))) (by simp))
  have zz := hB.bel.size
  have HB := Lib.hid hB; clear hB
  go_wp2
  go_ret
  exact ⟨rfl, (HB.out).bel⟩

theorem PrefHalves_walk (W : World) (A0 : Array Value) (x0 : Int × Int) (h0 : RV rdNet W (.agg A0) x0) (c0 : True ∧ True) (x : Int) (hx : 0 ≤ x ∧ x ≤ 4294967295) (hg : HStr W) :
    Calls Tryd.prog 8 #[.agg A0, .int .u32 x] W fun e w' => e = .returned (.bool true) ∧ Below W.heap.size W w' := by
  obtain ⟨a, l, rfl, rfl, ha, _⟩ := net_parts h0
  have hx' : is32 x := hx
  clear hx h0
  by_cases hz : netF (a, l) = 0
  · obtain ⟨k, hk, ek, _⟩ := net_ok hz
    simp only at ek
    subst ek
    by_cases h32 : k = 32
    · subst h32; exact halves_2 W hg a x ha hz
    · have hk' : k < 32 := by omega
      have hp := half_p hk' hz
      have hq := half_q hk' hz
      have hpos := lowI_pos (k + 1)
      have hb : is32 (a + lowI (k + 1)) := by
        have hm := half_zero hk' hz
        have hlow := low_succ hk'
        have h1 : a + lowI (k + 1) * 2 ≤ 4294967296 := by
          obtain ⟨q, hq⟩ := Int.dvd_of_emod_eq_zero hm
          have e32 : lowI (k + 1) * 2 * 2 ^ k = 4294967296 := by rw [← hlow]; unfold lowI; rw [← Int.pow_add, show 32 - k + k = 32 from by omega]; rfl
          have hlt : lowI (k + 1) * 2 * q < lowI (k + 1) * 2 * 2 ^ k := by rw [← hq, e32]; have := ha.2; omega
          have hq2 : q < 2 ^ k := Int.lt_of_mul_lt_mul_left hlt (by omega)
          have h3 : lowI (k + 1) * 2 * (q + 1) ≤ lowI (k + 1) * 2 * 2 ^ k := Int.mul_le_mul_of_nonneg_left (by omega) (by omega)
          rw [Int.mul_add, ← hq, e32, Int.mul_one] at h3
          exact h3
        have := ha.1
        exact ⟨by omega, by omega⟩
      have hl : lessB (a, (k : Int) + 1) (a + lowI (k + 1), (k : Int) + 1) = true := lessB_iff.2 (.inl (by simp only; omega))
      obtain ⟨g1, g2⟩ := half_has hk' hz x
      have hu := half_up_p hk' hz
      have hv := half_up_q hk' hz
      cases h1 : hasB (a, (k : Int) + 1) x <;> cases h2 : hasB (a + lowI (k + 1), (k : Int) + 1) x <;> rw [h1, h2] at g1 g2
      · exact halves_ff W hg a _ x k hk' ha hb hx' hz rfl hp hq hu hv hl h1 h2 g1.symm
      · exact halves_ft W hg a _ x k hk' ha hb hx' hz rfl hp hq hu hv hl h1 h2 g1.symm
      · exact halves_tf W hg a _ x k hk' ha hb hx' hz rfl hp hq hu hv hl h1 h2 g1.symm
      · cases g2
  · exact halves_1 W hg a l x ha hz
end Go.Proofs.YtohfeoahdbfjbaaDoor
