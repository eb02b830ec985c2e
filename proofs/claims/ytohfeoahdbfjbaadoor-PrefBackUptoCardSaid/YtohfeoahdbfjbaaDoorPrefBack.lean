/- PrefBack: the walk. -/
import Derived.Test.YtohfeoahdbfjbaaDoorBl
namespace Go.Proofs.YtohfeoahdbfjbaaDoor
open Go.ChangeShapes Go.WideShapes Go.ChangeAt Go.RowKit
set_option linter.unusedVariables false
set_option linter.unusedSimpArgs false

set_option maxRecDepth 100000 in
set_option maxHeartbeats 2000000 in
theorem prefback_11 (W : World) (hg : HStr W) (a j : Nat) (s : ByteArray) (ha : a < 4294967296) (hs : s.size ≤ 1048576) (hz : netF ((a : Int), (j : Int)) = 0) (u k : Nat) (hu : u < 4294967296) (hy : netF ((u : Int), (k : Int)) = 0) (he : s.data.toList = netT u k) :
    Calls Tryd.prog 5 #[.agg #[.int .u32 (a : Int), .int .i64 (j : Int)], .string s] W fun e w' => e = .returned (.bool true) ∧ Below W.heap.size W w' := by
  have HZ := Lib.hid hz
  have hj : j ≤ 32 := by have := (netF_zero.1 hz).2.1; omega
  clear hz
  have HE := Lib.hid he
  have HY := Lib.hid hy
  have HES : Hid (strV (netT u k) = .string s) := Lib.hid (by rw [← he])
  have hk : k ≤ 32 := by have := (netF_zero.1 hy).2.1; omega
  clear he hy
  have HG := Lib.hid hg
  have hst := BL.start1 W (netB (a : Int) (j : Int))
  have HB := Lib.hid hst
  clear hst hg
  go_enter Tryd.func5, Tryd.ntmps5
  go_wp2_with fail
  go_at_call 22
  (with_reducible refine (known_any _ (HG.out.on HB.out.bel)).mono ?_); rintro e w1 ⟨rfl, hb⟩
  have hB := HB.out.below hb
  clear HB hb
  obtain ⟨c0a, c0b, _, _⟩ := row2 (hB.blk (W.heap.size) (netB ((a : Int)) ((j : Int))) (by simp))
  have z0 := size_of_block (hB.blk (W.heap.size) (netB ((a : Int)) ((j : Int))) (by simp))
  have zz := hB.bel.size
  have HB := Lib.hid hB; clear hB
  go_wp2_with fail
  go_at_call 23
  (with_reducible refine (NParse_ok u k s _ (HG.out.on HB.out.bel) hu HY.out HE.out).mono ?_); rintro e w2 ⟨rfl, hb⟩
  have hB := HB.out.below hb
  clear HB hb c0a c0b z0 zz
  obtain ⟨c0a, c0b, _, _⟩ := row2 (hB.blk (W.heap.size) (netB ((a : Int)) ((j : Int))) (by simp))
  have z0 := size_of_block (hB.blk (W.heap.size) (netB ((a : Int)) ((j : Int))) (by simp))
  have zz := hB.bel.size
  have HB := Lib.hid hB; clear hB
  go_wp2_with fail
  go_at_call 24
  (with_reducible refine (NText_any u k _ (HG.out.on (HB.out.push _).bel) hu hk).mono ?_); rintro e w3 ⟨rfl, hb⟩; rw [HES.out]
  have hB := (HB.out.push _).below hb
  clear HB hb c0a c0b z0 zz
  obtain ⟨c0a, c0b, _, _⟩ := row2 (hB.blk (W.heap.size) (netB ((a : Int)) ((j : Int))) (by simp))
  have z0 := size_of_block (hB.blk (W.heap.size) (netB ((a : Int)) ((j : Int))) (by simp))
  obtain ⟨c1a, c1b, _, _⟩ := row2 (hB.blk (w2.heap.size) (netB ((u : Int)) ((k : Int))) (by simp))
  have z1 := size_of_block (hB.blk (w2.heap.size) (netB ((u : Int)) ((k : Int))) (by simp))
  have zz := hB.bel.size
  have HB := Lib.hid hB; clear hB
  go_wp2_with fail
  go_at_call 25
  (with_reducible refine (Check_ok _ (by omega) (by omega) HY.out).mono ?_); rintro e w4 ⟨rfl, hb⟩
  have hB := HB.out.below hb
  clear HB hb c0a c0b z0 c1a c1b z1 zz
  obtain ⟨c0a, c0b, _, _⟩ := row2 (hB.blk (W.heap.size) (netB ((a : Int)) ((j : Int))) (by simp))
  have z0 := size_of_block (hB.blk (W.heap.size) (netB ((a : Int)) ((j : Int))) (by simp))
  obtain ⟨c1a, c1b, _, _⟩ := row2 (hB.blk (w2.heap.size) (netB ((u : Int)) ((k : Int))) (by simp))
  have z1 := size_of_block (hB.blk (w2.heap.size) (netB ((u : Int)) ((k : Int))) (by simp))
  have zz := hB.bel.size
  have HB := Lib.hid hB; clear hB
  go_wp2_with fail
  go_at_call 25
  (with_reducible refine (Check_ok _ (by omega) (by omega) HZ.out).mono ?_); rintro e w5 ⟨rfl, hb⟩
  have hB := HB.out.below hb
  clear HB hb c0a c0b z0 c1a c1b z1 zz
  obtain ⟨c0a, c0b, _, _⟩ := row2 (hB.blk (W.heap.size) (netB ((a : Int)) ((j : Int))) (by simp))
  have z0 := size_of_block (hB.blk (W.heap.size) (netB ((a : Int)) ((j : Int))) (by simp))
  obtain ⟨c1a, c1b, _, _⟩ := row2 (hB.blk (w2.heap.size) (netB ((u : Int)) ((k : Int))) (by simp))
  have z1 := size_of_block (hB.blk (w2.heap.size) (netB ((u : Int)) ((k : Int))) (by simp))
  have zz := hB.bel.size
  have HB := Lib.hid hB; clear hB
  go_wp2_with fail
  go_at_call 24
  (with_reducible refine (NText_any a j _ (HG.out.on HB.out.bel) ha hj).mono ?_); rintro e w6 ⟨rfl, hb⟩
  have hB := HB.out.below hb
  clear HB hb c0a c0b z0 c1a c1b z1 zz
  obtain ⟨c0a, c0b, _, _⟩ := row2 (hB.blk (W.heap.size) (netB ((a : Int)) ((j : Int))) (by simp))
  have z0 := size_of_block (hB.blk (W.heap.size) (netB ((a : Int)) ((j : Int))) (by simp))
  obtain ⟨c1a, c1b, _, _⟩ := row2 (hB.blk (w2.heap.size) (netB ((u : Int)) ((k : Int))) (by simp))
  have z1 := size_of_block (hB.blk (w2.heap.size) (netB ((u : Int)) ((k : Int))) (by simp))
  have zz := hB.bel.size
  have HB := Lib.hid hB; clear hB
  go_wp2_with fail
  go_at_call 23
  (with_reducible refine (NParse_ok a j ⟨(netT a j).toArray⟩ _ (HG.out.on HB.out.bel) ha HZ.out rfl).mono ?_); rintro e w7 ⟨rfl, hb⟩
  have hB := HB.out.below hb
  clear HB hb c0a c0b z0 c1a c1b z1 zz
  obtain ⟨c0a, c0b, _, _⟩ := row2 (hB.blk (W.heap.size) (netB ((a : Int)) ((j : Int))) (by simp))
  have z0 := size_of_block (hB.blk (W.heap.size) (netB ((a : Int)) ((j : Int))) (by simp))
  obtain ⟨c1a, c1b, _, _⟩ := row2 (hB.blk (w2.heap.size) (netB ((u : Int)) ((k : Int))) (by simp))
  have z1 := size_of_block (hB.blk (w2.heap.size) (netB ((u : Int)) ((k : Int))) (by simp))
  have zz := hB.bel.size
  have HB := Lib.hid hB; clear hB
  go_wp2
  go_ret
  exact ⟨rfl, (HB.out.push _).bel⟩

set_option maxRecDepth 100000 in
set_option maxHeartbeats 2000000 in
theorem prefback_10 (W : World) (hg : HStr W) (a l : Int) (s : ByteArray) (ha : is32 a) (hs : s.size ≤ 1048576) (hz : netF (a, l) ≠ 0) (u k : Nat) (hu : u < 4294967296) (hy : netF ((u : Int), (k : Int)) = 0) (he : s.data.toList = netT u k) :
    Calls Tryd.prog 5 #[.agg #[.int .u32 a, .int .i64 l], .string s] W fun e w' => e = .returned (.bool true) ∧ Below W.heap.size W w' := by
  have HA := Lib.hid ha
  have HZ := Lib.hid hz
  clear hz
  have HE := Lib.hid he
  have HY := Lib.hid hy
  have HES : Hid (strV (netT u k) = .string s) := Lib.hid (by rw [← he])
  have hk : k ≤ 32 := by have := (netF_zero.1 hy).2.1; omega
  clear he hy
  have HG := Lib.hid hg
  have hst := BL.start1 W (netB a l)
  have HB := Lib.hid hst
  clear hst hg
  go_enter Tryd.func5, Tryd.ntmps5
  go_wp2_with fail
  go_at_call 22
  (with_reducible refine (known_any _ (HG.out.on HB.out.bel)).mono ?_); rintro e w1 ⟨rfl, hb⟩
  have hB := HB.out.below hb
  clear HB hb
  obtain ⟨c0a, c0b, _, _⟩ := row2 (hB.blk (W.heap.size) (netB (a) (l)) (by simp))
  have z0 := size_of_block (hB.blk (W.heap.size) (netB (a) (l)) (by simp))
  have zz := hB.bel.size
  have HB := Lib.hid hB; clear hB
  go_wp2_with fail
  go_at_call 23
  (with_reducible refine (NParse_ok u k s _ (HG.out.on HB.out.bel) hu HY.out HE.out).mono ?_); rintro e w2 ⟨rfl, hb⟩
  have hB := HB.out.below hb
  clear HB hb c0a c0b z0 zz
  obtain ⟨c0a, c0b, _, _⟩ := row2 (hB.blk (W.heap.size) (netB (a) (l)) (by simp))
  have z0 := size_of_block (hB.blk (W.heap.size) (netB (a) (l)) (by simp))
  have zz := hB.bel.size
  have HB := Lib.hid hB; clear hB
  go_wp2_with fail
  go_at_call 24
  (with_reducible refine (NText_any u k _ (HG.out.on (HB.out.push _).bel) hu hk).mono ?_); rintro e w3 ⟨rfl, hb⟩; rw [HES.out]
  have hB := (HB.out.push _).below hb
  clear HB hb c0a c0b z0 zz
  obtain ⟨c0a, c0b, _, _⟩ := row2 (hB.blk (W.heap.size) (netB (a) (l)) (by simp))
  have z0 := size_of_block (hB.blk (W.heap.size) (netB (a) (l)) (by simp))
  obtain ⟨c1a, c1b, _, _⟩ := row2 (hB.blk (w2.heap.size) (netB ((u : Int)) ((k : Int))) (by simp))
  have z1 := size_of_block (hB.blk (w2.heap.size) (netB ((u : Int)) ((k : Int))) (by simp))
  have zz := hB.bel.size
  have HB := Lib.hid hB; clear hB
  go_wp2_with fail
  go_at_call 25
  (with_reducible refine (Check_ok _ (by omega) (by omega) HY.out).mono ?_); rintro e w4 ⟨rfl, hb⟩
  have hB := HB.out.below hb
  clear HB hb c0a c0b z0 c1a c1b z1 zz
  obtain ⟨c0a, c0b, _, _⟩ := row2 (hB.blk (W.heap.size) (netB (a) (l)) (by simp))
  have z0 := size_of_block (hB.blk (W.heap.size) (netB (a) (l)) (by simp))
  obtain ⟨c1a, c1b, _, _⟩ := row2 (hB.blk (w2.heap.size) (netB ((u : Int)) ((k : Int))) (by simp))
  have z1 := size_of_block (hB.blk (w2.heap.size) (netB ((u : Int)) ((k : Int))) (by simp))
  have zz := hB.bel.size
  have HB := Lib.hid hB; clear hB
  go_wp2_with fail
  go_at_call 25
  (with_reducible refine (Check_bad _ (is32_lo HA.out) (is32_hi HA.out) HZ.out).mono ?_); rintro e w5 ⟨rfl, hb⟩
  have hB := HB.out.below hb
  clear HB hb c0a c0b z0 c1a c1b z1 zz
  obtain ⟨c0a, c0b, _, _⟩ := row2 (hB.blk (W.heap.size) (netB (a) (l)) (by simp))
  have z0 := size_of_block (hB.blk (W.heap.size) (netB (a) (l)) (by simp))
  obtain ⟨c1a, c1b, _, _⟩ := row2 (hB.blk (w2.heap.size) (netB ((u : Int)) ((k : Int))) (by simp))
  have z1 := size_of_block (hB.blk (w2.heap.size) (netB ((u : Int)) ((k : Int))) (by simp))
  have zz := hB.bel.size
  have HB := Lib.hid hB; clear hB
  go_wp2
  go_ret
  exact ⟨rfl, (HB.out).bel⟩

set_option maxRecDepth 100000 in
set_option maxHeartbeats 2000000 in
theorem prefback_01 (W : World) (hg : HStr W) (a j : Nat) (s : ByteArray) (ha : a < 4294967296) (hs : s.size ≤ 1048576) (hz : netF ((a : Int), (j : Int)) = 0) (he : ∀ u k : Nat, u < 4294967296 → netF ((u : Int), (k : Int)) = 0 → s.data.toList ≠ netT u k) :
    Calls Tryd.prog 5 #[.agg #[.int .u32 (a : Int), .int .i64 (j : Int)], .string s] W fun e w' => e = .returned (.bool true) ∧ Below W.heap.size W w' := by
  have HZ := Lib.hid hz
  have hj : j ≤ 32 := by have := (netF_zero.1 hz).2.1; omega
  clear hz
  have HE := Lib.hid he
  clear he
  have HG := Lib.hid hg
  have hst := BL.start1 W (netB (a : Int) (j : Int))
  have HB := Lib.hid hst
  clear hst hg
  go_enter Tryd.func5, Tryd.ntmps5
  go_wp2_with fail
  go_at_call 22
  (with_reducible refine (known_any _ (HG.out.on HB.out.bel)).mono ?_); rintro e w1 ⟨rfl, hb⟩
  have hB := HB.out.below hb
  clear HB hb
  obtain ⟨c0a, c0b, _, _⟩ := row2 (hB.blk (W.heap.size) (netB ((a : Int)) ((j : Int))) (by simp))
  have z0 := size_of_block (hB.blk (W.heap.size) (netB ((a : Int)) ((j : Int))) (by simp))
  have zz := hB.bel.size
  have HB := Lib.hid hB; clear hB
  go_wp2_with fail
  go_at_call 23
  (with_reducible refine (NParse_bad s _ (HG.out.on HB.out.bel) hs HE.out).mono ?_); rintro e w2 ⟨rfl, hb⟩
  have hB := HB.out.below hb
  clear HB hb c0a c0b z0 zz
  obtain ⟨c0a, c0b, _, _⟩ := row2 (hB.blk (W.heap.size) (netB ((a : Int)) ((j : Int))) (by simp))
  have z0 := size_of_block (hB.blk (W.heap.size) (netB ((a : Int)) ((j : Int))) (by simp))
  have zz := hB.bel.size
  have HB := Lib.hid hB; clear hB
  go_wp2_with fail
  go_at_call 25
  (with_reducible refine (Check_ok _ (by omega) (by omega) HZ.out).mono ?_); rintro e w3 ⟨rfl, hb⟩
  have hB := (HB.out.push _).below hb
  clear HB hb c0a c0b z0 zz
  obtain ⟨c0a, c0b, _, _⟩ := row2 (hB.blk (W.heap.size) (netB ((a : Int)) ((j : Int))) (by simp))
  have z0 := size_of_block (hB.blk (W.heap.size) (netB ((a : Int)) ((j : Int))) (by simp))
  obtain ⟨c1a, c1b, _, _⟩ := row2 (hB.blk (w2.heap.size) (netB (0) (0)) (by simp))
  have z1 := size_of_block (hB.blk (w2.heap.size) (netB (0) (0)) (by simp))
  have zz := hB.bel.size
  have HB := Lib.hid hB; clear hB
  go_wp2_with fail
  go_at_call 24
  (with_reducible refine (NText_any a j _ (HG.out.on HB.out.bel) ha hj).mono ?_); rintro e w4 ⟨rfl, hb⟩
  have hB := HB.out.below hb
  clear HB hb c0a c0b z0 c1a c1b z1 zz
  obtain ⟨c0a, c0b, _, _⟩ := row2 (hB.blk (W.heap.size) (netB ((a : Int)) ((j : Int))) (by simp))
  have z0 := size_of_block (hB.blk (W.heap.size) (netB ((a : Int)) ((j : Int))) (by simp))
  obtain ⟨c1a, c1b, _, _⟩ := row2 (hB.blk (w2.heap.size) (netB (0) (0)) (by simp))
  have z1 := size_of_block (hB.blk (w2.heap.size) (netB (0) (0)) (by simp))
  have zz := hB.bel.size
  have HB := Lib.hid hB; clear hB
  go_wp2_with fail
  go_at_call 23
  (with_reducible refine (NParse_ok a j ⟨(netT a j).toArray⟩ _ (HG.out.on HB.out.bel) ha HZ.out rfl).mono ?_); rintro e w5 ⟨rfl, hb⟩
  have hB := HB.out.below hb
  clear HB hb c0a c0b z0 c1a c1b z1 zz
  obtain ⟨c0a, c0b, _, _⟩ := row2 (hB.blk (W.heap.size) (netB ((a : Int)) ((j : Int))) (by simp))
  have z0 := size_of_block (hB.blk (W.heap.size) (netB ((a : Int)) ((j : Int))) (by simp))
  obtain ⟨c1a, c1b, _, _⟩ := row2 (hB.blk (w2.heap.size) (netB (0) (0)) (by simp))
  have z1 := size_of_block (hB.blk (w2.heap.size) (netB (0) (0)) (by simp))
  have zz := hB.bel.size
  have HB := Lib.hid hB; clear hB
  go_wp2
  go_ret
  exact ⟨rfl, (HB.out.push _).bel⟩

set_option maxRecDepth 100000 in
set_option maxHeartbeats 2000000 in
theorem prefback_00 (W : World) (hg : HStr W) (a l : Int) (s : ByteArray) (ha : is32 a) (hs : s.size ≤ 1048576) (hz : netF (a, l) ≠ 0) (he : ∀ u k : Nat, u < 4294967296 → netF ((u : Int), (k : Int)) = 0 → s.data.toList ≠ netT u k) :
    Calls Tryd.prog 5 #[.agg #[.int .u32 a, .int .i64 l], .string s] W fun e w' => e = .returned (.bool true) ∧ Below W.heap.size W w' := by
  have HA := Lib.hid ha
  have HZ := Lib.hid hz
  clear hz
  have HE := Lib.hid he
  clear he
  have HG := Lib.hid hg
  have hst := BL.start1 W (netB a l)
  have HB := Lib.hid hst
  clear hst hg
  go_enter Tryd.func5, Tryd.ntmps5
  go_wp2_with fail
  go_at_call 22
  (with_reducible refine (known_any _ (HG.out.on HB.out.bel)).mono ?_); rintro e w1 ⟨rfl, hb⟩
  have hB := HB.out.below hb
  clear HB hb
  obtain ⟨c0a, c0b, _, _⟩ := row2 (hB.blk (W.heap.size) (netB (a) (l)) (by simp))
  have z0 := size_of_block (hB.blk (W.heap.size) (netB (a) (l)) (by simp))
  have zz := hB.bel.size
  have HB := Lib.hid hB; clear hB
  go_wp2_with fail
  go_at_call 23
  (with_reducible refine (NParse_bad s _ (HG.out.on HB.out.bel) hs HE.out).mono ?_); rintro e w2 ⟨rfl, hb⟩
  have hB := HB.out.below hb
  clear HB hb c0a c0b z0 zz
  obtain ⟨c0a, c0b, _, _⟩ := row2 (hB.blk (W.heap.size) (netB (a) (l)) (by simp))
  have z0 := size_of_block (hB.blk (W.heap.size) (netB (a) (l)) (by simp))
  have zz := hB.bel.size
  have HB := Lib.hid hB; clear hB
  go_wp2_with fail
  go_at_call 25
  (with_reducible refine (Check_bad _ (is32_lo HA.out) (is32_hi HA.out) HZ.out).mono ?_); rintro e w3 ⟨rfl, hb⟩
  have hB := (HB.out.push _).below hb
  clear HB hb c0a c0b z0 zz
  obtain ⟨c0a, c0b, _, _⟩ := row2 (hB.blk (W.heap.size) (netB (a) (l)) (by simp))
  have z0 := size_of_block (hB.blk (W.heap.size) (netB (a) (l)) (by simp))
  obtain ⟨c1a, c1b, _, _⟩ := row2 (hB.blk (w2.heap.size) (netB (0) (0)) (by simp))
  have z1 := size_of_block (hB.blk (w2.heap.size) (netB (0) (0)) (by simp))
  have zz := hB.bel.size
  have HB := Lib.hid hB; clear hB
  go_wp2
  go_ret
  exact ⟨rfl, (HB.out).bel⟩

theorem PrefBack_walk (W : World) (A0 : Array Value) (x0 : Int × Int) (h0 : RV rdNet W (.agg A0) x0) (c0 : True ∧ True) (s : ByteArray) (hr : s.size ≤ reachBytes) (hg : HStr W) (hk : 3 + (s.size + 1) ≤ 1048576) :
    Calls Tryd.prog 5 #[.agg A0, .string s] W fun e w' => e = .returned (.bool true) ∧ Below W.heap.size W w' := by
  obtain ⟨a, l, rfl, rfl, ha, _⟩ := net_parts h0
  clear h0
  have hs : s.size ≤ 1048576 := by omega
  by_cases hz : netF (a, l) = 0
  · obtain ⟨j, hj, ej, _⟩ := net_ok hz
    simp only at ej
    subst ej
    obtain ⟨b, rfl⟩ := Int.eq_ofNat_of_zero_le ha.1
    have hb : b < 4294967296 := by have := ha.2; omega
    by_cases h : ∃ u k : Nat, u < 4294967296 ∧ netF ((u : Int), (k : Int)) = 0 ∧ s.data.toList = netT u k
    · obtain ⟨u, k, hu, hy, he⟩ := h
      exact prefback_11 W hg b j s hb hs hz u k hu hy he
    · exact prefback_01 W hg b j s hb hs hz (fun u k hu hy he => h ⟨u, k, hu, hy, he⟩)
  · by_cases h : ∃ u k : Nat, u < 4294967296 ∧ netF ((u : Int), (k : Int)) = 0 ∧ s.data.toList = netT u k
    · obtain ⟨u, k, hu, hy, he⟩ := h
      exact prefback_10 W hg a l s ha hs hz u k hu hy he
    · exact prefback_00 W hg a l s ha hs hz (fun u k hu hy he => h ⟨u, k, hu, hy, he⟩)
end Go.Proofs.YtohfeoahdbfjbaaDoor
