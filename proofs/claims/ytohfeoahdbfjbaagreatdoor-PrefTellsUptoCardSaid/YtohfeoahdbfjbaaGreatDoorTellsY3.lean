/- PrefTells: the walk. -/
import Derived.Test.YtohfeoahdbfjbaaGreatDoorTellsC
import Derived.Test.YtohfeoahdbfjbaaGreatDoorTellsH
import Derived.BigQuiet
namespace Go.Proofs.YtohfeoahdbfjbaaGreatDoor
open Go.ChangeShapes Go.WideShapes Go.ChangeAt Go.RowKit
set_option linter.unusedVariables false
set_option linter.unusedSimpArgs false

set_option maxRecDepth 100000 in
set_option maxHeartbeats 8000000 in
theorem tells_y_full_b (W : World) (hg : HStr W) (hg2 : HErr W) (a l b m x : Int) (s : ByteArray) (hs : s.size ≤ 1048576) (ha : is32 a) (hb0 : is32 b) (hx : is32 x) (p q r : Bool) (hp : hasB (a, l) x = p) (hq : inB (a, l) (b, m) = q) (hr : lessB (a, l) (b, m) = r) (u k0 : Nat) (hu : u < 4294967296) (hy : netF ((u : Int), (k0 : Int)) = 0) (he : s.data.toList = netT u k0) (A : Nat) (hA : a = A) (K : Nat) (hK : (K : Int) = l) (hK32 : K ≤ 32) (hz : netF (a, l) = 0) (hl : l = 32) (xu : Int) (kp : Nat) (hkp : (kp : Int) + 1 = l) (hxu : fl (lowI kp) a = xu) (hzb : netF (b, m) = 0) (cu cv : Int) (hc : comN (a, l) (b, m) = (cu, cv)) :
    Calls Tryz.prog 3 #[.agg #[.int .u32 a, .int .i64 l], .agg #[.int .u32 b, .int .i64 m], .int .u32 x, .string s] W fun e w' => e = .returned (.bool true) ∧ Below W.heap.size W w' := by
  have HA := Lib.hid ha
  have HBB := Lib.hid hb0
  have HX := Lib.hid hx
  have HP := Lib.hid hp
  have HQ := Lib.hid hq
  have HR := Lib.hid hr
  have HG := Lib.hid hg
  have HG2 := Lib.hid hg2
  have HY := Lib.hid hy
  have HE := Lib.hid he
  have HZ := Lib.hid hz
  have HK := Lib.hid hK
  have l0 : 0 ≤ l := by omega
  have l1 : l ≤ 32 := by omega
  have hA32 : A < 4294967296 := by have h1 := HA.out.2; omega
  have HAE := Lib.hid hA
  have HL32 := Lib.hid hl
  have t0 : (l == 0) = false := by rw [beq_eq_false_iff_ne]; omega
  have t32 : (l == 32) = true := by simpa using hl
  have HXU := Lib.hid hxu
  have hkp32 : kp < 32 := by omega
  have HKP : Hid ((kp : Int) = l - 1) := Lib.hid (by omega)
  have HKP1 := Lib.hid hkp
  have HZB := Lib.hid hzb
  have HCC := Lib.hid hc
  have hst := BL.start2 W (netB a l) (netB b m)
  have HB := Lib.hid hst
  clear hst ha hb0 hx hp hq hr hg hg2 hy he hz hK hA hl hxu hkp hzb hc
  go_enter Tryz.func3, Tryz.ntmps3
  go_wp2_with fail
  go_at_call 4
  have hH := HB.out
  have HH := Lib.hid hH; clear hH
  (with_reducible refine (known_any _ (HG.out.on HH.out.bel)).mono ?_); rintro e w1 ⟨rfl, hb⟩
  have hB := HH.out.below hb
  have y1 := hb.size
  clear HB HH hb
  obtain ⟨c0a, c0b, c0c, c0d⟩ := row2 (hB.blk (W.heap.size) (netB (a) (l)) (by simp))
  have z0 := size_of_block (hB.blk (W.heap.size) (netB (a) (l)) (by simp))
  obtain ⟨c1a, c1b, c1c, c1d⟩ := row2 (hB.blk (W.heap.size + 1) (netB (b) (m)) (by simp))
  have z1 := size_of_block (hB.blk (W.heap.size + 1) (netB (b) (m)) (by simp))
  have zz := hB.bel.size
  have HB := Lib.hid hB; clear hB
  go_wp2_with fail
  go_at_call 5
  have hH := HB.out
  have HH := Lib.hid hH; clear hH
  (with_reducible refine (fault_is HZ.out HA.out _).mono ?_); rintro e w2 ⟨rfl, hb⟩
  have hB := HH.out.below hb
  have y2 := hb.size
  clear HB HH hb c0a c0b c0c c0d z0 c1a c1b c1c c1d z1 zz
  obtain ⟨c0a, c0b, c0c, c0d⟩ := row2 (hB.blk (W.heap.size) (netB (a) (l)) (by simp))
  have z0 := size_of_block (hB.blk (W.heap.size) (netB (a) (l)) (by simp))
  obtain ⟨c1a, c1b, c1c, c1d⟩ := row2 (hB.blk (W.heap.size + 1) (netB (b) (m)) (by simp))
  have z1 := size_of_block (hB.blk (W.heap.size + 1) (netB (b) (m)) (by simp))
  have zz := hB.bel.size
  have HB := Lib.hid hB; clear hB
  go_wp2_with fail
  go_at_call 7
  have hH := HB.out
  have HH := Lib.hid hH; clear hH
  (with_reducible refine (Check_ok _ (is32_lo HA.out) (is32_hi HA.out) HZ.out).mono ?_); rintro e w3 ⟨rfl, hb⟩
  have hB := HH.out.below hb
  have y3 := hb.size
  clear HB HH hb c0a c0b c0c c0d z0 c1a c1b c1c c1d z1 zz
  obtain ⟨c0a, c0b, c0c, c0d⟩ := row2 (hB.blk (W.heap.size) (netB (a) (l)) (by simp))
  have z0 := size_of_block (hB.blk (W.heap.size) (netB (a) (l)) (by simp))
  obtain ⟨c1a, c1b, c1c, c1d⟩ := row2 (hB.blk (W.heap.size + 1) (netB (b) (m)) (by simp))
  have z1 := size_of_block (hB.blk (W.heap.size + 1) (netB (b) (m)) (by simp))
  have zz := hB.bel.size
  have HB := Lib.hid hB; clear hB
  go_wp2_with fail
  go_at_call 6
  have hH := HB.out
  have HH := Lib.hid hH; clear hH
  (with_reducible refine (error_is (k := 0) (e := 0) (v := .nilIface) (r := true) errV_zero rfl _ (HG2.out.below HH.out.bel)).mono ?_); rintro e w4 ⟨rfl, hb⟩
  have hB := HH.out.below hb
  have y4 := hb.size
  clear HB HH hb c0a c0b c0c c0d z0 c1a c1b c1c c1d z1 zz
  obtain ⟨c0a, c0b, c0c, c0d⟩ := row2 (hB.blk (W.heap.size) (netB (a) (l)) (by simp))
  have z0 := size_of_block (hB.blk (W.heap.size) (netB (a) (l)) (by simp))
  obtain ⟨c1a, c1b, c1c, c1d⟩ := row2 (hB.blk (W.heap.size + 1) (netB (b) (m)) (by simp))
  have z1 := size_of_block (hB.blk (W.heap.size + 1) (netB (b) (m)) (by simp))
  have zz := hB.bel.size
  have HB := Lib.hid hB; clear hB
  go_wp2_with fail
  go_at_call 8
  have hH := HB.out
  have HH := Lib.hid hH; clear hH
  (with_reducible refine (NetOf_yes u k0 s _ hu HY.out HE.out).mono ?_); rintro e w5 ⟨rfl, hb⟩
  have hB := HH.out.below hb
  have y5 := hb.size
  clear HB HH hb c0a c0b c0c c0d z0 c1a c1b c1c c1d z1 zz
  obtain ⟨c0a, c0b, c0c, c0d⟩ := row2 (hB.blk (W.heap.size) (netB (a) (l)) (by simp))
  have z0 := size_of_block (hB.blk (W.heap.size) (netB (a) (l)) (by simp))
  obtain ⟨c1a, c1b, c1c, c1d⟩ := row2 (hB.blk (W.heap.size + 1) (netB (b) (m)) (by simp))
  have z1 := size_of_block (hB.blk (W.heap.size + 1) (netB (b) (m)) (by simp))
  have zz := hB.bel.size
  have HB := Lib.hid hB; clear hB
  go_wp2_with fail
  go_at_call 9
  have hH := (HB.out.push (netB ((u : Int)) ((k0 : Int))))
  have HH := Lib.hid hH; clear hH
  (with_reducible refine (NParse_ok u k0 s _ (HG.out.on HH.out.bel) hu HY.out HE.out).mono ?_); rintro e w6 ⟨rfl, hb⟩
  have hB := HH.out.below hb
  have y6 := hb.size
  try simp at y6
  clear HB HH hb c0a c0b c0c c0d z0 c1a c1b c1c c1d z1 zz
  obtain ⟨c0a, c0b, c0c, c0d⟩ := row2 (hB.blk (W.heap.size) (netB (a) (l)) (by simp))
  have z0 := size_of_block (hB.blk (W.heap.size) (netB (a) (l)) (by simp))
  obtain ⟨c1a, c1b, c1c, c1d⟩ := row2 (hB.blk (W.heap.size + 1) (netB (b) (m)) (by simp))
  have z1 := size_of_block (hB.blk (W.heap.size + 1) (netB (b) (m)) (by simp))
  obtain ⟨c2a, c2b, c2c, c2d⟩ := row2 (hB.blk (w5.heap.size) (netB ((u : Int)) ((k0 : Int))) (by simp))
  have z2 := size_of_block (hB.blk (w5.heap.size) (netB ((u : Int)) ((k0 : Int))) (by simp))
  have zz := hB.bel.size
  have HB := Lib.hid hB; clear hB
  go_wp2_with fail
  go_at_call 6
  have hH := (HB.out.push (netB ((u : Int)) ((k0 : Int))))
  have HH := Lib.hid hH; clear hH
  (with_reducible refine (error_is (k := 0) (e := 0) (v := .nilIface) (r := true) errV_zero rfl _ (HG2.out.below HH.out.bel)).mono ?_); rintro e w7 ⟨rfl, hb⟩
  have hB := HH.out.below hb
  have y7 := hb.size
  try simp at y7
  clear HB HH hb c0a c0b c0c c0d z0 c1a c1b c1c c1d z1 c2a c2b c2c c2d z2 zz
  obtain ⟨c0a, c0b, c0c, c0d⟩ := row2 (hB.blk (W.heap.size) (netB (a) (l)) (by simp))
  have z0 := size_of_block (hB.blk (W.heap.size) (netB (a) (l)) (by simp))
  obtain ⟨c1a, c1b, c1c, c1d⟩ := row2 (hB.blk (W.heap.size + 1) (netB (b) (m)) (by simp))
  have z1 := size_of_block (hB.blk (W.heap.size + 1) (netB (b) (m)) (by simp))
  obtain ⟨c2a, c2b, c2c, c2d⟩ := row2 (hB.blk (w5.heap.size) (netB ((u : Int)) ((k0 : Int))) (by simp))
  have z2 := size_of_block (hB.blk (w5.heap.size) (netB ((u : Int)) ((k0 : Int))) (by simp))
  obtain ⟨c3a, c3b, c3c, c3d⟩ := row2 (hB.blk (w6.heap.size) (netB ((u : Int)) ((k0 : Int))) (by simp))
  have z3 := size_of_block (hB.blk (w6.heap.size) (netB ((u : Int)) ((k0 : Int))) (by simp))
  have zz := hB.bel.size
  have HB := Lib.hid hB; clear hB
  have k00 := fun d os => (row2 ((HB.out.grow d os).blk (W.heap.size) (netB (a) (l)) (by simp))).1
  have k01 := fun d os => (row2 ((HB.out.grow d os).blk (W.heap.size) (netB (a) (l)) (by simp))).2.1
  have k10 := fun d os => (row2 ((HB.out.grow d os).blk (W.heap.size + 1) (netB (b) (m)) (by simp))).1
  have k11 := fun d os => (row2 ((HB.out.grow d os).blk (W.heap.size + 1) (netB (b) (m)) (by simp))).2.1
  have k20 := fun d os => (row2 ((HB.out.grow d os).blk (w5.heap.size) (netB ((u : Int)) ((k0 : Int))) (by simp))).1
  have k21 := fun d os => (row2 ((HB.out.grow d os).blk (w5.heap.size) (netB ((u : Int)) ((k0 : Int))) (by simp))).2.1
  have k30 := fun d os => (row2 ((HB.out.grow d os).blk (w6.heap.size) (netB ((u : Int)) ((k0 : Int))) (by simp))).1
  have k31 := fun d os => (row2 ((HB.out.grow d os).blk (w6.heap.size) (netB ((u : Int)) ((k0 : Int))) (by simp))).2.1
  go_wp2
  refine wp_region_quiet_below (by kernel_rfl) (by kernel_rfl) ?_
  repeat (go_big_quiet_step (first | (with_reducible exact has_c HP.out HA.out HX.out _ _) | (with_reducible exact rhas_c HP.out HA.out HX.out _ _) | (with_reducible exact in_c HQ.out HA.out HBB.out _ _) | (with_reducible exact rin_c HQ.out HA.out HBB.out _ _) | (with_reducible exact less_c HR.out _ _) | (with_reducible exact rless_c HR.out _ _) | fail))
  refine wpQuiet_nil ?_
  intro w8 hq
  obtain ⟨⟨dq, osq⟩, hq'⟩ := hq
  have hB := HB.out.grow dq osq
  have y8 := (below_regrown w7 dq osq).size
  rw [← hq'] at hB y8
  clear hq' k00 k01 k10 k11 k20 k21 k30 k31
  clear HB c0a c0b c0c c0d z0 c1a c1b c1c c1d z1 c2a c2b c2c c2d z2 c3a c3b c3c c3d z3 zz
  obtain ⟨c0a, c0b, c0c, c0d⟩ := row2 (hB.blk (W.heap.size) (netB (a) (l)) (by simp))
  have z0 := size_of_block (hB.blk (W.heap.size) (netB (a) (l)) (by simp))
  obtain ⟨c1a, c1b, c1c, c1d⟩ := row2 (hB.blk (W.heap.size + 1) (netB (b) (m)) (by simp))
  have z1 := size_of_block (hB.blk (W.heap.size + 1) (netB (b) (m)) (by simp))
  obtain ⟨c2a, c2b, c2c, c2d⟩ := row2 (hB.blk (w5.heap.size) (netB ((u : Int)) ((k0 : Int))) (by simp))
  have z2 := size_of_block (hB.blk (w5.heap.size) (netB ((u : Int)) ((k0 : Int))) (by simp))
  obtain ⟨c3a, c3b, c3c, c3d⟩ := row2 (hB.blk (w6.heap.size) (netB ((u : Int)) ((k0 : Int))) (by simp))
  have z3 := size_of_block (hB.blk (w6.heap.size) (netB ((u : Int)) ((k0 : Int))) (by simp))
  have zz := hB.bel.size
  have HB := Lib.hid hB; clear hB
  have k00 := fun d os => (row2 ((HB.out.grow d os).blk (W.heap.size) (netB (a) (l)) (by simp))).1
  have k01 := fun d os => (row2 ((HB.out.grow d os).blk (W.heap.size) (netB (a) (l)) (by simp))).2.1
  have k10 := fun d os => (row2 ((HB.out.grow d os).blk (W.heap.size + 1) (netB (b) (m)) (by simp))).1
  have k11 := fun d os => (row2 ((HB.out.grow d os).blk (W.heap.size + 1) (netB (b) (m)) (by simp))).2.1
  have k20 := fun d os => (row2 ((HB.out.grow d os).blk (w5.heap.size) (netB ((u : Int)) ((k0 : Int))) (by simp))).1
  have k21 := fun d os => (row2 ((HB.out.grow d os).blk (w5.heap.size) (netB ((u : Int)) ((k0 : Int))) (by simp))).2.1
  have k30 := fun d os => (row2 ((HB.out.grow d os).blk (w6.heap.size) (netB ((u : Int)) ((k0 : Int))) (by simp))).1
  have k31 := fun d os => (row2 ((HB.out.grow d os).blk (w6.heap.size) (netB ((u : Int)) ((k0 : Int))) (by simp))).2.1
  go_wp2
  refine wp_region_quiet_below (by kernel_rfl) (by kernel_rfl) ?_
  repeat (go_big_quiet_step (first | (with_reducible exact ntext_i HG.out HB.out.bel HAE.out hA32 hK32 HK.out _ _) | (with_reducible exact rntext_i HAE.out hA32 hK32 HK.out _ _) | fail))
  refine wpQuiet_nil ?_
  intro w9 hq
  obtain ⟨⟨dq, osq⟩, hq'⟩ := hq
  have hB := HB.out.grow dq osq
  have y9 := (below_regrown w8 dq osq).size
  rw [← hq'] at hB y9
  clear hq' k00 k01 k10 k11 k20 k21 k30 k31
  clear HB c0a c0b c0c c0d z0 c1a c1b c1c c1d z1 c2a c2b c2c c2d z2 c3a c3b c3c c3d z3 zz
  obtain ⟨c0a, c0b, c0c, c0d⟩ := row2 (hB.blk (W.heap.size) (netB (a) (l)) (by simp))
  have z0 := size_of_block (hB.blk (W.heap.size) (netB (a) (l)) (by simp))
  obtain ⟨c1a, c1b, c1c, c1d⟩ := row2 (hB.blk (W.heap.size + 1) (netB (b) (m)) (by simp))
  have z1 := size_of_block (hB.blk (W.heap.size + 1) (netB (b) (m)) (by simp))
  obtain ⟨c2a, c2b, c2c, c2d⟩ := row2 (hB.blk (w5.heap.size) (netB ((u : Int)) ((k0 : Int))) (by simp))
  have z2 := size_of_block (hB.blk (w5.heap.size) (netB ((u : Int)) ((k0 : Int))) (by simp))
  obtain ⟨c3a, c3b, c3c, c3d⟩ := row2 (hB.blk (w6.heap.size) (netB ((u : Int)) ((k0 : Int))) (by simp))
  have z3 := size_of_block (hB.blk (w6.heap.size) (netB ((u : Int)) ((k0 : Int))) (by simp))
  have zz := hB.bel.size
  have HB := Lib.hid hB; clear hB
  go_wp2_with fail
  go_at_call 5
  have hH := HB.out
  have HH := Lib.hid hH; clear hH
  (with_reducible refine (fault_is HZB.out HBB.out _).mono ?_); rintro e w10 ⟨rfl, hb⟩
  have hB := HH.out.below hb
  have y10 := hb.size
  clear HB HH hb c0a c0b c0c c0d z0 c1a c1b c1c c1d z1 c2a c2b c2c c2d z2 c3a c3b c3c c3d z3 zz
  obtain ⟨c0a, c0b, c0c, c0d⟩ := row2 (hB.blk (W.heap.size) (netB (a) (l)) (by simp))
  have z0 := size_of_block (hB.blk (W.heap.size) (netB (a) (l)) (by simp))
  obtain ⟨c1a, c1b, c1c, c1d⟩ := row2 (hB.blk (W.heap.size + 1) (netB (b) (m)) (by simp))
  have z1 := size_of_block (hB.blk (W.heap.size + 1) (netB (b) (m)) (by simp))
  obtain ⟨c2a, c2b, c2c, c2d⟩ := row2 (hB.blk (w5.heap.size) (netB ((u : Int)) ((k0 : Int))) (by simp))
  have z2 := size_of_block (hB.blk (w5.heap.size) (netB ((u : Int)) ((k0 : Int))) (by simp))
  obtain ⟨c3a, c3b, c3c, c3d⟩ := row2 (hB.blk (w6.heap.size) (netB ((u : Int)) ((k0 : Int))) (by simp))
  have z3 := size_of_block (hB.blk (w6.heap.size) (netB ((u : Int)) ((k0 : Int))) (by simp))
  have zz := hB.bel.size
  have HB := Lib.hid hB; clear hB
  have zW := HB.out.bel.size
  have hH := HB.out.push4 (Obj.cells #[.int .u32 0, .int .i64 0] 24 (0, 0)) (Obj.cells #[.int .u32 0, .int .i64 0] 24 (0, 0)) (Obj.cells #[.int .u32 0, .int .i64 0] 24 (0, 0)) (Obj.cells #[.int .u32 0, .int .i64 0] 24 (0, 0))
  obtain ⟨e0a, e0b, e0c, e0d⟩ := row2 (hH.blk (W.heap.size) (netB (a) (l)) (by simp))
  obtain ⟨e1a, e1b, e1c, e1d⟩ := row2 (hH.blk (W.heap.size + 1) (netB (b) (m)) (by simp))
  obtain ⟨e2a, e2b, e2c, e2d⟩ := row2 (hH.blk (w5.heap.size) (netB ((u : Int)) ((k0 : Int))) (by simp))
  obtain ⟨e3a, e3b, e3c, e3d⟩ := row2 (hH.blk (w6.heap.size) (netB ((u : Int)) ((k0 : Int))) (by simp))
  clear hH
  have nq00 : ¬ (W.heap.size = w10.heap.size) := by omega
  have nq01 : ¬ (W.heap.size = w10.heap.size + 1) := by omega
  have nq02 : ¬ (W.heap.size = w10.heap.size + 1 + 1) := by omega
  have nq03 : ¬ (W.heap.size = w10.heap.size + 1 + 1 + 1) := by omega
  have nq10 : ¬ (W.heap.size + 1 = w10.heap.size) := by omega
  have nq11 : ¬ (W.heap.size + 1 = w10.heap.size + 1) := by omega
  have nq12 : ¬ (W.heap.size + 1 = w10.heap.size + 1 + 1) := by omega
  have nq13 : ¬ (W.heap.size + 1 = w10.heap.size + 1 + 1 + 1) := by omega
  have nq20 : ¬ (w5.heap.size = w10.heap.size) := by omega
  have nq21 : ¬ (w5.heap.size = w10.heap.size + 1) := by omega
  have nq22 : ¬ (w5.heap.size = w10.heap.size + 1 + 1) := by omega
  have nq23 : ¬ (w5.heap.size = w10.heap.size + 1 + 1 + 1) := by omega
  have nq30 : ¬ (w6.heap.size = w10.heap.size) := by omega
  have nq31 : ¬ (w6.heap.size = w10.heap.size + 1) := by omega
  have nq32 : ¬ (w6.heap.size = w10.heap.size + 1 + 1) := by omega
  have nq33 : ¬ (w6.heap.size = w10.heap.size + 1 + 1 + 1) := by omega
  have nr01 : ¬ (w10.heap.size = w10.heap.size + 1) := by omega
  have nr02 : ¬ (w10.heap.size = w10.heap.size + 1 + 1) := by omega
  have nr03 : ¬ (w10.heap.size = w10.heap.size + 1 + 1 + 1) := by omega
  have nr10 : ¬ (w10.heap.size + 1 = w10.heap.size) := by omega
  have nr12 : ¬ (w10.heap.size + 1 = w10.heap.size + 1 + 1) := by omega
  have nr13 : ¬ (w10.heap.size + 1 = w10.heap.size + 1 + 1 + 1) := by omega
  have nr20 : ¬ (w10.heap.size + 1 + 1 = w10.heap.size) := by omega
  have nr21 : ¬ (w10.heap.size + 1 + 1 = w10.heap.size + 1) := by omega
  have nr23 : ¬ (w10.heap.size + 1 + 1 = w10.heap.size + 1 + 1 + 1) := by omega
  have nr30 : ¬ (w10.heap.size + 1 + 1 + 1 = w10.heap.size) := by omega
  have nr31 : ¬ (w10.heap.size + 1 + 1 + 1 = w10.heap.size + 1) := by omega
  have nr32 : ¬ (w10.heap.size + 1 + 1 + 1 = w10.heap.size + 1 + 1) := by omega
  go_wp2_with fail
  go_at_call 18
  have hH := (HB.out.push4 (netB (0) (0)) (netB (0) (0)) (netB (0) (0)) (netB (0) (0)))
  have HH := Lib.hid hH; clear hH
  (with_reducible refine (trim_is HKP.out (by omega) HXU.out HA.out _).mono ?_); rintro e w11 ⟨rfl, hb⟩
  have hB := HH.out.below hb
  have y11 := hb.size
  try simp at y11
  clear HB HH hb c0a c0b c0c c0d z0 c1a c1b c1c c1d z1 c2a c2b c2c c2d z2 c3a c3b c3c c3d z3 zz e0a e0b e0c e0d e1a e1b e1c e1d e2a e2b e2c e2d e3a e3b e3c e3d
  obtain ⟨c0a, c0b, c0c, c0d⟩ := row2 (hB.blk (W.heap.size) (netB (a) (l)) (by simp))
  have z0 := size_of_block (hB.blk (W.heap.size) (netB (a) (l)) (by simp))
  obtain ⟨c1a, c1b, c1c, c1d⟩ := row2 (hB.blk (W.heap.size + 1) (netB (b) (m)) (by simp))
  have z1 := size_of_block (hB.blk (W.heap.size + 1) (netB (b) (m)) (by simp))
  obtain ⟨c2a, c2b, c2c, c2d⟩ := row2 (hB.blk (w5.heap.size) (netB ((u : Int)) ((k0 : Int))) (by simp))
  have z2 := size_of_block (hB.blk (w5.heap.size) (netB ((u : Int)) ((k0 : Int))) (by simp))
  obtain ⟨c3a, c3b, c3c, c3d⟩ := row2 (hB.blk (w6.heap.size) (netB ((u : Int)) ((k0 : Int))) (by simp))
  have z3 := size_of_block (hB.blk (w6.heap.size) (netB ((u : Int)) ((k0 : Int))) (by simp))
  obtain ⟨c4a, c4b, c4c, c4d⟩ := row2 (hB.blk (w10.heap.size) (netB (0) (0)) (by simp))
  have z4 := size_of_block (hB.blk (w10.heap.size) (netB (0) (0)) (by simp))
  obtain ⟨c5a, c5b, c5c, c5d⟩ := row2 (hB.blk (w10.heap.size + 1) (netB (0) (0)) (by simp))
  have z5 := size_of_block (hB.blk (w10.heap.size + 1) (netB (0) (0)) (by simp))
  obtain ⟨c6a, c6b, c6c, c6d⟩ := row2 (hB.blk (w10.heap.size + 1 + 1) (netB (0) (0)) (by simp))
  have z6 := size_of_block (hB.blk (w10.heap.size + 1 + 1) (netB (0) (0)) (by simp))
  obtain ⟨c7a, c7b, c7c, c7d⟩ := row2 (hB.blk (w10.heap.size + 1 + 1 + 1) (netB (0) (0)) (by simp))
  have z7 := size_of_block (hB.blk (w10.heap.size + 1 + 1 + 1) (netB (0) (0)) (by simp))
  have zz := hB.bel.size
  have HB := Lib.hid hB; clear hB
  go_wp2_with fail
  go_at_call 20
  have hH := (BL.set (L' := [(W.heap.size, netB (a) (l)), (W.heap.size + 1, netB (b) (m)), (w5.heap.size, netB ((u : Int)) ((k0 : Int))), (w6.heap.size, netB ((u : Int)) ((k0 : Int))), (w10.heap.size, netB (xu) (l - 1)), (w10.heap.size + 1, netB (0) (0)), (w10.heap.size + 1 + 1, netB (0) (0)), (w10.heap.size + 1 + 1 + 1, netB (0) (0))]) (g := w10.heap.size) (c0 := .int .u32 (0)) (c1 := .int .i64 (0)) (t := 24) (v0 := .int .u32 (xu)) (v1 := .int .i64 (l - 1)) HB.out (by omega) (by simp) (by intro e he; simp only [List.mem_cons, List.not_mem_nil, or_false] at he; rcases he with rfl | rfl | rfl | rfl | rfl | rfl | rfl | rfl <;> first | exact .inl rfl | exact .inr ⟨by simp only [ne_eq]; omega, by simp⟩))
  have HH := Lib.hid hH; clear hH
  (with_reducible refine (commonof_is HCC.out HA.out HBB.out HZ.out HZB.out _).mono ?_); rintro e w12 ⟨rfl, hb⟩
  have hB := HH.out.below hb
  have y12 := hb.size
  try simp at y12
  clear HB HH hb c0a c0b c0c c0d z0 c1a c1b c1c c1d z1 c2a c2b c2c c2d z2 c3a c3b c3c c3d z3 c4a c4b c4c c4d z4 c5a c5b c5c c5d z5 c6a c6b c6c c6d z6 c7a c7b c7c c7d z7 zz
  obtain ⟨c0a, c0b, c0c, c0d⟩ := row2 (hB.blk (W.heap.size) (netB (a) (l)) (by simp))
  have z0 := size_of_block (hB.blk (W.heap.size) (netB (a) (l)) (by simp))
  obtain ⟨c1a, c1b, c1c, c1d⟩ := row2 (hB.blk (W.heap.size + 1) (netB (b) (m)) (by simp))
  have z1 := size_of_block (hB.blk (W.heap.size + 1) (netB (b) (m)) (by simp))
  obtain ⟨c2a, c2b, c2c, c2d⟩ := row2 (hB.blk (w5.heap.size) (netB ((u : Int)) ((k0 : Int))) (by simp))
  have z2 := size_of_block (hB.blk (w5.heap.size) (netB ((u : Int)) ((k0 : Int))) (by simp))
  obtain ⟨c3a, c3b, c3c, c3d⟩ := row2 (hB.blk (w6.heap.size) (netB ((u : Int)) ((k0 : Int))) (by simp))
  have z3 := size_of_block (hB.blk (w6.heap.size) (netB ((u : Int)) ((k0 : Int))) (by simp))
  obtain ⟨c4a, c4b, c4c, c4d⟩ := row2 (hB.blk (w10.heap.size) (netB (xu) (l - 1)) (by simp))
  have z4 := size_of_block (hB.blk (w10.heap.size) (netB (xu) (l - 1)) (by simp))
  obtain ⟨c5a, c5b, c5c, c5d⟩ := row2 (hB.blk (w10.heap.size + 1) (netB (0) (0)) (by simp))
  have z5 := size_of_block (hB.blk (w10.heap.size + 1) (netB (0) (0)) (by simp))
  obtain ⟨c6a, c6b, c6c, c6d⟩ := row2 (hB.blk (w10.heap.size + 1 + 1) (netB (0) (0)) (by simp))
  have z6 := size_of_block (hB.blk (w10.heap.size + 1 + 1) (netB (0) (0)) (by simp))
  obtain ⟨c7a, c7b, c7c, c7d⟩ := row2 (hB.blk (w10.heap.size + 1 + 1 + 1) (netB (0) (0)) (by simp))
  have z7 := size_of_block (hB.blk (w10.heap.size + 1 + 1 + 1) (netB (0) (0)) (by simp))
  have zz := hB.bel.size
  have HB := Lib.hid hB; clear hB
  go_wp2_with fail
  go_at_call 21
  have hH := (BL.set (L' := [(W.heap.size, netB (a) (l)), (W.heap.size + 1, netB (b) (m)), (w5.heap.size, netB ((u : Int)) ((k0 : Int))), (w6.heap.size, netB ((u : Int)) ((k0 : Int))), (w10.heap.size, netB (xu) (l - 1)), (w10.heap.size + 1, netB (0) (0)), (w10.heap.size + 1 + 1, netB (0) (0)), (w10.heap.size + 1 + 1 + 1, netB (cu) (cv))]) (g := w10.heap.size + 1 + 1 + 1) (c0 := .int .u32 (0)) (c1 := .int .i64 (0)) (t := 24) (v0 := .int .u32 (cu)) (v1 := .int .i64 (cv)) HB.out (by omega) (by simp) (by intro e he; simp only [List.mem_cons, List.not_mem_nil, or_false] at he; rcases he with rfl | rfl | rfl | rfl | rfl | rfl | rfl | rfl <;> first | exact .inl rfl | exact .inr ⟨by simp only [ne_eq]; omega, by simp⟩))
  have HH := Lib.hid hH; clear hH
  (with_reducible refine (up_is HKP1.out HKP.out hkp32 HXU.out HA.out HZ.out _).mono ?_); rintro e w13 ⟨rfl, hb⟩
  have hB := HH.out.below hb
  have y13 := hb.size
  try simp at y13
  clear HB HH hb c0a c0b c0c c0d z0 c1a c1b c1c c1d z1 c2a c2b c2c c2d z2 c3a c3b c3c c3d z3 c4a c4b c4c c4d z4 c5a c5b c5c c5d z5 c6a c6b c6c c6d z6 c7a c7b c7c c7d z7 zz
  obtain ⟨c0a, c0b, c0c, c0d⟩ := row2 (hB.blk (W.heap.size) (netB (a) (l)) (by simp))
  have z0 := size_of_block (hB.blk (W.heap.size) (netB (a) (l)) (by simp))
  obtain ⟨c1a, c1b, c1c, c1d⟩ := row2 (hB.blk (W.heap.size + 1) (netB (b) (m)) (by simp))
  have z1 := size_of_block (hB.blk (W.heap.size + 1) (netB (b) (m)) (by simp))
  obtain ⟨c2a, c2b, c2c, c2d⟩ := row2 (hB.blk (w5.heap.size) (netB ((u : Int)) ((k0 : Int))) (by simp))
  have z2 := size_of_block (hB.blk (w5.heap.size) (netB ((u : Int)) ((k0 : Int))) (by simp))
  obtain ⟨c3a, c3b, c3c, c3d⟩ := row2 (hB.blk (w6.heap.size) (netB ((u : Int)) ((k0 : Int))) (by simp))
  have z3 := size_of_block (hB.blk (w6.heap.size) (netB ((u : Int)) ((k0 : Int))) (by simp))
  obtain ⟨c4a, c4b, c4c, c4d⟩ := row2 (hB.blk (w10.heap.size) (netB (xu) (l - 1)) (by simp))
  have z4 := size_of_block (hB.blk (w10.heap.size) (netB (xu) (l - 1)) (by simp))
  obtain ⟨c5a, c5b, c5c, c5d⟩ := row2 (hB.blk (w10.heap.size + 1) (netB (0) (0)) (by simp))
  have z5 := size_of_block (hB.blk (w10.heap.size + 1) (netB (0) (0)) (by simp))
  obtain ⟨c6a, c6b, c6c, c6d⟩ := row2 (hB.blk (w10.heap.size + 1 + 1) (netB (0) (0)) (by simp))
  have z6 := size_of_block (hB.blk (w10.heap.size + 1 + 1) (netB (0) (0)) (by simp))
  obtain ⟨c7a, c7b, c7c, c7d⟩ := row2 (hB.blk (w10.heap.size + 1 + 1 + 1) (netB (cu) (cv)) (by simp))
  have z7 := size_of_block (hB.blk (w10.heap.size + 1 + 1 + 1) (netB (cu) (cv)) (by simp))
  have zz := hB.bel.size
  have HB := Lib.hid hB; clear hB
  go_wp2_with fail
  go_at_call 6
  have hH := (HB.out.push (netB (xu) (l - 1)))
  have HH := Lib.hid hH; clear hH
  (with_reducible refine (error_is (k := 0) (e := 0) (v := .nilIface) (r := true) errV_zero rfl _ (HG2.out.below HH.out.bel)).mono ?_); rintro e w14 ⟨rfl, hb⟩
  have hB := HH.out.below hb
  have y14 := hb.size
  try simp at y14
  clear HB HH hb c0a c0b c0c c0d z0 c1a c1b c1c c1d z1 c2a c2b c2c c2d z2 c3a c3b c3c c3d z3 c4a c4b c4c c4d z4 c5a c5b c5c c5d z5 c6a c6b c6c c6d z6 c7a c7b c7c c7d z7 zz
  obtain ⟨c0a, c0b, c0c, c0d⟩ := row2 (hB.blk (W.heap.size) (netB (a) (l)) (by simp))
  have z0 := size_of_block (hB.blk (W.heap.size) (netB (a) (l)) (by simp))
  obtain ⟨c1a, c1b, c1c, c1d⟩ := row2 (hB.blk (W.heap.size + 1) (netB (b) (m)) (by simp))
  have z1 := size_of_block (hB.blk (W.heap.size + 1) (netB (b) (m)) (by simp))
  obtain ⟨c2a, c2b, c2c, c2d⟩ := row2 (hB.blk (w5.heap.size) (netB ((u : Int)) ((k0 : Int))) (by simp))
  have z2 := size_of_block (hB.blk (w5.heap.size) (netB ((u : Int)) ((k0 : Int))) (by simp))
  obtain ⟨c3a, c3b, c3c, c3d⟩ := row2 (hB.blk (w6.heap.size) (netB ((u : Int)) ((k0 : Int))) (by simp))
  have z3 := size_of_block (hB.blk (w6.heap.size) (netB ((u : Int)) ((k0 : Int))) (by simp))
  obtain ⟨c4a, c4b, c4c, c4d⟩ := row2 (hB.blk (w10.heap.size) (netB (xu) (l - 1)) (by simp))
  have z4 := size_of_block (hB.blk (w10.heap.size) (netB (xu) (l - 1)) (by simp))
  obtain ⟨c5a, c5b, c5c, c5d⟩ := row2 (hB.blk (w10.heap.size + 1) (netB (0) (0)) (by simp))
  have z5 := size_of_block (hB.blk (w10.heap.size + 1) (netB (0) (0)) (by simp))
  obtain ⟨c6a, c6b, c6c, c6d⟩ := row2 (hB.blk (w10.heap.size + 1 + 1) (netB (0) (0)) (by simp))
  have z6 := size_of_block (hB.blk (w10.heap.size + 1 + 1) (netB (0) (0)) (by simp))
  obtain ⟨c7a, c7b, c7c, c7d⟩ := row2 (hB.blk (w10.heap.size + 1 + 1 + 1) (netB (cu) (cv)) (by simp))
  have z7 := size_of_block (hB.blk (w10.heap.size + 1 + 1 + 1) (netB (cu) (cv)) (by simp))
  obtain ⟨c8a, c8b, c8c, c8d⟩ := row2 (hB.blk (w13.heap.size) (netB (xu) (l - 1)) (by simp))
  have z8 := size_of_block (hB.blk (w13.heap.size) (netB (xu) (l - 1)) (by simp))
  have zz := hB.bel.size
  have HB := Lib.hid hB; clear hB
  go_wp2_with fail
  go_at_call 22
  have hH := HB.out
  have HH := Lib.hid hH; clear hH
  (with_reducible refine (halvesone_is HL32.out HA.out HZ.out _).mono ?_); rintro e w15 ⟨rfl, hb⟩
  have hB := HH.out.below hb
  have y15 := hb.size
  clear HB HH hb c0a c0b c0c c0d z0 c1a c1b c1c c1d z1 c2a c2b c2c c2d z2 c3a c3b c3c c3d z3 c4a c4b c4c c4d z4 c5a c5b c5c c5d z5 c6a c6b c6c c6d z6 c7a c7b c7c c7d z7 c8a c8b c8c c8d z8 zz
  obtain ⟨c0a, c0b, c0c, c0d⟩ := row2 (hB.blk (W.heap.size) (netB (a) (l)) (by simp))
  have z0 := size_of_block (hB.blk (W.heap.size) (netB (a) (l)) (by simp))
  obtain ⟨c1a, c1b, c1c, c1d⟩ := row2 (hB.blk (W.heap.size + 1) (netB (b) (m)) (by simp))
  have z1 := size_of_block (hB.blk (W.heap.size + 1) (netB (b) (m)) (by simp))
  obtain ⟨c2a, c2b, c2c, c2d⟩ := row2 (hB.blk (w5.heap.size) (netB ((u : Int)) ((k0 : Int))) (by simp))
  have z2 := size_of_block (hB.blk (w5.heap.size) (netB ((u : Int)) ((k0 : Int))) (by simp))
  obtain ⟨c3a, c3b, c3c, c3d⟩ := row2 (hB.blk (w6.heap.size) (netB ((u : Int)) ((k0 : Int))) (by simp))
  have z3 := size_of_block (hB.blk (w6.heap.size) (netB ((u : Int)) ((k0 : Int))) (by simp))
  obtain ⟨c4a, c4b, c4c, c4d⟩ := row2 (hB.blk (w10.heap.size) (netB (xu) (l - 1)) (by simp))
  have z4 := size_of_block (hB.blk (w10.heap.size) (netB (xu) (l - 1)) (by simp))
  obtain ⟨c5a, c5b, c5c, c5d⟩ := row2 (hB.blk (w10.heap.size + 1) (netB (0) (0)) (by simp))
  have z5 := size_of_block (hB.blk (w10.heap.size + 1) (netB (0) (0)) (by simp))
  obtain ⟨c6a, c6b, c6c, c6d⟩ := row2 (hB.blk (w10.heap.size + 1 + 1) (netB (0) (0)) (by simp))
  have z6 := size_of_block (hB.blk (w10.heap.size + 1 + 1) (netB (0) (0)) (by simp))
  obtain ⟨c7a, c7b, c7c, c7d⟩ := row2 (hB.blk (w10.heap.size + 1 + 1 + 1) (netB (cu) (cv)) (by simp))
  have z7 := size_of_block (hB.blk (w10.heap.size + 1 + 1 + 1) (netB (cu) (cv)) (by simp))
  obtain ⟨c8a, c8b, c8c, c8d⟩ := row2 (hB.blk (w13.heap.size) (netB (xu) (l - 1)) (by simp))
  have z8 := size_of_block (hB.blk (w13.heap.size) (netB (xu) (l - 1)) (by simp))
  have zz := hB.bel.size
  have HB := Lib.hid hB; clear hB
  go_wp2_with fail
  go_at_call 6
  have hH := (HB.out.push2 (netB (0) (0)) (netB (0) (0)))
  have HH := Lib.hid hH; clear hH
  (with_reducible refine (error_is (k := 2) (e := 2) (v := .iface 26 (.int .i64 2)) (r := true) (errV_ne (by decide)) rfl _ (HG2.out.below HH.out.bel)).mono ?_); rintro e w16 ⟨rfl, hb⟩
  have hB := HH.out.below hb
  have y16 := hb.size
  try simp at y16
  clear HB HH hb c0a c0b c0c c0d z0 c1a c1b c1c c1d z1 c2a c2b c2c c2d z2 c3a c3b c3c c3d z3 c4a c4b c4c c4d z4 c5a c5b c5c c5d z5 c6a c6b c6c c6d z6 c7a c7b c7c c7d z7 c8a c8b c8c c8d z8 zz
  obtain ⟨c0a, c0b, c0c, c0d⟩ := row2 (hB.blk (W.heap.size) (netB (a) (l)) (by simp))
  have z0 := size_of_block (hB.blk (W.heap.size) (netB (a) (l)) (by simp))
  obtain ⟨c1a, c1b, c1c, c1d⟩ := row2 (hB.blk (W.heap.size + 1) (netB (b) (m)) (by simp))
  have z1 := size_of_block (hB.blk (W.heap.size + 1) (netB (b) (m)) (by simp))
  obtain ⟨c2a, c2b, c2c, c2d⟩ := row2 (hB.blk (w5.heap.size) (netB ((u : Int)) ((k0 : Int))) (by simp))
  have z2 := size_of_block (hB.blk (w5.heap.size) (netB ((u : Int)) ((k0 : Int))) (by simp))
  obtain ⟨c3a, c3b, c3c, c3d⟩ := row2 (hB.blk (w6.heap.size) (netB ((u : Int)) ((k0 : Int))) (by simp))
  have z3 := size_of_block (hB.blk (w6.heap.size) (netB ((u : Int)) ((k0 : Int))) (by simp))
  obtain ⟨c4a, c4b, c4c, c4d⟩ := row2 (hB.blk (w10.heap.size) (netB (xu) (l - 1)) (by simp))
  have z4 := size_of_block (hB.blk (w10.heap.size) (netB (xu) (l - 1)) (by simp))
  obtain ⟨c5a, c5b, c5c, c5d⟩ := row2 (hB.blk (w10.heap.size + 1) (netB (0) (0)) (by simp))
  have z5 := size_of_block (hB.blk (w10.heap.size + 1) (netB (0) (0)) (by simp))
  obtain ⟨c6a, c6b, c6c, c6d⟩ := row2 (hB.blk (w10.heap.size + 1 + 1) (netB (0) (0)) (by simp))
  have z6 := size_of_block (hB.blk (w10.heap.size + 1 + 1) (netB (0) (0)) (by simp))
  obtain ⟨c7a, c7b, c7c, c7d⟩ := row2 (hB.blk (w10.heap.size + 1 + 1 + 1) (netB (cu) (cv)) (by simp))
  have z7 := size_of_block (hB.blk (w10.heap.size + 1 + 1 + 1) (netB (cu) (cv)) (by simp))
  obtain ⟨c8a, c8b, c8c, c8d⟩ := row2 (hB.blk (w13.heap.size) (netB (xu) (l - 1)) (by simp))
  have z8 := size_of_block (hB.blk (w13.heap.size) (netB (xu) (l - 1)) (by simp))
  obtain ⟨c9a, c9b, c9c, c9d⟩ := row2 (hB.blk (w15.heap.size) (netB (0) (0)) (by simp))
  have z9 := size_of_block (hB.blk (w15.heap.size) (netB (0) (0)) (by simp))
  obtain ⟨c10a, c10b, c10c, c10d⟩ := row2 (hB.blk (w15.heap.size + 1) (netB (0) (0)) (by simp))
  have z10 := size_of_block (hB.blk (w15.heap.size + 1) (netB (0) (0)) (by simp))
  have zz := hB.bel.size
  have HB := Lib.hid hB; clear hB
  go_wp2_with fail
  go_at_call 23
  have hH := HB.out
  have HH := Lib.hid hH; clear hH
  (with_reducible refine (common_is HCC.out HA.out HBB.out HZ.out HZB.out _).mono ?_); rintro e w17 ⟨rfl, hb⟩
  have hB := HH.out.below hb
  have y17 := hb.size
  clear HB HH hb c0a c0b c0c c0d z0 c1a c1b c1c c1d z1 c2a c2b c2c c2d z2 c3a c3b c3c c3d z3 c4a c4b c4c c4d z4 c5a c5b c5c c5d z5 c6a c6b c6c c6d z6 c7a c7b c7c c7d z7 c8a c8b c8c c8d z8 c9a c9b c9c c9d z9 c10a c10b c10c c10d z10 zz
  obtain ⟨c0a, c0b, c0c, c0d⟩ := row2 (hB.blk (W.heap.size) (netB (a) (l)) (by simp))
  have z0 := size_of_block (hB.blk (W.heap.size) (netB (a) (l)) (by simp))
  obtain ⟨c1a, c1b, c1c, c1d⟩ := row2 (hB.blk (W.heap.size + 1) (netB (b) (m)) (by simp))
  have z1 := size_of_block (hB.blk (W.heap.size + 1) (netB (b) (m)) (by simp))
  obtain ⟨c2a, c2b, c2c, c2d⟩ := row2 (hB.blk (w5.heap.size) (netB ((u : Int)) ((k0 : Int))) (by simp))
  have z2 := size_of_block (hB.blk (w5.heap.size) (netB ((u : Int)) ((k0 : Int))) (by simp))
  obtain ⟨c3a, c3b, c3c, c3d⟩ := row2 (hB.blk (w6.heap.size) (netB ((u : Int)) ((k0 : Int))) (by simp))
  have z3 := size_of_block (hB.blk (w6.heap.size) (netB ((u : Int)) ((k0 : Int))) (by simp))
  obtain ⟨c4a, c4b, c4c, c4d⟩ := row2 (hB.blk (w10.heap.size) (netB (xu) (l - 1)) (by simp))
  have z4 := size_of_block (hB.blk (w10.heap.size) (netB (xu) (l - 1)) (by simp))
  obtain ⟨c5a, c5b, c5c, c5d⟩ := row2 (hB.blk (w10.heap.size + 1) (netB (0) (0)) (by simp))
  have z5 := size_of_block (hB.blk (w10.heap.size + 1) (netB (0) (0)) (by simp))
  obtain ⟨c6a, c6b, c6c, c6d⟩ := row2 (hB.blk (w10.heap.size + 1 + 1) (netB (0) (0)) (by simp))
  have z6 := size_of_block (hB.blk (w10.heap.size + 1 + 1) (netB (0) (0)) (by simp))
  obtain ⟨c7a, c7b, c7c, c7d⟩ := row2 (hB.blk (w10.heap.size + 1 + 1 + 1) (netB (cu) (cv)) (by simp))
  have z7 := size_of_block (hB.blk (w10.heap.size + 1 + 1 + 1) (netB (cu) (cv)) (by simp))
  obtain ⟨c8a, c8b, c8c, c8d⟩ := row2 (hB.blk (w13.heap.size) (netB (xu) (l - 1)) (by simp))
  have z8 := size_of_block (hB.blk (w13.heap.size) (netB (xu) (l - 1)) (by simp))
  obtain ⟨c9a, c9b, c9c, c9d⟩ := row2 (hB.blk (w15.heap.size) (netB (0) (0)) (by simp))
  have z9 := size_of_block (hB.blk (w15.heap.size) (netB (0) (0)) (by simp))
  obtain ⟨c10a, c10b, c10c, c10d⟩ := row2 (hB.blk (w15.heap.size + 1) (netB (0) (0)) (by simp))
  have z10 := size_of_block (hB.blk (w15.heap.size + 1) (netB (0) (0)) (by simp))
  have zz := hB.bel.size
  have HB := Lib.hid hB; clear hB
  go_wp2_with fail
  go_at_call 6
  have hH := (HB.out.push (netB (cu) (cv)))
  have HH := Lib.hid hH; clear hH
  (with_reducible refine (error_is (k := 0) (e := 0) (v := .nilIface) (r := true) errV_zero rfl _ (HG2.out.below HH.out.bel)).mono ?_); rintro e w18 ⟨rfl, hb⟩
  have hB := HH.out.below hb
  have y18 := hb.size
  try simp at y18
  clear HB HH hb c0a c0b c0c c0d z0 c1a c1b c1c c1d z1 c2a c2b c2c c2d z2 c3a c3b c3c c3d z3 c4a c4b c4c c4d z4 c5a c5b c5c c5d z5 c6a c6b c6c c6d z6 c7a c7b c7c c7d z7 c8a c8b c8c c8d z8 c9a c9b c9c c9d z9 c10a c10b c10c c10d z10 zz
  obtain ⟨c0a, c0b, c0c, c0d⟩ := row2 (hB.blk (W.heap.size) (netB (a) (l)) (by simp))
  have z0 := size_of_block (hB.blk (W.heap.size) (netB (a) (l)) (by simp))
  obtain ⟨c1a, c1b, c1c, c1d⟩ := row2 (hB.blk (W.heap.size + 1) (netB (b) (m)) (by simp))
  have z1 := size_of_block (hB.blk (W.heap.size + 1) (netB (b) (m)) (by simp))
  obtain ⟨c2a, c2b, c2c, c2d⟩ := row2 (hB.blk (w5.heap.size) (netB ((u : Int)) ((k0 : Int))) (by simp))
  have z2 := size_of_block (hB.blk (w5.heap.size) (netB ((u : Int)) ((k0 : Int))) (by simp))
  obtain ⟨c3a, c3b, c3c, c3d⟩ := row2 (hB.blk (w6.heap.size) (netB ((u : Int)) ((k0 : Int))) (by simp))
  have z3 := size_of_block (hB.blk (w6.heap.size) (netB ((u : Int)) ((k0 : Int))) (by simp))
  obtain ⟨c4a, c4b, c4c, c4d⟩ := row2 (hB.blk (w10.heap.size) (netB (xu) (l - 1)) (by simp))
  have z4 := size_of_block (hB.blk (w10.heap.size) (netB (xu) (l - 1)) (by simp))
  obtain ⟨c5a, c5b, c5c, c5d⟩ := row2 (hB.blk (w10.heap.size + 1) (netB (0) (0)) (by simp))
  have z5 := size_of_block (hB.blk (w10.heap.size + 1) (netB (0) (0)) (by simp))
  obtain ⟨c6a, c6b, c6c, c6d⟩ := row2 (hB.blk (w10.heap.size + 1 + 1) (netB (0) (0)) (by simp))
  have z6 := size_of_block (hB.blk (w10.heap.size + 1 + 1) (netB (0) (0)) (by simp))
  obtain ⟨c7a, c7b, c7c, c7d⟩ := row2 (hB.blk (w10.heap.size + 1 + 1 + 1) (netB (cu) (cv)) (by simp))
  have z7 := size_of_block (hB.blk (w10.heap.size + 1 + 1 + 1) (netB (cu) (cv)) (by simp))
  obtain ⟨c8a, c8b, c8c, c8d⟩ := row2 (hB.blk (w13.heap.size) (netB (xu) (l - 1)) (by simp))
  have z8 := size_of_block (hB.blk (w13.heap.size) (netB (xu) (l - 1)) (by simp))
  obtain ⟨c9a, c9b, c9c, c9d⟩ := row2 (hB.blk (w15.heap.size) (netB (0) (0)) (by simp))
  have z9 := size_of_block (hB.blk (w15.heap.size) (netB (0) (0)) (by simp))
  obtain ⟨c10a, c10b, c10c, c10d⟩ := row2 (hB.blk (w15.heap.size + 1) (netB (0) (0)) (by simp))
  have z10 := size_of_block (hB.blk (w15.heap.size + 1) (netB (0) (0)) (by simp))
  obtain ⟨c11a, c11b, c11c, c11d⟩ := row2 (hB.blk (w17.heap.size) (netB (cu) (cv)) (by simp))
  have z11 := size_of_block (hB.blk (w17.heap.size) (netB (cu) (cv)) (by simp))
  have zz := hB.bel.size
  have HB := Lib.hid hB; clear hB
  go_wp2
  go_ret
  exact ⟨rfl, HB.out.bel⟩

set_option maxRecDepth 100000 in
set_option maxHeartbeats 8000000 in
theorem tells_y_full_n (W : World) (hg : HStr W) (hg2 : HErr W) (a l b m x : Int) (s : ByteArray) (hs : s.size ≤ 1048576) (ha : is32 a) (hb0 : is32 b) (hx : is32 x) (p q r : Bool) (hp : hasB (a, l) x = p) (hq : inB (a, l) (b, m) = q) (hr : lessB (a, l) (b, m) = r) (u k0 : Nat) (hu : u < 4294967296) (hy : netF ((u : Int), (k0 : Int)) = 0) (he : s.data.toList = netT u k0) (A : Nat) (hA : a = A) (K : Nat) (hK : (K : Int) = l) (hK32 : K ≤ 32) (hz : netF (a, l) = 0) (hl : l = 32) (xu : Int) (kp : Nat) (hkp : (kp : Int) + 1 = l) (hxu : fl (lowI kp) a = xu) (f : Int) (hf : netF (b, m) = f) (hf0 : f ≠ 0) :
    Calls Tryz.prog 3 #[.agg #[.int .u32 a, .int .i64 l], .agg #[.int .u32 b, .int .i64 m], .int .u32 x, .string s] W fun e w' => e = .returned (.bool true) ∧ Below W.heap.size W w' := by
  have HA := Lib.hid ha
  have HBB := Lib.hid hb0
  have HX := Lib.hid hx
  have HP := Lib.hid hp
  have HQ := Lib.hid hq
  have HR := Lib.hid hr
  have HG := Lib.hid hg
  have HG2 := Lib.hid hg2
  have HY := Lib.hid hy
  have HE := Lib.hid he
  have HZ := Lib.hid hz
  have HK := Lib.hid hK
  have l0 : 0 ≤ l := by omega
  have l1 : l ≤ 32 := by omega
  have hA32 : A < 4294967296 := by have h1 := HA.out.2; omega
  have HAE := Lib.hid hA
  have HL32 := Lib.hid hl
  have t0 : (l == 0) = false := by rw [beq_eq_false_iff_ne]; omega
  have t32 : (l == 32) = true := by simpa using hl
  have HXU := Lib.hid hxu
  have hkp32 : kp < 32 := by omega
  have HKP : Hid ((kp : Int) = l - 1) := Lib.hid (by omega)
  have HKP1 := Lib.hid hkp
  have HF := Lib.hid hf
  have HFN : Hid (netF (b, m) ≠ 0) := Lib.hid (by rw [hf]; exact hf0)
  have tf : (f == 0) = false := by simpa using hf0
  have HEV := Lib.hid (errV_ne hf0)
  have HFF : Hid ((f == f) = true) := Lib.hid (by simp)
  have hst := BL.start2 W (netB a l) (netB b m)
  have HB := Lib.hid hst
  clear hst ha hb0 hx hp hq hr hg hg2 hy he hz hK hA hl hxu hkp hf hf0
  go_enter Tryz.func3, Tryz.ntmps3
  go_wp2_with fail
  go_at_call 4
  have hH := HB.out
  have HH := Lib.hid hH; clear hH
  (with_reducible refine (known_any _ (HG.out.on HH.out.bel)).mono ?_); rintro e w1 ⟨rfl, hb⟩
  have hB := HH.out.below hb
  have y1 := hb.size
  clear HB HH hb
  obtain ⟨c0a, c0b, c0c, c0d⟩ := row2 (hB.blk (W.heap.size) (netB (a) (l)) (by simp))
  have z0 := size_of_block (hB.blk (W.heap.size) (netB (a) (l)) (by simp))
  obtain ⟨c1a, c1b, c1c, c1d⟩ := row2 (hB.blk (W.heap.size + 1) (netB (b) (m)) (by simp))
  have z1 := size_of_block (hB.blk (W.heap.size + 1) (netB (b) (m)) (by simp))
  have zz := hB.bel.size
  have HB := Lib.hid hB; clear hB
  go_wp2_with fail
  go_at_call 5
  have hH := HB.out
  have HH := Lib.hid hH; clear hH
  (with_reducible refine (fault_is HZ.out HA.out _).mono ?_); rintro e w2 ⟨rfl, hb⟩
  have hB := HH.out.below hb
  have y2 := hb.size
  clear HB HH hb c0a c0b c0c c0d z0 c1a c1b c1c c1d z1 zz
  obtain ⟨c0a, c0b, c0c, c0d⟩ := row2 (hB.blk (W.heap.size) (netB (a) (l)) (by simp))
  have z0 := size_of_block (hB.blk (W.heap.size) (netB (a) (l)) (by simp))
  obtain ⟨c1a, c1b, c1c, c1d⟩ := row2 (hB.blk (W.heap.size + 1) (netB (b) (m)) (by simp))
  have z1 := size_of_block (hB.blk (W.heap.size + 1) (netB (b) (m)) (by simp))
  have zz := hB.bel.size
  have HB := Lib.hid hB; clear hB
  go_wp2_with fail
  go_at_call 7
  have hH := HB.out
  have HH := Lib.hid hH; clear hH
  (with_reducible refine (Check_ok _ (is32_lo HA.out) (is32_hi HA.out) HZ.out).mono ?_); rintro e w3 ⟨rfl, hb⟩
  have hB := HH.out.below hb
  have y3 := hb.size
  clear HB HH hb c0a c0b c0c c0d z0 c1a c1b c1c c1d z1 zz
  obtain ⟨c0a, c0b, c0c, c0d⟩ := row2 (hB.blk (W.heap.size) (netB (a) (l)) (by simp))
  have z0 := size_of_block (hB.blk (W.heap.size) (netB (a) (l)) (by simp))
  obtain ⟨c1a, c1b, c1c, c1d⟩ := row2 (hB.blk (W.heap.size + 1) (netB (b) (m)) (by simp))
  have z1 := size_of_block (hB.blk (W.heap.size + 1) (netB (b) (m)) (by simp))
  have zz := hB.bel.size
  have HB := Lib.hid hB; clear hB
  go_wp2_with fail
  go_at_call 6
  have hH := HB.out
  have HH := Lib.hid hH; clear hH
  (with_reducible refine (error_is (k := 0) (e := 0) (v := .nilIface) (r := true) errV_zero rfl _ (HG2.out.below HH.out.bel)).mono ?_); rintro e w4 ⟨rfl, hb⟩
  have hB := HH.out.below hb
  have y4 := hb.size
  clear HB HH hb c0a c0b c0c c0d z0 c1a c1b c1c c1d z1 zz
  obtain ⟨c0a, c0b, c0c, c0d⟩ := row2 (hB.blk (W.heap.size) (netB (a) (l)) (by simp))
  have z0 := size_of_block (hB.blk (W.heap.size) (netB (a) (l)) (by simp))
  obtain ⟨c1a, c1b, c1c, c1d⟩ := row2 (hB.blk (W.heap.size + 1) (netB (b) (m)) (by simp))
  have z1 := size_of_block (hB.blk (W.heap.size + 1) (netB (b) (m)) (by simp))
  have zz := hB.bel.size
  have HB := Lib.hid hB; clear hB
  go_wp2_with fail
  go_at_call 8
  have hH := HB.out
  have HH := Lib.hid hH; clear hH
  (with_reducible refine (NetOf_yes u k0 s _ hu HY.out HE.out).mono ?_); rintro e w5 ⟨rfl, hb⟩
  have hB := HH.out.below hb
  have y5 := hb.size
  clear HB HH hb c0a c0b c0c c0d z0 c1a c1b c1c c1d z1 zz
  obtain ⟨c0a, c0b, c0c, c0d⟩ := row2 (hB.blk (W.heap.size) (netB (a) (l)) (by simp))
  have z0 := size_of_block (hB.blk (W.heap.size) (netB (a) (l)) (by simp))
  obtain ⟨c1a, c1b, c1c, c1d⟩ := row2 (hB.blk (W.heap.size + 1) (netB (b) (m)) (by simp))
  have z1 := size_of_block (hB.blk (W.heap.size + 1) (netB (b) (m)) (by simp))
  have zz := hB.bel.size
  have HB := Lib.hid hB; clear hB
  go_wp2_with fail
  go_at_call 9
  have hH := (HB.out.push (netB ((u : Int)) ((k0 : Int))))
  have HH := Lib.hid hH; clear hH
  (with_reducible refine (NParse_ok u k0 s _ (HG.out.on HH.out.bel) hu HY.out HE.out).mono ?_); rintro e w6 ⟨rfl, hb⟩
  have hB := HH.out.below hb
  have y6 := hb.size
  try simp at y6
  clear HB HH hb c0a c0b c0c c0d z0 c1a c1b c1c c1d z1 zz
  obtain ⟨c0a, c0b, c0c, c0d⟩ := row2 (hB.blk (W.heap.size) (netB (a) (l)) (by simp))
  have z0 := size_of_block (hB.blk (W.heap.size) (netB (a) (l)) (by simp))
  obtain ⟨c1a, c1b, c1c, c1d⟩ := row2 (hB.blk (W.heap.size + 1) (netB (b) (m)) (by simp))
  have z1 := size_of_block (hB.blk (W.heap.size + 1) (netB (b) (m)) (by simp))
  obtain ⟨c2a, c2b, c2c, c2d⟩ := row2 (hB.blk (w5.heap.size) (netB ((u : Int)) ((k0 : Int))) (by simp))
  have z2 := size_of_block (hB.blk (w5.heap.size) (netB ((u : Int)) ((k0 : Int))) (by simp))
  have zz := hB.bel.size
  have HB := Lib.hid hB; clear hB
  go_wp2_with fail
  go_at_call 6
  have hH := (HB.out.push (netB ((u : Int)) ((k0 : Int))))
  have HH := Lib.hid hH; clear hH
  (with_reducible refine (error_is (k := 0) (e := 0) (v := .nilIface) (r := true) errV_zero rfl _ (HG2.out.below HH.out.bel)).mono ?_); rintro e w7 ⟨rfl, hb⟩
  have hB := HH.out.below hb
  have y7 := hb.size
  try simp at y7
  clear HB HH hb c0a c0b c0c c0d z0 c1a c1b c1c c1d z1 c2a c2b c2c c2d z2 zz
  obtain ⟨c0a, c0b, c0c, c0d⟩ := row2 (hB.blk (W.heap.size) (netB (a) (l)) (by simp))
  have z0 := size_of_block (hB.blk (W.heap.size) (netB (a) (l)) (by simp))
  obtain ⟨c1a, c1b, c1c, c1d⟩ := row2 (hB.blk (W.heap.size + 1) (netB (b) (m)) (by simp))
  have z1 := size_of_block (hB.blk (W.heap.size + 1) (netB (b) (m)) (by simp))
  obtain ⟨c2a, c2b, c2c, c2d⟩ := row2 (hB.blk (w5.heap.size) (netB ((u : Int)) ((k0 : Int))) (by simp))
  have z2 := size_of_block (hB.blk (w5.heap.size) (netB ((u : Int)) ((k0 : Int))) (by simp))
  obtain ⟨c3a, c3b, c3c, c3d⟩ := row2 (hB.blk (w6.heap.size) (netB ((u : Int)) ((k0 : Int))) (by simp))
  have z3 := size_of_block (hB.blk (w6.heap.size) (netB ((u : Int)) ((k0 : Int))) (by simp))
  have zz := hB.bel.size
  have HB := Lib.hid hB; clear hB
  have k00 := fun d os => (row2 ((HB.out.grow d os).blk (W.heap.size) (netB (a) (l)) (by simp))).1
  have k01 := fun d os => (row2 ((HB.out.grow d os).blk (W.heap.size) (netB (a) (l)) (by simp))).2.1
  have k10 := fun d os => (row2 ((HB.out.grow d os).blk (W.heap.size + 1) (netB (b) (m)) (by simp))).1
  have k11 := fun d os => (row2 ((HB.out.grow d os).blk (W.heap.size + 1) (netB (b) (m)) (by simp))).2.1
  have k20 := fun d os => (row2 ((HB.out.grow d os).blk (w5.heap.size) (netB ((u : Int)) ((k0 : Int))) (by simp))).1
  have k21 := fun d os => (row2 ((HB.out.grow d os).blk (w5.heap.size) (netB ((u : Int)) ((k0 : Int))) (by simp))).2.1
  have k30 := fun d os => (row2 ((HB.out.grow d os).blk (w6.heap.size) (netB ((u : Int)) ((k0 : Int))) (by simp))).1
  have k31 := fun d os => (row2 ((HB.out.grow d os).blk (w6.heap.size) (netB ((u : Int)) ((k0 : Int))) (by simp))).2.1
  go_wp2
  refine wp_region_quiet_below (by kernel_rfl) (by kernel_rfl) ?_
  repeat (go_big_quiet_step (first | (with_reducible exact has_c HP.out HA.out HX.out _ _) | (with_reducible exact rhas_c HP.out HA.out HX.out _ _) | (with_reducible exact in_c HQ.out HA.out HBB.out _ _) | (with_reducible exact rin_c HQ.out HA.out HBB.out _ _) | (with_reducible exact less_c HR.out _ _) | (with_reducible exact rless_c HR.out _ _) | fail))
  refine wpQuiet_nil ?_
  intro w8 hq
  obtain ⟨⟨dq, osq⟩, hq'⟩ := hq
  have hB := HB.out.grow dq osq
  have y8 := (below_regrown w7 dq osq).size
  rw [← hq'] at hB y8
  clear hq' k00 k01 k10 k11 k20 k21 k30 k31
  clear HB c0a c0b c0c c0d z0 c1a c1b c1c c1d z1 c2a c2b c2c c2d z2 c3a c3b c3c c3d z3 zz
  obtain ⟨c0a, c0b, c0c, c0d⟩ := row2 (hB.blk (W.heap.size) (netB (a) (l)) (by simp))
  have z0 := size_of_block (hB.blk (W.heap.size) (netB (a) (l)) (by simp))
  obtain ⟨c1a, c1b, c1c, c1d⟩ := row2 (hB.blk (W.heap.size + 1) (netB (b) (m)) (by simp))
  have z1 := size_of_block (hB.blk (W.heap.size + 1) (netB (b) (m)) (by simp))
  obtain ⟨c2a, c2b, c2c, c2d⟩ := row2 (hB.blk (w5.heap.size) (netB ((u : Int)) ((k0 : Int))) (by simp))
  have z2 := size_of_block (hB.blk (w5.heap.size) (netB ((u : Int)) ((k0 : Int))) (by simp))
  obtain ⟨c3a, c3b, c3c, c3d⟩ := row2 (hB.blk (w6.heap.size) (netB ((u : Int)) ((k0 : Int))) (by simp))
  have z3 := size_of_block (hB.blk (w6.heap.size) (netB ((u : Int)) ((k0 : Int))) (by simp))
  have zz := hB.bel.size
  have HB := Lib.hid hB; clear hB
  have k00 := fun d os => (row2 ((HB.out.grow d os).blk (W.heap.size) (netB (a) (l)) (by simp))).1
  have k01 := fun d os => (row2 ((HB.out.grow d os).blk (W.heap.size) (netB (a) (l)) (by simp))).2.1
  have k10 := fun d os => (row2 ((HB.out.grow d os).blk (W.heap.size + 1) (netB (b) (m)) (by simp))).1
  have k11 := fun d os => (row2 ((HB.out.grow d os).blk (W.heap.size + 1) (netB (b) (m)) (by simp))).2.1
  have k20 := fun d os => (row2 ((HB.out.grow d os).blk (w5.heap.size) (netB ((u : Int)) ((k0 : Int))) (by simp))).1
  have k21 := fun d os => (row2 ((HB.out.grow d os).blk (w5.heap.size) (netB ((u : Int)) ((k0 : Int))) (by simp))).2.1
  have k30 := fun d os => (row2 ((HB.out.grow d os).blk (w6.heap.size) (netB ((u : Int)) ((k0 : Int))) (by simp))).1
  have k31 := fun d os => (row2 ((HB.out.grow d os).blk (w6.heap.size) (netB ((u : Int)) ((k0 : Int))) (by simp))).2.1
  go_wp2
  refine wp_region_quiet_below (by kernel_rfl) (by kernel_rfl) ?_
  repeat (go_big_quiet_step (first | (with_reducible exact ntext_i HG.out HB.out.bel HAE.out hA32 hK32 HK.out _ _) | (with_reducible exact rntext_i HAE.out hA32 hK32 HK.out _ _) | fail))
  refine wpQuiet_nil ?_
  intro w9 hq
  obtain ⟨⟨dq, osq⟩, hq'⟩ := hq
  have hB := HB.out.grow dq osq
  have y9 := (below_regrown w8 dq osq).size
  rw [← hq'] at hB y9
  clear hq' k00 k01 k10 k11 k20 k21 k30 k31
  clear HB c0a c0b c0c c0d z0 c1a c1b c1c c1d z1 c2a c2b c2c c2d z2 c3a c3b c3c c3d z3 zz
  obtain ⟨c0a, c0b, c0c, c0d⟩ := row2 (hB.blk (W.heap.size) (netB (a) (l)) (by simp))
  have z0 := size_of_block (hB.blk (W.heap.size) (netB (a) (l)) (by simp))
  obtain ⟨c1a, c1b, c1c, c1d⟩ := row2 (hB.blk (W.heap.size + 1) (netB (b) (m)) (by simp))
  have z1 := size_of_block (hB.blk (W.heap.size + 1) (netB (b) (m)) (by simp))
  obtain ⟨c2a, c2b, c2c, c2d⟩ := row2 (hB.blk (w5.heap.size) (netB ((u : Int)) ((k0 : Int))) (by simp))
  have z2 := size_of_block (hB.blk (w5.heap.size) (netB ((u : Int)) ((k0 : Int))) (by simp))
  obtain ⟨c3a, c3b, c3c, c3d⟩ := row2 (hB.blk (w6.heap.size) (netB ((u : Int)) ((k0 : Int))) (by simp))
  have z3 := size_of_block (hB.blk (w6.heap.size) (netB ((u : Int)) ((k0 : Int))) (by simp))
  have zz := hB.bel.size
  have HB := Lib.hid hB; clear hB
  go_wp2_with fail
  go_at_call 5
  have hH := HB.out
  have HH := Lib.hid hH; clear hH
  (with_reducible refine (fault_is HF.out HBB.out _).mono ?_); rintro e w10 ⟨rfl, hb⟩
  have hB := HH.out.below hb
  have y10 := hb.size
  clear HB HH hb c0a c0b c0c c0d z0 c1a c1b c1c c1d z1 c2a c2b c2c c2d z2 c3a c3b c3c c3d z3 zz
  obtain ⟨c0a, c0b, c0c, c0d⟩ := row2 (hB.blk (W.heap.size) (netB (a) (l)) (by simp))
  have z0 := size_of_block (hB.blk (W.heap.size) (netB (a) (l)) (by simp))
  obtain ⟨c1a, c1b, c1c, c1d⟩ := row2 (hB.blk (W.heap.size + 1) (netB (b) (m)) (by simp))
  have z1 := size_of_block (hB.blk (W.heap.size + 1) (netB (b) (m)) (by simp))
  obtain ⟨c2a, c2b, c2c, c2d⟩ := row2 (hB.blk (w5.heap.size) (netB ((u : Int)) ((k0 : Int))) (by simp))
  have z2 := size_of_block (hB.blk (w5.heap.size) (netB ((u : Int)) ((k0 : Int))) (by simp))
  obtain ⟨c3a, c3b, c3c, c3d⟩ := row2 (hB.blk (w6.heap.size) (netB ((u : Int)) ((k0 : Int))) (by simp))
  have z3 := size_of_block (hB.blk (w6.heap.size) (netB ((u : Int)) ((k0 : Int))) (by simp))
  have zz := hB.bel.size
  have HB := Lib.hid hB; clear hB
  have zW := HB.out.bel.size
  have hH := HB.out.push4 (Obj.cells #[.int .u32 0, .int .i64 0] 24 (0, 0)) (Obj.cells #[.int .u32 0, .int .i64 0] 24 (0, 0)) (Obj.cells #[.int .u32 0, .int .i64 0] 24 (0, 0)) (Obj.cells #[.int .u32 0, .int .i64 0] 24 (0, 0))
  obtain ⟨e0a, e0b, e0c, e0d⟩ := row2 (hH.blk (W.heap.size) (netB (a) (l)) (by simp))
  obtain ⟨e1a, e1b, e1c, e1d⟩ := row2 (hH.blk (W.heap.size + 1) (netB (b) (m)) (by simp))
  obtain ⟨e2a, e2b, e2c, e2d⟩ := row2 (hH.blk (w5.heap.size) (netB ((u : Int)) ((k0 : Int))) (by simp))
  obtain ⟨e3a, e3b, e3c, e3d⟩ := row2 (hH.blk (w6.heap.size) (netB ((u : Int)) ((k0 : Int))) (by simp))
  clear hH
  have nq00 : ¬ (W.heap.size = w10.heap.size) := by omega
  have nq01 : ¬ (W.heap.size = w10.heap.size + 1) := by omega
  have nq02 : ¬ (W.heap.size = w10.heap.size + 1 + 1) := by omega
  have nq03 : ¬ (W.heap.size = w10.heap.size + 1 + 1 + 1) := by omega
  have nq10 : ¬ (W.heap.size + 1 = w10.heap.size) := by omega
  have nq11 : ¬ (W.heap.size + 1 = w10.heap.size + 1) := by omega
  have nq12 : ¬ (W.heap.size + 1 = w10.heap.size + 1 + 1) := by omega
  have nq13 : ¬ (W.heap.size + 1 = w10.heap.size + 1 + 1 + 1) := by omega
  have nq20 : ¬ (w5.heap.size = w10.heap.size) := by omega
  have nq21 : ¬ (w5.heap.size = w10.heap.size + 1) := by omega
  have nq22 : ¬ (w5.heap.size = w10.heap.size + 1 + 1) := by omega
  have nq23 : ¬ (w5.heap.size = w10.heap.size + 1 + 1 + 1) := by omega
  have nq30 : ¬ (w6.heap.size = w10.heap.size) := by omega
  have nq31 : ¬ (w6.heap.size = w10.heap.size + 1) := by omega
  have nq32 : ¬ (w6.heap.size = w10.heap.size + 1 + 1) := by omega
  have nq33 : ¬ (w6.heap.size = w10.heap.size + 1 + 1 + 1) := by omega
  have nr01 : ¬ (w10.heap.size = w10.heap.size + 1) := by omega
  have nr02 : ¬ (w10.heap.size = w10.heap.size + 1 + 1) := by omega
  have nr03 : ¬ (w10.heap.size = w10.heap.size + 1 + 1 + 1) := by omega
  have nr10 : ¬ (w10.heap.size + 1 = w10.heap.size) := by omega
  have nr12 : ¬ (w10.heap.size + 1 = w10.heap.size + 1 + 1) := by omega
  have nr13 : ¬ (w10.heap.size + 1 = w10.heap.size + 1 + 1 + 1) := by omega
  have nr20 : ¬ (w10.heap.size + 1 + 1 = w10.heap.size) := by omega
  have nr21 : ¬ (w10.heap.size + 1 + 1 = w10.heap.size + 1) := by omega
  have nr23 : ¬ (w10.heap.size + 1 + 1 = w10.heap.size + 1 + 1 + 1) := by omega
  have nr30 : ¬ (w10.heap.size + 1 + 1 + 1 = w10.heap.size) := by omega
  have nr31 : ¬ (w10.heap.size + 1 + 1 + 1 = w10.heap.size + 1) := by omega
  have nr32 : ¬ (w10.heap.size + 1 + 1 + 1 = w10.heap.size + 1 + 1) := by omega
  go_wp2_with fail
  go_at_call 18
  have hH := (HB.out.push4 (netB (0) (0)) (netB (0) (0)) (netB (0) (0)) (netB (0) (0)))
  have HH := Lib.hid hH; clear hH
  (with_reducible refine (trim_is HKP.out (by omega) HXU.out HA.out _).mono ?_); rintro e w11 ⟨rfl, hb⟩
  have hB := HH.out.below hb
  have y11 := hb.size
  try simp at y11
  clear HB HH hb c0a c0b c0c c0d z0 c1a c1b c1c c1d z1 c2a c2b c2c c2d z2 c3a c3b c3c c3d z3 zz e0a e0b e0c e0d e1a e1b e1c e1d e2a e2b e2c e2d e3a e3b e3c e3d
  obtain ⟨c0a, c0b, c0c, c0d⟩ := row2 (hB.blk (W.heap.size) (netB (a) (l)) (by simp))
  have z0 := size_of_block (hB.blk (W.heap.size) (netB (a) (l)) (by simp))
  obtain ⟨c1a, c1b, c1c, c1d⟩ := row2 (hB.blk (W.heap.size + 1) (netB (b) (m)) (by simp))
  have z1 := size_of_block (hB.blk (W.heap.size + 1) (netB (b) (m)) (by simp))
  obtain ⟨c2a, c2b, c2c, c2d⟩ := row2 (hB.blk (w5.heap.size) (netB ((u : Int)) ((k0 : Int))) (by simp))
  have z2 := size_of_block (hB.blk (w5.heap.size) (netB ((u : Int)) ((k0 : Int))) (by simp))
  obtain ⟨c3a, c3b, c3c, c3d⟩ := row2 (hB.blk (w6.heap.size) (netB ((u : Int)) ((k0 : Int))) (by simp))
  have z3 := size_of_block (hB.blk (w6.heap.size) (netB ((u : Int)) ((k0 : Int))) (by simp))
  obtain ⟨c4a, c4b, c4c, c4d⟩ := row2 (hB.blk (w10.heap.size) (netB (0) (0)) (by simp))
  have z4 := size_of_block (hB.blk (w10.heap.size) (netB (0) (0)) (by simp))
  obtain ⟨c5a, c5b, c5c, c5d⟩ := row2 (hB.blk (w10.heap.size + 1) (netB (0) (0)) (by simp))
  have z5 := size_of_block (hB.blk (w10.heap.size + 1) (netB (0) (0)) (by simp))
  obtain ⟨c6a, c6b, c6c, c6d⟩ := row2 (hB.blk (w10.heap.size + 1 + 1) (netB (0) (0)) (by simp))
  have z6 := size_of_block (hB.blk (w10.heap.size + 1 + 1) (netB (0) (0)) (by simp))
  obtain ⟨c7a, c7b, c7c, c7d⟩ := row2 (hB.blk (w10.heap.size + 1 + 1 + 1) (netB (0) (0)) (by simp))
  have z7 := size_of_block (hB.blk (w10.heap.size + 1 + 1 + 1) (netB (0) (0)) (by simp))
  have zz := hB.bel.size
  have HB := Lib.hid hB; clear hB
  go_wp2_with fail
  go_at_call 21
  have hH := (BL.set (L' := [(W.heap.size, netB (a) (l)), (W.heap.size + 1, netB (b) (m)), (w5.heap.size, netB ((u : Int)) ((k0 : Int))), (w6.heap.size, netB ((u : Int)) ((k0 : Int))), (w10.heap.size, netB (xu) (l - 1)), (w10.heap.size + 1, netB (0) (0)), (w10.heap.size + 1 + 1, netB (0) (0)), (w10.heap.size + 1 + 1 + 1, netB (0) (0))]) (g := w10.heap.size) (c0 := .int .u32 (0)) (c1 := .int .i64 (0)) (t := 24) (v0 := .int .u32 (xu)) (v1 := .int .i64 (l - 1)) HB.out (by omega) (by simp) (by intro e he; simp only [List.mem_cons, List.not_mem_nil, or_false] at he; rcases he with rfl | rfl | rfl | rfl | rfl | rfl | rfl | rfl <;> first | exact .inl rfl | exact .inr ⟨by simp only [ne_eq]; omega, by simp⟩))
  have HH := Lib.hid hH; clear hH
  (with_reducible refine (up_is HKP1.out HKP.out hkp32 HXU.out HA.out HZ.out _).mono ?_); rintro e w12 ⟨rfl, hb⟩
  have hB := HH.out.below hb
  have y12 := hb.size
  try simp at y12
  clear HB HH hb c0a c0b c0c c0d z0 c1a c1b c1c c1d z1 c2a c2b c2c c2d z2 c3a c3b c3c c3d z3 c4a c4b c4c c4d z4 c5a c5b c5c c5d z5 c6a c6b c6c c6d z6 c7a c7b c7c c7d z7 zz
  obtain ⟨c0a, c0b, c0c, c0d⟩ := row2 (hB.blk (W.heap.size) (netB (a) (l)) (by simp))
  have z0 := size_of_block (hB.blk (W.heap.size) (netB (a) (l)) (by simp))
  obtain ⟨c1a, c1b, c1c, c1d⟩ := row2 (hB.blk (W.heap.size + 1) (netB (b) (m)) (by simp))
  have z1 := size_of_block (hB.blk (W.heap.size + 1) (netB (b) (m)) (by simp))
  obtain ⟨c2a, c2b, c2c, c2d⟩ := row2 (hB.blk (w5.heap.size) (netB ((u : Int)) ((k0 : Int))) (by simp))
  have z2 := size_of_block (hB.blk (w5.heap.size) (netB ((u : Int)) ((k0 : Int))) (by simp))
  obtain ⟨c3a, c3b, c3c, c3d⟩ := row2 (hB.blk (w6.heap.size) (netB ((u : Int)) ((k0 : Int))) (by simp))
  have z3 := size_of_block (hB.blk (w6.heap.size) (netB ((u : Int)) ((k0 : Int))) (by simp))
  obtain ⟨c4a, c4b, c4c, c4d⟩ := row2 (hB.blk (w10.heap.size) (netB (xu) (l - 1)) (by simp))
  have z4 := size_of_block (hB.blk (w10.heap.size) (netB (xu) (l - 1)) (by simp))
  obtain ⟨c5a, c5b, c5c, c5d⟩ := row2 (hB.blk (w10.heap.size + 1) (netB (0) (0)) (by simp))
  have z5 := size_of_block (hB.blk (w10.heap.size + 1) (netB (0) (0)) (by simp))
  obtain ⟨c6a, c6b, c6c, c6d⟩ := row2 (hB.blk (w10.heap.size + 1 + 1) (netB (0) (0)) (by simp))
  have z6 := size_of_block (hB.blk (w10.heap.size + 1 + 1) (netB (0) (0)) (by simp))
  obtain ⟨c7a, c7b, c7c, c7d⟩ := row2 (hB.blk (w10.heap.size + 1 + 1 + 1) (netB (0) (0)) (by simp))
  have z7 := size_of_block (hB.blk (w10.heap.size + 1 + 1 + 1) (netB (0) (0)) (by simp))
  have zz := hB.bel.size
  have HB := Lib.hid hB; clear hB
  go_wp2_with fail
  go_at_call 6
  have hH := (HB.out.push (netB (xu) (l - 1)))
  have HH := Lib.hid hH; clear hH
  (with_reducible refine (error_is (k := 0) (e := 0) (v := .nilIface) (r := true) errV_zero rfl _ (HG2.out.below HH.out.bel)).mono ?_); rintro e w13 ⟨rfl, hb⟩
  have hB := HH.out.below hb
  have y13 := hb.size
  try simp at y13
  clear HB HH hb c0a c0b c0c c0d z0 c1a c1b c1c c1d z1 c2a c2b c2c c2d z2 c3a c3b c3c c3d z3 c4a c4b c4c c4d z4 c5a c5b c5c c5d z5 c6a c6b c6c c6d z6 c7a c7b c7c c7d z7 zz
  obtain ⟨c0a, c0b, c0c, c0d⟩ := row2 (hB.blk (W.heap.size) (netB (a) (l)) (by simp))
  have z0 := size_of_block (hB.blk (W.heap.size) (netB (a) (l)) (by simp))
  obtain ⟨c1a, c1b, c1c, c1d⟩ := row2 (hB.blk (W.heap.size + 1) (netB (b) (m)) (by simp))
  have z1 := size_of_block (hB.blk (W.heap.size + 1) (netB (b) (m)) (by simp))
  obtain ⟨c2a, c2b, c2c, c2d⟩ := row2 (hB.blk (w5.heap.size) (netB ((u : Int)) ((k0 : Int))) (by simp))
  have z2 := size_of_block (hB.blk (w5.heap.size) (netB ((u : Int)) ((k0 : Int))) (by simp))
  obtain ⟨c3a, c3b, c3c, c3d⟩ := row2 (hB.blk (w6.heap.size) (netB ((u : Int)) ((k0 : Int))) (by simp))
  have z3 := size_of_block (hB.blk (w6.heap.size) (netB ((u : Int)) ((k0 : Int))) (by simp))
  obtain ⟨c4a, c4b, c4c, c4d⟩ := row2 (hB.blk (w10.heap.size) (netB (xu) (l - 1)) (by simp))
  have z4 := size_of_block (hB.blk (w10.heap.size) (netB (xu) (l - 1)) (by simp))
  obtain ⟨c5a, c5b, c5c, c5d⟩ := row2 (hB.blk (w10.heap.size + 1) (netB (0) (0)) (by simp))
  have z5 := size_of_block (hB.blk (w10.heap.size + 1) (netB (0) (0)) (by simp))
  obtain ⟨c6a, c6b, c6c, c6d⟩ := row2 (hB.blk (w10.heap.size + 1 + 1) (netB (0) (0)) (by simp))
  have z6 := size_of_block (hB.blk (w10.heap.size + 1 + 1) (netB (0) (0)) (by simp))
  obtain ⟨c7a, c7b, c7c, c7d⟩ := row2 (hB.blk (w10.heap.size + 1 + 1 + 1) (netB (0) (0)) (by simp))
  have z7 := size_of_block (hB.blk (w10.heap.size + 1 + 1 + 1) (netB (0) (0)) (by simp))
  obtain ⟨c8a, c8b, c8c, c8d⟩ := row2 (hB.blk (w12.heap.size) (netB (xu) (l - 1)) (by simp))
  have z8 := size_of_block (hB.blk (w12.heap.size) (netB (xu) (l - 1)) (by simp))
  have zz := hB.bel.size
  have HB := Lib.hid hB; clear hB
  go_wp2_with fail
  go_at_call 22
  have hH := HB.out
  have HH := Lib.hid hH; clear hH
  (with_reducible refine (halvesone_is HL32.out HA.out HZ.out _).mono ?_); rintro e w14 ⟨rfl, hb⟩
  have hB := HH.out.below hb
  have y14 := hb.size
  clear HB HH hb c0a c0b c0c c0d z0 c1a c1b c1c c1d z1 c2a c2b c2c c2d z2 c3a c3b c3c c3d z3 c4a c4b c4c c4d z4 c5a c5b c5c c5d z5 c6a c6b c6c c6d z6 c7a c7b c7c c7d z7 c8a c8b c8c c8d z8 zz
  obtain ⟨c0a, c0b, c0c, c0d⟩ := row2 (hB.blk (W.heap.size) (netB (a) (l)) (by simp))
  have z0 := size_of_block (hB.blk (W.heap.size) (netB (a) (l)) (by simp))
  obtain ⟨c1a, c1b, c1c, c1d⟩ := row2 (hB.blk (W.heap.size + 1) (netB (b) (m)) (by simp))
  have z1 := size_of_block (hB.blk (W.heap.size + 1) (netB (b) (m)) (by simp))
  obtain ⟨c2a, c2b, c2c, c2d⟩ := row2 (hB.blk (w5.heap.size) (netB ((u : Int)) ((k0 : Int))) (by simp))
  have z2 := size_of_block (hB.blk (w5.heap.size) (netB ((u : Int)) ((k0 : Int))) (by simp))
  obtain ⟨c3a, c3b, c3c, c3d⟩ := row2 (hB.blk (w6.heap.size) (netB ((u : Int)) ((k0 : Int))) (by simp))
  have z3 := size_of_block (hB.blk (w6.heap.size) (netB ((u : Int)) ((k0 : Int))) (by simp))
  obtain ⟨c4a, c4b, c4c, c4d⟩ := row2 (hB.blk (w10.heap.size) (netB (xu) (l - 1)) (by simp))
  have z4 := size_of_block (hB.blk (w10.heap.size) (netB (xu) (l - 1)) (by simp))
  obtain ⟨c5a, c5b, c5c, c5d⟩ := row2 (hB.blk (w10.heap.size + 1) (netB (0) (0)) (by simp))
  have z5 := size_of_block (hB.blk (w10.heap.size + 1) (netB (0) (0)) (by simp))
  obtain ⟨c6a, c6b, c6c, c6d⟩ := row2 (hB.blk (w10.heap.size + 1 + 1) (netB (0) (0)) (by simp))
  have z6 := size_of_block (hB.blk (w10.heap.size + 1 + 1) (netB (0) (0)) (by simp))
  obtain ⟨c7a, c7b, c7c, c7d⟩ := row2 (hB.blk (w10.heap.size + 1 + 1 + 1) (netB (0) (0)) (by simp))
  have z7 := size_of_block (hB.blk (w10.heap.size + 1 + 1 + 1) (netB (0) (0)) (by simp))
  obtain ⟨c8a, c8b, c8c, c8d⟩ := row2 (hB.blk (w12.heap.size) (netB (xu) (l - 1)) (by simp))
  have z8 := size_of_block (hB.blk (w12.heap.size) (netB (xu) (l - 1)) (by simp))
  have zz := hB.bel.size
  have HB := Lib.hid hB; clear hB
  go_wp2_with fail
  go_at_call 6
  have hH := (HB.out.push2 (netB (0) (0)) (netB (0) (0)))
  have HH := Lib.hid hH; clear hH
  (with_reducible refine (error_is (k := 2) (e := 2) (v := .iface 26 (.int .i64 2)) (r := true) (errV_ne (by decide)) rfl _ (HG2.out.below HH.out.bel)).mono ?_); rintro e w15 ⟨rfl, hb⟩
  have hB := HH.out.below hb
  have y15 := hb.size
  try simp at y15
  clear HB HH hb c0a c0b c0c c0d z0 c1a c1b c1c c1d z1 c2a c2b c2c c2d z2 c3a c3b c3c c3d z3 c4a c4b c4c c4d z4 c5a c5b c5c c5d z5 c6a c6b c6c c6d z6 c7a c7b c7c c7d z7 c8a c8b c8c c8d z8 zz
  obtain ⟨c0a, c0b, c0c, c0d⟩ := row2 (hB.blk (W.heap.size) (netB (a) (l)) (by simp))
  have z0 := size_of_block (hB.blk (W.heap.size) (netB (a) (l)) (by simp))
  obtain ⟨c1a, c1b, c1c, c1d⟩ := row2 (hB.blk (W.heap.size + 1) (netB (b) (m)) (by simp))
  have z1 := size_of_block (hB.blk (W.heap.size + 1) (netB (b) (m)) (by simp))
  obtain ⟨c2a, c2b, c2c, c2d⟩ := row2 (hB.blk (w5.heap.size) (netB ((u : Int)) ((k0 : Int))) (by simp))
  have z2 := size_of_block (hB.blk (w5.heap.size) (netB ((u : Int)) ((k0 : Int))) (by simp))
  obtain ⟨c3a, c3b, c3c, c3d⟩ := row2 (hB.blk (w6.heap.size) (netB ((u : Int)) ((k0 : Int))) (by simp))
  have z3 := size_of_block (hB.blk (w6.heap.size) (netB ((u : Int)) ((k0 : Int))) (by simp))
  obtain ⟨c4a, c4b, c4c, c4d⟩ := row2 (hB.blk (w10.heap.size) (netB (xu) (l - 1)) (by simp))
  have z4 := size_of_block (hB.blk (w10.heap.size) (netB (xu) (l - 1)) (by simp))
  obtain ⟨c5a, c5b, c5c, c5d⟩ := row2 (hB.blk (w10.heap.size + 1) (netB (0) (0)) (by simp))
  have z5 := size_of_block (hB.blk (w10.heap.size + 1) (netB (0) (0)) (by simp))
  obtain ⟨c6a, c6b, c6c, c6d⟩ := row2 (hB.blk (w10.heap.size + 1 + 1) (netB (0) (0)) (by simp))
  have z6 := size_of_block (hB.blk (w10.heap.size + 1 + 1) (netB (0) (0)) (by simp))
  obtain ⟨c7a, c7b, c7c, c7d⟩ := row2 (hB.blk (w10.heap.size + 1 + 1 + 1) (netB (0) (0)) (by simp))
  have z7 := size_of_block (hB.blk (w10.heap.size + 1 + 1 + 1) (netB (0) (0)) (by simp))
  obtain ⟨c8a, c8b, c8c, c8d⟩ := row2 (hB.blk (w12.heap.size) (netB (xu) (l - 1)) (by simp))
  have z8 := size_of_block (hB.blk (w12.heap.size) (netB (xu) (l - 1)) (by simp))
  obtain ⟨c9a, c9b, c9c, c9d⟩ := row2 (hB.blk (w14.heap.size) (netB (0) (0)) (by simp))
  have z9 := size_of_block (hB.blk (w14.heap.size) (netB (0) (0)) (by simp))
  obtain ⟨c10a, c10b, c10c, c10d⟩ := row2 (hB.blk (w14.heap.size + 1) (netB (0) (0)) (by simp))
  have z10 := size_of_block (hB.blk (w14.heap.size + 1) (netB (0) (0)) (by simp))
  have zz := hB.bel.size
  have HB := Lib.hid hB; clear hB
  go_wp2_with fail
  go_at_call 23
  have hH := HB.out
  have HH := Lib.hid hH; clear hH
  (with_reducible refine (commonbad2_f HF.out HFN.out HA.out HBB.out HZ.out _).mono ?_); rintro e w16 ⟨rfl, hb⟩
  have hB := HH.out.below hb
  have y16 := hb.size
  clear HB HH hb c0a c0b c0c c0d z0 c1a c1b c1c c1d z1 c2a c2b c2c c2d z2 c3a c3b c3c c3d z3 c4a c4b c4c c4d z4 c5a c5b c5c c5d z5 c6a c6b c6c c6d z6 c7a c7b c7c c7d z7 c8a c8b c8c c8d z8 c9a c9b c9c c9d z9 c10a c10b c10c c10d z10 zz
  obtain ⟨c0a, c0b, c0c, c0d⟩ := row2 (hB.blk (W.heap.size) (netB (a) (l)) (by simp))
  have z0 := size_of_block (hB.blk (W.heap.size) (netB (a) (l)) (by simp))
  obtain ⟨c1a, c1b, c1c, c1d⟩ := row2 (hB.blk (W.heap.size + 1) (netB (b) (m)) (by simp))
  have z1 := size_of_block (hB.blk (W.heap.size + 1) (netB (b) (m)) (by simp))
  obtain ⟨c2a, c2b, c2c, c2d⟩ := row2 (hB.blk (w5.heap.size) (netB ((u : Int)) ((k0 : Int))) (by simp))
  have z2 := size_of_block (hB.blk (w5.heap.size) (netB ((u : Int)) ((k0 : Int))) (by simp))
  obtain ⟨c3a, c3b, c3c, c3d⟩ := row2 (hB.blk (w6.heap.size) (netB ((u : Int)) ((k0 : Int))) (by simp))
  have z3 := size_of_block (hB.blk (w6.heap.size) (netB ((u : Int)) ((k0 : Int))) (by simp))
  obtain ⟨c4a, c4b, c4c, c4d⟩ := row2 (hB.blk (w10.heap.size) (netB (xu) (l - 1)) (by simp))
  have z4 := size_of_block (hB.blk (w10.heap.size) (netB (xu) (l - 1)) (by simp))
  obtain ⟨c5a, c5b, c5c, c5d⟩ := row2 (hB.blk (w10.heap.size + 1) (netB (0) (0)) (by simp))
  have z5 := size_of_block (hB.blk (w10.heap.size + 1) (netB (0) (0)) (by simp))
  obtain ⟨c6a, c6b, c6c, c6d⟩ := row2 (hB.blk (w10.heap.size + 1 + 1) (netB (0) (0)) (by simp))
  have z6 := size_of_block (hB.blk (w10.heap.size + 1 + 1) (netB (0) (0)) (by simp))
  obtain ⟨c7a, c7b, c7c, c7d⟩ := row2 (hB.blk (w10.heap.size + 1 + 1 + 1) (netB (0) (0)) (by simp))
  have z7 := size_of_block (hB.blk (w10.heap.size + 1 + 1 + 1) (netB (0) (0)) (by simp))
  obtain ⟨c8a, c8b, c8c, c8d⟩ := row2 (hB.blk (w12.heap.size) (netB (xu) (l - 1)) (by simp))
  have z8 := size_of_block (hB.blk (w12.heap.size) (netB (xu) (l - 1)) (by simp))
  obtain ⟨c9a, c9b, c9c, c9d⟩ := row2 (hB.blk (w14.heap.size) (netB (0) (0)) (by simp))
  have z9 := size_of_block (hB.blk (w14.heap.size) (netB (0) (0)) (by simp))
  obtain ⟨c10a, c10b, c10c, c10d⟩ := row2 (hB.blk (w14.heap.size + 1) (netB (0) (0)) (by simp))
  have z10 := size_of_block (hB.blk (w14.heap.size + 1) (netB (0) (0)) (by simp))
  have zz := hB.bel.size
  have HB := Lib.hid hB; clear hB
  go_wp2_with fail
  go_at_call 6
  have hH := (HB.out.push (netB (0) (0)))
  have HH := Lib.hid hH; clear hH
  (with_reducible refine (error_is (k := f) (e := f) (v := .iface 26 (.int .i64 f)) (r := true) HEV.out HFF.out _ (HG2.out.below HH.out.bel)).mono ?_); rintro e w17 ⟨rfl, hb⟩
  have hB := HH.out.below hb
  have y17 := hb.size
  try simp at y17
  clear HB HH hb c0a c0b c0c c0d z0 c1a c1b c1c c1d z1 c2a c2b c2c c2d z2 c3a c3b c3c c3d z3 c4a c4b c4c c4d z4 c5a c5b c5c c5d z5 c6a c6b c6c c6d z6 c7a c7b c7c c7d z7 c8a c8b c8c c8d z8 c9a c9b c9c c9d z9 c10a c10b c10c c10d z10 zz
  obtain ⟨c0a, c0b, c0c, c0d⟩ := row2 (hB.blk (W.heap.size) (netB (a) (l)) (by simp))
  have z0 := size_of_block (hB.blk (W.heap.size) (netB (a) (l)) (by simp))
  obtain ⟨c1a, c1b, c1c, c1d⟩ := row2 (hB.blk (W.heap.size + 1) (netB (b) (m)) (by simp))
  have z1 := size_of_block (hB.blk (W.heap.size + 1) (netB (b) (m)) (by simp))
  obtain ⟨c2a, c2b, c2c, c2d⟩ := row2 (hB.blk (w5.heap.size) (netB ((u : Int)) ((k0 : Int))) (by simp))
  have z2 := size_of_block (hB.blk (w5.heap.size) (netB ((u : Int)) ((k0 : Int))) (by simp))
  obtain ⟨c3a, c3b, c3c, c3d⟩ := row2 (hB.blk (w6.heap.size) (netB ((u : Int)) ((k0 : Int))) (by simp))
  have z3 := size_of_block (hB.blk (w6.heap.size) (netB ((u : Int)) ((k0 : Int))) (by simp))
  obtain ⟨c4a, c4b, c4c, c4d⟩ := row2 (hB.blk (w10.heap.size) (netB (xu) (l - 1)) (by simp))
  have z4 := size_of_block (hB.blk (w10.heap.size) (netB (xu) (l - 1)) (by simp))
  obtain ⟨c5a, c5b, c5c, c5d⟩ := row2 (hB.blk (w10.heap.size + 1) (netB (0) (0)) (by simp))
  have z5 := size_of_block (hB.blk (w10.heap.size + 1) (netB (0) (0)) (by simp))
  obtain ⟨c6a, c6b, c6c, c6d⟩ := row2 (hB.blk (w10.heap.size + 1 + 1) (netB (0) (0)) (by simp))
  have z6 := size_of_block (hB.blk (w10.heap.size + 1 + 1) (netB (0) (0)) (by simp))
  obtain ⟨c7a, c7b, c7c, c7d⟩ := row2 (hB.blk (w10.heap.size + 1 + 1 + 1) (netB (0) (0)) (by simp))
  have z7 := size_of_block (hB.blk (w10.heap.size + 1 + 1 + 1) (netB (0) (0)) (by simp))
  obtain ⟨c8a, c8b, c8c, c8d⟩ := row2 (hB.blk (w12.heap.size) (netB (xu) (l - 1)) (by simp))
  have z8 := size_of_block (hB.blk (w12.heap.size) (netB (xu) (l - 1)) (by simp))
  obtain ⟨c9a, c9b, c9c, c9d⟩ := row2 (hB.blk (w14.heap.size) (netB (0) (0)) (by simp))
  have z9 := size_of_block (hB.blk (w14.heap.size) (netB (0) (0)) (by simp))
  obtain ⟨c10a, c10b, c10c, c10d⟩ := row2 (hB.blk (w14.heap.size + 1) (netB (0) (0)) (by simp))
  have z10 := size_of_block (hB.blk (w14.heap.size + 1) (netB (0) (0)) (by simp))
  obtain ⟨c11a, c11b, c11c, c11d⟩ := row2 (hB.blk (w16.heap.size) (netB (0) (0)) (by simp))
  have z11 := size_of_block (hB.blk (w16.heap.size) (netB (0) (0)) (by simp))
  have zz := hB.bel.size
  have HB := Lib.hid hB; clear hB
  go_wp2
  go_ret
  exact ⟨rfl, HB.out.bel⟩

end Go.Proofs.YtohfeoahdbfjbaaGreatDoor
