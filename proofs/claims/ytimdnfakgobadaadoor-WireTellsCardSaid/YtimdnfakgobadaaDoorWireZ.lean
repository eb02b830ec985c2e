/- WireTells: its walk. -/
import Derived.Test.YtimdnfakgobadaaDoorWireY
import Derived.Test.YtimdnfakgobadaaDoorWireB
import Derived.Test.YtimdnfakgobadaaDoorWireM
import Derived.Test.YtimdnfakgobadaaDoorHandle
namespace Go.Proofs.YtimdnfakgobadaaDoor
open Go.ChangeShapes Go.WideShapes Go.ChangeAt Go.RowKit
set_option linter.unusedVariables false
set_option linter.unusedSimpArgs false
theorem dec_err {b : List Int} (h : (decM b).2 ≠ 0) : (decM b).1 = (false, []) := by
  unfold decM at h ⊢
  split at h
  · rename_i h1
    rw [if_pos h1]
    split at h
    · rename_i h2; rw [if_pos h2]
    · rename_i h2
      rw [if_neg h2]
      split at h
      · rfl
      · rfl
      · exact absurd rfl h
  · rename_i h1; rw [if_neg h1]
set_option maxRecDepth 100000 in
set_option maxHeartbeats 16000000 in
theorem WireTells_11 {W : World} {q : Bool} {A B : Option Addr} {n c nb cb : Nat} {es : List Entry} {b : List Int} (hm : R1 rdEntries W (.slice A n c) es) (hb : R1 rdBytes W (.slice B nb cb) b) (hnb : nb ≤ 140737488355328) (hg : HErr W) (hF : msgF (q, es) = 0) (hD : (decM b).2 = 0) :
    Calls Tryd.prog 4 #[.agg #[.bool q, .slice A n c], .slice B nb cb] W fun e w' => e = .returned (.bool true) ∧ Below W.heap.size W w' := by
  have HM := Lib.hid hm
  have HBB := Lib.hid hb
  have HG := Lib.hid hg
  obtain ⟨F, hf⟩ : ∃ F, msgF (q, es) = F := ⟨_, rfl⟩
  obtain ⟨D, hd⟩ : ∃ D, (decM b).2 = D := ⟨_, rfl⟩
  have HFF := Lib.hid hF
  have HDD := Lib.hid hD
  have HF := Lib.hid hf
  have HD := Lib.hid hd
  obtain ⟨VF, hvf⟩ : ∃ V, errV F = V := ⟨_, rfl⟩
  obtain ⟨VD, hvd⟩ : ∃ V, errV D = V := ⟨_, rfl⟩
  have HVF := Lib.hid hvf
  have HVD := Lib.hid hvd
  have HSF : Hid ((F == F) = true) := Lib.hid (by simp)
  have HSD : Hid ((D == D) = true) := Lib.hid (by simp)
  rw [hf] at hF
  rw [hd] at hD
  have tF : F = 0 := hF
  have tD : (D != 0) = false := by simp [hD]
  have HB0 := Lib.hid (alloc1v W (.cells #[.bool q, .slice A n c] 35))
  have Hx0 := Lib.hid (heap_alloc_new W (.cells #[.bool q, .slice A n c] 35))
  obtain ⟨X, hX⟩ : ∃ X, W.heap.size = X := ⟨_, rfl⟩
  rw [hX] at Hx0
  clear hm hb hg hf hd hF hD hvf hvd
  go_enter Tryd.func4, Tryd.ntmps4
  go_wp2_with fail
  try rw [hX]
  generalize hw0 : W.alloc (.cells #[.bool q, .slice A n c] 35) = w0 at *
  clear hw0 hX
  subst tF
  obtain rfl : VF = .nilIface := by rw [← HVF.out]; rfl
  go_at_call 11
  (with_reducible refine (wired_any _).mono ?_)
  rintro e w1 ⟨rfl, hb1⟩
  have HB1 := Lib.hid (HB0.out.trans (hb1.mono HB0.out.size))
  have Hx1 := Lib.hid (blkv hb1 (size_of_block Hx0.out) Hx0.out)
  clear hb1
  obtain ⟨x0, x1, x2, x3⟩ := row2 Hx1.out
  have HR := Lib.hid (HM.out.below HB1.out)
  go_wp2_with fail
  go_at_call 12
  (with_reducible refine (Fault_msg HR.out).mono ?_)
  rw [HF.out]
  rintro e w2 ⟨rfl, hb2⟩
  clear HR
  have HB2 := Lib.hid (HB1.out.trans (hb2.mono HB1.out.size))
  have Hx2 := Lib.hid (blkv hb2 (size_of_block Hx1.out) Hx1.out)
  clear hb2
  clear x0 x1 x2 x3
  obtain ⟨x0, x1, x2, x3⟩ := row2 Hx2.out
  have HR := Lib.hid (HM.out.below HB2.out)
  go_wp2_with fail
  go_at_call 13
  (with_reducible refine (Check_msg HR.out).mono ?_)
  rw [HF.out, errV_zero]
  rintro e w3 ⟨rfl, hb3⟩
  clear HR
  have HB3 := Lib.hid (HB2.out.trans (hb3.mono HB2.out.size))
  have Hx3 := Lib.hid (blkv hb3 (size_of_block Hx2.out) Hx2.out)
  clear hb3
  clear x0 x1 x2 x3
  obtain ⟨x0, x1, x2, x3⟩ := row2 Hx3.out
  have HGW := Lib.hid (HG.out.below HB3.out)
  go_wp2_with fail
  go_at_call 9
  (with_reducible refine (error_is HVF.out HSF.out _ HGW.out).mono ?_)
  rintro e w4 ⟨rfl, hb4⟩
  clear HGW
  have HB4 := Lib.hid (HB3.out.trans (hb4.mono HB3.out.size))
  have Hx4 := Lib.hid (blkv hb4 (size_of_block Hx3.out) Hx3.out)
  clear hb4
  clear x0 x1 x2 x3
  obtain ⟨x0, x1, x2, x3⟩ := row2 Hx4.out
  have HR := Lib.hid (HM.out.below HB4.out)
  go_wp2_with fail
  go_at_call 14
  (with_reducible refine (BytesOf_any HR.out HFF.out).mono ?_)
  rintro e w5 ⟨v5, rfl, hr5, hb5⟩
  obtain ⟨A5, c5, rfl⟩ := R1.form hr5
  have HW5 := Lib.hid hr5
  clear HR hr5
  have HB5 := Lib.hid (HB4.out.trans (hb5.mono HB4.out.size))
  have Hx5 := Lib.hid (blkv hb5 (size_of_block Hx4.out) Hx4.out)
  clear hb5
  clear x0 x1 x2 x3
  obtain ⟨x0, x1, x2, x3⟩ := row2 Hx5.out
  obtain ⟨L, hL⟩ : ∃ L, (msgB (q, es)).length = L := ⟨_, rfl⟩
  rw [hL] at HW5 ⊢
  have HR := Lib.hid (HM.out.below HB5.out)
  go_wp2_with fail
  go_at_call 15
  (with_reducible refine (Encode_ok HR.out HFF.out).mono ?_)
  rintro e w6 ⟨v6, rfl, hr6, hb6⟩
  obtain ⟨A6, c6, rfl⟩ := R1.form hr6
  rw [hL] at hr6 ⊢
  have HE6 := Lib.hid hr6
  have HW6 := Lib.hid (HW5.out.below hb6)
  clear HR hr6 hL
  have HB6 := Lib.hid (HB5.out.trans (hb6.mono HB5.out.size))
  have Hx6 := Lib.hid (blkv hb6 (size_of_block Hx5.out) Hx5.out)
  clear hb6
  clear x0 x1 x2 x3
  obtain ⟨x0, x1, x2, x3⟩ := row2 Hx6.out
  have HGW := Lib.hid (HG.out.below HB6.out)
  go_wp2_with fail
  go_at_call 9
  (with_reducible refine (error_is HVF.out HSF.out _ HGW.out).mono ?_)
  rintro e w7 ⟨rfl, hb7⟩
  clear HGW
  have HE7 := Lib.hid (HE6.out.below hb7)
  have HW7 := Lib.hid (HW6.out.below hb7)
  have HB7 := Lib.hid (HB6.out.trans (hb7.mono HB6.out.size))
  have Hx7 := Lib.hid (blkv hb7 (size_of_block Hx6.out) Hx6.out)
  clear hb7
  clear x0 x1 x2 x3
  obtain ⟨x0, x1, x2, x3⟩ := row2 Hx7.out
  go_wp2_with fail
  go_at_call 16
  (with_reducible refine (Bytes_eq HE7.out HW7.out).mono ?_)
  rintro e w8 ⟨rfl, d8, hw8⟩
  have hb8 : Below w7.heap.size w7 w8 := by rw [hw8]; exact below_drewN (Below.refl _ _) _
  clear hw8
  have HB8 := Lib.hid (HB7.out.trans (hb8.mono HB7.out.size))
  have Hx8 := Lib.hid (blkv hb8 (size_of_block Hx7.out) Hx7.out)
  clear hb8
  clear x0 x1 x2 x3
  obtain ⟨x0, x1, x2, x3⟩ := row2 Hx8.out
  have HR := Lib.hid (HBB.out.below HB8.out)
  go_wp2_with fail
  go_at_call 17
  (with_reducible refine (MessageOf_any HR.out hnb).mono ?_)
  rintro e w9 ⟨q9, A9, n9, c9, rfl, hq9, hr9, hb9⟩
  rw [HD.out]
  have HQ9 := Lib.hid hq9
  have HR9 := Lib.hid hr9
  clear HR hq9 hr9
  have HB9 := Lib.hid (HB8.out.trans (hb9.mono HB8.out.size))
  have Hx9 := Lib.hid (blkv hb9 (size_of_block Hx8.out) Hx8.out)
  clear hb9
  have hb10 := alloc1v w9 (.cells #[.bool q9, .slice A9 n9 c9] 35)
  have Hy10 := Lib.hid (heap_alloc_new w9 (.cells #[.bool q9, .slice A9 n9 c9] 35))
  have HR10 := Lib.hid (HR9.out.below hb10)
  have HB10 := Lib.hid (HB9.out.trans (hb10.mono HB9.out.size))
  have Hx10 := Lib.hid (blkv hb10 (size_of_block Hx9.out) Hx9.out)
  clear hb10
  clear x0 x1 x2 x3
  go_wp2_with fail
  obtain ⟨Y, hY⟩ : ∃ Y, w9.heap.size = Y := ⟨_, rfl⟩
  rw [hY] at Hy10
  try rw [hY]
  generalize hw10 : w9.alloc (.cells #[.bool q9, .slice A9 n9 c9] 35) = w10 at *
  clear hw10 hY
  have HR := Lib.hid (HBB.out.below HB10.out)
  go_at_call 18
  (with_reducible refine (Decode_any HR.out).mono ?_)
  rintro e w11 ⟨q11, v11, rfl, hq11, hr11, hb11⟩
  obtain ⟨A11, c11, rfl⟩ := R1.form hr11
  obtain ⟨L11, hL11⟩ : ∃ L, (decM b).1.2.length = L := ⟨_, rfl⟩
  rw [hL11] at hr11 ⊢
  rw [HD.out, HVD.out]
  have HQ11 := Lib.hid hq11
  have HR11 := Lib.hid hr11
  clear HR hq11 hr11 hL11
  have HR10b := Lib.hid (HR10.out.below hb11)
  have HB11 := Lib.hid (HB10.out.trans (hb11.mono HB10.out.size))
  have Hy11 := Lib.hid (blkv hb11 (size_of_block Hy10.out) Hy10.out)
  clear hb11
  have hb12 := alloc1v w11 (.cells #[.bool q11, .slice A11 L11 c11] 35)
  have Hz12 := Lib.hid (heap_alloc_new w11 (.cells #[.bool q11, .slice A11 L11 c11] 35))
  have HR12 := Lib.hid (HR11.out.below hb12)
  have HW12 := Lib.hid (HR10b.out.below hb12)
  have HB12 := Lib.hid (HB11.out.trans (hb12.mono HB11.out.size))
  have Hy12 := Lib.hid (blkv hb12 (size_of_block Hy11.out) Hy11.out)
  clear hb12
  go_wp2_with fail
  obtain ⟨Z, hZ⟩ : ∃ Z, w11.heap.size = Z := ⟨_, rfl⟩
  rw [hZ] at Hz12
  try rw [hZ]
  generalize hw12 : w11.alloc (.cells #[.bool q11, .slice A11 L11 c11] 35) = w12 at *
  clear hw12 hZ
  have HGW := Lib.hid (HG.out.below HB12.out)
  go_at_call 9
  (with_reducible refine (error_is HVD.out HSD.out _ HGW.out).mono ?_)
  rintro e w13 ⟨rfl, hb13⟩
  have HR13 := Lib.hid (HR12.out.below hb13)
  clear HGW
  have HW13 := Lib.hid (HW12.out.below hb13)
  have HB13 := Lib.hid (HB12.out.trans (hb13.mono HB12.out.size))
  have Hy13 := Lib.hid (blkv hb13 (size_of_block Hy12.out) Hy12.out)
  have Hz13 := Lib.hid (blkv hb13 (size_of_block Hz12.out) Hz12.out)
  clear hb13
  obtain ⟨y0, y1, y2, y3⟩ := row2 Hy13.out
  obtain ⟨z0, z1, z2, z3⟩ := row2 Hz13.out
  obtain rfl : q11 = q9 := by rw [HQ11.out, HQ9.out]
  go_wp2_with fail
  go_at_call 19
  (with_reducible refine (Message_eq HR13.out HW13.out).mono ?_)
  rintro e w15 ⟨rfl, hb15⟩
  have HB15 := Lib.hid (HB13.out.trans (hb15.mono HB13.out.size))
  clear hb15 y0 y1 y2 y3 z0 z1 z2 z3
  go_wp2
  go_ret
  exact ⟨rfl, HB15.out⟩
set_option maxRecDepth 100000 in
set_option maxHeartbeats 16000000 in
theorem WireTells_10 {W : World} {q : Bool} {A B : Option Addr} {n c nb cb : Nat} {es : List Entry} {b : List Int} (hm : R1 rdEntries W (.slice A n c) es) (hb : R1 rdBytes W (.slice B nb cb) b) (hnb : nb ≤ 140737488355328) (hg : HErr W) (hF : msgF (q, es) = 0) (hD : (decM b).2 ≠ 0) :
    Calls Tryd.prog 4 #[.agg #[.bool q, .slice A n c], .slice B nb cb] W fun e w' => e = .returned (.bool true) ∧ Below W.heap.size W w' := by
  have HM := Lib.hid hm
  have HBB := Lib.hid hb
  have HG := Lib.hid hg
  obtain ⟨F, hf⟩ : ∃ F, msgF (q, es) = F := ⟨_, rfl⟩
  obtain ⟨D, hd⟩ : ∃ D, (decM b).2 = D := ⟨_, rfl⟩
  have HFF := Lib.hid hF
  have HDD := Lib.hid hD
  have HF := Lib.hid hf
  have HD := Lib.hid hd
  obtain ⟨VF, hvf⟩ : ∃ V, errV F = V := ⟨_, rfl⟩
  obtain ⟨VD, hvd⟩ : ∃ V, errV D = V := ⟨_, rfl⟩
  have HVF := Lib.hid hvf
  have HVD := Lib.hid hvd
  have HSF : Hid ((F == F) = true) := Lib.hid (by simp)
  have HSD : Hid ((D == D) = true) := Lib.hid (by simp)
  rw [hf] at hF
  rw [hd] at hD
  have tF : F = 0 := hF
  have tD : (D != 0) = true := by simp [hD]
  have HB0 := Lib.hid (alloc1v W (.cells #[.bool q, .slice A n c] 35))
  have Hx0 := Lib.hid (heap_alloc_new W (.cells #[.bool q, .slice A n c] 35))
  obtain ⟨X, hX⟩ : ∃ X, W.heap.size = X := ⟨_, rfl⟩
  rw [hX] at Hx0
  clear hm hb hg hf hd hF hD hvf hvd
  go_enter Tryd.func4, Tryd.ntmps4
  go_wp2_with fail
  try rw [hX]
  generalize hw0 : W.alloc (.cells #[.bool q, .slice A n c] 35) = w0 at *
  clear hw0 hX
  subst tF
  obtain rfl : VF = .nilIface := by rw [← HVF.out]; rfl
  go_at_call 11
  (with_reducible refine (wired_any _).mono ?_)
  rintro e w1 ⟨rfl, hb1⟩
  have HB1 := Lib.hid (HB0.out.trans (hb1.mono HB0.out.size))
  have Hx1 := Lib.hid (blkv hb1 (size_of_block Hx0.out) Hx0.out)
  clear hb1
  obtain ⟨x0, x1, x2, x3⟩ := row2 Hx1.out
  have HR := Lib.hid (HM.out.below HB1.out)
  go_wp2_with fail
  go_at_call 12
  (with_reducible refine (Fault_msg HR.out).mono ?_)
  rw [HF.out]
  rintro e w2 ⟨rfl, hb2⟩
  clear HR
  have HB2 := Lib.hid (HB1.out.trans (hb2.mono HB1.out.size))
  have Hx2 := Lib.hid (blkv hb2 (size_of_block Hx1.out) Hx1.out)
  clear hb2
  clear x0 x1 x2 x3
  obtain ⟨x0, x1, x2, x3⟩ := row2 Hx2.out
  have HR := Lib.hid (HM.out.below HB2.out)
  go_wp2_with fail
  go_at_call 13
  (with_reducible refine (Check_msg HR.out).mono ?_)
  rw [HF.out, errV_zero]
  rintro e w3 ⟨rfl, hb3⟩
  clear HR
  have HB3 := Lib.hid (HB2.out.trans (hb3.mono HB2.out.size))
  have Hx3 := Lib.hid (blkv hb3 (size_of_block Hx2.out) Hx2.out)
  clear hb3
  clear x0 x1 x2 x3
  obtain ⟨x0, x1, x2, x3⟩ := row2 Hx3.out
  have HGW := Lib.hid (HG.out.below HB3.out)
  go_wp2_with fail
  go_at_call 9
  (with_reducible refine (error_is HVF.out HSF.out _ HGW.out).mono ?_)
  rintro e w4 ⟨rfl, hb4⟩
  clear HGW
  have HB4 := Lib.hid (HB3.out.trans (hb4.mono HB3.out.size))
  have Hx4 := Lib.hid (blkv hb4 (size_of_block Hx3.out) Hx3.out)
  clear hb4
  clear x0 x1 x2 x3
  obtain ⟨x0, x1, x2, x3⟩ := row2 Hx4.out
  have HR := Lib.hid (HM.out.below HB4.out)
  go_wp2_with fail
  go_at_call 14
  (with_reducible refine (BytesOf_any HR.out HFF.out).mono ?_)
  rintro e w5 ⟨v5, rfl, hr5, hb5⟩
  obtain ⟨A5, c5, rfl⟩ := R1.form hr5
  have HW5 := Lib.hid hr5
  clear HR hr5
  have HB5 := Lib.hid (HB4.out.trans (hb5.mono HB4.out.size))
  have Hx5 := Lib.hid (blkv hb5 (size_of_block Hx4.out) Hx4.out)
  clear hb5
  clear x0 x1 x2 x3
  obtain ⟨x0, x1, x2, x3⟩ := row2 Hx5.out
  obtain ⟨L, hL⟩ : ∃ L, (msgB (q, es)).length = L := ⟨_, rfl⟩
  rw [hL] at HW5 ⊢
  have HR := Lib.hid (HM.out.below HB5.out)
  go_wp2_with fail
  go_at_call 15
  (with_reducible refine (Encode_ok HR.out HFF.out).mono ?_)
  rintro e w6 ⟨v6, rfl, hr6, hb6⟩
  obtain ⟨A6, c6, rfl⟩ := R1.form hr6
  rw [hL] at hr6 ⊢
  have HE6 := Lib.hid hr6
  have HW6 := Lib.hid (HW5.out.below hb6)
  clear HR hr6 hL
  have HB6 := Lib.hid (HB5.out.trans (hb6.mono HB5.out.size))
  have Hx6 := Lib.hid (blkv hb6 (size_of_block Hx5.out) Hx5.out)
  clear hb6
  clear x0 x1 x2 x3
  obtain ⟨x0, x1, x2, x3⟩ := row2 Hx6.out
  have HGW := Lib.hid (HG.out.below HB6.out)
  go_wp2_with fail
  go_at_call 9
  (with_reducible refine (error_is HVF.out HSF.out _ HGW.out).mono ?_)
  rintro e w7 ⟨rfl, hb7⟩
  clear HGW
  have HE7 := Lib.hid (HE6.out.below hb7)
  have HW7 := Lib.hid (HW6.out.below hb7)
  have HB7 := Lib.hid (HB6.out.trans (hb7.mono HB6.out.size))
  have Hx7 := Lib.hid (blkv hb7 (size_of_block Hx6.out) Hx6.out)
  clear hb7
  clear x0 x1 x2 x3
  obtain ⟨x0, x1, x2, x3⟩ := row2 Hx7.out
  go_wp2_with fail
  go_at_call 16
  (with_reducible refine (Bytes_eq HE7.out HW7.out).mono ?_)
  rintro e w8 ⟨rfl, d8, hw8⟩
  have hb8 : Below w7.heap.size w7 w8 := by rw [hw8]; exact below_drewN (Below.refl _ _) _
  clear hw8
  have HB8 := Lib.hid (HB7.out.trans (hb8.mono HB7.out.size))
  have Hx8 := Lib.hid (blkv hb8 (size_of_block Hx7.out) Hx7.out)
  clear hb8
  clear x0 x1 x2 x3
  obtain ⟨x0, x1, x2, x3⟩ := row2 Hx8.out
  have HR := Lib.hid (HBB.out.below HB8.out)
  go_wp2_with fail
  go_at_call 17
  (with_reducible refine (MessageOf_any HR.out hnb).mono ?_)
  rintro e w9 ⟨q9, A9, n9, c9, rfl, hq9, hr9, hb9⟩
  rw [HD.out]
  have HQ9 := Lib.hid hq9
  have HR9 := Lib.hid hr9
  clear HR hq9 hr9
  have HB9 := Lib.hid (HB8.out.trans (hb9.mono HB8.out.size))
  have Hx9 := Lib.hid (blkv hb9 (size_of_block Hx8.out) Hx8.out)
  clear hb9
  have Hq : Hid (q9 = false) := Lib.hid (by rw [HQ9.out, dec_err HDD.out])
  have hb10 := alloc1v w9 (.cells #[.bool false, .slice none 0 0] 35)
  have Hy10 := Lib.hid (heap_alloc_new w9 (.cells #[.bool false, .slice none 0 0] 35))
  have HB10 := Lib.hid (HB9.out.trans (hb10.mono HB9.out.size))
  have Hx10 := Lib.hid (blkv hb10 (size_of_block Hx9.out) Hx9.out)
  clear hb10
  clear x0 x1 x2 x3
  go_wp2_with fail
  obtain ⟨Y, hY⟩ : ∃ Y, w9.heap.size = Y := ⟨_, rfl⟩
  rw [hY] at Hy10
  try rw [hY]
  generalize hw10 : w9.alloc (.cells #[.bool false, .slice none 0 0] 35) = w10 at *
  clear hw10 hY
  have HR := Lib.hid (HBB.out.below HB10.out)
  go_at_call 18
  (with_reducible refine (Decode_any HR.out).mono ?_)
  rintro e w11 ⟨q11, v11, rfl, hq11, hr11, hb11⟩
  obtain ⟨A11, c11, rfl⟩ := R1.form hr11
  obtain ⟨L11, hL11⟩ : ∃ L, (decM b).1.2.length = L := ⟨_, rfl⟩
  rw [hL11] at hr11 ⊢
  rw [HD.out, HVD.out]
  have HQ11 := Lib.hid hq11
  have HR11 := Lib.hid hr11
  clear HR hq11 hr11 hL11
  have HB11 := Lib.hid (HB10.out.trans (hb11.mono HB10.out.size))
  have Hy11 := Lib.hid (blkv hb11 (size_of_block Hy10.out) Hy10.out)
  clear hb11
  have hb12 := alloc1v w11 (.cells #[.bool q11, .slice A11 L11 c11] 35)
  have Hz12 := Lib.hid (heap_alloc_new w11 (.cells #[.bool q11, .slice A11 L11 c11] 35))
  have HR12 := Lib.hid (HR11.out.below hb12)
  have HB12 := Lib.hid (HB11.out.trans (hb12.mono HB11.out.size))
  have Hy12 := Lib.hid (blkv hb12 (size_of_block Hy11.out) Hy11.out)
  clear hb12
  go_wp2_with fail
  obtain ⟨Z, hZ⟩ : ∃ Z, w11.heap.size = Z := ⟨_, rfl⟩
  rw [hZ] at Hz12
  try rw [hZ]
  generalize hw12 : w11.alloc (.cells #[.bool q11, .slice A11 L11 c11] 35) = w12 at *
  clear hw12 hZ
  have HGW := Lib.hid (HG.out.below HB12.out)
  go_at_call 9
  (with_reducible refine (error_is HVD.out HSD.out _ HGW.out).mono ?_)
  rintro e w13 ⟨rfl, hb13⟩
  have HR13 := Lib.hid (HR12.out.below hb13)
  clear HGW
  have HB13 := Lib.hid (HB12.out.trans (hb13.mono HB12.out.size))
  have Hy13 := Lib.hid (blkv hb13 (size_of_block Hy12.out) Hy12.out)
  have Hz13 := Lib.hid (blkv hb13 (size_of_block Hz12.out) Hz12.out)
  clear hb13
  obtain ⟨y0, y1, y2, y3⟩ := row2 Hy13.out
  obtain ⟨z0, z1, z2, z3⟩ := row2 Hz13.out
  obtain rfl : q11 = false := by rw [HQ11.out, dec_err HDD.out]
  have HR14 := Lib.hid (show R1 rdEntries w13 (.slice A11 L11 c11) [] by have h := HR13.out; rw [dec_err HDD.out] at h; exact h)
  have HN14 := Lib.hid (show R1 rdEntries w13 (.slice none 0 0) [] from R1.nil_e)
  go_wp2_with fail
  go_at_call 19
  (with_reducible refine (Message_eq HR14.out HN14.out).mono ?_)
  rintro e w15 ⟨rfl, hb15⟩
  have HB15 := Lib.hid (HB13.out.trans (hb15.mono HB13.out.size))
  clear hb15 y0 y1 y2 y3 z0 z1 z2 z3
  go_wp2
  go_ret
  exact ⟨rfl, HB15.out⟩
set_option maxRecDepth 100000 in
set_option maxHeartbeats 16000000 in
theorem WireTells_01 {W : World} {q : Bool} {A B : Option Addr} {n c nb cb : Nat} {es : List Entry} {b : List Int} (hm : R1 rdEntries W (.slice A n c) es) (hb : R1 rdBytes W (.slice B nb cb) b) (hnb : nb ≤ 140737488355328) (hg : HErr W) (hF : msgF (q, es) ≠ 0) (hD : (decM b).2 = 0) :
    Calls Tryd.prog 4 #[.agg #[.bool q, .slice A n c], .slice B nb cb] W fun e w' => e = .returned (.bool true) ∧ Below W.heap.size W w' := by
  have HM := Lib.hid hm
  have HBB := Lib.hid hb
  have HG := Lib.hid hg
  obtain ⟨F, hf⟩ : ∃ F, msgF (q, es) = F := ⟨_, rfl⟩
  obtain ⟨D, hd⟩ : ∃ D, (decM b).2 = D := ⟨_, rfl⟩
  have HFF := Lib.hid hF
  have HDD := Lib.hid hD
  have HF := Lib.hid hf
  have HD := Lib.hid hd
  obtain ⟨VF, hvf⟩ : ∃ V, errV F = V := ⟨_, rfl⟩
  obtain ⟨VD, hvd⟩ : ∃ V, errV D = V := ⟨_, rfl⟩
  have HVF := Lib.hid hvf
  have HVD := Lib.hid hvd
  have HSF : Hid ((F == F) = true) := Lib.hid (by simp)
  have HSD : Hid ((D == D) = true) := Lib.hid (by simp)
  rw [hf] at hF
  rw [hd] at hD
  have tF : (F == 0) = false := by simpa using hF
  have tD : (D != 0) = false := by simp [hD]
  have HB0 := Lib.hid (alloc1v W (.cells #[.bool q, .slice A n c] 35))
  have Hx0 := Lib.hid (heap_alloc_new W (.cells #[.bool q, .slice A n c] 35))
  obtain ⟨X, hX⟩ : ∃ X, W.heap.size = X := ⟨_, rfl⟩
  rw [hX] at Hx0
  clear hm hb hg hf hd hF hD hvf hvd
  go_enter Tryd.func4, Tryd.ntmps4
  go_wp2_with fail
  try rw [hX]
  generalize hw0 : W.alloc (.cells #[.bool q, .slice A n c] 35) = w0 at *
  clear hw0 hX
  go_at_call 11
  (with_reducible refine (wired_any _).mono ?_)
  rintro e w1 ⟨rfl, hb1⟩
  have HB1 := Lib.hid (HB0.out.trans (hb1.mono HB0.out.size))
  have Hx1 := Lib.hid (blkv hb1 (size_of_block Hx0.out) Hx0.out)
  clear hb1
  obtain ⟨x0, x1, x2, x3⟩ := row2 Hx1.out
  have HR := Lib.hid (HM.out.below HB1.out)
  go_wp2_with fail
  go_at_call 12
  (with_reducible refine (Fault_msg HR.out).mono ?_)
  rw [HF.out]
  rintro e w2 ⟨rfl, hb2⟩
  clear HR
  have HB2 := Lib.hid (HB1.out.trans (hb2.mono HB1.out.size))
  have Hx2 := Lib.hid (blkv hb2 (size_of_block Hx1.out) Hx1.out)
  clear hb2
  clear x0 x1 x2 x3
  obtain ⟨x0, x1, x2, x3⟩ := row2 Hx2.out
  have HR := Lib.hid (HM.out.below HB2.out)
  go_wp2_with fail
  go_at_call 13
  (with_reducible refine (Check_msg HR.out).mono ?_)
  rw [HF.out, HVF.out]
  rintro e w3 ⟨rfl, hb3⟩
  clear HR
  have HB3 := Lib.hid (HB2.out.trans (hb3.mono HB2.out.size))
  have Hx3 := Lib.hid (blkv hb3 (size_of_block Hx2.out) Hx2.out)
  clear hb3
  clear x0 x1 x2 x3
  obtain ⟨x0, x1, x2, x3⟩ := row2 Hx3.out
  have HGW := Lib.hid (HG.out.below HB3.out)
  go_wp2_with fail
  go_at_call 9
  (with_reducible refine (error_is HVF.out HSF.out _ HGW.out).mono ?_)
  rintro e w4 ⟨rfl, hb4⟩
  clear HGW
  have HB4 := Lib.hid (HB3.out.trans (hb4.mono HB3.out.size))
  have Hx4 := Lib.hid (blkv hb4 (size_of_block Hx3.out) Hx3.out)
  clear hb4
  clear x0 x1 x2 x3
  obtain ⟨x0, x1, x2, x3⟩ := row2 Hx4.out
  have HR := Lib.hid (HM.out.below HB4.out)
  go_wp2_with fail
  go_at_call 15
  (with_reducible refine (Encode_bad HR.out HFF.out).mono ?_)
  rw [HF.out, HVF.out]
  rintro e w6 ⟨rfl, hb6⟩
  clear HR
  have HB6 := Lib.hid (HB4.out.trans (hb6.mono HB4.out.size))
  have Hx6 := Lib.hid (blkv hb6 (size_of_block Hx4.out) Hx4.out)
  clear hb6
  clear x0 x1 x2 x3
  obtain ⟨x0, x1, x2, x3⟩ := row2 Hx6.out
  have HGW := Lib.hid (HG.out.below HB6.out)
  go_wp2_with fail
  go_at_call 9
  (with_reducible refine (error_is HVF.out HSF.out _ HGW.out).mono ?_)
  rintro e w7 ⟨rfl, hb7⟩
  clear HGW
  have HB7 := Lib.hid (HB6.out.trans (hb7.mono HB6.out.size))
  have Hx7 := Lib.hid (blkv hb7 (size_of_block Hx6.out) Hx6.out)
  clear hb7
  clear x0 x1 x2 x3
  obtain ⟨x0, x1, x2, x3⟩ := row2 Hx7.out
  have HN7 := Lib.hid (show R1 rdBytes w7 (.slice none 0 0) [] from RdSlice.nil_)
  go_wp2_with fail
  go_at_call 16
  (with_reducible refine (Bytes_eq (l := []) HN7.out HN7.out).mono ?_)
  rintro e w8 ⟨rfl, d8, hw8⟩
  have hb8 : Below w7.heap.size w7 w8 := by rw [hw8]; exact below_drewN (Below.refl _ _) _
  clear hw8
  have HB8 := Lib.hid (HB7.out.trans (hb8.mono HB7.out.size))
  have Hx8 := Lib.hid (blkv hb8 (size_of_block Hx7.out) Hx7.out)
  clear hb8
  clear x0 x1 x2 x3
  obtain ⟨x0, x1, x2, x3⟩ := row2 Hx8.out
  have HR := Lib.hid (HBB.out.below HB8.out)
  go_wp2_with fail
  go_at_call 17
  (with_reducible refine (MessageOf_any HR.out hnb).mono ?_)
  rintro e w9 ⟨q9, A9, n9, c9, rfl, hq9, hr9, hb9⟩
  rw [HD.out]
  have HQ9 := Lib.hid hq9
  have HR9 := Lib.hid hr9
  clear HR hq9 hr9
  have HB9 := Lib.hid (HB8.out.trans (hb9.mono HB8.out.size))
  have Hx9 := Lib.hid (blkv hb9 (size_of_block Hx8.out) Hx8.out)
  clear hb9
  have hb10 := alloc1v w9 (.cells #[.bool q9, .slice A9 n9 c9] 35)
  have Hy10 := Lib.hid (heap_alloc_new w9 (.cells #[.bool q9, .slice A9 n9 c9] 35))
  have HR10 := Lib.hid (HR9.out.below hb10)
  have HB10 := Lib.hid (HB9.out.trans (hb10.mono HB9.out.size))
  have Hx10 := Lib.hid (blkv hb10 (size_of_block Hx9.out) Hx9.out)
  clear hb10
  clear x0 x1 x2 x3
  go_wp2_with fail
  obtain ⟨Y, hY⟩ : ∃ Y, w9.heap.size = Y := ⟨_, rfl⟩
  rw [hY] at Hy10
  try rw [hY]
  generalize hw10 : w9.alloc (.cells #[.bool q9, .slice A9 n9 c9] 35) = w10 at *
  clear hw10 hY
  have HR := Lib.hid (HBB.out.below HB10.out)
  go_at_call 18
  (with_reducible refine (Decode_any HR.out).mono ?_)
  rintro e w11 ⟨q11, v11, rfl, hq11, hr11, hb11⟩
  obtain ⟨A11, c11, rfl⟩ := R1.form hr11
  obtain ⟨L11, hL11⟩ : ∃ L, (decM b).1.2.length = L := ⟨_, rfl⟩
  rw [hL11] at hr11 ⊢
  rw [HD.out, HVD.out]
  have HQ11 := Lib.hid hq11
  have HR11 := Lib.hid hr11
  clear HR hq11 hr11 hL11
  have HR10b := Lib.hid (HR10.out.below hb11)
  have HB11 := Lib.hid (HB10.out.trans (hb11.mono HB10.out.size))
  have Hy11 := Lib.hid (blkv hb11 (size_of_block Hy10.out) Hy10.out)
  clear hb11
  have hb12 := alloc1v w11 (.cells #[.bool q11, .slice A11 L11 c11] 35)
  have Hz12 := Lib.hid (heap_alloc_new w11 (.cells #[.bool q11, .slice A11 L11 c11] 35))
  have HR12 := Lib.hid (HR11.out.below hb12)
  have HW12 := Lib.hid (HR10b.out.below hb12)
  have HB12 := Lib.hid (HB11.out.trans (hb12.mono HB11.out.size))
  have Hy12 := Lib.hid (blkv hb12 (size_of_block Hy11.out) Hy11.out)
  clear hb12
  go_wp2_with fail
  obtain ⟨Z, hZ⟩ : ∃ Z, w11.heap.size = Z := ⟨_, rfl⟩
  rw [hZ] at Hz12
  try rw [hZ]
  generalize hw12 : w11.alloc (.cells #[.bool q11, .slice A11 L11 c11] 35) = w12 at *
  clear hw12 hZ
  have HGW := Lib.hid (HG.out.below HB12.out)
  go_at_call 9
  (with_reducible refine (error_is HVD.out HSD.out _ HGW.out).mono ?_)
  rintro e w13 ⟨rfl, hb13⟩
  have HR13 := Lib.hid (HR12.out.below hb13)
  clear HGW
  have HW13 := Lib.hid (HW12.out.below hb13)
  have HB13 := Lib.hid (HB12.out.trans (hb13.mono HB12.out.size))
  have Hy13 := Lib.hid (blkv hb13 (size_of_block Hy12.out) Hy12.out)
  have Hz13 := Lib.hid (blkv hb13 (size_of_block Hz12.out) Hz12.out)
  clear hb13
  obtain ⟨y0, y1, y2, y3⟩ := row2 Hy13.out
  obtain ⟨z0, z1, z2, z3⟩ := row2 Hz13.out
  obtain rfl : q11 = q9 := by rw [HQ11.out, HQ9.out]
  go_wp2_with fail
  go_at_call 19
  (with_reducible refine (Message_eq HR13.out HW13.out).mono ?_)
  rintro e w15 ⟨rfl, hb15⟩
  have HB15 := Lib.hid (HB13.out.trans (hb15.mono HB13.out.size))
  clear hb15 y0 y1 y2 y3 z0 z1 z2 z3
  go_wp2
  go_ret
  exact ⟨rfl, HB15.out⟩
set_option maxRecDepth 100000 in
set_option maxHeartbeats 16000000 in
theorem WireTells_00 {W : World} {q : Bool} {A B : Option Addr} {n c nb cb : Nat} {es : List Entry} {b : List Int} (hm : R1 rdEntries W (.slice A n c) es) (hb : R1 rdBytes W (.slice B nb cb) b) (hnb : nb ≤ 140737488355328) (hg : HErr W) (hF : msgF (q, es) ≠ 0) (hD : (decM b).2 ≠ 0) :
    Calls Tryd.prog 4 #[.agg #[.bool q, .slice A n c], .slice B nb cb] W fun e w' => e = .returned (.bool true) ∧ Below W.heap.size W w' := by
  have HM := Lib.hid hm
  have HBB := Lib.hid hb
  have HG := Lib.hid hg
  obtain ⟨F, hf⟩ : ∃ F, msgF (q, es) = F := ⟨_, rfl⟩
  obtain ⟨D, hd⟩ : ∃ D, (decM b).2 = D := ⟨_, rfl⟩
  have HFF := Lib.hid hF
  have HDD := Lib.hid hD
  have HF := Lib.hid hf
  have HD := Lib.hid hd
  obtain ⟨VF, hvf⟩ : ∃ V, errV F = V := ⟨_, rfl⟩
  obtain ⟨VD, hvd⟩ : ∃ V, errV D = V := ⟨_, rfl⟩
  have HVF := Lib.hid hvf
  have HVD := Lib.hid hvd
  have HSF : Hid ((F == F) = true) := Lib.hid (by simp)
  have HSD : Hid ((D == D) = true) := Lib.hid (by simp)
  rw [hf] at hF
  rw [hd] at hD
  have tF : (F == 0) = false := by simpa using hF
  have tD : (D != 0) = true := by simp [hD]
  have HB0 := Lib.hid (alloc1v W (.cells #[.bool q, .slice A n c] 35))
  have Hx0 := Lib.hid (heap_alloc_new W (.cells #[.bool q, .slice A n c] 35))
  obtain ⟨X, hX⟩ : ∃ X, W.heap.size = X := ⟨_, rfl⟩
  rw [hX] at Hx0
  clear hm hb hg hf hd hF hD hvf hvd
  go_enter Tryd.func4, Tryd.ntmps4
  go_wp2_with fail
  try rw [hX]
  generalize hw0 : W.alloc (.cells #[.bool q, .slice A n c] 35) = w0 at *
  clear hw0 hX
  go_at_call 11
  (with_reducible refine (wired_any _).mono ?_)
  rintro e w1 ⟨rfl, hb1⟩
  have HB1 := Lib.hid (HB0.out.trans (hb1.mono HB0.out.size))
  have Hx1 := Lib.hid (blkv hb1 (size_of_block Hx0.out) Hx0.out)
  clear hb1
  obtain ⟨x0, x1, x2, x3⟩ := row2 Hx1.out
  have HR := Lib.hid (HM.out.below HB1.out)
  go_wp2_with fail
  go_at_call 12
  (with_reducible refine (Fault_msg HR.out).mono ?_)
  rw [HF.out]
  rintro e w2 ⟨rfl, hb2⟩
  clear HR
  have HB2 := Lib.hid (HB1.out.trans (hb2.mono HB1.out.size))
  have Hx2 := Lib.hid (blkv hb2 (size_of_block Hx1.out) Hx1.out)
  clear hb2
  clear x0 x1 x2 x3
  obtain ⟨x0, x1, x2, x3⟩ := row2 Hx2.out
  have HR := Lib.hid (HM.out.below HB2.out)
  go_wp2_with fail
  go_at_call 13
  (with_reducible refine (Check_msg HR.out).mono ?_)
  rw [HF.out, HVF.out]
  rintro e w3 ⟨rfl, hb3⟩
  clear HR
  have HB3 := Lib.hid (HB2.out.trans (hb3.mono HB2.out.size))
  have Hx3 := Lib.hid (blkv hb3 (size_of_block Hx2.out) Hx2.out)
  clear hb3
  clear x0 x1 x2 x3
  obtain ⟨x0, x1, x2, x3⟩ := row2 Hx3.out
  have HGW := Lib.hid (HG.out.below HB3.out)
  go_wp2_with fail
  go_at_call 9
  (with_reducible refine (error_is HVF.out HSF.out _ HGW.out).mono ?_)
  rintro e w4 ⟨rfl, hb4⟩
  clear HGW
  have HB4 := Lib.hid (HB3.out.trans (hb4.mono HB3.out.size))
  have Hx4 := Lib.hid (blkv hb4 (size_of_block Hx3.out) Hx3.out)
  clear hb4
  clear x0 x1 x2 x3
  obtain ⟨x0, x1, x2, x3⟩ := row2 Hx4.out
  have HR := Lib.hid (HM.out.below HB4.out)
  go_wp2_with fail
  go_at_call 15
  (with_reducible refine (Encode_bad HR.out HFF.out).mono ?_)
  rw [HF.out, HVF.out]
  rintro e w6 ⟨rfl, hb6⟩
  clear HR
  have HB6 := Lib.hid (HB4.out.trans (hb6.mono HB4.out.size))
  have Hx6 := Lib.hid (blkv hb6 (size_of_block Hx4.out) Hx4.out)
  clear hb6
  clear x0 x1 x2 x3
  obtain ⟨x0, x1, x2, x3⟩ := row2 Hx6.out
  have HGW := Lib.hid (HG.out.below HB6.out)
  go_wp2_with fail
  go_at_call 9
  (with_reducible refine (error_is HVF.out HSF.out _ HGW.out).mono ?_)
  rintro e w7 ⟨rfl, hb7⟩
  clear HGW
  have HB7 := Lib.hid (HB6.out.trans (hb7.mono HB6.out.size))
  have Hx7 := Lib.hid (blkv hb7 (size_of_block Hx6.out) Hx6.out)
  clear hb7
  clear x0 x1 x2 x3
  obtain ⟨x0, x1, x2, x3⟩ := row2 Hx7.out
  have HN7 := Lib.hid (show R1 rdBytes w7 (.slice none 0 0) [] from RdSlice.nil_)
  go_wp2_with fail
  go_at_call 16
  (with_reducible refine (Bytes_eq (l := []) HN7.out HN7.out).mono ?_)
  rintro e w8 ⟨rfl, d8, hw8⟩
  have hb8 : Below w7.heap.size w7 w8 := by rw [hw8]; exact below_drewN (Below.refl _ _) _
  clear hw8
  have HB8 := Lib.hid (HB7.out.trans (hb8.mono HB7.out.size))
  have Hx8 := Lib.hid (blkv hb8 (size_of_block Hx7.out) Hx7.out)
  clear hb8
  clear x0 x1 x2 x3
  obtain ⟨x0, x1, x2, x3⟩ := row2 Hx8.out
  have HR := Lib.hid (HBB.out.below HB8.out)
  go_wp2_with fail
  go_at_call 17
  (with_reducible refine (MessageOf_any HR.out hnb).mono ?_)
  rintro e w9 ⟨q9, A9, n9, c9, rfl, hq9, hr9, hb9⟩
  rw [HD.out]
  have HQ9 := Lib.hid hq9
  have HR9 := Lib.hid hr9
  clear HR hq9 hr9
  have HB9 := Lib.hid (HB8.out.trans (hb9.mono HB8.out.size))
  have Hx9 := Lib.hid (blkv hb9 (size_of_block Hx8.out) Hx8.out)
  clear hb9
  have Hq : Hid (q9 = false) := Lib.hid (by rw [HQ9.out, dec_err HDD.out])
  have hb10 := alloc1v w9 (.cells #[.bool false, .slice none 0 0] 35)
  have Hy10 := Lib.hid (heap_alloc_new w9 (.cells #[.bool false, .slice none 0 0] 35))
  have HB10 := Lib.hid (HB9.out.trans (hb10.mono HB9.out.size))
  have Hx10 := Lib.hid (blkv hb10 (size_of_block Hx9.out) Hx9.out)
  clear hb10
  clear x0 x1 x2 x3
  go_wp2_with fail
  obtain ⟨Y, hY⟩ : ∃ Y, w9.heap.size = Y := ⟨_, rfl⟩
  rw [hY] at Hy10
  try rw [hY]
  generalize hw10 : w9.alloc (.cells #[.bool false, .slice none 0 0] 35) = w10 at *
  clear hw10 hY
  have HR := Lib.hid (HBB.out.below HB10.out)
  go_at_call 18
  (with_reducible refine (Decode_any HR.out).mono ?_)
  rintro e w11 ⟨q11, v11, rfl, hq11, hr11, hb11⟩
  obtain ⟨A11, c11, rfl⟩ := R1.form hr11
  obtain ⟨L11, hL11⟩ : ∃ L, (decM b).1.2.length = L := ⟨_, rfl⟩
  rw [hL11] at hr11 ⊢
  rw [HD.out, HVD.out]
  have HQ11 := Lib.hid hq11
  have HR11 := Lib.hid hr11
  clear HR hq11 hr11 hL11
  have HB11 := Lib.hid (HB10.out.trans (hb11.mono HB10.out.size))
  have Hy11 := Lib.hid (blkv hb11 (size_of_block Hy10.out) Hy10.out)
  clear hb11
  have hb12 := alloc1v w11 (.cells #[.bool q11, .slice A11 L11 c11] 35)
  have Hz12 := Lib.hid (heap_alloc_new w11 (.cells #[.bool q11, .slice A11 L11 c11] 35))
  have HR12 := Lib.hid (HR11.out.below hb12)
  have HB12 := Lib.hid (HB11.out.trans (hb12.mono HB11.out.size))
  have Hy12 := Lib.hid (blkv hb12 (size_of_block Hy11.out) Hy11.out)
  clear hb12
  go_wp2_with fail
  obtain ⟨Z, hZ⟩ : ∃ Z, w11.heap.size = Z := ⟨_, rfl⟩
  rw [hZ] at Hz12
  try rw [hZ]
  generalize hw12 : w11.alloc (.cells #[.bool q11, .slice A11 L11 c11] 35) = w12 at *
  clear hw12 hZ
  have HGW := Lib.hid (HG.out.below HB12.out)
  go_at_call 9
  (with_reducible refine (error_is HVD.out HSD.out _ HGW.out).mono ?_)
  rintro e w13 ⟨rfl, hb13⟩
  have HR13 := Lib.hid (HR12.out.below hb13)
  clear HGW
  have HB13 := Lib.hid (HB12.out.trans (hb13.mono HB12.out.size))
  have Hy13 := Lib.hid (blkv hb13 (size_of_block Hy12.out) Hy12.out)
  have Hz13 := Lib.hid (blkv hb13 (size_of_block Hz12.out) Hz12.out)
  clear hb13
  obtain ⟨y0, y1, y2, y3⟩ := row2 Hy13.out
  obtain ⟨z0, z1, z2, z3⟩ := row2 Hz13.out
  obtain rfl : q11 = false := by rw [HQ11.out, dec_err HDD.out]
  have HR14 := Lib.hid (show R1 rdEntries w13 (.slice A11 L11 c11) [] by have h := HR13.out; rw [dec_err HDD.out] at h; exact h)
  have HN14 := Lib.hid (show R1 rdEntries w13 (.slice none 0 0) [] from R1.nil_e)
  go_wp2_with fail
  go_at_call 19
  (with_reducible refine (Message_eq HR14.out HN14.out).mono ?_)
  rintro e w15 ⟨rfl, hb15⟩
  have HB15 := Lib.hid (HB13.out.trans (hb15.mono HB13.out.size))
  clear hb15 y0 y1 y2 y3 z0 z1 z2 z3
  go_wp2
  go_ret
  exact ⟨rfl, HB15.out⟩
theorem WireTells_any {W : World} {q : Bool} {A B : Option Addr} {n c nb cb : Nat} {es : List Entry} {b : List Int} (hm : R1 rdEntries W (.slice A n c) es) (hb : R1 rdBytes W (.slice B nb cb) b) (hnb : nb ≤ 140737488355328) (hg : HErr W) :
    Calls Tryd.prog 4 #[.agg #[.bool q, .slice A n c], .slice B nb cb] W fun e w' => e = .returned (.bool true) ∧ Below W.heap.size W w' := by
  by_cases h1 : msgF (q, es) = 0 <;> by_cases h2 : (decM b).2 = 0
  · exact WireTells_11 hm hb hnb hg h1 h2
  · exact WireTells_10 hm hb hnb hg h1 h2
  · exact WireTells_01 hm hb hnb hg h1 h2
  · exact WireTells_00 hm hb hnb hg h1 h2
theorem WireTells_walk (W : World) (A0 : Array Value) (x : Bool × List Entry) (hx : RV rdMessage W (.agg A0) x) (cx : True ∧ x.2.length * 40 ≤ reachBytes ∧ ∀ y ∈ x.2, (True ∧ True) ∧ True ∧ True ∧ True)
    (B : Option Addr) (nb cb : Nat) (b : List Int) (rr : RV rdBytes W (.slice B nb cb) b) (qb : b.length * 1 ≤ reachBytes ∧ ∀ x ∈ b, True) (hg : HErr W) :
    Calls Tryd.prog 4 #[.agg A0, .slice B nb cb] W fun e w' => e = .returned (.bool true) ∧ Below W.heap.size W w' := by
  obtain ⟨A, n, c, rfl, hrm⟩ := message_parts hx
  have hnb : nb ≤ 140737488355328 := by
    have h1 := (RdSlice.len (show R1 rdBytes W (.slice B nb cb) b from rr)).1
    have h2 := qb.1
    unfold reachBytes at h2
    omega
  exact WireTells_any hrm rr hnb hg
end Go.Proofs.YtimdnfakgobadaaDoor
