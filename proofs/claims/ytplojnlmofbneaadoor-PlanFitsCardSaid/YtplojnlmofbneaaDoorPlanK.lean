/- waywardenlaw5.PlanFits: its walk, one theorem for each way. -/
import Derived.Test.YtplojnlmofbneaaDoorPlanQ
import Derived.Test.YtplojnlmofbneaaDoorCovF
import Derived.Test.YtplojnlmofbneaaDoorTrieK
namespace Go.Proofs.YtplojnlmofbneaaDoor
open Go.ChangeShapes Go.WideShapes Go.ChangeAt Go.RowKit
set_option linter.unusedVariables false
set_option linter.unusedSimpArgs false
set_option maxRecDepth 100000 in
set_option maxHeartbeats 8000000 in
theorem PlanFits_a {w : World} {a : Int} {N : Int} {A : Option Addr} {m c : Nat} {L : List Int} (ha : is32 a) (hL : R1 (RdSlice 1 (rdInt .i64)) w (.slice A m c) L) (hg : HErr w) (hf : roomF (a, N) L ≠ 0) :
    Calls Tryd.prog 7 #[.agg #[.int .u32 a, .int .i64 N], .slice A m c] w fun e w' => e = .returned (.bool true) ∧ Below w.heap.size w w' := by
  have HL := Lib.hid hL
  have HA := Lib.hid ha
  have HG := Lib.hid hg
  obtain ⟨f, hff⟩ : ∃ f, roomF (a, N) L = f := ⟨_, rfl⟩
  have HF := Lib.hid hff
  have HFF : Hid (fitF (a, N) L = f) := Lib.hid (by unfold fitF; rw [if_pos hf, hff])
  have HNF : Hid (fitF (a, N) L ≠ 0) := Lib.hid (by rw [HFF.out, ← hff]; exact hf)
  rw [hff] at hf
  have HQ : Hid ((if f = 0 then roomV (a, N) L else 0) = 0) := Lib.hid (by rw [if_neg hf])
  have HE : Hid (errV f = .iface 41 (.int .i64 f)) := Lib.hid (errV_ne hf)
  have HTL := Lib.hid (fun W (h : HErr W) => (show Calls Tryd.prog 13 #[.iface 41 (.int .i64 f), .iface 41 (.int .i64 f)] W fun v w' => v = .returned (.bool true) ∧ Below W.heap.size W w' by
    have h1 := Told2_any f f W h
    rw [show (f == f) = true from by simp, HE.out] at h1; exact h1))
  clear hL ha hg hff hf
  go_enter Tryd.func7, Tryd.ntmps7
  go_wp2_with fail
  go_at_call 26
  (with_reducible refine (planned_any _).mono ?_)
  rintro e w1 ⟨rfl, hb1⟩
  have HO1 := Lib.hid (box1 hb1)
  obtain ⟨_, _, _, _⟩ := row2 HO1.out
  have HB1 := Lib.hid ((below_1 w _).trans (hb1.mono (by simp)))
  have HL1 := Lib.hid (HL.out.below HB1.out)
  clear hb1
  go_wp2_with fail
  go_at_call 28
  (with_reducible refine (Room_any HA.out HL1.out).mono ?_)
  rintro e w2 ⟨rfl, hb2⟩
  rw [HF.out, HQ.out, HE.out]
  have HO2 := Lib.hid (below_block hb2 (size_of_block HO1.out) HO1.out)
  obtain ⟨_, _, _, _⟩ := row2 HO2.out
  have HB2 := Lib.hid (HB1.out.trans (hb2.mono HB1.out.size))
  have HL2 := Lib.hid (HL.out.below HB2.out)
  clear hb2
  go_wp2_with fail
  go_at_call 29
  (with_reducible refine (Fit_no HA.out HL2.out HNF.out).mono ?_)
  rintro e w3 ⟨rfl, hb3⟩
  rw [HFF.out, HE.out]
  have HB3 := Lib.hid (HB2.out.trans (hb3.mono HB2.out.size))
  have HG3 := Lib.hid (HG.out.below HB3.out)
  clear hb3
  go_wp2_with fail
  go_at_call 13
  (with_reducible refine (HTL.out _ HG3.out).mono ?_)
  rintro v w4 ⟨rfl, hb4⟩
  have HB4 := Lib.hid (HB3.out.trans (hb4.mono HB3.out.size))
  clear hb4
  go_wp2
  go_ret
  exact ⟨rfl, HB4.out⟩
set_option maxRecDepth 100000 in
set_option maxHeartbeats 8000000 in
theorem PlanFits_b {w : World} {a : Int} {N : Int} {A : Option Addr} {m c : Nat} {L : List Int} (ha : is32 a) (hL : R1 (RdSlice 1 (rdInt .i64)) w (.slice A m c) L) (hg : HErr w) (hf : roomF (a, N) L = 0) (hv : roomV (a, N) L < 0) :
    Calls Tryd.prog 7 #[.agg #[.int .u32 a, .int .i64 N], .slice A m c] w fun e w' => e = .returned (.bool true) ∧ Below w.heap.size w w' := by
  have HL := Lib.hid hL
  have HA := Lib.hid ha
  have HG := Lib.hid hg
  have HF := Lib.hid hf
  have HFF : Hid (fitF (a, N) L = 4) := Lib.hid (by unfold fitF; rw [if_neg (by rw [hf]; decide), if_pos hv])
  have HNF : Hid (fitF (a, N) L ≠ 0) := Lib.hid (by rw [HFF.out]; decide)
  obtain ⟨q, hq⟩ : ∃ q, roomV (a, N) L = q := ⟨_, rfl⟩
  rw [hq] at hv
  have HQ : Hid (roomV (a, N) L = q) := Lib.hid hq
  have HE : Hid (errV 4 = .iface 41 (.int .i64 4)) := Lib.hid (errV_ne (by decide))
  have HS : Hid (((4 : Int) == 4) = true) := Lib.hid (by simp)
  clear hL ha hg hf hq
  go_enter Tryd.func7, Tryd.ntmps7
  go_wp2_with fail
  go_at_call 26
  (with_reducible refine (planned_any _).mono ?_)
  rintro e w1 ⟨rfl, hb1⟩
  have HO1 := Lib.hid (box1 hb1)
  obtain ⟨_, _, _, _⟩ := row2 HO1.out
  have HB1 := Lib.hid ((below_1 w _).trans (hb1.mono (by simp)))
  have HL1 := Lib.hid (HL.out.below HB1.out)
  clear hb1
  go_wp2_with fail
  go_at_call 28
  (with_reducible refine (Room_any HA.out HL1.out).mono ?_)
  rintro e w2 ⟨rfl, hb2⟩
  rw [HF.out, if_pos rfl, HQ.out, errV_zero]
  have HO2 := Lib.hid (below_block hb2 (size_of_block HO1.out) HO1.out)
  obtain ⟨_, _, _, _⟩ := row2 HO2.out
  have HB2 := Lib.hid (HB1.out.trans (hb2.mono HB1.out.size))
  have HL2 := Lib.hid (HL.out.below HB2.out)
  clear hb2
  go_wp2_with fail
  go_at_call 29
  (with_reducible refine (Fit_no HA.out HL2.out HNF.out).mono ?_)
  rintro e w3 ⟨rfl, hb3⟩
  rw [HFF.out, HE.out]
  have HB3 := Lib.hid (HB2.out.trans (hb3.mono HB2.out.size))
  have HG3 := Lib.hid (HG.out.below HB3.out)
  clear hb3
  go_wp2_with fail
  go_at_call 18
  (with_reducible refine (error_is HE.out HS.out _ HG3.out).mono ?_)
  rintro v w4 ⟨rfl, hb4⟩
  have HB4 := Lib.hid (HB3.out.trans (hb4.mono HB3.out.size))
  clear hb4
  go_wp2
  go_ret
  exact ⟨rfl, HB4.out⟩
theorem covF_of {l : List Nn} {n : Nat} (h : ∀ x ∈ l, netF x = 0) (hn : l.length = n) (hl : n ≤ 64) : covF l = 0 := covF_zero.2 ⟨h, by omega⟩
theorem size_one {a : Int} {N : Nat} (h : netF (a, (N : Int)) = 0) : sizV [(a, (N : Int))] = lowI N ∧ covF [(a, (N : Int))] = 0 := by
  have hF : covF [(a, (N : Int))] = 0 := covF_zero.2 ⟨fun x hx => by simp at hx; rw [hx]; exact h, by simp⟩
  refine ⟨?_, hF⟩
  unfold sizV
  rw [if_pos hF, cover_single h, sizL_cons]
  show lowI ((N : Int)).toNat + sizL [] = lowI N
  rw [Int.toNat_natCast]
  have : sizL [] = 0 := rfl
  omega
set_option maxRecDepth 100000 in
set_option maxHeartbeats 8000000 in
theorem PlanFits_c {w : World} {a : Int} {N : Nat} {A : Option Addr} {m c : Nat} {L : List Int} (ha : is32 a) (hL : R1 (RdSlice 1 (rdInt .i64)) w (.slice A m c) L) (hg : HErr w) (hf : roomF (a, (N : Int)) L = 0) (hv : ¬ roomV (a, (N : Int)) L < 0) :
    Calls Tryd.prog 7 #[.agg #[.int .u32 a, .int .i64 (N : Int)], .slice A m c] w fun e w' => e = .returned (.bool true) ∧ Below w.heap.size w w' := by
  have hm := (RdSlice.len hL).1
  have HL := Lib.hid hL
  have HA := Lib.hid ha
  have HG := Lib.hid hg
  have HF := Lib.hid hf
  obtain ⟨hnet, h64, hbad⟩ := room_parts hf
  have hm64 : m ≤ 64 := by omega
  have HM := Lib.hid hm
  have HFF : Hid (fitF (a, (N : Int)) L = 0) := Lib.hid (by unfold fitF; rw [if_neg (by rw [hf]; decide), if_neg hv])
  have HTop := Lib.hid (net_top ha hnet)
  have HNet := Lib.hid hnet
  have hlo := lowI_le N
  have hlp := lowI_pos N
  have hrv : roomV (a, (N : Int)) L = lowI N - sumL L := by unfold roomV; simp
  obtain ⟨q, hq⟩ : ∃ q, roomV (a, (N : Int)) L = q := ⟨_, rfl⟩
  obtain ⟨S, hS⟩ : ∃ S, sumL L = S := ⟨_, rfl⟩
  obtain ⟨T, hT⟩ : ∃ T, lowI N = T := ⟨_, rfl⟩
  rw [hq] at hv
  rw [hq, hS, hT] at hrv
  have HS := Lib.hid hS
  have HT := Lib.hid hT
  have HQ : Hid (roomV (a, (N : Int)) L = q) := Lib.hid hq
  rw [hT] at hlo hlp
  have hS0 : 0 ≤ S := by rw [← hS]; exact (sumL_bound L).1
  have hw : wrap64 (T - S) = q := by rw [← hrv]; exact wrap64_id (by omega) (by omega)
  have t0 : decide (q < 0) = false := by simp; omega
  have HW := Lib.hid hw
  clear hL ha hg hf hm hnet h64 hbad hv hrv hq hS hT hS0 hlo hlp
  go_enter Tryd.func7, Tryd.ntmps7
  go_wp2_with fail
  go_at_call 26
  (with_reducible refine (planned_any _).mono ?_)
  rintro e w1 ⟨rfl, hb1⟩
  have HO1 := Lib.hid (box1 hb1)
  obtain ⟨_, _, _, _⟩ := row2 HO1.out
  have HB1 := Lib.hid ((below_1 w _).trans (hb1.mono (by simp)))
  have HL1 := Lib.hid (HL.out.below HB1.out)
  clear hb1
  go_wp2_with fail
  go_at_call 28
  (with_reducible refine (Room_any HA.out HL1.out).mono ?_)
  rintro e w2 ⟨rfl, hb2⟩
  rw [HF.out, if_pos rfl, HQ.out, errV_zero]
  have HO2 := Lib.hid (below_block hb2 (size_of_block HO1.out) HO1.out)
  obtain ⟨_, _, _, _⟩ := row2 HO2.out
  have HB2 := Lib.hid (HB1.out.trans (hb2.mono HB1.out.size))
  have HL2 := Lib.hid (HL.out.below HB2.out)
  clear hb2
  go_wp2_with fail
  go_at_call 29
  (with_reducible refine (Fit_yes HA.out HL2.out HFF.out HTop.out).mono ?_)
  rintro e w3 ⟨W, g, hW, rfl, hout, hb3, hg3⟩
  have HP := Lib.hid (plan_of HA.out HFF.out hW)
  obtain ⟨Z, hZ⟩ : ∃ Z, putAll L W a (List.replicate L.length (0, 0)) = Z := ⟨_, rfl⟩
  rw [hZ] at hout HP
  rw [← HM.out]
  have HZl : Hid (Z.length = m) := Lib.hid (by rw [HP.out.len, ← HM.out])
  have HALL := Lib.hid HP.out.all
  have HSZ := Lib.hid HP.out.size
  have hwf : ∀ x ∈ Z, wfN x := fun x hx => by
    obtain ⟨j, hj⟩ := List.getElem?_of_mem hx
    obtain ⟨p', k', e', _, h1, _, h2, _⟩ := HP.out.entry (i := j) (by rw [← HP.out.len]; exact (List.getElem?_eq_some_iff.1 hj).1)
    rw [hj] at e'
    injection e' with e'
    subst e'
    exact ⟨WalkArith.wf_u32 h1, WalkArith.wf_i64 (by omega)⟩
  have HR3 : Hid (R1 rdNets w3 (.slice (some ⟨g, 0, none⟩) m m) Z) := Lib.hid (by
    have h := hout.read hwf (by rw [HZl.out]; omega)
    rw [HZl.out] at h; exact h)
  have HC3 : Hid (covF Z = 0) := Lib.hid (covF_of HALL.out.1 HZl.out hm64)
  have HS3 : Hid (sizV Z = S) := Lib.hid (by unfold sizV; rw [if_pos HC3.out, HSZ.out, HS.out])
  have HO3 := Lib.hid (below_block hb3 (size_of_block HO2.out) HO2.out)
  have HB3 := Lib.hid (HB2.out.trans (hb3.mono HB2.out.size))
  clear hb3 hW hout hZ hwf hg3
  go_wp2_with fail
  go_at_call 30
  (with_reducible refine (Size_any HR3.out).mono ?_)
  rintro e w4 ⟨rfl, hb4⟩
  rw [HC3.out, HS3.out, errV_zero]
  have HO4 := Lib.hid (below_block hb4 (size_of_block HO3.out) HO3.out)
  obtain ⟨_, _, _, _⟩ := row2 HO4.out
  have HB4 := Lib.hid (HB3.out.trans (hb4.mono HB3.out.size))
  have HONE := Lib.hid (size_one HNet.out)
  have hwl : ∀ x ∈ [(a, (N : Int))], wfN x := fun x hx => by
    simp at hx; rw [hx]
    have := (netF_zero.1 HNet.out).2.1
    exact ⟨WalkArith.wf_u32 HA.out, WalkArith.wf_i64 (by simp only; omega)⟩
  have HR5 : Hid (R1 rdNets (w4.alloc (.cells #[.int .u32 a, .int .i64 (N : Int)] 32)) (.slice (some ⟨w4.heap.size, 0, none⟩) 1 1) [(a, (N : Int))]) := Lib.hid (by
    have h : OwnN (w4.alloc (.cells #[.int .u32 a, .int .i64 (N : Int)] 32)) w4.heap.size (.slice (some ⟨w4.heap.size, 0, none⟩) 1 1) [(a, (N : Int))] :=
      ⟨⟨rfl, .inr ⟨w4.heap.size, 1, _, rfl, Nat.le_refl _, heap_alloc_new w4 _, Nat.le_refl _, by simp only [maxLen]; omega, rfl, rfl⟩⟩, hwl⟩
    exact h.read)
  have HSZ5 := Lib.hid (Size_any HR5.out)
  clear hb4 hwl
  go_wp2_with fail
  go_at_call 30
  (with_reducible refine HSZ5.out.mono ?_)
  rintro e w5 ⟨rfl, hb5⟩
  rw [HONE.out.2, HONE.out.1, HT.out, errV_zero]
  have HB5 := Lib.hid (HB4.out.trans (((below_1 w4 _).trans (hb5.mono (by simp))).mono HB4.out.size))
  clear hb5
  go_wp2
  go_ret
  exact ⟨rfl, HB5.out⟩
theorem net_partsK {w : World} {A : Array Value} {x : Int × Int} (h : RV rdNet w (.agg A) x) : ∃ a l : Int, x = (a, l) ∧ A = #[.int .u32 a, .int .i64 l] ∧ is32 a := by
  obtain ⟨c0, c1, e, ⟨e0, w0⟩, ⟨e1, w1⟩⟩ := h
  obtain ⟨a, l⟩ := x
  subst e0; subst e1
  have e2 : A.toList = [.int .u32 a, .int .i64 l] := by simpa [Value.cells] using e
  exact ⟨a, l, rfl, by rw [← Array.toArray_toList (xs := A), e2], bounds_u32 w0⟩
theorem PlanFits_walk (w : World) (A0 : Array Value) (x0 : Int × Int) (h0 : RV rdNet w (.agg A0) x0) (c0 : True ∧ True) (A : Option Addr) (n c : Nat) (L : List Int) (rr : RV rdInts w (.slice A n c) L) (q : L.length * 8 ≤ reachBytes ∧ ∀ x ∈ L, True) (hg : HErr w) :
    Calls Tryd.prog 7 #[.agg A0, .slice A n c] w fun e w' => e = .returned (.bool true) ∧ Below w.heap.size w w' := by
  obtain ⟨a, l, rfl, rfl, ha⟩ := net_partsK h0
  have hL : R1 (RdSlice 1 (rdInt .i64)) w (.slice A n c) L := rr
  by_cases hf : roomF (a, l) L = 0
  · obtain ⟨N, rfl⟩ : ∃ N : Nat, l = (N : Int) := by
      have hz : netF (a, l) = 0 := by
        unfold roomF at hf
        split at hf
        · exact hf
        · rename_i h; simpa using h
      obtain ⟨k, _, e, _⟩ := net_ok hz
      exact ⟨k, e⟩
    by_cases hv : roomV (a, (N : Int)) L < 0
    · exact PlanFits_b ha hL hg hf hv
    · exact PlanFits_c ha hL hg hf hv
  · exact PlanFits_a ha hL hg hf
end Go.Proofs.YtplojnlmofbneaaDoor
