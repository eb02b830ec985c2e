/- waywardenlaw5.PlanTells: its walk, one theorem for each way. -/
import Derived.Test.YtplojnlmofbneaaDoorPlanR
import Derived.Test.YtplojnlmofbneaaDoorPlanA
import Derived.Test.YtplojnlmofbneaaDoorPlanT
import Derived.Test.YtplojnlmofbneaaDoorNetsS
import Derived.Test.YtplojnlmofbneaaDoorErr
namespace Go.Proofs.YtplojnlmofbneaaDoor
open Go.ChangeShapes Go.WideShapes Go.ChangeAt Go.RowKit
set_option linter.unusedVariables false
set_option linter.unusedSimpArgs false
set_option maxRecDepth 100000 in
set_option maxHeartbeats 8000000 in
theorem PlanTells_a {w : World} {a : Int} {N : Int} {A : Option Addr} {m c : Nat} {L : List Int} (ha : is32 a) (hL : R1 (RdSlice 1 (rdInt .i64)) w (.slice A m c) L) (hg : HErr w) (hf : roomF (a, N) L ≠ 0) :
    Calls Tryd.prog 6 #[.agg #[.int .u32 a, .int .i64 N], .slice A m c] w fun e w' => e = .returned (.bool true) ∧ Below w.heap.size w w' := by
  have hm := (RdSlice.len hL).1
  have HL := Lib.hid hL
  have HA := Lib.hid ha
  have HG := Lib.hid hg
  have HM := Lib.hid hm
  obtain ⟨f, hff⟩ : ∃ f, roomF (a, N) L = f := ⟨_, rfl⟩
  have HF := Lib.hid hff
  have HFF : Hid (fitF (a, N) L = f) := Lib.hid (by unfold fitF; rw [if_pos hf, hff])
  have HNF : Hid (fitF (a, N) L ≠ 0) := Lib.hid (by rw [HFF.out, ← hff]; exact hf)
  rw [hff] at hf
  have HQ : Hid ((if f = 0 then roomV (a, N) L else 0) = 0) := Lib.hid (by rw [if_neg hf])
  have HE : Hid (errV f = .iface 41 (.int .i64 f)) := Lib.hid (errV_ne hf)
  have HE2 := HE
  have HS : Hid ((f == f) = true) := Lib.hid (by simp)
  have HS2 := HS
  have t0 : (f == 0) = false := by simpa using hf
  have t0' : decide (f = 0) = false := by simpa using hf
  clear hL ha hg hm hff hf
  go_enter Tryd.func6, Tryd.ntmps6
  go_wp2_with fail
  go_at_call 26
  (with_reducible refine (planned_any _).mono ?_)
  rintro e w1 ⟨rfl, hb1⟩
  have HO1 := Lib.hid (box1 hb1)
  obtain ⟨_, _, _, _⟩ := row2 HO1.out
  have HB1 := Lib.hid ((below_1 w _).trans (hb1.mono (by simp)))
  have HL1 := Lib.hid (HL.out.below HB1.out)
  have HG1 := Lib.hid (HG.out.below HB1.out)
  clear hb1
  go_wp2_with fail
  go_at_call 27
  (with_reducible refine (RoomOf_any HA.out HL1.out).mono ?_)
  rintro e w2 ⟨rfl, hb2⟩
  rw [HF.out, HQ.out]
  have HO2 := Lib.hid (below_block hb2 (size_of_block HO1.out) HO1.out)
  obtain ⟨_, _, _, _⟩ := row2 HO2.out
  have HB2 := Lib.hid (HB1.out.trans (hb2.mono HB1.out.size))
  have HL2 := Lib.hid (HL.out.below HB2.out)
  have HG2 := Lib.hid (HG.out.below HB2.out)
  clear hb2
  go_wp2_with fail
  go_at_call 28
  (with_reducible refine (Room_any HA.out HL2.out).mono ?_)
  rintro e w3 ⟨rfl, hb3⟩
  rw [HF.out, HQ.out, HE.out]
  have HO3 := Lib.hid (below_block hb3 (size_of_block HO2.out) HO2.out)
  obtain ⟨_, _, _, _⟩ := row2 HO3.out
  have HB3 := Lib.hid (HB2.out.trans (hb3.mono HB2.out.size))
  have HL3 := Lib.hid (HL.out.below HB3.out)
  have HG3 := Lib.hid (HG.out.below HB3.out)
  clear hb3
  go_wp2_with fail
  go_at_call 18
  (with_reducible refine (error_is HE.out HS.out _ HG3.out).mono ?_)
  rintro v w4 ⟨rfl, hb4⟩
  have HO4 := Lib.hid (below_block hb4 (size_of_block HO3.out) HO3.out)
  obtain ⟨_, _, _, _⟩ := row2 HO4.out
  have HB4 := Lib.hid (HB3.out.trans (hb4.mono HB3.out.size))
  have HL4 := Lib.hid (HL.out.below HB4.out)
  have HG4 := Lib.hid (HG.out.below HB4.out)
  clear hb4
  go_wp2
  go_loopw [14] (fun iv wr => iv = .int .i64 0 ∧ wr = w4) (fun _ _ => 0)
  case atStart => exact ⟨rfl, rfl⟩
  case round =>
    obtain ⟨rfl, hwr⟩ := hrel
    subst hwr
    go_wp2_with fail
    go_at_call 29
    (with_reducible refine (Fit_no HA.out HL4.out HNF.out).mono ?_)
    rintro e w5 ⟨rfl, hb5⟩
    rw [HFF.out, HE2.out]
    have HB5 := Lib.hid (HB4.out.trans (hb5.mono HB4.out.size))
    have HG5 := Lib.hid (HG.out.below HB5.out)
    clear hb5
    go_wp2_with fail
    go_at_call 18
    (with_reducible refine (error_is HE2.out HS2.out _ HG5.out).mono ?_)
    rintro v w6 ⟨rfl, hb6⟩
    have HB6 := Lib.hid (HB5.out.trans (hb6.mono HB5.out.size))
    clear hb6
    go_wp2_with fail
    go_at_call 22
    (with_reducible refine (Nets_any (ok := fun _ => True) (ok' := fun _ => True) (l := []) (m := []) RdSlice.nil_ RdSlice.nil_ (show decide (([] : List Nt) = []) = true from rfl)).mono ?_)
    rintro e w7 ⟨rfl, k7, rfl⟩
    go_wp2
    go_ret
    exact ⟨rfl, below_drewN HB6.out _⟩
set_option maxRecDepth 100000 in
set_option maxHeartbeats 8000000 in
theorem PlanTells_b {w : World} {a : Int} {N : Int} {A : Option Addr} {m c : Nat} {L : List Int} (ha : is32 a) (hL : R1 (RdSlice 1 (rdInt .i64)) w (.slice A m c) L) (hg : HErr w) (hf : roomF (a, N) L = 0) (hv : roomV (a, N) L < 0) :
    Calls Tryd.prog 6 #[.agg #[.int .u32 a, .int .i64 N], .slice A m c] w fun e w' => e = .returned (.bool true) ∧ Below w.heap.size w w' := by
  have hm := (RdSlice.len hL).1
  have HL := Lib.hid hL
  have HA := Lib.hid ha
  have HG := Lib.hid hg
  have HM := Lib.hid hm
  obtain ⟨q, hq⟩ : ∃ q, roomV (a, N) L = q := ⟨_, rfl⟩
  have HF := Lib.hid hf
  have HFF : Hid (fitF (a, N) L = 4) := Lib.hid (by unfold fitF; rw [if_neg (by rw [hf]; decide), if_pos hv])
  have HNF : Hid (fitF (a, N) L ≠ 0) := Lib.hid (by rw [HFF.out]; decide)
  have HQ : Hid (roomV (a, N) L = q) := Lib.hid hq
  rw [hq] at hv
  have HE : Hid (errV 0 = .nilIface) := Lib.hid errV_zero
  have HE2 : Hid (errV 4 = .iface 41 (.int .i64 4)) := Lib.hid (errV_ne (by decide))
  have HS : Hid (((0 : Int) == 0) = true) := Lib.hid (by simp)
  have HS2 : Hid (((4 : Int) == 4) = true) := Lib.hid (by simp)
  have t0 : decide (q < 0) = true := by simpa using hv
  clear hL ha hg hm hf hq
  go_enter Tryd.func6, Tryd.ntmps6
  go_wp2_with fail
  go_at_call 26
  (with_reducible refine (planned_any _).mono ?_)
  rintro e w1 ⟨rfl, hb1⟩
  have HO1 := Lib.hid (box1 hb1)
  obtain ⟨_, _, _, _⟩ := row2 HO1.out
  have HB1 := Lib.hid ((below_1 w _).trans (hb1.mono (by simp)))
  have HL1 := Lib.hid (HL.out.below HB1.out)
  have HG1 := Lib.hid (HG.out.below HB1.out)
  clear hb1
  go_wp2_with fail
  go_at_call 27
  (with_reducible refine (RoomOf_any HA.out HL1.out).mono ?_)
  rintro e w2 ⟨rfl, hb2⟩
  rw [HF.out, if_pos rfl, HQ.out]
  have HO2 := Lib.hid (below_block hb2 (size_of_block HO1.out) HO1.out)
  obtain ⟨_, _, _, _⟩ := row2 HO2.out
  have HB2 := Lib.hid (HB1.out.trans (hb2.mono HB1.out.size))
  have HL2 := Lib.hid (HL.out.below HB2.out)
  have HG2 := Lib.hid (HG.out.below HB2.out)
  clear hb2
  go_wp2_with fail
  go_at_call 28
  (with_reducible refine (Room_any HA.out HL2.out).mono ?_)
  rintro e w3 ⟨rfl, hb3⟩
  rw [HF.out, if_pos rfl, HQ.out, HE.out]
  have HO3 := Lib.hid (below_block hb3 (size_of_block HO2.out) HO2.out)
  obtain ⟨_, _, _, _⟩ := row2 HO3.out
  have HB3 := Lib.hid (HB2.out.trans (hb3.mono HB2.out.size))
  have HL3 := Lib.hid (HL.out.below HB3.out)
  have HG3 := Lib.hid (HG.out.below HB3.out)
  clear hb3
  go_wp2_with fail
  go_at_call 18
  (with_reducible refine (error_is HE.out HS.out _ HG3.out).mono ?_)
  rintro v w4 ⟨rfl, hb4⟩
  have HO4 := Lib.hid (below_block hb4 (size_of_block HO3.out) HO3.out)
  obtain ⟨_, _, _, _⟩ := row2 HO4.out
  have HB4 := Lib.hid (HB3.out.trans (hb4.mono HB3.out.size))
  have HL4 := Lib.hid (HL.out.below HB4.out)
  have HG4 := Lib.hid (HG.out.below HB4.out)
  clear hb4
  go_wp2
  go_loopw [14] (fun iv wr => iv = .int .i64 0 ∧ wr = w4) (fun _ _ => 0)
  case atStart => exact ⟨rfl, rfl⟩
  case round =>
    obtain ⟨rfl, hwr⟩ := hrel
    subst hwr
    go_wp2_with fail
    go_at_call 29
    (with_reducible refine (Fit_no HA.out HL4.out HNF.out).mono ?_)
    rintro e w5 ⟨rfl, hb5⟩
    rw [HFF.out, HE2.out]
    have HB5 := Lib.hid (HB4.out.trans (hb5.mono HB4.out.size))
    have HG5 := Lib.hid (HG.out.below HB5.out)
    clear hb5
    go_wp2_with fail
    go_at_call 18
    (with_reducible refine (error_is HE2.out HS2.out _ HG5.out).mono ?_)
    rintro v w6 ⟨rfl, hb6⟩
    have HB6 := Lib.hid (HB5.out.trans (hb6.mono HB5.out.size))
    clear hb6
    go_wp2_with fail
    go_at_call 22
    (with_reducible refine (Nets_any (ok := fun _ => True) (ok' := fun _ => True) (l := []) (m := []) RdSlice.nil_ RdSlice.nil_ (show decide (([] : List Nt) = []) = true from rfl)).mono ?_)
    rintro e w7 ⟨rfl, k7, rfl⟩
    go_wp2
    go_ret
    exact ⟨rfl, below_drewN HB6.out _⟩
set_option maxRecDepth 100000 in
set_option maxHeartbeats 8000000 in
theorem PlanTells_c {w : World} {a : Int} {N : Nat} {A : Option Addr} {m c : Nat} {L : List Int} (ha : is32 a) (hL : R1 (RdSlice 1 (rdInt .i64)) w (.slice A m c) L) (hg : HErr w) (hf : roomF (a, (N : Int)) L = 0) (hv : 0 ≤ roomV (a, (N : Int)) L) :
    Calls Tryd.prog 6 #[.agg #[.int .u32 a, .int .i64 N], .slice A m c] w fun e w' => e = .returned (.bool true) ∧ Below w.heap.size w w' := by
  have hm := (RdSlice.len hL).1
  have HL := Lib.hid hL
  have HA := Lib.hid ha
  have HG := Lib.hid hg
  have HM := Lib.hid hm
  obtain ⟨q, hq⟩ : ∃ q, roomV (a, (N : Int)) L = q := ⟨_, rfl⟩
  have HF := Lib.hid hf
  have HFF : Hid (fitF (a, (N : Int)) L = 0) := Lib.hid (by unfold fitF; rw [if_neg (by rw [hf]; decide), if_neg (by omega)])
  have HQ : Hid (roomV (a, (N : Int)) L = q) := Lib.hid hq
  have hv0 := hv
  rw [hq] at hv
  have HE : Hid (errV 0 = .nilIface) := Lib.hid errV_zero
  have HS : Hid (((0 : Int) == 0) = true) := Lib.hid (by simp)
  have t0 : decide (q < 0) = false := by simp; omega
  obtain ⟨h0, h64, hbad⟩ := room_parts hf
  have HTop := Lib.hid (net_top ha h0)
  have hm64 : m ≤ 64 := by omega
  obtain ⟨W, hW1, hW2⟩ := sort_ex (keyL L) (idsN L.length) (List.Pairwise.imp (fun hlt e => by omega) (idsN_asc L.length))
  have HP := Lib.hid (plan_of ha HFF.out ⟨hW1, hW2⟩)
  rw [← hm] at HP
  obtain ⟨Z, hZ⟩ : ∃ Z, putAll L W a (List.replicate m (0, 0)) = Z := ⟨_, rfl⟩
  rw [hZ] at HP
  have HZ := Lib.hid hZ
  have HSum : Hid (a + sumK L W ≤ 4294967296) := Lib.hid (by
    rw [sumK_perm hW1]
    have h1 := HTop.out
    unfold roomV at hv0; simp only [Int.toNat_natCast] at hv0; omega)
  have HAll : Hid (restW L W 0 0 = W) := Lib.hid (restW_all L W (fun x hx => by
    obtain ⟨i, rfl, hi⟩ := HP.out.idx hx
    have := key_range hbad (i := (i : Int)) (by omega) (by omega)
    exact ⟨by omega, this.1⟩))
  have HNone : Hid (restW L W 33 0 = []) := Lib.hid (restW_none L W (fun x hx => by
    obtain ⟨i, rfl, hi⟩ := HP.out.idx hx
    exact (key_range hbad (i := (i : Int)) (by omega) (by omega)).2))
  have HNext : Hid (∀ k, restW L W k m = restW L W (k + 1) 0) := Lib.hid (fun k => restW_next L W k m (fun x hx => by
    obtain ⟨i, rfl, hi⟩ := HP.out.idx hx
    omega))
  have HBad := Lib.hid hbad
  have hmk := run_make_nets m (by omega)
  clear hL ha hg hm hf hq hv0 h0 h64 hbad hW1 hW2 hZ
  go_enter Tryd.func6, Tryd.ntmps6
  go_wp2_with fail
  go_at_call 26
  (with_reducible refine (planned_any _).mono ?_)
  rintro e w1 ⟨rfl, hb1⟩
  have HO1 := Lib.hid (box1 hb1)
  obtain ⟨_, _, _, _⟩ := row2 HO1.out
  have HB1 := Lib.hid ((below_1 w _).trans (hb1.mono (by simp)))
  have HL1 := Lib.hid (HL.out.below HB1.out)
  have HG1 := Lib.hid (HG.out.below HB1.out)
  clear hb1
  go_wp2_with fail
  go_at_call 27
  (with_reducible refine (RoomOf_any HA.out HL1.out).mono ?_)
  rintro e w2 ⟨rfl, hb2⟩
  rw [HF.out, if_pos rfl, HQ.out]
  have HO2 := Lib.hid (below_block hb2 (size_of_block HO1.out) HO1.out)
  obtain ⟨_, _, _, _⟩ := row2 HO2.out
  have HB2 := Lib.hid (HB1.out.trans (hb2.mono HB1.out.size))
  have HL2 := Lib.hid (HL.out.below HB2.out)
  have HG2 := Lib.hid (HG.out.below HB2.out)
  clear hb2
  go_wp2_with fail
  go_at_call 28
  (with_reducible refine (Room_any HA.out HL2.out).mono ?_)
  rintro e w3 ⟨rfl, hb3⟩
  rw [HF.out, if_pos rfl, HQ.out, HE.out]
  have HO3 := Lib.hid (below_block hb3 (size_of_block HO2.out) HO2.out)
  obtain ⟨_, _, _, _⟩ := row2 HO3.out
  have HB3 := Lib.hid (HB2.out.trans (hb3.mono HB2.out.size))
  have HL3 := Lib.hid (HL.out.below HB3.out)
  have HG3 := Lib.hid (HG.out.below HB3.out)
  clear hb3
  go_wp2_with fail
  go_at_call 18
  (with_reducible refine (error_is HE.out HS.out _ HG3.out).mono ?_)
  rintro v w4 ⟨rfl, hb4⟩
  have HO4 := Lib.hid (below_block hb4 (size_of_block HO3.out) HO3.out)
  obtain ⟨_, _, _, _⟩ := row2 HO4.out
  have HB4 := Lib.hid (HB3.out.trans (hb4.mono HB3.out.size))
  have HL4 := Lib.hid (HL.out.below HB4.out)
  have HG4 := Lib.hid (HG.out.below HB4.out)
  clear hb4
  have HOut := Lib.hid (OutN.zero w4 m 32)
  have HBz := Lib.hid (below_1 w4 (.cells (madeCells #[.int .u32 0, .int .i64 0] (m * 2)) 32))
  have ha1 := HA.out.1
  have ha2 := HA.out.2
  have hwa : wrap64 a = a := wrap64_id (by omega) (by omega)
  have HWA := Lib.hid hwa
  have hz4 := HB4.out.size
  clear hwa
  go_wp2
  go_loopw [13, 14] (fun av kv wr => ∃ (k : Nat) (p : Int) (ns : List Nt), k ≤ 33 ∧ kv = .int .i64 (k : Int) ∧ av = .int .i64 p ∧ 0 ≤ p ∧ p ≤ 4294967296 ∧ Hid (p + sumK L (restW L W k 0) ≤ 4294967296 ∧ putAll L (restW L W k 0) p ns = Z ∧ ns.length = m) ∧ OutN wr w4.heap.size ns ∧ Below w4.heap.size w4 wr) (fun _ kv _ => 33 - (intOf kv).toNat)
  case atStart =>
    refine ⟨0, a, List.replicate m (0, 0), by omega, rfl, (by first | rfl | rw [HWA.out]), ha1, by omega, Lib.hid ⟨?_, ?_, by simp⟩, HOut.out, HBz.out⟩
    · rw [HAll.out]; exact HSum.out
    · rw [HAll.out]; exact HZ.out
  case round =>
    obtain ⟨k, p, ns, hk, rfl, rfl, hp0, hp1, HPr, hout, hbr⟩ := hrel
    have HOutR := Lib.hid hout
    have HBR := Lib.hid hbr
    clear hout hbr
    by_cases hk32 : k ≤ 32
    · have hk32' : (k : Int) ≤ 32 := by omega
      go_wp2
      go_loopw [13, 15] (fun av iv wr => ∃ (i : Nat) (p : Int) (ns : List Nt), i ≤ m ∧ iv = .int .i64 (i : Int) ∧ av = .int .i64 p ∧ 0 ≤ p ∧ p ≤ 4294967296 ∧ Hid (p + sumK L (restW L W k i) ≤ 4294967296 ∧ putAll L (restW L W k i) p ns = Z ∧ ns.length = m) ∧ OutN wr w4.heap.size ns ∧ Below w4.heap.size w4 wr) (fun _ iv _ => m - (intOf iv).toNat)
      case atStart => exact ⟨0, p, ns, Nat.zero_le _, rfl, rfl, hp0, hp1, HPr, HOutR.out, HBR.out⟩
      case round =>
        clear HOutR HBR HPr hp0 hp1
        obtain ⟨i, p, ns, hi, rfl, rfl, hp0, hp1, HPr, hout, hbr⟩ := hrel
        have HOutR := Lib.hid hout
        have HBR := Lib.hid hbr
        have hzr := hbr.size
        clear hout hbr
        by_cases hlt : i < m
        · have hiL : i < L.length := by rw [← HM.out]; exact hlt
          obtain ⟨b, o, y, rfl, hbb, HY, wy, c1⟩ := HL4.out.atI hlt
          obtain ⟨z, hz32, ez, hLz⟩ := HP.out.key hiL
          obtain rfl : y = (z : Int) := by have := HY.out; rw [hLz] at this; simpa using this.symm
          have HKz := Lib.hid ez
          have r1 := (HBR.out.cell (p := ⟨b, o + i, none⟩) hbb).trans c1
          clear ez hLz wy c1
          by_cases hzk : z = k
          · subst hzk
            obtain ⟨V, V', eW, _⟩ := HP.out.at_ hiL
            obtain ⟨_, _, _, _, _, g6, g7⟩ := HP.out.good eW hiL HKz.out
            have HTk := Lib.hid (restW_take eW g6 g7 HKz.out)
            have HWK0 := Lib.hid (wrap_low z)
            have hl1 := lowI_le z
            have hl2 := lowI_pos z
            obtain ⟨S, hS⟩ : ∃ S, lowI z = S := ⟨_, rfl⟩
            rw [hS] at hl1 hl2
            have HSt : Hid (p + S ≤ 4294967296 ∧ p + S + sumK L (restW L W z (i + 1)) ≤ 4294967296 ∧ putAll L (restW L W z (i + 1)) (p + S) (ns.set i (p, (z : Int))) = Z ∧ (ns.set i (p, (z : Int))).length = m) := Lib.hid (by
              obtain ⟨h1, h2, h3⟩ := HPr.out
              rw [HTk.out] at h1 h2
              rw [sumK_cons, HKz.out, Int.toNat_natCast, hS] at h1
              simp only [putAll] at h2
              rw [HKz.out, Int.toNat_natCast, Int.toNat_natCast, hS] at h2
              have h4 := sumK_nonneg L (restW L W z (i + 1))
              exact ⟨by omega, by omega, h2, by simp [h3]⟩)
            have hps : p + S ≤ 4294967296 := HSt.out.1
            have HWK : Hid (wrap64 ((2 : Int) ^ (32 - z)) = S) := Lib.hid (by rw [← hS]; exact HWK0.out)
            have HWS : Hid (wrap64 (p + S) = p + S) := Lib.hid (wrap64_id (by omega) (by omega))
            have HWU : Hid (IntKind.u32.wrap p = p) := Lib.hid (IntWalk.u32_in p ⟨by omega, by omega⟩)
            have hgx : ∃ q, ns[i]? = some q := ⟨_, List.getElem?_eq_getElem (by rw [HPr.out.2.2]; exact hlt)⟩
            obtain ⟨qn, hqn2⟩ := hgx
            obtain ⟨o0, o1, o2, o3⟩ := HOutR.out.cells hqn2
            have HN := Lib.hid (HOutR.out.set i p (z : Int) (by rw [HPr.out.2.2]; exact hlt))
            clear hqn2 hS HWK0 g6 g7 eW
            go_wp2
            go_roundw
            case rel => exact ⟨i + 1, p + S, _, by omega, by go_num, by rw [HWK.out, HWS.out], by omega, hps, Lib.hid HSt.out.2, (by first | exact HN.out | (rw [HWU.out]; exact HN.out)), (HBR.out.setCell (Nat.le_refl _) _).setCell (Nat.le_refl _) _⟩
            case measure => simp [intOf]; omega
          · have HSk : Hid (restW L W k (i + 1) = restW L W k i) := Lib.hid (restW_skip L W k i HP.out.nonneg (by rw [HKz.out]; omega))
            have t1 : ((z : Int) == (k : Int)) = false := by simp; omega
            have t2 : (z == k) = false := by simp; omega
            have t3 : ¬ z = k := hzk
            go_wp2
            go_roundw
            case rel => exact ⟨i + 1, p, ns, by omega, by go_num, rfl, hp0, hp1, Lib.hid (by rw [HSk.out]; exact HPr.out), HOutR.out, HBR.out⟩
            case measure => simp [intOf]; omega
        · have him : i = m := by omega
          have HPr2 : Hid (p + sumK L (restW L W (k + 1) 0) ≤ 4294967296 ∧ putAll L (restW L W (k + 1) 0) p ns = Z ∧ ns.length = m) := Lib.hid (by
            have h := HPr.out
            rw [him, HNext.out k] at h; exact h)
          clear him
          go_wp2
          go_roundw
          case rel => exact ⟨k + 1, p, ns, by omega, by go_num, rfl, hp0, hp1, HPr2, HOutR.out, HBR.out⟩
          case measure => simp [intOf]; omega
    · have HDone : Hid (ns = Z) := Lib.hid (by
        have h := HPr.out.2.1
        have hk33 : k = 33 := by omega
        rw [hk33, HNone.out] at h
        exact h)
      have t1 : decide ((k : Int) ≤ 32) = false := by simp; omega
      have t2 : decide (k ≤ 32) = false := by simp; omega
      have HBW := Lib.hid (HB4.out.trans (HBR.out.mono hz4))
      obtain ⟨_, _, _, _⟩ := row2 (below_block HBR.out (size_of_block HO4.out) HO4.out)
      have HLW := Lib.hid (HL.out.below HBW.out)
      have hzw := HBW.out.size
      go_wp2_with fail
      go_at_call 29
      (with_reducible refine (Fit_yes HA.out HLW.out HFF.out HTop.out).mono ?_)
      rintro e w5 ⟨W5, g5, hW5, rfl, hout5, hb5, hg5⟩
      rw [← HM.out] at hout5 ⊢
      have eW5 : W5 = W := sort_one hW5.2 HP.out.srt (fun x => by rw [hW5.1.mem_iff, HP.out.perm.mem_iff])
      subst eW5
      rw [HZ.out] at hout5
      have HOut5 := Lib.hid hout5
      have HOut4 := Lib.hid (HOutR.out.below hb5 HOutR.out.lt)
      have HB5 := Lib.hid (HBW.out.trans (hb5.mono hzw))
      have HG5 := Lib.hid (HG.out.below HB5.out)
      clear hb5 hW5 hout5
      go_wp2_with fail
      go_at_call 18
      (with_reducible refine (error_is HE.out HS.out _ HG5.out).mono ?_)
      rintro v w6 ⟨rfl, hb6⟩
      have hZl : Z.length = m := by rw [HP.out.len, ← HM.out]
      have hwf : ∀ x ∈ Z, wfN x := fun x hx => by
        obtain ⟨j, hj⟩ := List.getElem?_of_mem hx
        obtain ⟨p', k', e', _, h1, _, h2, _⟩ := HP.out.entry (i := j) (by rw [← HP.out.len]; exact (List.getElem?_eq_some_iff.1 hj).1)
        rw [hj] at e'
        injection e' with e'
        subst e'
        exact ⟨WalkArith.wf_u32 h1, WalkArith.wf_i64 (by omega)⟩
      have HR1 : Hid (rdNets w6 (· < w6.heap.size) [.slice (some ⟨g5, 0, none⟩) m m] Z) := Lib.hid (by
        have h := ((HOut5.out).below hb6 HOut5.out.lt).read hwf (by omega)
        rw [hZl] at h; exact h)
      have HR2 : Hid (rdNets w6 (· < w6.heap.size) [.slice (some ⟨w4.heap.size, 0, none⟩) m m] Z) := Lib.hid (by
        have h := ((HOut4.out).below hb6 HOut4.out.lt)
        rw [HDone.out] at h
        have h := h.read hwf (by omega)
        rw [hZl] at h; exact h)
      have HB6 := Lib.hid (HB5.out.trans (hb6.mono HB5.out.size))
      have HSame : Hid (decide (Z = Z) = true) := Lib.hid (by simp)
      clear hb6 hwf hZl
      go_wp2_with fail
      go_at_call 22
      (with_reducible refine (Nets_any HR1.out HR2.out (r := true) (decide_eq_true rfl)).mono ?_)
      rintro e w7 ⟨rfl, k7, rfl⟩
      go_wp2
      go_ret
      exact ⟨rfl, below_drewN HB6.out _⟩
theorem net_partsT {w : World} {A : Array Value} {x : Int × Int} (h : RV rdNet w (.agg A) x) : ∃ a l : Int, x = (a, l) ∧ A = #[.int .u32 a, .int .i64 l] ∧ is32 a := by
  obtain ⟨c0, c1, e, ⟨e0, w0⟩, ⟨e1, w1⟩⟩ := h
  obtain ⟨a, l⟩ := x
  subst e0; subst e1
  have e2 : A.toList = [.int .u32 a, .int .i64 l] := by simpa [Value.cells] using e
  exact ⟨a, l, rfl, by rw [← Array.toArray_toList (xs := A), e2], bounds_u32 w0⟩
theorem PlanTells_walk (w : World) (A0 : Array Value) (x0 : Int × Int) (h0 : RV rdNet w (.agg A0) x0) (c0 : True ∧ True) (A : Option Addr) (n c : Nat) (L : List Int) (rr : RV rdInts w (.slice A n c) L) (q : L.length * 8 ≤ reachBytes ∧ ∀ x ∈ L, True) (hg : HErr w) :
    Calls Tryd.prog 6 #[.agg A0, .slice A n c] w fun e w' => e = .returned (.bool true) ∧ Below w.heap.size w w' := by
  obtain ⟨a, N, rfl, rfl, ha⟩ := net_partsT h0
  have hL : R1 (RdSlice 1 (rdInt .i64)) w (.slice A n c) L := rr
  by_cases hf : roomF (a, N) L = 0
  · by_cases hv : roomV (a, N) L < 0
    · exact PlanTells_b ha hL hg hf hv
    · have h1 := (netF_zero.1 (room_parts hf).1).1
      obtain ⟨k, rfl⟩ := Int.eq_ofNat_of_zero_le h1
      exact PlanTells_c ha hL hg hf (by omega)
  · exact PlanTells_a ha hL hg hf
end Go.Proofs.YtplojnlmofbneaaDoor
