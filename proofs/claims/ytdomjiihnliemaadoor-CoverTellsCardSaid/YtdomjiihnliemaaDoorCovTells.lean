/- waywardenlaw1.CoverTells: its walk, one theorem for each way. -/
import Derived.Test.YtdomjiihnliemaaDoorCovO
import Derived.Test.YtdomjiihnliemaaDoorErr
namespace Go.Proofs.YtdomjiihnliemaaDoor
open Go.ChangeShapes Go.WideShapes Go.ChangeAt Go.RowKit
set_option linter.unusedVariables false
set_option linter.unusedSimpArgs false
def covC (l : List Nn) : List Nn := if covF l = 0 then coverV l else []
theorem Cover_u {w : World} {A : Option Addr} {n c : Nat} {l C : List Nn} {V : Value} (hr : R1 rdNets w (.slice A n c) l) (hC : covC l = C) (hV : errV (covF l) = V) :
    Calls Tryd.prog 8 #[.slice A n c] w fun e w' => ∃ A L c, e = .returned (.tuple #[.slice A L c, V]) ∧ rdNets w' (· < w'.heap.size) [.slice A L c] C ∧ Below w.heap.size w w' := by
  refine (Cover_any hr).mono fun e w' hp => ?_
  rcases hp.cases with ⟨hF, rfl, hb⟩ | ⟨hF, A2, L, c2, hL, rfl, ho, hb⟩
  · have e1 : C = [] := by rw [← hC]; unfold covC; rw [if_neg hF]
    subst e1
    rw [← hV, errV_ne hF]
    exact ⟨none, 0, 0, rfl, (OwnN.nil_ w' 0).read, hb⟩
  · have e1 : C = coverV l := by rw [← hC]; unfold covC; rw [if_pos hF]
    subst e1
    rw [← hV, hF]
    exact ⟨A2, L, c2, rfl, ho.read, hb⟩
theorem siz_C (l : List Nn) : sizV l = sizL (covC l) := by
  unfold sizV covC
  split <;> rfl
theorem hasL_d {l : List Nn} {k : Nat} {x : Nn} {a : Int} (h : l[k]? = some x) : hasL (l.drop k) a = (hasB x a || hasL (l.drop (k + 1)) a) := by
  obtain ⟨hk', e⟩ := List.getElem?_eq_some_iff.1 h
  rw [List.drop_eq_getElem_cons hk', e, hasL_cons]
set_option maxRecDepth 100000 in
set_option maxHeartbeats 16000000 in
theorem CoverTells_a {W : World} {A : Option Addr} {n c : Nat} {l : List Nn} {a : Int} (hl : R1 rdNets W (.slice A n c) l) (ha : is32 a) (hg : HErr W) (hF : covF l = 0) :
    Calls Tryd.prog 3 #[.slice A n c, .int .u32 a] W fun e w' => e = .returned (.bool true) ∧ Below W.heap.size W w' := by
  have hln := sl_form hl
  have hnm := (RdSlice.len hl).2
  have hn63 : n ≤ 9223372036854775807 := by unfold maxLen at hnm; omega
  have HL := Lib.hid hl
  have HA := Lib.hid ha
  have HG := Lib.hid hg
  have HLN := Lib.hid hln
  have HI32 : Hid (∀ x ∈ l, is32 x.1) := Lib.hid (fun x hx => bounds_u32 (wf_of_rd hl x hx).1)
  obtain ⟨E, hE⟩ : ∃ E, covF l = E := ⟨_, rfl⟩
  have HE := Lib.hid hE
  obtain ⟨C, hC⟩ : ∃ C, covC l = C := ⟨_, rfl⟩
  have HC := Lib.hid hC
  obtain ⟨T, hT⟩ : ∃ T, sizL C = T := ⟨_, rfl⟩
  have HT := Lib.hid hT
  have HSV : Hid (sizV l = T) := Lib.hid (by rw [siz_C, hC, hT])
  obtain ⟨V, hV⟩ : ∃ V, errV E = V := ⟨_, rfl⟩
  have HV := Lib.hid hV
  have HEV : Hid (errV (covF l) = V) := Lib.hid (by rw [hE, hV])
  have HS : Hid ((E == E) = true) := Lib.hid (by simp)
  obtain ⟨HH, hHH⟩ : ∃ HH, hasL l a = HH := ⟨_, rfl⟩
  have HHA := Lib.hid hHH
  have HTB : Hid (0 ≤ T ∧ T ≤ 4294967296 ∧ (∀ x ∈ C, netF x = 0) ∧ C.length ≤ 64) := Lib.hid (by
    by_cases h : covF l = 0
    · have e : C = coverV l := by rw [← hC]; unfold covC; rw [if_pos h]
      have hv := covF_zero.1 h
      rw [← hT, e]
      exact ⟨sizL_nonneg _, cover_max hv.1 HI32.out, cover_valid hv.1, by have := (cover_all hv.1).2.2; omega⟩
    · have e : C = [] := by rw [← hC]; unfold covC; rw [if_neg h]
      rw [← hT, e]
      exact ⟨by decide, by decide, (fun x hx => by cases hx), by simp⟩)
  have HV0 := Lib.hid (covF_zero.1 hF)
  obtain rfl : E = 0 := by rw [← hE]; exact hF
  have HCC : Hid (covR l 32 (0, 0) = C) := Lib.hid (by rw [cover_ref HV0.out.1 HI32.out, ← hC]; unfold covC; rw [if_pos hF])
  clear hl ha hg hln hnm hE hC hT hV hHH hF
  go_enter Tryd.func3, Tryd.ntmps3
  go_wp2_with fail
  (with_reducible refine (covered_any _).mono ?_)
  rintro e w1 ⟨rfl, hb1⟩
  have HB1 := Lib.hid hb1
  have HL1 := Lib.hid (HL.out.below hb1)
  clear hb1
  go_wp2_with fail
  go_at_call 5
  (with_reducible refine (NetsFault_any HL1.out).mono ?_)
  rw [HE.out]
  rintro e w2 ⟨rfl, hb2⟩
  have HB2 := Lib.hid (HB1.out.trans (hb2.mono HB1.out.size))
  have HL2 := Lib.hid (HL1.out.below hb2)
  clear hb2
  have HCO := Lib.hid (CoverOf_any HV0.out.1 32 w2 A 0 0 HL2.out ⟨by decide, by decide⟩ (by decide) (by decide) (Nat.le_refl _))
  go_wp2_with fail
  go_at_call 6
  (with_reducible refine HCO.out.mono ?_)
  rw [HCC.out]
  rintro e w3 ⟨v3, rfl, ho3, hb3⟩
  have hr3 := ho3.read
  obtain ⟨A3, c3, rfl⟩ := ho3.form
  obtain ⟨N, hN⟩ : ∃ N, C.length = N := ⟨_, rfl⟩
  rw [hN] at hr3 ⊢
  have HNC := Lib.hid hN
  have HRC := Lib.hid (show rdNets w3 (· < w3.heap.size) [.slice A3 N c3] C from hr3)
  have HB3 := Lib.hid (HB2.out.trans (hb3.mono HB2.out.size))
  have HL3 := Lib.hid (HL2.out.below hb3)
  have hN64 : N ≤ 64 := by rw [← hN]; exact HTB.out.2.2.2
  clear hr3 ho3 hb3 hN
  go_wp2
  go_loopw [8, 9] (fun sv iv wr => ∃ (k : Nat) (q : Int), k ≤ N ∧ iv = .int .i64 (k : Int) ∧ sv = .int .i64 q ∧ 0 ≤ q ∧ q ≤ 4294967296 ∧ Hid (q + sizL (C.drop k) = T) ∧ wr = w3) (fun _ iv _ => N - (intOf iv).toNat)
  case atStart => exact ⟨0, 0, Nat.zero_le _, rfl, rfl, by omega, by omega, Lib.hid (by simpa using HT.out), rfl⟩
  case round =>
    obtain ⟨k, q, hk, rfl, rfl, hq1, hq2, HQ, rfl⟩ := hrel
    by_cases hlt : k < N
    · obtain ⟨b, o, ⟨x, x'⟩, rfl, hb, HX, -, c0, c1⟩ := RdSlice.atN HRC.out hlt
      have i0 : (0 : Int) ≤ (k : Int) := by omega
      have i1 : (k : Int) < (N : Int) := by omega
      obtain ⟨y, hy, ey, _⟩ := net_ok (HTB.out.2.2.1 _ (List.mem_of_getElem? HX.out))
      simp only at ey
      subst ey
      have HWK0 := Lib.hid (wrap64_lowC y)
      have hl2 := lowI_pos y
      have HD : Hid (sizL (C.drop k) = lowI y + sizL (C.drop (k + 1))) := Lib.hid (by
        obtain ⟨hk', e⟩ := List.getElem?_eq_some_iff.1 HX.out
        rw [List.drop_eq_getElem_cons hk', e, sizL_cons]; rfl)
      obtain ⟨S, hS⟩ : ∃ S, lowI y = S := ⟨_, rfl⟩
      rw [hS] at hl2 HD HWK0
      have hS2 : q + S ≤ 4294967296 := by
        have h1 := HQ.out
        have h2 := HD.out
        have h3 := sizL_nonneg (C.drop (k + 1))
        have h4 := HTB.out.2.1
        omega
      have HQ2 : Hid (q + S + sizL (C.drop (k + 1)) = T) := Lib.hid (by
        have h1 := HQ.out
        have h2 := HD.out
        omega)
      have HWS : Hid (wrap64 (q + S) = q + S) := Lib.hid (IntWalk.wrap64_in _ ⟨by omega, by omega⟩)
      have hu : IntKind.u64.wrap (32 - (y : Int)) = 32 - y := IntWalk.u64_in _ ⟨by omega, by omega⟩
      have hy2 : (y : Int) ≤ 32 := by omega
      clear hS c0
      go_wp2
      go_roundw
      case rel => exact ⟨k + 1, q + S, by omega, by go_num, by rw [HWK0.out, HWS.out], by omega, hS2, HQ2, trivial⟩
      case measure => simp [intOf]; try omega
    · have HQE : Hid (q = T) := Lib.hid (by
        have h := HQ.out
        rw [List.drop_eq_nil_of_le (by rw [HNC.out]; omega)] at h
        have e : sizL [] = 0 := rfl
        omega)
      obtain rfl := HQE.out
      clear HQ HQE
      go_wp2
      go_loopw [10, 11] (fun hv iv wx => ∃ (i : Nat) (s : Bool), i ≤ n ∧ iv = .int .i64 i ∧ hv = .bool s ∧ Hid ((s || hasL (l.drop i) a) = HH) ∧ Below wr.heap.size wr wx) (fun _ iv _ => n - (intOf iv).toNat)
      case atStart => exact ⟨0, false, Nat.zero_le _, rfl, rfl, Lib.hid (by simpa using HHA.out), Below.refl _ _⟩
      case round =>
        obtain ⟨i, s, hi, rfl, rfl, HSS, hbr⟩ := hrel
        have HB4 := Lib.hid (HB3.out.trans (hbr.mono HB3.out.size))
        have HBR := Lib.hid hbr
        have s4 := hbr.size
        have HL4 := Lib.hid (HL3.out.below hbr)
        have HRC4 := Lib.hid (rd_below HRC.out hbr)
        by_cases hin : i < n
        · obtain ⟨b, o, ⟨x, x'⟩, rfl, hb, HX, ⟨wx, wy⟩, c0, c1⟩ := RdSlice.atN HL4.out hin
          have i0 : (0 : Int) ≤ (i : Int) := by omega
          have i1 : (i : Int) < (n : Int) := by omega
          have HIx : Hid (is32 x) := Lib.hid (bounds_u32 wx)
          have HD := Lib.hid (hasL_d (a := a) HX.out)
          obtain ⟨r, hr⟩ : ∃ r, hasB (x, x') a = r := ⟨_, rfl⟩
          have HR := Lib.hid hr
          clear wx wy hbr hr
          cases s with
          | true =>
            go_wp2
            go_roundw
            case rel => exact ⟨i + 1, true, by omega, by go_num, rfl, Lib.hid (by rw [← HSS.out]; rfl), HBR.out⟩
            case measure => simp [intOf]; try omega
          | false =>
            go_wp2_with fail
            go_at_call 7
            (with_reducible refine (RHas_any x x' a _ HIx.out HA.out).mono ?_)
            rw [HR.out]
            rintro e w5 ⟨rfl, hb5⟩
            have HBR5 := Lib.hid (HBR.out.trans (hb5.mono s4))
            clear hb5
            go_wp2
            go_roundw
            case rel => exact ⟨i + 1, r, by omega, by go_num, rfl, Lib.hid (by rw [← HSS.out, HD.out, HR.out]; rfl), HBR5.out⟩
            case measure => simp [intOf]; try omega
        · have HSE : Hid (s = HH) := Lib.hid (by
            have h := HSS.out
            rw [List.drop_eq_nil_of_le (by rw [HLN.out]; omega)] at h
            simpa [hasL] using h)
          obtain rfl := HSE.out
          clear HSE HSS hbr
          go_wp2_with fail
          go_at_call 8
          (with_reducible refine (Cover_u HL4.out HC.out HEV.out).mono ?_)
          rintro e w6 ⟨A6, L6, c6, rfl, hr6, hb6⟩
          have HB6 := Lib.hid (HB4.out.trans (hb6.mono HB4.out.size))
          have HL6 := Lib.hid (HL4.out.below hb6)
          have HRC6 := Lib.hid (rd_below HRC4.out hb6)
          have HR6 := Lib.hid hr6
          have HG6 := Lib.hid (HG.out.below HB6.out)
          clear hr6 hb6
          go_wp2_with fail
          go_at_call 9
          (with_reducible refine (error_is HV.out HS.out _ HG6.out).mono ?_)
          rintro v w7 ⟨rfl, hb7⟩
          have HB7 := Lib.hid (HB6.out.trans (hb7.mono HB6.out.size))
          have HL7 := Lib.hid (HL6.out.below hb7)
          have HRC7 := Lib.hid (rd_below HRC6.out hb7)
          have HR7 := Lib.hid (rd_below HR6.out hb7)
          clear hb7
          go_wp2_with fail
          go_at_call 10
          (with_reducible refine (Nets_any HR7.out HRC7.out (by simp : decide (C = C) = true)).mono ?_)
          rintro e w8 ⟨rfl, d8, hw8⟩
          have hb8 : Below w7.heap.size w7 w8 := by rw [hw8]; exact below_drewN (Below.refl _ _) _
          have HB8 := Lib.hid (HB7.out.trans (hb8.mono HB7.out.size))
          have HL8 := Lib.hid (HL7.out.below hb8)
          clear hb8 hw8
          go_wp2_with fail
          go_at_call 11
          (with_reducible refine (Size_any HL8.out).mono ?_)
          rintro e w9 ⟨rfl, hb9⟩
          rw [HSV.out, HEV.out]
          have HB9 := Lib.hid (HB8.out.trans (hb9.mono HB8.out.size))
          have HL9 := Lib.hid (HL8.out.below hb9)
          have HG9 := Lib.hid (HG.out.below HB9.out)
          clear hb9
          go_wp2_with fail
          go_at_call 9
          (with_reducible refine (error_is HV.out HS.out _ HG9.out).mono ?_)
          rintro v w10 ⟨rfl, hb10⟩
          have HB10 := Lib.hid (HB9.out.trans (hb10.mono HB9.out.size))
          have HL10 := Lib.hid (HL9.out.below hb10)
          clear hb10
          go_wp2_with fail
          go_at_call 12
          (with_reducible refine (CHas_any HA.out HL10.out).mono ?_)
          rw [HHA.out]
          rintro e w11 ⟨rfl, hb11⟩
          have HB11 := Lib.hid (HB10.out.trans (hb11.mono HB10.out.size))
          have t1 : (s == s) = true := by simp
          clear hb11
          go_wp2
          go_ret
          exact ⟨rfl, HB11.out⟩
set_option maxRecDepth 100000 in
set_option maxHeartbeats 16000000 in
theorem CoverTells_b {W : World} {A : Option Addr} {n c : Nat} {l : List Nn} {a : Int} (hl : R1 rdNets W (.slice A n c) l) (ha : is32 a) (hg : HErr W) (hF : covF l ≠ 0) :
    Calls Tryd.prog 3 #[.slice A n c, .int .u32 a] W fun e w' => e = .returned (.bool true) ∧ Below W.heap.size W w' := by
  have hln := sl_form hl
  have hnm := (RdSlice.len hl).2
  have hn63 : n ≤ 9223372036854775807 := by unfold maxLen at hnm; omega
  have HL := Lib.hid hl
  have HA := Lib.hid ha
  have HG := Lib.hid hg
  have HLN := Lib.hid hln
  have HI32 : Hid (∀ x ∈ l, is32 x.1) := Lib.hid (fun x hx => bounds_u32 (wf_of_rd hl x hx).1)
  obtain ⟨E, hE⟩ : ∃ E, covF l = E := ⟨_, rfl⟩
  have HE := Lib.hid hE
  obtain ⟨C, hC⟩ : ∃ C, covC l = C := ⟨_, rfl⟩
  have HC := Lib.hid hC
  obtain ⟨T, hT⟩ : ∃ T, sizL C = T := ⟨_, rfl⟩
  have HT := Lib.hid hT
  have HSV : Hid (sizV l = T) := Lib.hid (by rw [siz_C, hC, hT])
  obtain ⟨V, hV⟩ : ∃ V, errV E = V := ⟨_, rfl⟩
  have HV := Lib.hid hV
  have HEV : Hid (errV (covF l) = V) := Lib.hid (by rw [hE, hV])
  have HS : Hid ((E == E) = true) := Lib.hid (by simp)
  obtain ⟨HH, hHH⟩ : ∃ HH, hasL l a = HH := ⟨_, rfl⟩
  have HHA := Lib.hid hHH
  have HTB : Hid (0 ≤ T ∧ T ≤ 4294967296 ∧ (∀ x ∈ C, netF x = 0) ∧ C.length ≤ 64) := Lib.hid (by
    by_cases h : covF l = 0
    · have e : C = coverV l := by rw [← hC]; unfold covC; rw [if_pos h]
      have hv := covF_zero.1 h
      rw [← hT, e]
      exact ⟨sizL_nonneg _, cover_max hv.1 HI32.out, cover_valid hv.1, by have := (cover_all hv.1).2.2; omega⟩
    · have e : C = [] := by rw [← hC]; unfold covC; rw [if_neg h]
      rw [← hT, e]
      exact ⟨by decide, by decide, (fun x hx => by cases hx), by simp⟩)
  have t0 : (E == 0) = false := by rw [← hE]; simpa using hF
  have HC0 : Hid (C = []) := Lib.hid (by rw [← hC]; unfold covC; rw [if_neg hF])
  clear hl ha hg hln hnm hE hC hT hV hHH hF
  go_enter Tryd.func3, Tryd.ntmps3
  go_wp2_with fail
  (with_reducible refine (covered_any _).mono ?_)
  rintro e w1 ⟨rfl, hb1⟩
  have HB1 := Lib.hid hb1
  have HL1 := Lib.hid (HL.out.below hb1)
  clear hb1
  go_wp2_with fail
  go_at_call 5
  (with_reducible refine (NetsFault_any HL1.out).mono ?_)
  rw [HE.out]
  rintro e w2 ⟨rfl, hb2⟩
  have HB2 := Lib.hid (HB1.out.trans (hb2.mono HB1.out.size))
  have HL2 := Lib.hid (HL1.out.below hb2)
  clear hb2
  obtain ⟨w3, hw3⟩ : ∃ w3, w2 = w3 := ⟨_, rfl⟩
  subst hw3
  have HB3 := HB2
  have HL3 := HL2
  obtain ⟨N, hN⟩ : ∃ N, C.length = N := ⟨_, rfl⟩
  obtain rfl : N = 0 := by rw [← hN, HC0.out]; rfl
  have HNC := Lib.hid hN
  have HRC := Lib.hid (show rdNets w2 (· < w2.heap.size) [.slice none 0 0] C by rw [HC0.out]; exact (OwnN.nil_ w2 0).read)
  have hN64 : 0 ≤ 64 := by omega
  clear hN
  go_wp2
  go_loopw [8, 9] (fun sv iv wr => ∃ (k : Nat) (q : Int), k ≤ 0 ∧ iv = .int .i64 (k : Int) ∧ sv = .int .i64 q ∧ 0 ≤ q ∧ q ≤ 4294967296 ∧ Hid (q + sizL (C.drop k) = T) ∧ wr = w2) (fun _ iv _ => 0 - (intOf iv).toNat)
  case atStart => exact ⟨0, 0, Nat.zero_le _, rfl, rfl, by omega, by omega, Lib.hid (by simpa using HT.out), rfl⟩
  case round =>
    obtain ⟨k, q, hk, rfl, rfl, hq1, hq2, HQ, rfl⟩ := hrel
    by_cases hlt : k < 0
    · exact absurd hlt (by omega)
    · have HQE : Hid (q = T) := Lib.hid (by
        have h := HQ.out
        rw [List.drop_eq_nil_of_le (by rw [HNC.out]; omega)] at h
        have e : sizL [] = 0 := rfl
        omega)
      obtain rfl := HQE.out
      clear HQ HQE
      go_wp2
      go_loopw [10, 11] (fun hv iv wx => ∃ (i : Nat) (s : Bool), i ≤ n ∧ iv = .int .i64 i ∧ hv = .bool s ∧ Hid ((s || hasL (l.drop i) a) = HH) ∧ Below wr.heap.size wr wx) (fun _ iv _ => n - (intOf iv).toNat)
      case atStart => exact ⟨0, false, Nat.zero_le _, rfl, rfl, Lib.hid (by simpa using HHA.out), Below.refl _ _⟩
      case round =>
        obtain ⟨i, s, hi, rfl, rfl, HSS, hbr⟩ := hrel
        have HB4 := Lib.hid (HB3.out.trans (hbr.mono HB3.out.size))
        have HBR := Lib.hid hbr
        have s4 := hbr.size
        have HL4 := Lib.hid (HL3.out.below hbr)
        have HRC4 := Lib.hid (rd_below HRC.out hbr)
        by_cases hin : i < n
        · obtain ⟨b, o, ⟨x, x'⟩, rfl, hb, HX, ⟨wx, wy⟩, c0, c1⟩ := RdSlice.atN HL4.out hin
          have i0 : (0 : Int) ≤ (i : Int) := by omega
          have i1 : (i : Int) < (n : Int) := by omega
          have HIx : Hid (is32 x) := Lib.hid (bounds_u32 wx)
          have HD := Lib.hid (hasL_d (a := a) HX.out)
          obtain ⟨r, hr⟩ : ∃ r, hasB (x, x') a = r := ⟨_, rfl⟩
          have HR := Lib.hid hr
          clear wx wy hbr hr
          cases s with
          | true =>
            go_wp2
            go_roundw
            case rel => exact ⟨i + 1, true, by omega, by go_num, rfl, Lib.hid (by rw [← HSS.out]; rfl), HBR.out⟩
            case measure => simp [intOf]; try omega
          | false =>
            go_wp2_with fail
            go_at_call 7
            (with_reducible refine (RHas_any x x' a _ HIx.out HA.out).mono ?_)
            rw [HR.out]
            rintro e w5 ⟨rfl, hb5⟩
            have HBR5 := Lib.hid (HBR.out.trans (hb5.mono s4))
            clear hb5
            go_wp2
            go_roundw
            case rel => exact ⟨i + 1, r, by omega, by go_num, rfl, Lib.hid (by rw [← HSS.out, HD.out, HR.out]; rfl), HBR5.out⟩
            case measure => simp [intOf]; try omega
        · have HSE : Hid (s = HH) := Lib.hid (by
            have h := HSS.out
            rw [List.drop_eq_nil_of_le (by rw [HLN.out]; omega)] at h
            simpa [hasL] using h)
          obtain rfl := HSE.out
          clear HSE HSS hbr
          go_wp2_with fail
          go_at_call 8
          (with_reducible refine (Cover_u HL4.out HC.out HEV.out).mono ?_)
          rintro e w6 ⟨A6, L6, c6, rfl, hr6, hb6⟩
          have HB6 := Lib.hid (HB4.out.trans (hb6.mono HB4.out.size))
          have HL6 := Lib.hid (HL4.out.below hb6)
          have HRC6 := Lib.hid (rd_below HRC4.out hb6)
          have HR6 := Lib.hid hr6
          have HG6 := Lib.hid (HG.out.below HB6.out)
          clear hr6 hb6
          go_wp2_with fail
          go_at_call 9
          (with_reducible refine (error_is HV.out HS.out _ HG6.out).mono ?_)
          rintro v w7 ⟨rfl, hb7⟩
          have HB7 := Lib.hid (HB6.out.trans (hb7.mono HB6.out.size))
          have HL7 := Lib.hid (HL6.out.below hb7)
          have HRC7 := Lib.hid (rd_below HRC6.out hb7)
          have HR7 := Lib.hid (rd_below HR6.out hb7)
          clear hb7
          go_wp2_with fail
          go_at_call 10
          (with_reducible refine (Nets_any HR7.out HRC7.out (by simp : decide (C = C) = true)).mono ?_)
          rintro e w8 ⟨rfl, d8, hw8⟩
          have hb8 : Below w7.heap.size w7 w8 := by rw [hw8]; exact below_drewN (Below.refl _ _) _
          have HB8 := Lib.hid (HB7.out.trans (hb8.mono HB7.out.size))
          have HL8 := Lib.hid (HL7.out.below hb8)
          clear hb8 hw8
          go_wp2_with fail
          go_at_call 11
          (with_reducible refine (Size_any HL8.out).mono ?_)
          rintro e w9 ⟨rfl, hb9⟩
          rw [HSV.out, HEV.out]
          have HB9 := Lib.hid (HB8.out.trans (hb9.mono HB8.out.size))
          have HL9 := Lib.hid (HL8.out.below hb9)
          have HG9 := Lib.hid (HG.out.below HB9.out)
          clear hb9
          go_wp2_with fail
          go_at_call 9
          (with_reducible refine (error_is HV.out HS.out _ HG9.out).mono ?_)
          rintro v w10 ⟨rfl, hb10⟩
          have HB10 := Lib.hid (HB9.out.trans (hb10.mono HB9.out.size))
          have HL10 := Lib.hid (HL9.out.below hb10)
          clear hb10
          go_wp2_with fail
          go_at_call 12
          (with_reducible refine (CHas_any HA.out HL10.out).mono ?_)
          rw [HHA.out]
          rintro e w11 ⟨rfl, hb11⟩
          have HB11 := Lib.hid (HB10.out.trans (hb11.mono HB10.out.size))
          have t1 : (s == s) = true := by simp
          clear hb11
          go_wp2
          go_ret
          exact ⟨rfl, HB11.out⟩
theorem CoverTells_walk (w : World) (A : Option Addr) (n c : Nat) (l : List Nn) (rr : RV rdNets w (.slice A n c) l) (q : l.length * 16 ≤ reachBytes ∧ ∀ x ∈ l, True ∧ True) (a : Int) (ba : 0 ≤ a ∧ a ≤ 4294967295) (hg : HErr w) :
    Calls Tryd.prog 3 #[.slice A n c, .int .u32 a] w fun e w' => e = .returned (.bool true) ∧ Below w.heap.size w w' := by
  by_cases hF : covF l = 0
  · exact CoverTells_a rr ba hg hF
  · exact CoverTells_b rr ba hg hF
end Go.Proofs.YtdomjiihnliemaaDoor
