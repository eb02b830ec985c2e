/- cover.Has and cover.Size. -/
import Derived.Test.YtplojnlmofbneaaDoorCovE
namespace Go.Proofs.YtplojnlmofbneaaDoor
open Go.ChangeShapes Go.WideShapes Go.ChangeAt Go.RowKit
set_option linter.unusedVariables false
set_option linter.unusedSimpArgs false
theorem row1b {w : World} {R : Nat} {v0 : Value} {t : TypeId} (h : w.heap[R]? = some (.cells #[v0] t (0, 0))) : w.cell? ⟨R, 0, none⟩ = some v0 := by
  rw [cell_of_row _ R _ _ _ (0, 0) h]; rfl
set_option maxHeartbeats 400000 in
theorem HasC_any {w : World} {G : Nat} {a x x' : Int} {t : TypeId} (hG : w.heap[G]? = some (.cells #[.int .u32 a] t (0, 0))) (ha : is32 a) (hx : is32 x) :
    Calls Tryd.prog 43 #[.agg #[.int .u32 x, .int .i64 x'], .pointer (some ⟨G, 0, none⟩)] w fun e w' => e = .returned (.bool (hasB (x, x') a)) ∧ Below w.heap.size w w' := by
  have hl := size_of_block hG
  have hne : ¬ G = w.heap.size := by omega
  have c0 := row1b hG
  have HA := Lib.hid ha
  have HX := Lib.hid hx
  clear hG ha hx
  go_enter Tryd.func43, Tryd.ntmps43
  go_wp2_with fail
  (with_reducible refine (Has_any _ _ _ _ HX.out HA.out).mono ?_)
  rintro e w1 ⟨rfl, hb1⟩
  have HB := Lib.hid ((below_a1 w _).trans (hb1.mono (by simp)))
  clear hb1
  go_wp2
  go_ret
  exact ⟨rfl, HB.out⟩
theorem hasL_drop {l : List Nn} {k : Nat} {x : Nn} {a : Int} (h : l[k]? = some x) : hasL (l.drop k) a = (hasB x a || hasL (l.drop (k + 1)) a) := by
  obtain ⟨hk', e⟩ := List.getElem?_eq_some_iff.1 h
  rw [List.drop_eq_getElem_cons hk', e, hasL_cons]
set_option maxRecDepth 100000 in
set_option maxHeartbeats 2000000 in
theorem IndexHas_any {w : World} {A : Option Addr} {G n c : Nat} {l : List Nn} {a : Int} {t : TypeId} (hG : w.heap[G]? = some (.cells #[.int .u32 a] t (0, 0))) (ha : is32 a) (hr : R1 rdNets w (.slice A n c) l) :
    Calls Tryd.prog 61 #[.slice A n c, .func (Fn.func 43) #[] #[.pointer (some ⟨G, 0, none⟩)]] w fun e w' => ∃ r : Int, e = .returned (.int .i64 r) ∧ Hid (decide (0 ≤ r) = hasL l a) ∧ Below w.heap.size w w' := by
  obtain ⟨hn, hnc, hcm⟩ := RdSlice.len hr
  have hnm : n ≤ 9223372036854775807 := by unfold maxLen at hcm; omega
  have HR := Lib.hid hr
  have HN := Lib.hid hn
  have HG := Lib.hid hG
  have HA := Lib.hid ha
  have hGl := size_of_block hG
  clear hr hcm hnc hn hG ha
  go_enter Tryd.func61, Tryd.ntmps61
  go_wp2
  go_loopw [5, 8] (fun _ iv wr => ∃ k : Nat, k ≤ n ∧ iv = .int .i64 k ∧ Hid (hasL (l.drop k) a = hasL l a) ∧ Below w.heap.size w wr) (fun _ iv _ => n - (intOf iv).toNat)
  case atStart => exact ⟨0, Nat.zero_le _, rfl, Lib.hid rfl, Below.refl _ _⟩
  case round =>
    obtain ⟨k, hk, rfl, HK, hbr⟩ := hrel
    have HB := Lib.hid hbr
    have s1 := hbr.size
    by_cases hlt : k < n
    · obtain ⟨b, o, ⟨x, x'⟩, rfl, hb, HX, ⟨wx, wy⟩, c0, c1⟩ := RdSlice.atN HR.out hlt
      have d0 := (hbr.cell (p := ⟨b, o + k * 2, none⟩) hb).trans c0
      have d1 := (hbr.cell (p := ⟨b, o + k * 2 + 1, none⟩) hb).trans c1
      have i0 : (0 : Int) ≤ (k : Int) := by omega
      have i1 : (k : Int) < (n : Int) := by omega
      have HIx : Hid (is32 x) := Lib.hid (bounds_u32 wx)
      have HG2 := Lib.hid (below_block hbr hGl HG.out)
      have HD := Lib.hid (hasL_drop (a := a) HX.out)
      obtain ⟨r, hr⟩ : ∃ r, hasB (x, x') a = r := ⟨_, rfl⟩
      have HH := Lib.hid hr
      clear c0 c1 wx wy hbr hr
      go_wp2_with fail
      (with_reducible refine (HasC_any HG2.out HA.out HIx.out).mono ?_)
      rw [HH.out]
      rintro e w2 ⟨rfl, hb2⟩
      have HB2 := Lib.hid (HB.out.trans (hb2.mono s1))
      clear hb2
      cases r
      · have HK2 : Hid (hasL (l.drop (k + 1)) a = hasL l a) := Lib.hid (by rw [← HK.out, HD.out, HH.out]; rfl)
        go_wp2
        go_roundw
        case rel => exact ⟨k + 1, by omega, by go_num, HK2, HB2.out⟩
        case measure => simp [intOf]; omega
      · have HK2 : Hid (hasL l a = true) := Lib.hid (by rw [← HK.out, HD.out, HH.out]; rfl)
        go_wp2
        go_ret
        exact ⟨k, rfl, Lib.hid (by rw [HK2.out]; simp), HB2.out⟩
    · have HK2 : Hid (hasL l a = false) := Lib.hid (by rw [← HK.out, List.drop_eq_nil_of_le (by rw [← HN.out]; omega)]; rfl)
      go_wp2
      go_ret
      exact ⟨-1, rfl, Lib.hid (by rw [HK2.out]; rfl), HB.out⟩
set_option maxRecDepth 100000 in
theorem ContainsHas_any {w : World} {A : Option Addr} {G n c : Nat} {l : List Nn} {a : Int} {t : TypeId} (hG : w.heap[G]? = some (.cells #[.int .u32 a] t (0, 0))) (ha : is32 a) (hr : R1 rdNets w (.slice A n c) l) :
    Calls Tryd.prog 42 #[.slice A n c, .func (Fn.func 43) #[] #[.pointer (some ⟨G, 0, none⟩)]] w fun e w' => e = .returned (.bool (hasL l a)) ∧ Below w.heap.size w w' := by
  have HI := Lib.hid (IndexHas_any hG ha hr)
  obtain ⟨H, hH⟩ : ∃ H, hasL l a = H := ⟨_, rfl⟩
  rw [hH] at HI ⊢
  clear hG ha hr hH
  go_enter Tryd.func42, Tryd.ntmps42
  go_wp2_with fail
  (with_reducible refine HI.out.mono ?_)
  rintro e w1 ⟨z, rfl, hz, hb1⟩
  have HB := Lib.hid hb1
  clear hb1
  go_wp2
  go_ret
  exact ⟨ret_bool hz.out, HB.out⟩
set_option maxHeartbeats 400000 in
theorem CHas_any {w : World} {A : Option Addr} {n c : Nat} {l : List Nn} {a : Int} (ha : is32 a) (hr : R1 rdNets w (.slice A n c) l) :
    Calls Tryd.prog 14 #[.slice A n c, .int .u32 a] w fun e w' => e = .returned (.bool (hasL l a)) ∧ Below w.heap.size w w' := by
  have HA := Lib.hid ha
  have HR := Lib.hid (hr.below (below_a1 w (.cells #[.int .u32 a] 23)))
  obtain ⟨H, hH⟩ : ∃ H, hasL l a = H := ⟨_, rfl⟩
  have HH := Lib.hid hH
  rw [hH]
  clear ha hr hH
  go_enter Tryd.func14, Tryd.ntmps14
  go_wp2_with fail
  (with_reducible refine (ContainsHas_any (heap_alloc_new w (.cells #[.int .u32 a] 23)) HA.out HR.out).mono ?_)
  rw [HH.out]
  rintro e w1 ⟨rfl, hb1⟩
  have HB := Lib.hid ((below_a1 w _).trans (hb1.mono (by simp)))
  clear hb1
  go_wp2
  go_ret
  exact ⟨rfl, HB.out⟩
def sizV (l : List Nn) : Int := if covF l = 0 then sizL (coverV l) else 0
def SizePost (w : World) (l : List Nn) (e : Ending) (w' : World) : Prop := e = .returned (.tuple #[.int .i64 (sizV l), errV (covF l)]) ∧ Below w.heap.size w w'
theorem SizePost.mk {w w' : World} {l : List Nn} {q : Int} {u v : Value} (hu : u = .int .i64 q) (hv : v = errV (covF l)) (hq : sizV l = q) (hb : Below w.heap.size w w') : SizePost w l (.returned (.tuple #[u, v])) w' := by
  subst hu; subst hv; subst hq; exact ⟨rfl, hb⟩
theorem wrap64_lowC (n : Nat) : wrap64 ((2 : Int) ^ (32 - n)) = lowI n := by
  have h1 : lowI n ≤ 4294967296 := by
    rw [lowI_nat]
    have : 2 ^ (32 - n) ≤ 2 ^ 32 := Nat.pow_le_pow_right (by omega) (by omega)
    have e : (2 : Nat) ^ 32 = 4294967296 := by decide
    omega
  have h2 := lowI_pos n
  unfold lowI at *
  exact IntWalk.wrap64_in _ ⟨by omega, by omega⟩
set_option maxRecDepth 100000 in
set_option maxHeartbeats 2000000 in
theorem Size_any {w : World} {A : Option Addr} {n c : Nat} {l : List Nn} (hr : R1 rdNets w (.slice A n c) l) :
    Calls Tryd.prog 30 #[.slice A n c] w (SizePost w l) := by
  have HI32 : Hid (∀ x ∈ l, is32 x.1) := Lib.hid (fun x hx => bounds_u32 (wf_of_rd hr x hx).1)
  have HC := Lib.hid (Cover_any hr)
  clear hr
  by_cases hF : covF l = 0
  · have HF := Lib.hid hF
    have HV := Lib.hid (covF_zero.1 hF)
    clear hF
    go_enter Tryd.func30, Tryd.ntmps30
    go_wp2_with fail
    (with_reducible refine HC.out.mono ?_)
    rintro e w1 ⟨v, rfl, -, ho, hb1⟩
    rw [HF.out, errV_zero]
    have ho := ho HF.out
    have HT : Hid (sizV l = sizL (coverV l)) := Lib.hid (by unfold sizV; rw [if_pos HF.out])
    have hmax := cover_max HV.out.1 HI32.out
    have HVC := Lib.hid (cover_valid HV.out.1)
    obtain ⟨C, hC⟩ : ∃ C, coverV l = C := ⟨_, rfl⟩
    rw [hC] at ho HT hmax HVC
    obtain ⟨A1, c1, rfl⟩ := ho.form
    obtain ⟨N, hN⟩ : ∃ N, C.length = N := ⟨_, rfl⟩
    rw [hN] at ho ⊢
    have HR := Lib.hid (show rdNets w1 (· < w1.heap.size) [.slice A1 N c1] C from ho.read)
    have hnm : N ≤ 9223372036854775807 := by have := (RdSlice.len HR.out).2; unfold maxLen at this; omega
    have HB1 := Lib.hid hb1
    have HN := Lib.hid hN
    have HM := Lib.hid hmax
    clear ho hb1 hC hN hmax
    go_wp2
    go_loopw [6, 8, 19] (fun nv _ iv wr => ∃ (k : Nat) (q : Int), k ≤ N ∧ iv = .int .i64 (k : Int) ∧ nv = .int .i64 q ∧ 0 ≤ q ∧ q ≤ 4294967296 ∧ Hid (q + sizL (C.drop k) = sizL C) ∧ Below w1.heap.size w1 wr) (fun _ _ iv _ => N - (intOf iv).toNat)
    case atStart => exact ⟨0, 0, Nat.zero_le _, rfl, rfl, by omega, by omega, Lib.hid (by simp), Below.refl _ _⟩
    case round =>
      obtain ⟨k, q, hk, rfl, rfl, hq1, hq2, HQ, hbr⟩ := hrel
      have HB := Lib.hid hbr
      have s1 := hbr.size
      by_cases hlt : k < N
      · obtain ⟨b, o, ⟨x, x'⟩, rfl, hb, HX, -, c0, c1⟩ := RdSlice.atN HR.out hlt
        have d0 := (hbr.cell (p := ⟨b, o + k * 2, none⟩) hb).trans c0
        have d1 := (hbr.cell (p := ⟨b, o + k * 2 + 1, none⟩) hb).trans c1
        have i0 : (0 : Int) ≤ (k : Int) := by omega
        have i1 : (k : Int) < (N : Int) := by omega
        obtain ⟨y, hy, ey, _⟩ := net_ok (HVC.out _ (List.mem_of_getElem? HX.out))
        simp only at ey
        subst ey
        have HWK0 := Lib.hid (wrap64_lowC y)
        have hl2 := lowI_pos y
        have HD : Hid (sizL (C.drop k) = lowI y + sizL (C.drop (k + 1))) := Lib.hid (by
          obtain ⟨hk', e⟩ := List.getElem?_eq_some_iff.1 HX.out
          rw [List.drop_eq_getElem_cons hk', e, sizL_cons]; rfl)
        obtain ⟨S, hS⟩ : ∃ S, lowI y = S := ⟨_, rfl⟩
        rw [hS] at hl2 HD HWK0
        have hS2 : q + S ≤ 4294967296 := by
          have h1 := HQ.out
          have h2 := HD.out
          have h3 := sizL_nonneg (C.drop (k + 1))
          have h4 := HM.out
          omega
        have HQ2 : Hid (q + S + sizL (C.drop (k + 1)) = sizL C) := Lib.hid (by
          have h1 := HQ.out
          have h2 := HD.out
          omega)
        have HWS : Hid (wrap64 (q + S) = q + S) := Lib.hid (IntWalk.wrap64_in _ ⟨by omega, by omega⟩)
        have HBN : Hid (Below w1.heap.size w1 (wr.alloc (.cells #[.int .u32 x, .int .i64 (y : Int)] 32))) := Lib.hid (HB.out.trans ((below_a1 wr _).mono s1))
        have hy2 : (y : Int) ≤ 32 := by omega
        clear hS hbr c0 c1
        go_wp2
        go_roundw
        case rel => exact ⟨k + 1, q + S, by omega, by go_num, by rw [HWK0.out, HWS.out], by omega, hS2, HQ2, HBN.out⟩
        case measure => simp [intOf]; try omega
      · have HE : Hid (sizV l = q) := Lib.hid (by
          have h := HQ.out
          rw [List.drop_eq_nil_of_le (by rw [HN.out]; omega)] at h
          have e : sizL [] = 0 := rfl
          rw [HT.out, ← h, e]; omega)
        have HBE := Lib.hid (HB1.out.trans (hbr.mono HB1.out.size))
        clear hbr
        go_wp2
        go_ret2
        exact SizePost.mk rfl (by rw [HF.out]; rfl) HE.out HBE.out
  · have HF := Lib.hid hF
    have HE : Hid (sizV l = 0) := Lib.hid (by unfold sizV; rw [if_neg hF])
    clear hF
    go_enter Tryd.func30, Tryd.ntmps30
    go_wp2_with fail
    (with_reducible refine HC.out.mono ?_)
    rintro e w1 ⟨v, rfl, hv, -, hb1⟩
    have hv := hv HF.out
    subst hv
    rw [errV_ne HF.out]
    have HB1 := Lib.hid hb1
    clear hb1
    go_wp2
    go_ret2
    exact SizePost.mk rfl (errV_ne HF.out).symm HE.out HB1.out
end Go.Proofs.YtplojnlmofbneaaDoor
