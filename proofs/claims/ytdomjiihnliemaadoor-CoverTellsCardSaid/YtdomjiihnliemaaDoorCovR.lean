/- The reference's covers: In, Half, NetsFault, Full and CoverOf, as contracts. -/
import Derived.Test.YtdomjiihnliemaaDoorCovK
import Derived.Test.YtdomjiihnliemaaDoorNetR
import Derived.Lib.QuietBelow
import Derived.BigQuiet
import Derived.Deep.RegionHeld3
import Derived.Deep.DeepCutAuto
namespace Go.Proofs.YtdomjiihnliemaaDoor
open Go.ChangeShapes Go.WideShapes Go.ChangeAt Go.RowKit
set_option linter.unusedVariables false
set_option linter.unusedSimpArgs false
abbrev nb (a l : Int) : Obj := .cells #[.int .u32 a, .int .i64 l] 29 (0, 0)
theorem fault_c {w : World} {a l r : Int} (h : netF (a, l) = r) (ha : is32 a) (d : Nat) (os : Array Obj) :
    Calls Tryd.prog 13 #[.agg #[.int .u32 a, .int .i64 l]] (Sort.grow (redrawn w d) os) fun e w'' => e = .returned (.int .i64 r) ∧ ∃ p : Regrown, w'' = Sort.grow (redrawn w p.d) p.os :=
  Calls.regrown_of ((NetFault_n a l _ ha.1 ha.2).mono fun e w' ⟨he, hb⟩ => ⟨by rw [he, h], hb⟩)
theorem mask_c {w : World} {k : Nat} (hk : k ≤ 32) (d : Nat) (os : Array Obj) :
    Calls Tryd.prog 17 #[.int .i64 k] (Sort.grow (redrawn w d) os) fun e w'' => e = .returned (.int .u32 (maskV k)) ∧ ∃ p : Regrown, w'' = Sort.grow (redrawn w p.d) p.os :=
  Calls.regrown_of ((MaskOf_n k _ hk).mono fun e w' ⟨he, hb⟩ => ⟨he, by rw [← hb]; exact Below.refl _ _⟩)
theorem fault_is {a l r : Int} (h : netF (a, l) = r) (ha : is32 a) (w : World) :
    Calls Tryd.prog 13 #[.agg #[.int .u32 a, .int .i64 l]] w fun e w' => e = .returned (.int .i64 r) ∧ Below w.heap.size w w' :=
  (NetFault_n a l _ ha.1 ha.2).mono fun e w' ⟨he, hb⟩ => ⟨by rw [he, h], hb⟩
set_option maxRecDepth 100000 in
set_option maxHeartbeats 1000000 in
theorem RHas_any (a n x : Int) (w : World) (ha : is32 a) (hx : is32 x) :
    Calls Tryd.prog 7 #[.agg #[.int .u32 a, .int .i64 n], .int .u32 x] w fun e w' => e = .returned (.bool (hasB (a, n) x)) ∧ Below w.heap.size w w' := by
  have k0 := fun d os => cell_regrown (w := w.alloc (nb a n)) (a := ⟨w.heap.size, 0, none⟩) (v := .int .u32 a) (by simp) d os
  have k1 := fun d os => cell_regrown (w := w.alloc (nb a n)) (a := ⟨w.heap.size, 1, none⟩) (v := .int .i64 n) (by simp) d os
  by_cases hz : netF (a, n) = 0
  · obtain ⟨k, hk, ek, _⟩ := net_ok hz
    simp only at ek
    subst ek
    have hb := and_maskI x k hx.1 hx.2
    rw [hasB_of hz, Int.toNat_natCast]
    have hfl : x - x % lowI k = fl (lowI k) x := rfl
    rw [hfl] at hb
    have HB := Lib.hid hb
    have HZ := Lib.hid hz
    have HA := Lib.hid ha
    clear hb hfl hz hx ha
    go_enter Tryd.func7, Tryd.ntmps7
    go_wp2
    refine wp_region_quiet_below (by kernel_rfl) (by kernel_rfl) ?_
    repeat (go_big_quiet_step (first | (with_reducible exact fault_c HZ.out HA.out _ _) | (with_reducible exact mask_c hk _ _) | fail))
    refine wpQuiet_nil ?_
    intro _ hw'
    obtain ⟨⟨dq, osq⟩, hw''⟩ := hw'
    subst hw''
    go_wp2
    go_ret
    exact ⟨by rw [HB.out]; rfl, ((Below.refl _ _).alloc (Nat.le_refl _) _).trans ((below_regrown _ dq osq).mono (by simp))⟩
  · have hF : hasB (a, n) x = false := by unfold hasB; simp [hz]
    have hne : (netF (a, n) == 0) = false := by simpa using hz
    rw [hF]
    obtain ⟨r, hr⟩ : ∃ r, netF (a, n) = r := ⟨_, rfl⟩
    rw [hr] at hne
    have HR := Lib.hid hr
    have HA := Lib.hid ha
    clear hF hz hr ha hx
    go_enter Tryd.func7, Tryd.ntmps7
    go_wp2
    refine wp_region_quiet_below (by kernel_rfl) (by kernel_rfl) ?_
    repeat (go_big_quiet_step (first | (with_reducible exact fault_c HR.out HA.out _ _) | fail))
    refine wpQuiet_nil ?_
    intro _ hw'
    obtain ⟨⟨dq, osq⟩, hw''⟩ := hw'
    subst hw''
    go_wp2
    go_ret
    exact ⟨rfl, ((Below.refl _ _).alloc (Nat.le_refl _) _).trans ((below_regrown _ dq osq).mono (by simp))⟩
set_option maxHeartbeats 400000 in
theorem RIn_any (a n b m : Int) (w : World) (ha : is32 a) (hb : is32 b) :
    Calls Tryd.prog 14 #[.agg #[.int .u32 a, .int .i64 n], .agg #[.int .u32 b, .int .i64 m]] w fun e w' => e = .returned (.bool (inB (a, n) (b, m))) ∧ Below w.heap.size w w' := by
  obtain ⟨h0, h1⟩ := ha
  have HB := Lib.hid hb
  by_cases hz : netF (a, n) = 0
  · have HZ := Lib.hid hz
    by_cases hl : m ≤ n
    · rw [inB_has hz hl]
      clear hz
      go_enter Tryd.func14, Tryd.ntmps14
      go_wp2_with (first
        | (go_at_call 13; refine (fault_is HZ.out ⟨h0, h1⟩ _).mono ?_; rintro e w1 ⟨rfl, hb1⟩; have d0 : w1.cell? ⟨w.heap.size, 0, none⟩ = some (.int .u32 a) := (hb1.cell (by simp; omega)).trans (by simp); have d1 : w1.cell? ⟨w.heap.size, 1, none⟩ = some (.int .i64 n) := (hb1.cell (by simp; omega)).trans (by simp); have d2 : w1.cell? ⟨w.heap.size + 1, 0, none⟩ = some (.int .u32 b) := (hb1.cell (by simp)).trans (by simp); have d3 : w1.cell? ⟨w.heap.size + 1, 1, none⟩ = some (.int .i64 m) := (hb1.cell (by simp)).trans (by simp); have hz1 := hb1.size; simp only [World.size_alloc] at hz1; have HB1 := Lib.hid ((((Below.refl w.heap.size w).alloc (Nat.le_refl _) _).alloc (by simp) _).trans (hb1.mono (by simp; omega))); clear hb1)
        | (go_at_call 7; refine (RHas_any b m a _ HB.out ⟨h0, h1⟩).mono ?_; rintro e w2 ⟨rfl, hb2⟩; have HB2 := Lib.hid (HB1.out.trans (hb2.mono (by omega))); clear hb2)
        | fail)
      go_ret
      exact ⟨rfl, HB2.out⟩
    · have hlt : n < m := by omega
      rw [inB_len (a := (a, n)) (b := (b, m)) hlt]
      clear hz
      go_enter Tryd.func14, Tryd.ntmps14
      go_wp2_with (first
        | (go_at_call 13; refine (fault_is HZ.out ⟨h0, h1⟩ _).mono ?_; rintro e w1 ⟨rfl, hb1⟩; have d0 : w1.cell? ⟨w.heap.size, 0, none⟩ = some (.int .u32 a) := (hb1.cell (by simp; omega)).trans (by simp); have d1 : w1.cell? ⟨w.heap.size, 1, none⟩ = some (.int .i64 n) := (hb1.cell (by simp; omega)).trans (by simp); have d2 : w1.cell? ⟨w.heap.size + 1, 0, none⟩ = some (.int .u32 b) := (hb1.cell (by simp)).trans (by simp); have d3 : w1.cell? ⟨w.heap.size + 1, 1, none⟩ = some (.int .i64 m) := (hb1.cell (by simp)).trans (by simp); have HB1 := Lib.hid ((((Below.refl w.heap.size w).alloc (Nat.le_refl _) _).alloc (by simp) _).trans (hb1.mono (by simp; omega))); clear hb1)
        | fail)
      go_ret
      exact ⟨rfl, HB1.out⟩
  · rw [inB_no hz]
    have hne : (netF (a, n) == 0) = false := by simpa using hz
    obtain ⟨r, hr⟩ : ∃ r, netF (a, n) = r := ⟨_, rfl⟩
    rw [hr] at hne
    have HR := Lib.hid hr
    clear hz hr
    go_enter Tryd.func14, Tryd.ntmps14
    go_wp2_with (first
      | (go_at_call 13; refine (fault_is HR.out ⟨h0, h1⟩ _).mono ?_; rintro e w1 ⟨rfl, hb1⟩; have HB1 := Lib.hid ((((Below.refl w.heap.size w).alloc (Nat.le_refl _) _).alloc (by simp) _).trans (hb1.mono (by simp; omega))); clear hb1)
      | fail)
    go_ret
    exact ⟨rfl, HB1.out⟩
/-- the end of a function whose result is a net in a cell -/
theorem cell_end {f : Func} {W : World} {R : Nat} {a : Act} {v0 v1 : Value} {t : TypeId} {K : Ending → World → Prop} (hf : f.results = #[.cell 4 29]) (h : W.heap[R]? = some (.cells #[v0, v1] t (0, 0))) (h2 : a.tmps[4]?.getD undef = .pointer (some ⟨R, 0, none⟩)) (hd : a.defers = [])
    (hK : K (.returned (.agg #[v0, v1])) W) : bodyPost Tryd.prog f K .ret a W := by
  have e0 : W.cell? ⟨R, 0, none⟩ = some v0 := by rw [cell_of_row _ R _ _ _ (0, 0) h]; rfl
  have e1 : W.cell? ⟨R, 1, none⟩ = some v1 := by rw [cell_of_row _ R _ _ _ (0, 0) h]; rfl
  exact bodyPost_ret (by simp [results, hf, go_sem, h2, e0, e1]) hd hK
theorem half_run_fin : ∀ k : Fin 32, (2 : Int) ^ (31 - k.val) % 4294967296 = lowI (k.val + 1) := by decide +kernel
set_option maxRecDepth 100000 in
set_option maxHeartbeats 1000000 in
theorem Half0 (a : Int) (k : Nat) (w : World) (hk : k < 32) :
    Calls Tryd.prog 16 #[.agg #[.int .u32 a, .int .i64 k], .int .i64 0] w fun e w' => e = .returned (.agg #[.int .u32 a, .int .i64 ((k : Int) + 1)]) ∧ Below w.heap.size w w' := by
  go_enter Tryd.func16, Tryd.ntmps16
  go_wp2
  exact cell_end rfl (box2 (Below.refl _ ((w.alloc (nb a k)).alloc (nb a ((k : Int) + 1))))).2 rfl rfl ⟨rfl, below_2 w _ _⟩
set_option maxRecDepth 100000 in
set_option maxHeartbeats 1000000 in
theorem Half1 (a : Int) (k : Nat) (w : World) (hk : k < 32) (ha : is32 a) (hz : netF (a, (k : Int)) = 0) :
    Calls Tryd.prog 16 #[.agg #[.int .u32 a, .int .i64 k], .int .i64 1] w fun e w' => e = .returned (.agg #[.int .u32 (a + lowI (k + 1)), .int .i64 ((k : Int) + 1)]) ∧ Below w.heap.size w w' := by
  have HOR := Lib.hid (or_low hk ha (half_zero hk hz))
  have HSH : Hid ((2 : Int) ^ (31 - k) % 4294967296 = lowI (k + 1)) := Lib.hid (half_run_fin ⟨k, hk⟩)
  have hu : IntKind.u64.wrap (31 - (k : Int)) = 31 - k := IntWalk.u64_in _ ⟨by omega, by omega⟩
  clear hz ha
  go_enter Tryd.func16, Tryd.ntmps16
  go_wp2
  exact cell_end rfl (box2 (Below.refl _ ((w.alloc (nb a k)).alloc (nb (bits .or .u32 a (2 ^ (31 - k) % 4294967296)) ((k : Int) + 1))))).2 rfl rfl ⟨by rw [HSH.out, HOR.out], below_2 w _ _⟩
theorem rin_c {w : World} {a n b m : Int} {r : Bool} (ha : is32 a) (hb : is32 b) (hr : inB (a, n) (b, m) = r) (d : Nat) (os : Array Obj) :
    Calls Tryd.prog 14 #[.agg #[.int .u32 a, .int .i64 n], .agg #[.int .u32 b, .int .i64 m]] (Sort.grow (redrawn w d) os) fun e w'' => e = .returned (.bool r) ∧ ∃ p : Regrown, w'' = Sort.grow (redrawn w p.d) p.os :=
  Calls.regrown_of ((RIn_any a n b m _ ha hb).mono fun e w' ⟨he, hb⟩ => ⟨by rw [he, hr], hb⟩)
theorem dropC {l : List Nn} {k : Nat} {x : Nn} (h : l[k]? = some x) : l.drop k = x :: l.drop (k + 1) := by
  obtain ⟨hk', e⟩ := List.getElem?_eq_some_iff.1 h
  rw [List.drop_eq_getElem_cons hk', e]
set_option maxRecDepth 100000 in
set_option maxHeartbeats 2000000 in
theorem NetsFault_any {w : World} {A : Option Addr} {n c : Nat} {l : List Nn} (hr : R1 rdNets w (.slice A n c) l) :
    Calls Tryd.prog 5 #[.slice A n c] w fun e w' => e = .returned (.int .i64 (covF l)) ∧ Below w.heap.size w w' := by
  obtain ⟨hn, hnc, hcm⟩ := RdSlice.len hr
  have hnm : n ≤ 9223372036854775807 := by unfold maxLen at hcm; omega
  have HR := Lib.hid hr
  have HN := Lib.hid hn
  obtain ⟨C, hC⟩ : ∃ C, covF l = C := ⟨_, rfl⟩
  have HC := Lib.hid hC
  rw [hC]
  clear hr hcm hnc hn hC
  go_enter Tryd.func5, Tryd.ntmps5
  go_wp2
  go_loopw [3] (fun iv wr => ∃ k : Nat, k ≤ n ∧ iv = .int .i64 k ∧ Hid (faultL (l.drop k) = faultL l) ∧ Below w.heap.size w wr) (fun iv _ => n - (intOf iv).toNat)
  case atStart => exact ⟨0, Nat.zero_le _, rfl, Lib.hid rfl, Below.refl _ _⟩
  case round =>
    obtain ⟨k, hk, rfl, HK, hbr⟩ := hrel
    have HB := Lib.hid hbr
    have s1 := hbr.size
    by_cases hlt : k < n
    · obtain ⟨b, o, ⟨x, x'⟩, rfl, hb, HX, ⟨wx, wy⟩, c0, c1⟩ := RdSlice.atN HR.out hlt
      have d0 := (hbr.cell (p := ⟨b, o + k * 2, none⟩) hb).trans c0
      have d1 := (hbr.cell (p := ⟨b, o + k * 2 + 1, none⟩) hb).trans c1
      have D0 := Lib.hid d0
      have D1 := Lib.hid d1
      have hbw := Nat.lt_of_lt_of_le hb s1
      have i0 : (0 : Int) ≤ (k : Int) := by omega
      have i1 : (k : Int) < (n : Int) := by omega
      have HIx : Hid (is32 x) := Lib.hid (bounds_u32 wx)
      have HD := Lib.hid (dropC HX.out)
      obtain ⟨E, hE⟩ : ∃ E, netF (x, x') = E := ⟨_, rfl⟩
      have HE := Lib.hid hE
      clear c0 c1 wx wy hbr hE
      by_cases h0 : E = 0
      · subst h0
        have HK2 : Hid (faultL (l.drop (k + 1)) = faultL l) := Lib.hid (by rw [← HK.out, HD.out, faultL, if_pos HE.out])
        go_wp2_with fail
        (with_reducible refine (fault_is HE.out HIx.out _).mono ?_)
        rintro e w2 ⟨rfl, hb2⟩
        have HB2 := Lib.hid (HB.out.trans (hb2.mono s1))
        clear hb2
        go_wp2
        go_roundw
        case rel => exact ⟨k + 1, by omega, by go_num, HK2, HB2.out⟩
        case measure => simp [intOf]; omega
      · have t1 : (E != 0) = true := by simpa using h0
        have HCE : Hid (C = E) := Lib.hid (by
          have h : faultL l = E := by rw [← HK.out, HD.out, faultL, if_neg (by rw [HE.out]; exact h0), HE.out]
          rw [← HC.out]; unfold covF
          rw [h, if_neg h0])
        clear h0
        go_wp2_with fail
        (with_reducible refine (fault_is HE.out HIx.out _).mono ?_)
        rintro e w2 ⟨rfl, hb2⟩
        have HB2 := Lib.hid (HB.out.trans (hb2.mono s1))
        have d0 := (hb2.cell (p := ⟨b, o + k * 2, none⟩) hbw).trans D0.out
        have d1 := (hb2.cell (p := ⟨b, o + k * 2 + 1, none⟩) hbw).trans D1.out
        have s2 := HB2.out.size
        clear hb2
        go_wp2_with fail
        (with_reducible refine (fault_is HE.out HIx.out _).mono ?_)
        rintro e w3 ⟨rfl, hb3⟩
        have HB3 := Lib.hid (HB2.out.trans (hb3.mono s2))
        clear hb3
        go_wp2
        go_ret
        exact ⟨by rw [HCE.out]; rfl, HB3.out⟩
    · have HF : Hid (faultL l = 0) := Lib.hid (by rw [← HK.out, List.drop_eq_nil_of_le (by rw [← HN.out]; omega)]; rfl)
      clear hbr
      by_cases h64 : 64 < n
      · have t1 : (64 : Int) < (n : Int) := by omega
        have HCE : Hid (C = 4) := Lib.hid (by rw [← HC.out]; unfold covF; rw [if_pos HF.out, if_pos (by rw [← HN.out]; exact h64)])
        go_wp2
        go_ret
        exact ⟨by rw [HCE.out]; rfl, HB.out⟩
      · have t1 : ¬ (64 : Int) < (n : Int) := by omega
        have HCE : Hid (C = 0) := Lib.hid (by rw [← HC.out]; unfold covF; rw [if_pos HF.out, if_neg (by rw [← HN.out]; exact h64)])
        go_wp2
        go_ret
        exact ⟨by rw [HCE.out]; rfl, HB.out⟩
theorem full_zero (l : List Nn) (x : Nn) : fullR l 0 x = inR l x := rfl
theorem full_succ (l : List Nn) (k : Nat) (x : Nn) : fullR l (k + 1) x = (inR l x || ((l.any fun y => inB y x) && fullR l k (halfP x) && fullR l k (halfQ x))) := rfl
theorem halfQ_lit (a : Int) (j : Nat) : halfQ (a, (j : Int)) = (a + lowI (j + 1), (j : Int) + 1) := by unfold halfQ; simp
abbrev FullC (l : List Nn) (n c : Nat) (k : Nat) : Prop := ∀ (w : World) (A : Option Addr) (a m : Int), R1 rdNets w (.slice A n c) l → is32 a → netF (a, m) = 0 → m = 32 - (k : Int) → k ≤ 32 →
    Calls Tryd.prog 15 #[.slice A n c, .agg #[.int .u32 a, .int .i64 m]] w fun e w' => e = .returned (.bool (fullR l k (a, m))) ∧ Below w.heap.size w w'
set_option maxRecDepth 100000 in
set_option maxHeartbeats 8000000 in
theorem Full_body {l : List Nn} {n c : Nat} (k : Nat) (ih : ∀ j, k = j + 1 → FullC l n c j) : FullC l n c k := by
  intro w A a m hr ha hn hm hk
  obtain ⟨hln, hnc, hcm⟩ := RdSlice.len hr
  have hnm : n ≤ 9223372036854775807 := by unfold maxLen at hcm; omega
  have HR := Lib.hid hr
  have HA := Lib.hid ha
  have HZ := Lib.hid hn
  have HM := Lib.hid hm
  have HK32 := Lib.hid hk
  have HLN := Lib.hid hln
  have HIH := Lib.hid ih
  obtain ⟨IN, hIN⟩ : ∃ IN, inR l (a, m) = IN := ⟨_, rfl⟩
  obtain ⟨SO, hSO⟩ : ∃ SO, (l.any fun x => inB x (a, m)) = SO := ⟨_, rfl⟩
  have HIN := Lib.hid hIN
  have HSO := Lib.hid hSO
  obtain ⟨R, hR⟩ : ∃ R, fullR l k (a, m) = R := ⟨_, rfl⟩
  have HRR := Lib.hid hR
  rw [hR]
  have HFi : Hid (IN = true → R = true) := Lib.hid (fun h => by
    rw [← hR]
    cases k with
    | zero => rw [full_zero, hIN, h]
    | succ j => rw [full_succ, hIN, h]; rfl)
  have HB0 := Lib.hid (below_a1 w (.cells #[.int .u32 a, .int .i64 m] 29))
  have HX0 := Lib.hid (heap_alloc_new w (.cells #[.int .u32 a, .int .i64 m] 29))
  clear hr ha hn hm hk hln hnc hcm ih hIN hSO hR
  go_enter Tryd.func15, Tryd.ntmps15
  go_wp2
  go_loopw [5, 6] (fun sv iv wr => ∃ (i : Nat) (s : Bool), i ≤ n ∧ iv = .int .i64 i ∧ sv = .bool s ∧ Hid ((s || (l.drop i).any fun x => inB x (a, m)) = SO) ∧ Hid (inR (l.drop i) (a, m) = IN) ∧ Below (w.heap.size + 1) (w.alloc (.cells #[.int .u32 a, .int .i64 m] 29)) wr) (fun _ iv _ => n - (intOf iv).toNat)
  case atStart => exact ⟨0, false, Nat.zero_le _, rfl, rfl, Lib.hid (by simpa using HSO.out), Lib.hid (by simpa using HIN.out), Below.refl _ _⟩
  case round =>
    obtain ⟨i, s, hi, rfl, rfl, HS, HI, hbr⟩ := hrel
    have HBR := Lib.hid hbr
    have HB := Lib.hid (HB0.out.trans (hbr.mono (by omega)))
    have s1 := hbr.size
    rw [World.size_alloc] at s1
    have hXr := below_block hbr (Nat.lt_succ_self _) HX0.out
    obtain ⟨z0, z1, _, _⟩ := row2 hXr
    have hzz := size_of_block hXr
    by_cases hlt : i < n
    · obtain ⟨b, o, ⟨x, x'⟩, rfl, hb, HX, ⟨wx, wy⟩, c0, c1⟩ := RdSlice.atN HR.out hlt
      have d0 := (HB.out.cell (p := ⟨b, o + i * 2, none⟩) hb).trans c0
      have d1 := (HB.out.cell (p := ⟨b, o + i * 2 + 1, none⟩) hb).trans c1
      have D0 := Lib.hid d0
      have D1 := Lib.hid d1
      have Z0 := Lib.hid z0
      have Z1 := Lib.hid z1
      have hbw : b < wr.heap.size := by omega
      have i0 : (0 : Int) ≤ (i : Int) := by omega
      have i1 : (i : Int) < (n : Int) := by omega
      have HIx : Hid (is32 x) := Lib.hid (bounds_u32 wx)
      have HD := Lib.hid (dropC HX.out)
      obtain ⟨p, hp⟩ : ∃ p, inB (a, m) (x, x') = p := ⟨_, rfl⟩
      obtain ⟨q, hq⟩ : ∃ q, inB (x, x') (a, m) = q := ⟨_, rfl⟩
      have HP := Lib.hid hp
      have HQ := Lib.hid hq
      have j0 := fun d os => cell_regrown d0 d os
      have j1 := fun d os => cell_regrown d1 d os
      have j2 := fun d os => cell_regrown z0 d os
      have j3 := fun d os => cell_regrown z1 d os
      clear c0 c1 wx wy hbr hp hq d0 d1 z0 z1 hXr
      go_wp2
      refine wp_region_quiet_below (by kernel_rfl) (by kernel_rfl) ?_
      repeat (go_big_quiet_step (first | (with_reducible exact rin_c HA.out HIx.out HP.out _ _) | fail))
      refine wpQuiet_nil ?_
      intro w6 hw'
      obtain ⟨⟨dq, osq⟩, hw''⟩ := hw'
      have hb6 := (show Below wr.heap.size wr w6 by rw [hw'']; exact below_regrown wr dq osq)
      have HB6 := Lib.hid (HB.out.trans (hb6.mono (by omega)))
      have HBR6 := Lib.hid (HBR.out.trans (hb6.mono (by omega)))
      clear hw'' j0 j1 j2 j3
      cases p with
      | true =>
        have HRT : Hid (R = true) := Lib.hid (HFi.out (by
          rw [← HI.out, HD.out]; unfold inR; rw [List.any_cons, HP.out]; rfl))
        clear hb6
        go_wp2
        go_ret
        exact ⟨by rw [HRT.out]; rfl, HB6.out⟩
      | false =>
        have HI2 : Hid (inR (l.drop (i + 1)) (a, m) = IN) := Lib.hid (by
          rw [← HI.out, HD.out]; unfold inR; rw [List.any_cons, HP.out]; rfl)
        have d0 := (hb6.cell (p := ⟨b, o + i * 2, none⟩) hbw).trans D0.out
        have d1 := (hb6.cell (p := ⟨b, o + i * 2 + 1, none⟩) hbw).trans D1.out
        have z0 := (hb6.cell (p := ⟨w.heap.size, 0, none⟩) hzz).trans Z0.out
        have z1 := (hb6.cell (p := ⟨w.heap.size, 1, none⟩) hzz).trans Z1.out
        have j0 := fun d os => cell_regrown d0 d os
        have j1 := fun d os => cell_regrown d1 d os
        have j2 := fun d os => cell_regrown z0 d os
        have j3 := fun d os => cell_regrown z1 d os
        have s6 : w.heap.size + 1 ≤ w6.heap.size := by have := hb6.size; omega
        clear hb6 d0 d1 z0 z1
        cases s with
        | true =>
          have HS2 : Hid ((true || (l.drop (i + 1)).any fun x => inB x (a, m)) = SO) := Lib.hid (by rw [← HS.out]; rfl)
          go_wp2
          refine wp_region_quiet_below (by kernel_rfl) (by kernel_rfl) ?_
          repeat (go_big_quiet_step (first | (with_reducible exact rin_c HIx.out HA.out HQ.out _ _) | fail))
          refine wpQuiet_nil ?_
          intro w7 hw'
          obtain ⟨⟨dq, osq⟩, hw''⟩ := hw'
          have hb7 := (show Below w6.heap.size w6 w7 by rw [hw'']; exact below_regrown w6 dq osq)
          have HBR7 := Lib.hid (HBR6.out.trans (hb7.mono s6))
          clear hw'' j0 j1 j2 j3 hb7
          go_wp2
          go_roundw
          case rel => exact ⟨i + 1, true, by omega, by go_num, rfl, HS2, HI2, HBR7.out⟩
          case measure => simp [intOf]; omega
        | false =>
          have HS2 : Hid ((q || (l.drop (i + 1)).any fun x => inB x (a, m)) = SO) := Lib.hid (by rw [← HS.out, HD.out, List.any_cons, HQ.out]; rfl)
          go_wp2
          refine wp_region_quiet_below (by kernel_rfl) (by kernel_rfl) ?_
          repeat (go_big_quiet_step (first | (with_reducible exact rin_c HIx.out HA.out HQ.out _ _) | fail))
          refine wpQuiet_nil ?_
          intro w7 hw'
          obtain ⟨⟨dq, osq⟩, hw''⟩ := hw'
          have hb7 := (show Below w6.heap.size w6 w7 by rw [hw'']; exact below_regrown w6 dq osq)
          have HBR7 := Lib.hid (HBR6.out.trans (hb7.mono s6))
          clear hw'' j0 j1 j2 j3 hb7
          go_wp2
          go_roundw
          case rel => exact ⟨i + 1, q, by omega, by go_num, rfl, HS2, HI2, HBR7.out⟩
          case measure => simp [intOf]; omega
    · have HSE : Hid (s = SO) := Lib.hid (by
        have h := HS.out
        rw [List.drop_eq_nil_of_le (by rw [← HLN.out]; omega)] at h
        simpa using h)
      have HIE : Hid (IN = false) := Lib.hid (by
        have h := HI.out
        rw [List.drop_eq_nil_of_le (by rw [← HLN.out]; omega)] at h
        rw [← h]; rfl)
      clear hbr
      cases s with
      | false =>
        have HRF : Hid (R = false) := Lib.hid (by
          rw [← HRR.out]
          cases k with
          | zero => rw [full_zero, HIN.out, HIE.out]
          | succ j => rw [full_succ, HIN.out, HIE.out, HSO.out, ← HSE.out]; rfl)
        go_wp2
        go_ret
        exact ⟨by rw [HRF.out]; rfl, HB.out⟩
      | true =>
        cases k with
        | zero =>
          obtain rfl : m = 32 := by have := HM.out; omega
          have HRF : Hid (R = false) := Lib.hid (by rw [← HRR.out, full_zero, HIN.out, HIE.out])
          go_wp2
          go_ret
          exact ⟨by rw [HRF.out]; rfl, HB.out⟩
        | succ j =>
          obtain ⟨t, rfl⟩ : ∃ t : Nat, m = (t : Int) := ⟨m.toNat, by have := HM.out; have := HK32.out; omega⟩
          have ht : t < 32 := by have := HM.out; omega
          have hm32 : (t : Int) < 32 := by omega
          have HT := Lib.hid ht
          have HP1 : Hid (netF (a, (t : Int) + 1) = 0) := Lib.hid (half_p ht HZ.out)
          have HQ1 : Hid (netF (a + lowI (t + 1), (t : Int) + 1) = 0) := Lib.hid (half_q ht HZ.out)
          have HIq : Hid (is32 (a + lowI (t + 1))) := Lib.hid (by
            have h1 := HA.out
            have h2 := net_end HZ.out h1
            have h3 : szN (a, (t : Int)) = lowI t := by unfold szN; simp
            have h4 := low_succ ht
            have h5 := lowI_pos (t + 1)
            rw [h3] at h2
            simp only at h2
            have := h1.1
            exact ⟨by omega, by omega⟩)
          have HMt : Hid ((t : Int) + 1 = 32 - (j : Int)) := Lib.hid (by have := HM.out; omega)
          have HJ : Hid (j ≤ 32) := Lib.hid (by have := HK32.out; omega)
          have HFJ : Hid (FullC l n c j) := Lib.hid (HIH.out j rfl)
          obtain ⟨r1, hr1⟩ : ∃ r1, fullR l j (a, (t : Int) + 1) = r1 := ⟨_, rfl⟩
          obtain ⟨r2, hr2⟩ : ∃ r2, fullR l j (a + lowI (t + 1), (t : Int) + 1) = r2 := ⟨_, rfl⟩
          have HR1 := Lib.hid hr1
          have HR2 := Lib.hid hr2
          have HRE : Hid (R = (r1 && r2)) := Lib.hid (by
            have hP : halfP (a, (t : Int)) = (a, (t : Int) + 1) := rfl
            rw [← HRR.out, full_succ, HIN.out, HIE.out, HSO.out, ← HSE.out, halfQ_lit, hP, hr1, hr2]; rfl)
          have HRr := Lib.hid (HR.out.below HB.out)
          have Z0 := Lib.hid z0
          have Z1 := Lib.hid z1
          clear hr1 hr2 ht
          go_wp2_with fail
          go_at_call 16
          (with_reducible refine (Half0 a t _ HT.out).mono ?_)
          rintro e w2 ⟨rfl, hb2⟩
          have HB2 := Lib.hid (HB.out.trans (hb2.mono (by omega)))
          have HR2w := Lib.hid (HRr.out.below hb2)
          have s2 := hb2.size
          have z0 := (hb2.cell (p := ⟨w.heap.size, 0, none⟩) hzz).trans Z0.out
          have z1 := (hb2.cell (p := ⟨w.heap.size, 1, none⟩) hzz).trans Z1.out
          have Z2 := Lib.hid z0
          have Z3 := Lib.hid z1
          clear hb2
          go_wp2_with fail
          go_at_call 15
          (with_reducible refine (HFJ.out _ _ _ _ HR2w.out HA.out HP1.out HMt.out HJ.out).mono ?_)
          rw [HR1.out]
          rintro e w3 ⟨rfl, hb3⟩
          have HB3 := Lib.hid (HB2.out.trans (hb3.mono (by omega)))
          have HR3w := Lib.hid (HR2w.out.below hb3)
          have s3 := hb3.size
          have z0 := (hb3.cell (p := ⟨w.heap.size, 0, none⟩) (by simp only; omega)).trans Z2.out
          have z1 := (hb3.cell (p := ⟨w.heap.size, 1, none⟩) (by simp only; omega)).trans Z3.out
          clear hb3
          cases r1 with
          | false =>
            have HRF : Hid (R = false) := HRE
            go_wp2
            go_ret
            exact ⟨by rw [HRF.out]; rfl, HB3.out⟩
          | true =>
            have HRF : Hid (R = r2) := HRE
            go_wp2_with fail
            go_at_call 16
            (with_reducible refine (Half1 a t _ HT.out HA.out HZ.out).mono ?_)
            rintro e w4 ⟨rfl, hb4⟩
            have HB4 := Lib.hid (HB3.out.trans (hb4.mono (by omega)))
            have HR4w := Lib.hid (HR3w.out.below hb4)
            have s4 := hb4.size
            clear hb4
            go_wp2_with fail
            go_at_call 15
            (with_reducible refine (HFJ.out _ _ _ _ HR4w.out HIq.out HQ1.out HMt.out HJ.out).mono ?_)
            rw [HR2.out]
            rintro e w5 ⟨rfl, hb5⟩
            have HB5 := Lib.hid (HB4.out.trans (hb5.mono (by omega)))
            clear hb5
            go_wp2
            go_ret
            exact ⟨by rw [HRF.out]; rfl, HB5.out⟩
theorem Full_any {l : List Nn} {n c : Nat} : ∀ (k : Nat), FullC l n c k
  | 0 => Full_body 0 (fun j h => absurd h (by omega))
  | k + 1 => Full_body (k + 1) (fun j h => by obtain rfl : k = j := by omega
                                              exact Full_any k)
end Go.Proofs.YtdomjiihnliemaaDoor
