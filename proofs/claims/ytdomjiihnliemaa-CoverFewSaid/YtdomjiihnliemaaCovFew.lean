/- waywardenlaw1.CoverFew: its walk. -/
import Derived.Test.YtdomjiihnliemaaCovK
namespace Go.Proofs.Ytdomjiihnliemaa
open Go.ChangeShapes Go.WideShapes Go.ChangeAt Go.RowKit
set_option linter.unusedVariables false
set_option linter.unusedSimpArgs false
def uX (x : Nn) : Nn := if x.2 = 0 then (0, 0) else upN x
def uE (x : Nn) : Int := if x.2 = 0 then 2 else 0
theorem Up_v {a l : Int} {p q E : Int} {w : World} (ha : is32 a) (h : netF (a, l) = 0) (hX : uX (a, l) = (p, q)) (hE : uE (a, l) = E) :
    Calls Try.prog 10 #[.agg #[.int .u32 a, .int .i64 l]] w fun e w' => e = .returned (.tuple #[.agg #[.int .u32 p, .int .i64 q], errV E]) ∧ Below w.heap.size w w' := by
  by_cases h0 : l = 0
  · subst h0
    have e1 : (p, q) = (0, 0) := by rw [← hX]; rfl
    obtain ⟨rfl, rfl⟩ := Prod.mk.inj e1
    obtain rfl : E = 2 := by rw [← hE]; rfl
    exact Up_top w ha h
  · obtain ⟨k, hk, ek, eu, _⟩ := up_ok h h0
    simp only at ek
    have e1 : (p, q) = (fl (lowI k) a, (k : Int)) := by rw [← hX, ← eu]; unfold uX; rw [if_neg h0]
    obtain ⟨rfl, rfl⟩ := Prod.mk.inj e1
    obtain rfl : E = 0 := by rw [← hE]; unfold uE; rw [if_neg h0]
    exact Up_okl w ha hk ek h
theorem uE_or (x : Nn) : (uE x = 2) ∨ (uE x = 0 ∧ x.2 ≠ 0 ∧ uX x = upN x) := by
  unfold uE uX
  by_cases h : x.2 = 0
  · left; rw [if_pos h]
  · right; rw [if_neg h, if_neg h]; exact ⟨rfl, h, rfl⟩
theorem lessN_c {w : World} {a n b m : Int} {r : Bool} (hr : lessB (a, n) (b, m) = r) (d : Nat) (os : Array Obj) :
    Calls Try.prog 9 #[.agg #[.int .u32 a, .int .i64 n], .agg #[.int .u32 b, .int .i64 m]] (Sort.grow (redrawn w d) os) fun e w'' => e = .returned (.bool r) ∧ ∃ p : Regrown, w'' = Sort.grow (redrawn w p.d) p.os :=
  Calls.regrown_of ((Less_any a n b m _).mono fun e w' ⟨he, hb⟩ => ⟨by rw [he, hr], hb⟩)
set_option maxRecDepth 100000 in
set_option maxHeartbeats 8000000 in
theorem CoverFew_any {W : World} {A A' : Option Addr} {n c n' c' : Nat} {l m : List Nn} (hl : R1 rdNets W (.slice A n c) l) (hm : R1 rdNets W (.slice A' n' c') m) :
    Calls Try.prog 3 #[.slice A n c, .slice A' n' c'] W fun e w' => e = .returned (.bool true) ∧ Below W.heap.size W w' := by
  have hln := sl_form hl
  have hmn := sl_form hm
  have hnm := (RdSlice.len hm).2
  have hn' : n' ≤ 9223372036854775807 := by unfold maxLen at hnm; omega
  have HL := Lib.hid hl
  have HM := Lib.hid hm
  have HLN := Lib.hid hln
  have HMN := Lib.hid hmn
  clear hl hm hln hmn hnm
  go_enter Try.func3, Try.ntmps3
  go_wp2_with fail
  (with_reducible refine (covered_any _).mono ?_)
  rintro e w1 ⟨rfl, hb1⟩
  have HB1 := Lib.hid hb1
  have HL1 := Lib.hid (HL.out.below hb1)
  clear hb1
  go_wp2_with fail
  (with_reducible refine (Cover_any HL1.out).mono ?_)
  intro e w2 hp
  rcases hp.cases with ⟨hF, rfl, hb2⟩ | ⟨hF, A2, L, c2, hL, rfl, ho2, hb2⟩
  · have HB2 := Lib.hid (HB1.out.trans (hb2.mono HB1.out.size))
    clear hp hF hb2
    go_wp2
    go_ret
    exact ⟨rfl, HB2.out⟩
  · have HF := Lib.hid hF
    have HV := Lib.hid (covF_zero.1 hF)
    have HLL := Lib.hid hL
    have HRC := Lib.hid (show rdNets w2 (· < w2.heap.size) [.slice A2 L c2] (coverV l) from ho2.read)
    have HB2 := Lib.hid (HB1.out.trans (hb2.mono HB1.out.size))
    have hL64 : L ≤ 64 := by have := (cover_all HV.out.1).2.2; have := HV.out.2; omega
    have HI32 : Hid (∀ x ∈ coverV l, is32 x.1) := Lib.hid (cover_32 (fun x hx => bounds_u32 (wf_of_rd HL.out x hx).1))
    have HVC := Lib.hid (cover_valid HV.out.1)
    have HFEW := Lib.hid (fun i k x t h1 h2 h3 => cover_few (l := l) HV.out.1 (i := i) (k := k) (x := x) (t := t) h1 h2 h3)
    clear hp hF hL ho2 hb2
    go_wp2
    go_loopw [8, 9, 10, 11, 12, 13] (fun iv _ _ _ _ _ wr => ∃ i : Nat, i ≤ L ∧ iv = .int .i64 i ∧ Below w2.heap.size w2 wr) (fun iv _ _ _ _ _ _ => L - (intOf iv).toNat)
    case atStart => exact ⟨0, Nat.zero_le _, rfl, Below.refl _ _⟩
    case round =>
      obtain ⟨i, hi, rfl, hbr⟩ := hrel
      have HBO := Lib.hid hbr
      clear hbr
      by_cases hil : i < L
      · go_wp2
        go_loopw [9, 10, 11, 12, 13] (fun kv _ _ _ _ wr => ∃ k : Nat, k ≤ i ∧ kv = .int .i64 k ∧ Below w2.heap.size w2 wr) (fun kv _ _ _ _ _ => i - (intOf kv).toNat)
        case atStart => exact ⟨0, Nat.zero_le _, rfl, HBO.out⟩
        case round =>
          clear HBO
          obtain ⟨k, hk, rfl, hbr⟩ := hrel
          have HB := Lib.hid hbr
          have s1 := hbr.size
          by_cases hki : k < i
          · obtain ⟨b, o, ⟨x, x'⟩, rfl, hb, HX, -, c0, c1⟩ := RdSlice.atN HRC.out hil
            obtain ⟨b2, o2, ⟨y, y'⟩, eb, hb2, HY, -, e0, e1⟩ := RdSlice.atN HRC.out (k := k) (by omega)
            simp only [Option.some.injEq, Addr.mk.injEq, and_true] at eb
            obtain ⟨rfl, rfl⟩ := eb
            have d0 := (hbr.cell (p := ⟨b, o + i * 2, none⟩) hb).trans c0
            have d1 := (hbr.cell (p := ⟨b, o + i * 2 + 1, none⟩) hb).trans c1
            have f0 := (hbr.cell (p := ⟨b, o + k * 2, none⟩) hb).trans e0
            have f1 := (hbr.cell (p := ⟨b, o + k * 2 + 1, none⟩) hb).trans e1
            have D0 := Lib.hid d0
            have D1 := Lib.hid d1
            have F0 := Lib.hid f0
            have F1 := Lib.hid f1
            have HIx : Hid (is32 x) := Lib.hid (HI32.out _ (List.mem_of_getElem? HX.out))
            have HIy : Hid (is32 y) := Lib.hid (HI32.out _ (List.mem_of_getElem? HY.out))
            have HNx : Hid (netF (x, x') = 0) := Lib.hid (HVC.out _ (List.mem_of_getElem? HX.out))
            have HNy : Hid (netF (y, y') = 0) := Lib.hid (HVC.out _ (List.mem_of_getElem? HY.out))
            have hfew := HFEW.out i k (x, x') (y, y') hki HX.out HY.out
            have H1 := Lib.hid hfew.1
            have H2 := Lib.hid hfew.2.1
            have H3 := Lib.hid hfew.2.2.1
            have H4 := Lib.hid hfew.2.2.2
            have j0 := fun d os => cell_regrown d0 d os
            have j1 := fun d os => cell_regrown d1 d os
            have j2 := fun d os => cell_regrown f0 d os
            have j3 := fun d os => cell_regrown f1 d os
            have i0 : (0 : Int) ≤ (i : Int) := by omega
            have i1 : (i : Int) < (L : Int) := by omega
            have i2 : (0 : Int) ≤ (k : Int) := by omega
            have i3 : (k : Int) < (L : Int) := by omega
            have hbb := Nat.lt_of_lt_of_le hb s1
            clear hbr c0 c1 e0 e1 d0 d1 f0 f1 hfew
            go_wp2
            refine wp_region_quiet_below (by kernel_rfl) (by kernel_rfl) ?_
            repeat (go_big_quiet_step (first | (with_reducible exact inN_c HIx.out HIy.out H1.out _ _) | (with_reducible exact inN_c HIy.out HIx.out H2.out _ _) | (with_reducible exact lessN_c H3.out _ _) | fail))
            refine wpQuiet_nil ?_
            intro w6 hw'
            obtain ⟨⟨dq, osq⟩, hw''⟩ := hw'
            have hb6 := (show Below wr.heap.size wr w6 by rw [hw'']; exact below_regrown wr dq osq)
            have HB6 := Lib.hid (HB.out.trans (hb6.mono s1))
            have d0 := (hb6.cell (p := ⟨b, o + i * 2, none⟩) hbb).trans D0.out
            have d1 := (hb6.cell (p := ⟨b, o + i * 2 + 1, none⟩) hbb).trans D1.out
            have f0 := (hb6.cell (p := ⟨b, o + k * 2, none⟩) hbb).trans F0.out
            have f1 := (hb6.cell (p := ⟨b, o + k * 2 + 1, none⟩) hbb).trans F1.out
            have hbb6 := Nat.lt_of_lt_of_le hbb hb6.size
            obtain ⟨⟨p, p'⟩, hp⟩ : ∃ p, uX (y, y') = p := ⟨_, rfl⟩
            obtain ⟨E1, hE1⟩ : ∃ E1, uE (y, y') = E1 := ⟨_, rfl⟩
            obtain ⟨⟨q, q'⟩, hq⟩ : ∃ q, uX (x, x') = q := ⟨_, rfl⟩
            obtain ⟨E2, hE2⟩ : ∃ E2, uE (x, x') = E2 := ⟨_, rfl⟩
            have HP := Lib.hid hp
            have HE1 := Lib.hid hE1
            have HQ := Lib.hid hq
            have HE2 := Lib.hid hE2
            have D0 := Lib.hid d0
            have D1 := Lib.hid d1
            have s6 : w2.heap.size ≤ w6.heap.size := HB6.out.size
            clear hw'' hb6 j0 j1 j2 j3 hp hE1 hq hE2 d0 d1
            go_wp2_with fail
            (with_reducible refine (Up_v HIy.out HNy.out HP.out HE1.out).mono ?_)
            rintro e w7 ⟨rfl, hb7⟩
            have hb7' := hb7.trans ((below_a1 w7 (.cells #[.int .u32 p, .int .i64 p'] 31)).mono hb7.size)
            have HB7 := Lib.hid (HB6.out.trans (hb7'.mono s6))
            have HU7 := Lib.hid (heap_alloc_new w7 (.cells #[.int .u32 p, .int .i64 p'] 31))
            have d0 := (hb7'.cell (p := ⟨b, o + i * 2, none⟩) hbb6).trans D0.out
            have d1 := (hb7'.cell (p := ⟨b, o + i * 2 + 1, none⟩) hbb6).trans D1.out
            obtain ⟨V1, hV1⟩ : ∃ V1, errV E1 = V1 := ⟨_, rfl⟩
            rw [hV1]
            have HV1 := Lib.hid hV1
            have s7 := HB7.out.size
            clear hb7 hb7' hV1 f0 f1
            go_wp2_with fail
            (with_reducible refine (Up_v HIx.out HNx.out HQ.out HE2.out).mono ?_)
            rintro e w8 ⟨rfl, hb8⟩
            have hb8' := hb8.trans ((below_a1 w8 (.cells #[.int .u32 q, .int .i64 q'] 31)).mono hb8.size)
            have HB8 := Lib.hid (HB7.out.trans (hb8'.mono s7))
            obtain ⟨g0, g1, _, _⟩ := row2 (below_block hb8' (by simp) HU7.out)
            obtain ⟨V2, hV2⟩ : ∃ V2, errV E2 = V2 := ⟨_, rfl⟩
            rw [hV2]
            have HV2 := Lib.hid hV2
            clear hb8 hb8' hV2 d0 d1 D0 D1
            rcases uE_or (y, y') with h1 | ⟨h1, hy0, hyu⟩
            · have e1 : V1 = .iface 40 (.int .i64 2) := by rw [← HV1.out, ← HE1.out, h1]; rfl
              subst e1
              clear h1
              go_wp2
              go_roundw
              case rel => exact ⟨k + 1, by omega, by go_num, HB8.out⟩
              case measure => simp [intOf]; try omega
            · rcases uE_or (x, x') with h2 | ⟨h2, hx0, hxu⟩
              · have e1 : V1 = .nilIface := by rw [← HV1.out, ← HE1.out, h1]; rfl
                have e2 : V2 = .iface 40 (.int .i64 2) := by rw [← HV2.out, ← HE2.out, h2]; rfl
                subst e1
                subst e2
                clear h1 h2 hy0 hyu
                go_wp2
                go_roundw
                case rel => exact ⟨k + 1, by omega, by go_num, HB8.out⟩
                case measure => simp [intOf]; try omega
              · have e1 : V1 = .nilIface := by rw [← HV1.out, ← HE1.out, h1]; rfl
                have e2 : V2 = .nilIface := by rw [← HV2.out, ← HE2.out, h2]; rfl
                subst e1
                subst e2
                have hne := H4.out hy0 hx0
                rw [← hyu, ← hxu, HP.out, HQ.out] at hne
                clear h1 h2 hy0 hyu hx0 hxu
                by_cases hpq : p = q
                · subst hpq
                  have hpq' : (p' == q') = false := by simpa using hne
                  clear hne
                  go_wp2
                  go_roundw
                  case rel => exact ⟨k + 1, by omega, by go_num, HB8.out⟩
                  case measure => simp [intOf]; try omega
                · have hpq' : (p == q) = false := by simpa using hpq
                  clear hne hpq
                  go_wp2
                  go_roundw
                  case rel => exact ⟨k + 1, by omega, by go_num, HB8.out⟩
                  case measure => simp [intOf]; try omega
          · clear hbr
            go_wp2
            go_roundw
            case rel => exact ⟨i + 1, by omega, by go_num, HB.out⟩
            case measure => simp [intOf]; try omega
      · have HM2 := Lib.hid (HM.out.below (HB2.out.trans (HBO.out.mono HB2.out.size)))
        have HRC2 := Lib.hid (rd_below HRC.out HBO.out)
        have HB3 := Lib.hid (HB2.out.trans (HBO.out.mono HB2.out.size))
        clear HBO
        go_wp2_with fail
        (with_reducible refine (Cover_any HM2.out).mono ?_)
        intro e w3 hp
        rcases hp.cases with ⟨hG, rfl, hb3⟩ | ⟨hG, A3, L3, c3, hL3, rfl, ho3, hb3⟩
        · have HB4 := Lib.hid (HB3.out.trans (hb3.mono HB3.out.size))
          have HRC3 := Lib.hid (rd_below HRC2.out hb3)
          have HRN := Lib.hid (show rdNets w3 (· < w3.heap.size) [.slice none 0 0] [] from (OwnN.nil_ w3 0).read)
          obtain ⟨r, hr⟩ : ∃ r, decide (coverV l = []) = r := ⟨_, rfl⟩
          have HR := Lib.hid hr
          clear hp hG hb3 hr
          go_wp2_with fail
          (with_reducible refine (Nets_any HRC3.out HRN.out HR.out).mono ?_)
          rintro e w5 ⟨rfl, d5, rfl⟩
          have HB5 := Lib.hid (below_drewN HB4.out d5)
          go_wp2
          go_ret
          exact ⟨rfl, HB5.out⟩
        · have HB4 := Lib.hid (HB3.out.trans (hb3.mono HB3.out.size))
          have HRC3 := Lib.hid (rd_below HRC2.out hb3)
          have HRN := Lib.hid (show rdNets w3 (· < w3.heap.size) [.slice A3 L3 c3] (coverV m) from ho3.read)
          obtain ⟨r, hr⟩ : ∃ r, decide (coverV l = coverV m) = r := ⟨_, rfl⟩
          have HR := Lib.hid hr
          have HLM : Hid (r = true → L ≤ n') := Lib.hid (fun h => by
            have h1 : coverV l = coverV m := by have := HR.out; rw [h] at this; simpa using this
            have h2 := (cover_all (covF_zero.1 hG).1).2.2
            rw [HLL.out, h1, ← HMN.out]; exact h2)
          clear hp hG hb3 hr ho3 hL3
          go_wp2_with fail
          (with_reducible refine (Nets_any HRC3.out HRN.out HR.out).mono ?_)
          rintro e w5 ⟨rfl, d5, rfl⟩
          have HB5 := Lib.hid (below_drewN HB4.out d5)
          cases r with
          | false =>
            go_wp2
            go_ret
            exact ⟨rfl, HB5.out⟩
          | true =>
            have h9 : (L : Int) ≤ (n' : Int) := by have := HLM.out rfl; omega
            go_wp2
            go_ret
            exact ⟨rfl, HB5.out⟩
theorem CoverFew_walk (w : World) (A : Option Addr) (n c : Nat) (l : List Nn) (rr : RV rdNets w (.slice A n c) l) (q : l.length * 16 ≤ reachBytes ∧ ∀ x ∈ l, True ∧ True) (A' : Option Addr) (n' c' : Nat) (m : List Nn) (rr' : RV rdNets w (.slice A' n' c') m) (q' : m.length * 16 ≤ reachBytes ∧ ∀ x ∈ m, True ∧ True) :
    Calls Try.prog 3 #[.slice A n c, .slice A' n' c'] w fun e w' => e = .returned (.bool true) ∧ Below w.heap.size w w' :=
  CoverFew_any rr rr'
end Go.Proofs.Ytdomjiihnliemaa
