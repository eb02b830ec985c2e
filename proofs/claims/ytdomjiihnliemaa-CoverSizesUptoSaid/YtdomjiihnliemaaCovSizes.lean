/- waywardenlaw1.CoverSizes: its walk, for lists of no more than 1048576 nets. -/
import Derived.Test.YtdomjiihnliemaaCovK
namespace Go.Proofs.Ytdomjiihnliemaa
open Go.ChangeShapes Go.WideShapes Go.ChangeAt Go.RowKit
set_option linter.unusedVariables false
set_option linter.unusedSimpArgs false
theorem sizV_ok {l : List Nn} (h : covF l = 0) (h32 : ∀ x ∈ l, is32 x.1) : sizV l = sizL (coverV l) ∧ 0 ≤ sizV l ∧ sizV l ≤ 4294967296 := by
  have e : sizV l = sizL (coverV l) := by unfold sizV; rw [if_pos h]
  rw [e]
  exact ⟨rfl, sizL_nonneg _, cover_max (covF_zero.1 h).1 h32⟩
set_option maxRecDepth 100000 in
set_option maxHeartbeats 8000000 in
theorem CoverSizes_any {W : World} {A A' : Option Addr} {n c n' c' : Nat} {l m : List Nn} (hl : R1 rdNets W (.slice A n c) l) (hm : R1 rdNets W (.slice A' n' c') m) (hb : l.length + m.length ≤ 1048576) :
    Calls Try.prog 4 #[.slice A n c, .slice A' n' c'] W fun e w' => e = .returned (.bool true) ∧ Below W.heap.size W w' := by
  have hln := sl_form hl
  have hmn := sl_form hm
  have hnn : n + n' ≤ 1048576 := by omega
  have HL := Lib.hid hl
  have HM := Lib.hid hm
  have HLN := Lib.hid hln
  have HMN := Lib.hid hmn
  have HI1 : Hid (∀ x ∈ l, is32 x.1) := Lib.hid (fun x hx => bounds_u32 (wf_of_rd hl x hx).1)
  have HI2 : Hid (∀ x ∈ m, is32 x.1) := Lib.hid (fun x hx => bounds_u32 (wf_of_rd hm x hx).1)
  have HBN := Lib.hid hb
  clear hl hm hln hmn hb
  go_enter Try.func4, Try.ntmps4
  go_wp2_with fail
  (with_reducible refine (covered_any _).mono ?_)
  rintro e w1 ⟨rfl, hb1⟩
  have HB1 := Lib.hid hb1
  have HL1 := Lib.hid (HL.out.below hb1)
  have HM1 := Lib.hid (HM.out.below hb1)
  clear hb1
  go_wp2_with fail
  (with_reducible refine (Size_any HL1.out).mono ?_)
  rintro e w2 ⟨rfl, hb2⟩
  have HB2 := Lib.hid (HB1.out.trans (hb2.mono HB1.out.size))
  have HM2 := Lib.hid (HM1.out.below hb2)
  have HL2 := Lib.hid (HL1.out.below hb2)
  obtain ⟨qa, hqa⟩ : ∃ qa, sizV l = qa := ⟨_, rfl⟩
  obtain ⟨Va, hVa⟩ : ∃ Va, errV (covF l) = Va := ⟨_, rfl⟩
  rw [hqa, hVa]
  have HQA := Lib.hid hqa
  have HVA := Lib.hid hVa
  clear hb2 hqa hVa
  go_wp2_with fail
  (with_reducible refine (Size_any HM2.out).mono ?_)
  rintro e w3 ⟨rfl, hb3⟩
  have HB3 := Lib.hid (HB2.out.trans (hb3.mono HB2.out.size))
  have HM3 := Lib.hid (HM2.out.below hb3)
  have HL3 := Lib.hid (HL2.out.below hb3)
  obtain ⟨qb, hqb⟩ : ∃ qb, sizV m = qb := ⟨_, rfl⟩
  obtain ⟨Vb, hVb⟩ : ∃ Vb, errV (covF m) = Vb := ⟨_, rfl⟩
  rw [hqb, hVb]
  have HQB := Lib.hid hqb
  have HVB := Lib.hid hVb
  have hb0 := below_a1 w3 (.cells #[] 31)
  have HL4 := Lib.hid (HL3.out.below hb0)
  have HM4 := Lib.hid (HM3.out.below hb0)
  have HE4 : Hid (OwnN (w3.alloc (.cells #[] 31)) w3.heap.size (.slice (some ⟨w3.heap.size, 0, none⟩) 0 0) []) := Lib.hid ⟨own_empty _ 2 w3, by simp⟩
  have hl1 : ([] : List Nn).length + l.length ≤ 8796093022000 := by rw [HLN.out]; simp; omega
  have hl2 : ([] ++ l : List Nn).length + m.length ≤ 8796093022000 := by rw [List.nil_append, HLN.out, HMN.out]; omega
  have hl3 : (([] ++ l : List Nn) ++ m).length = n + n' := by rw [List.nil_append, List.length_append, HLN.out, HMN.out]
  have HL3' := Lib.hid hl3
  have HL2' := Lib.hid hl2
  have HL1' := Lib.hid hl1
  clear hb3 hqb hVb hl1 hl2 hl3 hb0
  go_wp2_with (first
    | (at_builtin; refine wpList_append_nets rfl (.tmp 24) (.tmp 25) 22 Try.underlying22 rfl w3.heap.size _ _ rfl HE4.out A n c l rfl HL4.out HL1'.out (by simp) ?_; intro v5 w5 hown5 hgrow5; have hb5 := hgrow5.below (below_a1 w3 (.cells #[] 31)) HE4.out.1 (Nat.le_refl _) (by simp); have HB5 := Lib.hid hb5; have HM5 := Lib.hid (HM3.out.below hb5); have HO5 := Lib.hid hown5; have hz5 := hb5.size; clear hown5 hgrow5 hb5)
    | (at_builtin; refine wpList_append_nets rfl (.tmp 26) (.tmp 27) 22 Try.underlying22 rfl w3.heap.size _ _ rfl HO5.out A' n' c' m rfl HM5.out HL2'.out hz5 ?_; intro v6 w6 hown6 hgrow6; have hb6 := hgrow6.below HB5.out HO5.out.1 (Nat.le_refl _) hz5; have HB6 := Lib.hid (HB3.out.trans (hb6.mono HB3.out.size)); have HR6 := hown6.read; obtain ⟨A6, c6, rfl⟩ := hown6.form; rw [HL3'.out] at HR6 ⊢; have HS6 := Lib.hid (Size_any HR6); clear hown6 hgrow6 hb6 HR6)
    | fail)
  go_at_call 12
  (with_reducible refine HS6.out.mono ?_)
  rintro e w7 ⟨rfl, hb7⟩
  have HB7 := Lib.hid (HB6.out.trans (hb7.mono HB6.out.size))
  obtain ⟨qc, hqc⟩ : ∃ qc, sizV (([] ++ l : List Nn) ++ m) = qc := ⟨_, rfl⟩
  obtain ⟨Vc, hVc⟩ : ∃ Vc, errV (covF (([] ++ l : List Nn) ++ m)) = Vc := ⟨_, rfl⟩
  rw [hqc, hVc]
  have HQC := Lib.hid hqc
  have HVC := Lib.hid hVc
  rw [List.nil_append] at HQC HVC
  clear hb7 hqc hVc
  by_cases h1 : covF l = 0
  · have e1 : Va = .nilIface := by rw [← HVA.out, h1]; rfl
    have H1 := Lib.hid h1
    by_cases h2 : covF m = 0
    · have e2 : Vb = .nilIface := by rw [← HVB.out, h2]; rfl
      have H2 := Lib.hid h2
      by_cases h3 : covF (l ++ m) = 0
      · have e3 : Vc = .nilIface := by rw [← HVC.out, h3]; rfl
        have hA := sizV_ok h1 HI1.out
        have hB := sizV_ok h2 HI2.out
        have hC := sizV_ok h3 (fun x hx => (List.mem_append.1 hx).elim (HI1.out x) (HI2.out x))
        have htwo := cover_two (covF_zero.1 h1).1 (covF_zero.1 h2).1 HI1.out HI2.out
        rw [← hA.1, ← hB.1, ← hC.1, HQA.out, HQB.out, HQC.out] at htwo
        rw [HQA.out] at hA
        rw [HQB.out] at hB
        rw [HQC.out] at hC
        have a1 := hA.2.1
        have a2 := hA.2.2
        have b1 := hB.2.1
        have b2 := hB.2.2
        have c1 := hC.2.1
        have c2 := hC.2.2
        have r1 := htwo.1
        have r2 := htwo.2.1
        have r3 := htwo.2.2
        have HA1 := Lib.hid hA.1
        have hw : wrap64 (qa + qb) = qa + qb := IntWalk.wrap64_in _ ⟨by omega, by omega⟩
        subst e1
        subst e2
        subst e3
        clear h1 h2 h3 htwo hA hB hC
        by_cases hn1 : n = 1
        · subst hn1
          obtain ⟨b, o, ⟨x, x'⟩, rfl, hbb, HX, -, d0, d1⟩ := RdSlice.atN HL.out (k := 0) (by omega)
          have hl1 : l = [(x, x')] := by
            have h := HLN.out
            match l, h, HX.out with
            | [y], _, e => simp at e; rw [e]
          have hv := (covF_zero.1 H1.out).1 (x, x') (by rw [hl1]; simp)
          obtain ⟨y, hy, ey, _⟩ := net_ok hv
          simp only at ey
          subst ey
          have hqy : qa = lowI y := by
            rw [HA1.out, hl1, cover_single hv, sizL_cons]
            show lowI ((y : Int)).toNat + sizL [] = lowI y
            rw [Int.toNat_natCast]
            have : sizL [] = 0 := rfl
            omega
          have f1 := (HB7.out.cell (p := ⟨b, o + 0 * 2 + 1, none⟩) hbb).trans d1
          simp only [Nat.zero_mul, Nat.add_zero] at f1
          have hu : IntKind.u64.wrap (32 - (y : Int)) = 32 - y := IntWalk.u64_in _ ⟨by omega, by omega⟩
          have hi : IntKind.i64.wrap (32 - (y : Int)) = 32 - y := IntWalk.i64_in _ ⟨by omega, by omega⟩
          have HW := Lib.hid (wrap64_lowC y)
          have hp : wrap64 ((2 : Int) ^ (32 - y)) = qa := by rw [hqy]; exact HW.out
          have hy2 : (y : Int) ≤ 32 := by omega
          clear hl1 hv hqy d0 d1 hbb
          go_wp2
          go_ret
          exact ⟨rfl, HB7.out⟩
        · have hn2 : ((n : Int) != 1) = true := by simp; omega
          clear hn1
          go_wp2
          go_ret
          exact ⟨rfl, HB7.out⟩
      · obtain ⟨V, hV⟩ : ∃ V : Int, covF (l ++ m) = V := ⟨_, rfl⟩
        have e3 : Vc = .iface 40 (.int .i64 V) := by rw [← HVC.out, ← hV, errV_ne h3]
        have h64 : 64 < n + n' := by
          rcases Nat.lt_or_ge 64 (n + n') with h | h
          · exact h
          · exact absurd (covF_zero.2 ⟨fun x hx => (List.mem_append.1 hx).elim ((covF_zero.1 h1).1 x) ((covF_zero.1 h2).1 x), by rw [List.length_append, HLN.out, HMN.out]; exact h⟩) h3
        have hw : IntKind.i64.wrap ((n : Int) + (n' : Int)) = (n : Int) + (n' : Int) := IntWalk.i64_in _ ⟨by omega, by omega⟩
        have hg : (64 : Int) < (n : Int) + (n' : Int) := by omega
        subst e1
        subst e2
        subst e3
        clear h1 h2 h3 hV
        go_wp2
        go_ret
        exact ⟨rfl, HB7.out⟩
    · obtain ⟨V, hV⟩ : ∃ V : Int, covF m = V := ⟨_, rfl⟩
      have e2 : Vb = .iface 40 (.int .i64 V) := by rw [← HVB.out, ← hV, errV_ne h2]
      subst e1
      subst e2
      clear h1 h2 hV
      go_wp2
      go_ret
      exact ⟨rfl, HB7.out⟩
  · obtain ⟨V, hV⟩ : ∃ V : Int, covF l = V := ⟨_, rfl⟩
    have e1 : Va = .iface 40 (.int .i64 V) := by rw [← HVA.out, ← hV, errV_ne h1]
    subst e1
    clear h1 hV
    go_wp2
    go_ret
    exact ⟨rfl, HB7.out⟩
theorem CoverSizes_walk (w : World) (A : Option Addr) (n c : Nat) (l : List Nn) (rr : RV rdNets w (.slice A n c) l) (q : l.length * 16 ≤ reachBytes ∧ ∀ x ∈ l, True ∧ True) (A' : Option Addr) (n' c' : Nat) (m : List Nn) (rr' : RV rdNets w (.slice A' n' c') m) (q' : m.length * 16 ≤ reachBytes ∧ ∀ x ∈ m, True ∧ True)
    (hk : bulkL (α := Int × Int) (fun _ => 3) l + 1 + (bulkL (α := Int × Int) (fun _ => 3) m + 1) ≤ 1048576) :
    Calls Try.prog 4 #[.slice A n c, .slice A' n' c'] w fun e w' => e = .returned (.bool true) ∧ Below w.heap.size w w' := by
  have k1 := bulkL_len (fun _ : Int × Int => 3) (fun _ => by omega) l
  have k2 := bulkL_len (fun _ : Int × Int => 3) (fun _ => by omega) m
  exact CoverSizes_any rr rr' (by omega)
end Go.Proofs.Ytdomjiihnliemaa
