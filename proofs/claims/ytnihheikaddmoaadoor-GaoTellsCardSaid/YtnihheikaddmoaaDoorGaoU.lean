/- waywardenref2.OffersOf. -/
import Derived.Test.YtnihheikaddmoaaDoorGaoT
import Derived.Deep.DeepCutAuto
namespace Go.Proofs.YtnihheikaddmoaaDoor
open Go.ChangeShapes Go.WideShapes Go.ChangeAt Go.RowKit Ga
set_option linter.unusedVariables false
set_option linter.unusedSimpArgs false
theorem wpList_append_ints2 {w : World} {ops : Array Oper} {rest : List Oper} {o : Oper} {a : Act} {Q : Exit → Act → World → Prop} (hgd : o.guard = none) (s x : Operand) (t e : TypeId) (ht : Tryd.prog.underlying t = some (.slice e))
    (hinfo : (Tryd.prog.info? e).map (fun i => (i.zero, i.size, i.bytes)) = some (some (.int .i64 0), 1, 8))
    (ho : o.op = .call { callee := .builtin .append, args := #[s, x], argTypes := #[t, t] })
    (base : Nat) (v : Value) (xs : List Int) (hs : a.eval s = v) (hown : OwnI e w base v xs)
    (A : Option Addr) (m c : Nat) (ys : List Int) (hx : a.eval x = .slice A m c) (hr : R1 (RdSlice 1 (rdInt .i64)) w (.slice A m c) ys)
    (hl : xs.length + ys.length ≤ 17592186044416) (hbase : base ≤ w.heap.size)
    (h : ∀ v' w', OwnI e w' base v' (xs ++ ys) → Grow w v w' v' → wpList Tryd.prog ops Q rest (a.put o.dst v') w') : wpList Tryd.prog ops Q (o :: rest) a w := by
  obtain ⟨i0, hi, hz0, hz1, hz2⟩ := info_parts hinfo
  obtain ⟨hm, _, _⟩ := RdSlice.len hr
  refine wpList_append_any w hgd s x t ho base e i0 _ 1 8 ht hi hz0 hz1 hz2 (by rfl) (by omega) v xs.length _ hs hown.1 w.heap.size A m c (ys.map (.int .i64)) hx (reads_ints hr (fun b h => h)) (by intro u hu; obtain ⟨y, _, rfl⟩ := List.mem_map.1 hu; rfl) (by simp only [maxLen]; omega) (by omega) hbase ?_
  intro v' w' h1 h2 h3
  refine h v' w' ⟨by rw [List.length_append, List.map_append, ← hm]; exact h1, fun q hq => ?_⟩ ⟨h2, ?_⟩
  · rcases List.mem_append.1 hq with hq | hq
    · exact hown.2 q hq
    · exact ints_wf hr q hq
  · rcases h3 with h3 | h3
    · exact .inl h3
    · exact .inr ⟨_, h3, Nat.le_refl _⟩
theorem wpList_append_way {w : World} {ops : Array Oper} {rest : List Oper} {o : Oper} {a : Act} {Q : Exit → Act → World → Prop} (hgd : o.guard = none) (s x : Operand)
    (ho : o.op = .call { callee := .builtin .append, args := #[s, x], argTypes := #[23, 23] })
    (base : Nat) (v : Value) (xs : List Ga.Way) (hs : a.eval s = v) (hown : OwnW w base v xs)
    (G : Nat) (t : Int) (p : List Int) (n : Nat) (A : Option Addr) (c : Nat) (t2 : TypeId) (hx : a.eval x = .slice (some ⟨G, 0, none⟩) 1 1) (hG : w.heap[G]? = some (.cells #[.int .i64 t, .slice A n c] t2 (0, 0))) (hw : (Lit.int .i64 t).wf = true)
    (hp : RdSlice 1 (rdInt .i64) w (fun b => base ≤ b ∧ b < w.heap.size ∧ v.ownBlock ≠ some b) [.slice A n c] p)
    (hl : xs.length ≤ 1000000) (hbase : base ≤ w.heap.size)
    (h : ∀ v' w', OwnW w' base v' (xs ++ [(t, p)]) → Grow w v w' v' → wpList Tryd.prog ops Q rest (a.put o.dst v') w') : wpList Tryd.prog ops Q (o :: rest) a w :=
  wpList_plain hgd fun K hK => by
    have h2 := step_append_way (ops := ops) (E := False) (K := K) (Q := Q) hgd s x ho base v xs hs hown G t p n A c t2 hx hG hw hp hl hbase (fun v' w' a b => hK _ _ (h v' w' a b))
    have hw : Region.wanted o (yielded ops a.tmps) = true := by simp [Region.wanted, hgd]
    rwa [if_pos hw] at h2
theorem own_one (w : World) {x : Int} (hx : (Lit.int .i64 x).wf = true) : OwnI 3 (w.alloc (.cells #[.int .i64 x] 3)) w.heap.size (.slice (some ⟨w.heap.size, 0, none⟩) 1 1) [x] := by
  refine ⟨⟨rfl, .inr ⟨w.heap.size, 1, _, rfl, Nat.le_refl _, heap_alloc_new w _, Nat.le_refl _, by decide, rfl, rfl⟩⟩, by simpa using hx⟩
theorem own_node {w : World} {base L c : Nat} {A : Option Addr} {i : Int} {p : List Int} (h : OwnI 3 w base (.slice A L c) ([i] ++ p)) : RdSlice 1 (rdInt .i64) w (fun b => base ≤ b ∧ b < w.heap.size) [.slice A L c] (i :: p) := by
  have hl := own_form h.1
  obtain ⟨_, _, e⟩ := hl
  simp only [Value.slice.injEq] at e
  refine RdSlice.of_own (xs := i :: p) (by have := h.1; rw [← e.2.1] at this; exact this) e.2.1.symm (fun g hg => own_blk h.1 g hg) (fun j x hx => ⟨[.int .i64 x], rfl, ⟨rfl, h.2 x (List.mem_of_getElem? hx)⟩, fun q u hu => ?_⟩)
  match q, hu with
  | 0, hu =>
    simp only [List.getElem?_cons_zero, Option.some.injEq] at hu
    subst hu
    rw [List.getElem?_map, Nat.mul_one, Nat.add_zero]
    show Option.map _ ((i :: p)[j]?) = _
    rw [hx]
    rfl
theorem off_facts {w w5 w6 : World} {i zi : Int} {p : List Int} {A7 : Option Addr} {L7 c7 : Nat} {v v0 : Value} {xs : List Ga.Way} (hown : OwnI 3 w6 w5.heap.size (.slice A7 L7 c7) ([i] ++ p))
    (hone : OwnI 3 (w5.alloc (.cells #[.int .i64 i] 3)) w5.heap.size v0 [i]) (hg : Grow (w5.alloc (.cells #[.int .i64 i] 3)) v0 w6 (.slice A7 L7 c7)) (ho : OwnW w5 w.heap.size v xs) (hb : Below w.heap.size w w5) :
    OwnW (w6.alloc (.cells #[.int .i64 zi, .slice A7 L7 c7] 26)) w.heap.size v xs ∧ Below w.heap.size w (w6.alloc (.cells #[.int .i64 zi, .slice A7 L7 c7] 26)) ∧
    RdSlice 1 (rdInt .i64) (w6.alloc (.cells #[.int .i64 zi, .slice A7 L7 c7] 26)) (fun b => w.heap.size ≤ b ∧ b < (w6.alloc (.cells #[.int .i64 zi, .slice A7 L7 c7] 26)).heap.size ∧ v.ownBlock ≠ some b) [.slice A7 L7 c7] (i :: p) ∧
    w.heap.size ≤ (w6.alloc (.cells #[.int .i64 zi, .slice A7 L7 c7] 26)).heap.size := by
  have hwA : Below w5.heap.size w5 (w5.alloc (.cells #[.int .i64 i] 3)) := (Below.refl _ _).alloc (Nat.le_refl _) _
  have hb6 : Below w5.heap.size w5 w6 := hg.below hwA hone.1 (Nat.le_refl _) hwA.size
  have s4 := hb.size
  have s6 := hb6.size
  have hwB : Below w6.heap.size w6 (w6.alloc (.cells #[.int .i64 zi, .slice A7 L7 c7] 26)) := (Below.refl _ _).alloc (Nat.le_refl _) _
  have s8 := hwB.size
  refine ⟨(ho.below hb6).below hwB, (hb.trans (hb6.mono s4)).trans (hwB.mono (by omega)), ?_, by omega⟩
  exact RdLaw.mono (RdLaw.keep (own_node hown) (fun q hq => hwB.cell hq.2)) (fun b hb => ⟨by omega, by omega, fun e => by have := (ho.own_lt b e).2; omega⟩)
set_option maxRecDepth 100000 in
set_option maxHeartbeats 16000000 in
theorem OffersOf_any {w : World} {n i : Nat} {Ad A : Option Addr} {m cd c : Nat} {d : List Deal} {T : List Ga.Way} (hD : R1 rdDeals w (.slice Ad m cd) d) (hok : OkG n d) (hT : R1 rdWays w (.slice A n c) T) (hi : i < n) (hsm : ∀ x ∈ T, x.2.length ≤ 17592186043904) :
    Calls Tryd.prog 9 #[.slice Ad m cd, .slice A n c, .int .i64 i] w fun e w' => ∃ v, e = .returned v ∧ OwnW w' w.heap.size v (offersP (WL d) n T i) ∧ Below w.heap.size w w' := by
  have h8 := hok.eight
  have HD := Lib.hid hD
  have HOK := Lib.hid hok
  have HT := Lib.hid hT
  have HSM := Lib.hid hsm
  have hc : c ≤ 9223372036854775807 := by have := (RdSlice.len hT).2.2; unfold maxLen at this; omega
  clear hD hok hT hsm
  go_enter Tryd.func9, Tryd.ntmps9
  go_wp2
  go_loopw [7, 8] (fun v t wr => ∃ k : Nat, k ≤ n ∧ t = .int .i64 k ∧ OwnW wr w.heap.size v (offK (WL d) T i k) ∧ Below w.heap.size w wr) (fun _ t _ => n - (intOf t).toNat)
  case atStart => exact ⟨0, Nat.zero_le _, rfl, OwnW.nil_ _ _, Below.refl _ _⟩
  case round =>
    obtain ⟨k, hk, rfl, hown, hb⟩ := hrel
    have HO := Lib.hid hown
    have HB := Lib.hid hb
    have s1 := hb.size
    clear hown hb
    by_cases hlt : k < n
    · obtain ⟨b, o, t, p, A', c', rfl, hbb, HX, wt, hp, d0, d1⟩ := RdSlice.atW HT.out hlt
      have c0 := (HB.out.cell hbb).trans d0
      have c1 := (HB.out.cell hbb).trans d1
      obtain ⟨zi, hzi⟩ : ∃ z, WL d i k = z := ⟨_, rfl⟩
      obtain ⟨np, hnp⟩ : ∃ np, p.length = np := ⟨_, rfl⟩
      rw [hnp] at c1 hp
      have hpw : R1 (RdSlice 1 (rdInt .i64)) w (.slice A' np c') p := hp
      have hpsm := HSM.out _ (List.mem_of_getElem? HX.out)
      simp only at hpsm
      rw [hnp] at hpsm
      have hrv : zi ≠ 0 → (WL d k i = 1 ↔ zi = 3) := fun h0 => by
        have h1 := what_rev HOK.out.rng (i : Int) (k : Int) (by unfold WL at hzi; rw [hzi]; exact h0)
        unfold WL at hzi ⊢
        rw [h1, hzi]
        omega
      have hzr : 0 ≤ zi ∧ zi ≤ 3 := by have := what_val HOK.out.rng (i : Int) (k : Int); unfold WL at hzi; omega
      have HP := Lib.hid (hpw.below HB.out)
      have HNONE : Hid (zi = 0 ∨ p = [] ∨ (i : Int) ∈ p → offK (WL d) T i (k + 1) = offK (WL d) T i k) := Lib.hid (fun h => offK_none (by unfold offer; rw [wy_at HX.out, hzi]; exact if_pos h))
      have HNONE2 : Hid (zi ≠ 0 → t ≠ 0 → t ≠ 1 → zi ≠ 3 → offK (WL d) T i (k + 1) = offK (WL d) T i k) := Lib.hid (fun h0 h1 h2 h3 => offK_none (by
        unfold offer; rw [wy_at HX.out, hzi]
        by_cases hh : zi = 0 ∨ p = [] ∨ (i : Int) ∈ p
        · exact if_pos hh
        · rw [if_neg hh, if_neg]
          intro h
          rcases h with h | h | h
          · exact h1 h
          · exact h2 h
          · exact h3 ((hrv h0).1 h)))
      have HSOME : Hid (zi ≠ 0 → p ≠ [] → ¬ (i : Int) ∈ p → (t = 0 ∨ t = 1 ∨ zi = 3) → offK (WL d) T i (k + 1) = offK (WL d) T i k ++ [(zi, (i : Int) :: p)]) := Lib.hid (fun h0 h1 h2 h3 => offK_some (by
        unfold offer; rw [wy_at HX.out, hzi]
        rw [if_neg (by rw [not_or, not_or]; exact ⟨h0, h1, h2⟩), if_pos]
        rcases h3 with h | h | h
        · exact .inl h
        · exact .inr (.inl h)
        · exact .inr (.inr ((hrv h0).2 h))))
      have HW : Hid (whatL d (i : Int) (k : Int) = zi) := Lib.hid hzi
      have HZW : Hid ((Lit.int .i64 zi).wf = true) := Lib.hid (WalkArith.wf_i64 (by omega))
      have HNP := Lib.hid hnp
      have i0 : (0 : Int) ≤ (k : Int) := by omega
      have i1 : (k : Int) < (n : Int) := by omega
      have hdv := HOK.out.rng
      have HDV : Hid (∀ x ∈ d, 1 ≤ x.2.2 ∧ x.2.2 ≤ 3) := Lib.hid (fun x hx => ⟨(hdv x hx).2.2.2.2.1, (hdv x hx).2.2.2.2.2.1⟩)
      have HD1 := Lib.hid (HD.out.below HB.out)
      clear hzi hp hpw hnp d0 d1 wt hrv hdv
      go_upto_region 6 with (fail)
      obtain ⟨p0, p1, -, -⟩ := row2 (heap_alloc_new wr (.cells #[.int .i64 t, .slice A' np c'] 26))
      have hw4 : Below wr.heap.size wr (wr.alloc (.cells #[.int .i64 t, .slice A' np c'] 26)) := (Below.refl _ _).alloc (Nat.le_refl _) _
      have HP4 := Lib.hid (HP.out.below hw4)
      have HO4 := Lib.hid (HO.out.below hw4)
      have HD4 := Lib.hid (HD1.out.below hw4)
      have HB4 := Lib.hid (HB.out.trans (hw4.mono s1))
      have s4 := HB4.out.size
      obtain ⟨gi, hgi⟩ : ∃ gi, wr.heap.size = gi := ⟨_, rfl⟩
      have hgl : gi < (wr.alloc (.cells #[.int .i64 t, .slice A' np c'] 26)).heap.size := by simp; omega
      have HGI : Hid (∀ g, u7.ownBlock = some g → g < gi) := Lib.hid (fun g e => by have := (HO.out.own_lt g e).2; omega)
      rw [hgi] at p0 p1 ⊢
      clear hw4 hgi c0 c1 HO HB HP HD1 s1
      generalize (wr.alloc (.cells #[.int .i64 t, .slice A' np c'] 26)) = w4 at *
      go_wp2_with fail
      go_at_call 14
      (with_reducible refine (WhatOf_any (R1.rd HD4.out) HDV.out HW.out).mono ?_)
      rintro e w5 ⟨rfl, rfl⟩
      by_cases hz : zi = 0
      · have t1 : (zi == 0) = true := by simpa using hz
        have HN := Lib.hid (HNONE.out (.inl hz))
        clear hz
        go_wp2
        go_roundw
        case rel => exact ⟨k + 1, by omega, by go_num, by rw [HN.out]; exact HO4.out, HB4.out⟩
        case measure => simp [intOf]; omega
      have t1 : (zi == 0) = false := by simpa using hz
      by_cases hn0 : np = 0
      · have HN := Lib.hid (HNONE.out (.inr (.inl (List.length_eq_zero_iff.1 (HNP.out.trans hn0)))))
        subst hn0
        go_wp2
        go_roundw
        case rel => exact ⟨k + 1, by omega, by go_num, by rw [HN.out]; exact HO4.out, HB4.out⟩
        case measure => simp [intOf]; omega
      have hpe : p ≠ [] := fun e => hn0 (by rw [← HNP.out, e]; rfl)
      have HPE := Lib.hid hpe
      have t2 : ((np : Int) == 0) = false := by simp; omega
      obtain ⟨q, hq⟩ : ∃ q, inB p (i : Int) = q := ⟨_, rfl⟩
      have HIN := Lib.hid hq
      clear hq hpe
      go_wp2_with fail
      go_at_call 26
      (with_reducible refine (In_any (x := (i : Int)) (R1.rd HP4.out) ⟨by omega, by omega⟩).mono ?_)
      rintro e w6 ⟨rfl, rfl⟩
      rw [HIN.out]
      cases q
      case true =>
        have HN := Lib.hid (HNONE.out (.inr (.inr (inB_iff.1 HIN.out))))
        go_wp2
        go_roundw
        case rel => exact ⟨k + 1, by omega, by go_num, by rw [HN.out]; exact HO4.out, HB4.out⟩
        case measure => simp [intOf]; omega
      have hni : ¬ (i : Int) ∈ p := fun h => by have := inB_iff.2 h; rw [HIN.out] at this; cases this
      have HNI := Lib.hid hni
      clear hni
      obtain ⟨b1, hb1⟩ : ∃ z, (t == 0) = z := ⟨_, rfl⟩
      obtain ⟨b2, hb2⟩ : ∃ z, (t == 1) = z := ⟨_, rfl⟩
      obtain ⟨b3, hb3⟩ : ∃ z, (zi == 3) = z := ⟨_, rfl⟩
      have HNO : Hid (b1 = false → b2 = false → b3 = false → offK (WL d) T i (k + 1) = offK (WL d) T i k) := Lib.hid (by
        rintro rfl rfl rfl
        exact HNONE2.out hz (by simpa using hb1) (by simpa using hb2) (by simpa using hb3))
      have HYES : Hid ((b1 = true ∨ b2 = true ∨ b3 = true) → offK (WL d) T i (k + 1) = offK (WL d) T i k ++ [(zi, (i : Int) :: p)]) := Lib.hid (fun h => by
        refine HSOME.out hz HPE.out HNI.out ?_
        rcases h with rfl | rfl | rfl
        · exact .inl (eq_of_beq hb1)
        · exact .inr (.inl (eq_of_beq hb2))
        · exact .inr (.inr (eq_of_beq hb3)))
      clear hz hn0
      have HOK8 : Hid ((offK (WL d) T i k).length ≤ 1000000) := Lib.hid (by have := offK_len (WL d) T i k; omega)
      have HIW : Hid ((Lit.int .i64 (i : Int)).wf = true) := Lib.hid (WalkArith.wf_i64 (by omega))
      have HLN : Hid (([(i : Int)]).length + p.length ≤ 17592186044416) := Lib.hid (by rw [HNP.out]; simp only [List.length_cons, List.length_nil]; omega)
      have HOB := Lib.hid (HO4.out.own_lt)
      cases b1 <;> cases b2 <;> cases b3
      case false.false.false =>
        have HN := Lib.hid (HNO.out rfl rfl rfl)
        clear HNO HYES
        go_wp2
        go_roundw
        case rel => exact ⟨k + 1, by omega, by go_num, by rw [HN.out]; exact HO4.out, HB4.out⟩
        case measure => simp [intOf]; omega
      all_goals
        have HN := Lib.hid (HYES.out (by simp))
        clear HNO HYES
        have hwA : Below w5.heap.size w5 (w5.alloc (.cells #[.int .i64 i] 3)) := (Below.refl _ _).alloc (Nat.le_refl _) _
        have HONE := Lib.hid (own_one w5 HIW.out)
        have HPA := Lib.hid (HP4.out.below hwA)
        have q0 := (hwA.cell (p := ⟨gi, 0, none⟩) hgl).trans p0
        have q1 := (hwA.cell (p := ⟨gi, 1, none⟩) hgl).trans p1
        have l1 : w5.heap.size ≤ (w5.alloc (.cells #[.int .i64 i] 3)).heap.size := hwA.size
        obtain ⟨L7, hL7⟩ : ∃ L7, ([(i : Int)] ++ p).length = L7 := ⟨_, rfl⟩
        have HL7 := Lib.hid hL7
        clear hwA hL7
        go_wp2_with (first
          | (at_builtin; (refine wpList_append_ints2 rfl (.tmp 54) (.tmp 56) 24 3 Tryd.underlying24 info_int rfl w5.heap.size _ _ rfl HONE.out A' np c' p rfl HPA.out HLN.out l1 ?_); intro v6 w6 hown6 hgrow6; obtain ⟨A7, c7, rfl⟩ := hown6.form; rw [HL7.out] at hown6 hgrow6 ⊢; have HF := Lib.hid (off_facts (zi := zi) hown6 HONE.out hgrow6 HO4.out HB4.out); clear hown6 hgrow6)
          | (at_builtin; (refine wpList_append_way rfl (.tmp 51) (.tmp 59) rfl w.heap.size _ (offK (WL d) T i k) rfl HF.out.1 w6.heap.size zi ((i : Int) :: p) L7 A7 c7 26 rfl (heap_alloc_new w6 _) HZW.out HF.out.2.2.1 HOK8.out HF.out.2.2.2 ?_); intro v8 w8 hown8 hgrow8)
          | go_in)
        obtain ⟨us8, hus8, -⟩ := HF.out.1
        have HB9 := Lib.hid (hgrow8.below HF.out.2.1 hus8 (Nat.le_refl _) HF.out.2.2.2)
        have HO9 := Lib.hid hown8
        clear hgrow8 hown8 hus8
        go_roundw
        case rel => exact ⟨k + 1, by omega, by go_num, by rw [HN.out]; exact HO9.out, HB9.out⟩
        case measure => simp [intOf]; omega
    · have e : k = n := by omega
      subst e
      go_wp2
      go_ret
      exact ⟨_, rfl, HO.out, HB.out⟩
end Go.Proofs.YtnihheikaddmoaaDoor
