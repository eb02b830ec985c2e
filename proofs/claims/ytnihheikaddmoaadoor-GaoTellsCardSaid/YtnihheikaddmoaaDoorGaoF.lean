/- gao.offers: rows of ways of the call's own. -/
import Derived.Test.YtnihheikaddmoaaDoorGaoD
import Derived.Test.YtnihheikaddmoaaDoorSub
import Derived.Deep.RegionHeld3
namespace Go.Proofs.YtnihheikaddmoaaDoor
open Go.ChangeShapes Go.WideShapes Go.ChangeAt Go.RowKit Ga
set_option linter.unusedVariables false
set_option linter.unusedSimpArgs false
/-- one way out of a slice of ways -/
theorem RdSlice.atW {w : World} {ok : Nat → Prop} {A : Option Addr} {n c : Nat} {xs : List Ga.Way} (h : rdWays w ok [.slice A n c] xs) {k : Nat} (hk : k < n) :
    ∃ b o t p A' c', A = some ⟨b, o, none⟩ ∧ ok b ∧ Hid (xs[k]? = some (t, p)) ∧ (Lit.int .i64 t).wf = true ∧ RdSlice 1 (rdInt .i64) w ok [.slice A' p.length c'] p ∧ w.cell? ⟨b, o + k * 2, none⟩ = some (.int .i64 t) ∧ w.cell? ⟨b, o + k * 2 + 1, none⟩ = some (.slice A' p.length c') := by
  obtain ⟨b, o, x, cs, hA, hb, hx, _, hr, hc⟩ := h.at_ hk
  obtain ⟨t, p⟩ := x
  obtain ⟨_, _, rfl, ⟨rfl, w0⟩, hp⟩ := hr
  have hp' := hp
  obtain ⟨A', c', e, _⟩ := hp'
  subst e
  exact ⟨b, o, t, p, A', c', hA, hb, hx, w0, hp, hc 0 _ rfl, (by rw [Nat.add_assoc]; exact hc 1 _ rfl)⟩
theorem rd_way {w : World} {ok : Nat → Prop} {t : Int} {p : List Int} {A : Option Addr} {n c : Nat} (hw : (Lit.int .i64 t).wf = true) (hp : RdSlice 1 (rdInt .i64) w ok [.slice A n c] p) : rdWay w ok [.int .i64 t, .slice A n c] (t, p) := ⟨[.int .i64 t], [.slice A n c], rfl, ⟨rfl, hw⟩, hp⟩
theorem way_info : (Tryd.prog.info? 26).map (fun i => (i.zero, i.size, i.bytes)) = some (some (.agg #[.int .i64 0, .slice none 0 0]), 2, 32) := by kernel_rfl
def OwnW (w : World) (base : Nat) (v : Value) (xs : List Ga.Way) : Prop :=
  ∃ us : List Value, w.ownsRow base 26 2 v xs.length us ∧ ∀ i x, xs[i]? = some x → ∃ A c, us[i * 2]? = some (.int .i64 x.1) ∧ us[i * 2 + 1]? = some (.slice A x.2.length c) ∧ (Lit.int .i64 x.1).wf = true ∧
    RdSlice 1 (rdInt .i64) w (fun b => base ≤ b ∧ b < w.heap.size ∧ v.ownBlock ≠ some b) [.slice A x.2.length c] x.2
theorem OwnW.nil_ (w : World) (base : Nat) : OwnW w base (.slice none 0 0) [] := ⟨[], ⟨rfl, .inl ⟨rfl, rfl⟩⟩, by simp⟩
theorem OwnW.below {w w' : World} {base : Nat} {v : Value} {xs : List Ga.Way} (h : OwnW w base v xs) (hb : Below w.heap.size w w') : OwnW w' base v xs := by
  obtain ⟨us, h1, h2⟩ := h
  refine ⟨us, own_below h1 hb, fun i x hi => ?_⟩
  obtain ⟨A, c, a1, a2, a3, a4⟩ := h2 i x hi
  exact ⟨A, c, a1, a2, a3, RdLaw.mono (RdLaw.keep a4 (fun p hp => hb.cell hp.2.1)) (fun b hb' => ⟨hb'.1, Nat.lt_of_lt_of_le hb'.2.1 hb.size, hb'.2.2⟩)⟩
theorem OwnW.form {w : World} {base : Nat} {v : Value} {xs : List Ga.Way} (h : OwnW w base v xs) : ∃ A c, v = .slice A xs.length c := by obtain ⟨us, h1, _⟩ := h; exact own_form h1
theorem OwnW.own_lt {w : World} {base : Nat} {v : Value} {xs : List Ga.Way} (h : OwnW w base v xs) : ∀ g, v.ownBlock = some g → base ≤ g ∧ g < w.heap.size := by obtain ⟨us, h1, _⟩ := h; exact own_blk h1
theorem OwnW.read {w : World} {base : Nat} {A : Option Addr} {n c : Nat} {xs : List Ga.Way} (h : OwnW w base (.slice A n c) xs) : rdWays w (fun b => base ≤ b ∧ b < w.heap.size) [.slice A n c] xs := by
  obtain ⟨us, h1, h2⟩ := h
  have hn : n = xs.length := by
    obtain ⟨A', c', e⟩ := own_form h1
    simp only [Value.slice.injEq] at e; exact e.2.1
  subst hn
  refine RdSlice.of_own (xs := xs) h1 rfl (fun g hg => own_blk h1 g hg) (fun i x hi => ?_)
  obtain ⟨A', c', a1, a2, a3, a4⟩ := h2 i x hi
  refine ⟨[.int .i64 x.1, .slice A' x.2.length c'], rfl, rd_way a3 (RdLaw.mono a4 (fun b hb => ⟨hb.1, hb.2.1⟩)), fun j u hu => ?_⟩
  match j, hu with
  | 0, hu => simp only [List.getElem?_cons_zero, Option.some.injEq] at hu; subst hu; exact a1
  | 1, hu => simp only [List.getElem?_cons_succ, List.getElem?_cons_zero, Option.some.injEq] at hu; subst hu; exact a2
theorem step_append_way {w : World} {ops : Array Oper} {o : Oper} {a : Act} {K : Act → World → Prop} {Q : Exit → Act → World → Prop} {E : Prop} (hgd : o.guard = none) (s x : Operand)
    (ho : o.op = .call { callee := .builtin .append, args := #[s, x], argTypes := #[23, 23] })
    (base : Nat) (v : Value) (xs : List Ga.Way) (hs : a.eval s = v) (hown : OwnW w base v xs)
    (G : Nat) (t : Int) (p : List Int) (n : Nat) (A : Option Addr) (c : Nat) (t2 : TypeId) (hx : a.eval x = .slice (some ⟨G, 0, none⟩) 1 1) (hG : w.heap[G]? = some (.cells #[.int .i64 t, .slice A n c] t2 (0, 0))) (hw : (Lit.int .i64 t).wf = true)
    (hp : RdSlice 1 (rdInt .i64) w (fun b => base ≤ b ∧ b < w.heap.size ∧ v.ownBlock ≠ some b) [.slice A n c] p)
    (hl : xs.length ≤ 1000000) (hbase : base ≤ w.heap.size)
    (h : ∀ v' w', OwnW w' base v' (xs ++ [(t, p)]) → Grow w v w' v' → K (a.put o.dst v') w') : if Region.wanted o (yielded ops a.tmps) = true then Oper.wp Tryd.prog o a w K Q else E := by
  obtain ⟨i0, hi, hz0, hz1, hz2⟩ := info_parts way_info
  have hn := hp.len.1
  subst hn
  obtain ⟨us, ho1, ho2⟩ := hown
  have hul : us.length = xs.length * 2 := ho1.1
  have hr : Reads w w.heap.size 2 (some ⟨G, 0, none⟩) 1 [.int .i64 t, .slice A p.length c] := ⟨rfl, fun _ => ⟨_, rfl, size_of_block hG, fun j u hu => by
    rw [addr_add, cell_of_row _ G _ _ t2 (0, 0) hG]; simpa using hu⟩⟩
  refine step_append_any w hgd s x 23 ho base 26 i0 _ 2 32 Tryd.underlying23 hi hz0 hz1 hz2 (by rfl) (by omega) v xs.length _ hs ho1 w.heap.size _ 1 1 [.int .i64 t, .slice A p.length c] hx hr (by intro u hu; simp only [List.mem_cons, List.not_mem_nil, or_false] at hu; rcases hu with rfl | rfl <;> rfl) (by simp only [maxLen]; omega) (by omega) hbase ?_
  intro v' w' h1 h2 h3
  have hkeep : ∀ (A' : Option Addr) (n' c' : Nat) (q : List Int), RdSlice 1 (rdInt .i64) w (fun b => base ≤ b ∧ b < w.heap.size ∧ v.ownBlock ≠ some b) [.slice A' n' c'] q → RdSlice 1 (rdInt .i64) w' (fun b => base ≤ b ∧ b < w'.heap.size ∧ v'.ownBlock ≠ some b) [.slice A' n' c'] q := fun A' n' c' q hq =>
    RdLaw.mono (RdLaw.keep hq (fun y hy => World.cell?_of_block (h2.block y.block hy.2.1 (fun e => hy.2.2 e.symm)))) (fun b hb => ⟨hb.1, Nat.lt_of_lt_of_le hb.2.1 h2.size, fun e => by
      rcases h3 with h3 | h3
      · rw [h3] at e; exact hb.2.2 e
      · rw [h3] at e; injection e with e; have := hb.2.1; omega⟩)
  refine h v' w' ⟨us ++ [.int .i64 t, .slice A p.length c], by rw [List.length_append]; exact h1, fun i y hi' => ?_⟩ ⟨h2, ?_⟩
  · by_cases hlt : i < xs.length
    · rw [List.getElem?_append_left hlt] at hi'
      obtain ⟨A', c', a1, a2, a3, a4⟩ := ho2 i y hi'
      exact ⟨A', c', by rw [List.getElem?_append_left (by omega)]; exact a1, by rw [List.getElem?_append_left (by omega)]; exact a2, a3, hkeep _ _ _ _ a4⟩
    · have hin : i = xs.length := by have := (List.getElem?_eq_some_iff.1 hi').1; simp at this; omega
      subst hin
      rw [List.getElem?_append_right (Nat.le_refl _)] at hi'
      simp at hi'
      subst hi'
      exact ⟨A, c, by rw [List.getElem?_append_right (by omega)]; simp [hul], by rw [List.getElem?_append_right (by omega), hul]; simp, hw, hkeep _ _ _ _ hp⟩
  · rcases h3 with h3 | h3
    · exact .inl h3
    · exact .inr ⟨_, h3, Nat.le_refl _⟩
/-- the offers of the first so many -/
def offK (W : Nat → Nat → Int) (T : List Ga.Way) (i k : Nat) : List Ga.Way := (List.range k).filterMap (offer W T i)
theorem offK_none {W : Nat → Nat → Int} {T : List Ga.Way} {i k : Nat} (h : offer W T i k = none) : offK W T i (k + 1) = offK W T i k := by unfold offK; rw [List.range_succ, List.filterMap_append]; simp [h]
theorem offK_some {W : Nat → Nat → Int} {T : List Ga.Way} {i k : Nat} {x : Ga.Way} (h : offer W T i k = some x) : offK W T i (k + 1) = offK W T i k ++ [x] := by unfold offK; rw [List.range_succ, List.filterMap_append]; simp [h]
theorem offK_len (W : Nat → Nat → Int) (T : List Ga.Way) (i k : Nat) : (offK W T i k).length ≤ k := by unfold offK; have := List.length_filterMap_le (offer W T i) (List.range k); simpa using this
theorem wy_at {T : List Ga.Way} {k : Nat} {x : Ga.Way} (h : T[k]? = some x) : wy T k = x := by unfold wy; rw [List.getD_eq_getElem?_getD, h]; rfl
set_option maxRecDepth 100000 in
set_option maxHeartbeats 16000000 in
theorem offers_any {w : World} {n i : Nat} {A At : Option Addr} {c ct : Nat} {W : Nat → Nat → Int} {T : List Ga.Way} (hW : R1 (RdSlice 1 (RdSlice 1 (rdInt .i64))) w (.slice At n ct) (tabL n W)) (hT : R1 rdWays w (.slice A n c) T) (hi : i < n) (h8 : n ≤ 8) (hwf : ∀ a b, (Lit.int .i64 (W a b)).wf = true) (hsm : ∀ x ∈ T, x.2.length ≤ 17592186044416 - 10) :
    Calls Tryd.prog 24 #[.slice At n ct, .slice A n c, .int .i64 i] w fun e w' => ∃ v, e = .returned v ∧ OwnW w' w.heap.size v (offersP W n T i) ∧ Below w.heap.size w w' := by
  have HW := Lib.hid hW
  have HT := Lib.hid hT
  have HWF := Lib.hid hwf
  have HSM := Lib.hid hsm
  have hlen := (RdSlice.len hT).1
  have HLEN := Lib.hid hlen
  obtain ⟨bt, ot, bi, oi, ci, rfl, hbt, hbi, hi1, hi2, ti, hrow⟩ := tab_row hW hi
  have hci : ci ≤ 9223372036854775807 := by unfold maxLen at hi2; omega
  have hct : ct ≤ 9223372036854775807 := by have := (RdSlice.len hW).2.2; unfold maxLen at this; omega
  have hc : c ≤ 9223372036854775807 := by have := (RdSlice.len hT).2.2; unfold maxLen at this; omega
  have HROW := Lib.hid hrow
  have HROWK := Lib.hid (fun (k : Nat) (hk : k < n) => tab_row hW hk)
  clear hW hT hwf hsm hlen hi2 hrow
  go_enter Tryd.func24, Tryd.ntmps24
  go_wp2
  go_loopw [7, 12] (fun v t wr => ∃ k : Nat, k ≤ n ∧ t = .int .i64 k ∧ OwnW wr w.heap.size v (offK W T i k) ∧ Below w.heap.size w wr) (fun _ t _ => n - (intOf t).toNat)
  case atStart => exact ⟨0, Nat.zero_le _, rfl, OwnW.nil_ _ _, Below.refl _ _⟩
  case round =>
    obtain ⟨k, hk, rfl, hown, hb⟩ := hrel
    have HO := Lib.hid hown
    have HB := Lib.hid hb
    have s1 := hb.size
    clear hown hb
    by_cases hlt : k < n
    · obtain ⟨b, o, t, p, A', c', rfl, hbb, HX, wt, hp, d0, d1⟩ := RdSlice.atW HT.out hlt
      obtain ⟨bt', ot', bk, ok', ck, ebt, hbt', hbk, hk1, hk2, tk, hrowk⟩ := HROWK.out k hlt
      simp only [Option.some.injEq, Addr.mk.injEq, and_true] at ebt
      obtain ⟨rfl, rfl⟩ := ebt
      have hck : ck ≤ 9223372036854775807 := by unfold maxLen at hk2; omega
      have z0 := HROW.out k hlt
      have z1 := hrowk i hi
      have c0 := (HB.out.cell hbb).trans d0
      have c1 := (HB.out.cell hbb).trans d1
      have x0 := (HB.out.cell hbt).trans ti
      have x1 := (HB.out.cell hbt).trans tk
      have y0 := (HB.out.cell hbi).trans z0
      have y1 := (HB.out.cell hbk).trans z1
      obtain ⟨zi, hzi⟩ : ∃ z, W i k = z := ⟨_, rfl⟩
      obtain ⟨zk, hzk⟩ : ∃ z, W k i = z := ⟨_, rfl⟩
      rw [hzi] at y0
      rw [hzk] at y1
      have hpw : R1 (RdSlice 1 (rdInt .i64)) w (.slice A' p.length c') p := hp
      obtain ⟨np, hnp⟩ : ∃ np, p.length = np := ⟨_, rfl⟩
      rw [hnp] at c1 hpw
      have hpm := (RdSlice.len hpw).2.2
      have hpc := (RdSlice.len hpw).2.1
      have hnpm : np ≤ 9223372036854775807 := by unfold maxLen at hpm; omega
      have hpsm := HSM.out _ (List.mem_of_getElem? HX.out)
      simp only at hpsm
      rw [hnp] at hpsm
      have HP := Lib.hid (hpw.below HB.out)
      have HOF := Lib.hid (show offer W T i k = if zi = 0 ∨ p = [] ∨ (i : Int) ∈ p then none else if t = 0 ∨ t = 1 ∨ zk = 1 then some (zi, (i : Int) :: p) else none by
        unfold offer; rw [wy_at HX.out, hzi, hzk])
      have HZW := Lib.hid (show (Lit.int .i64 zi).wf = true by rw [← hzi]; exact HWF.out i k)
      have HNP := Lib.hid hnp
      have l0 : bt < wr.heap.size := Nat.lt_of_lt_of_le hbt s1
      have l1 : bi < wr.heap.size := Nat.lt_of_lt_of_le hbi s1
      have l2 : bk < wr.heap.size := Nat.lt_of_lt_of_le hbk s1
      have l3 : ¬ bt = wr.heap.size := by omega
      have l4 : ¬ bi = wr.heap.size := by omega
      have l5 : ¬ bk = wr.heap.size := by omega
      have j0 : (0 : Int) ≤ (i : Int) := by omega
      have j1 : (i : Int) < (n : Int) := by omega
      have j2 : (0 : Int) ≤ (k : Int) := by omega
      have j3 : (k : Int) < (n : Int) := by omega
      clear hzi hzk hp hpw hnp hpm hrowk z0 z1 d0 d1 wt hk2
      by_cases hz : zi = 0
      · have t1 : (zi == 0) = true := by simpa using hz
        have HN := Lib.hid (offK_none (W := W) (T := T) (i := i) (k := k) (HOF.out.trans (by rw [if_pos (.inl hz)])))
        clear hz
        go_wp2
        go_roundw
        case rel => exact ⟨k + 1, by omega, by go_num, by rw [HN.out]; exact HO.out.below ((Below.refl _ _).alloc (Nat.le_refl _) _), HB.out.alloc s1 _⟩
        case measure => simp [intOf]; omega
      · have t1 : (zi == 0) = false := by simpa using hz
        by_cases hn0 : np = 0
        · have hpe : p = [] := List.length_eq_zero_iff.1 (by rw [HNP.out]; exact hn0)
          have HPE := Lib.hid hpe
          clear hpe
          have HN := Lib.hid (offK_none (W := W) (T := T) (i := i) (k := k) (HOF.out.trans (by rw [if_pos (.inr (.inl HPE.out))])))
          subst hn0
          go_wp2
          go_roundw
          case rel => exact ⟨k + 1, by omega, by go_num, by rw [HN.out]; exact HO.out.below ((Below.refl _ _).alloc (Nat.le_refl _) _), HB.out.alloc s1 _⟩
          case measure => simp [intOf]; omega
        · have HPE : Hid (¬ p = []) := Lib.hid (fun e => hn0 (by rw [← HNP.out, e]; rfl))
          have t2 : ((np : Int) == 0) = false := by simp; omega
          have HCT := Lib.hid (Contains_any (x := (i : Int)) (show rdInts (wr.alloc (.cells #[.int .i64 t, .slice A' np c'] 26)) (· < (wr.alloc (.cells #[.int .i64 t, .slice A' np c'] 26)).heap.size) [.slice A' np c'] p from HP.out.alloc _) ⟨by omega, by omega⟩)
          obtain ⟨q, hq⟩ : ∃ q, inB p (i : Int) = q := ⟨_, rfl⟩
          have HIN := Lib.hid hq
          clear hq
          cases q
          · by_cases ht0 : t = 0
            · have t3 : (t == 0) = true := by simpa using ht0
              have HSM2 := Lib.hid (offK_some (W := W) (T := T) (i := i) (k := k) (x := (zi, (i : Int) :: p)) (HOF.out.trans (by rw [if_neg (by rw [not_or, not_or]; exact ⟨hz, HPE.out, fun h => by have := inB_iff.2 h; rw [HIN.out] at this; cases this⟩), if_pos (by exact .inl ht0)])))
              clear ht0 hz
              go_wp2_with fail
              go_at_call 34
              (with_reducible refine HCT.out.mono ?_)
              rintro e w1 ⟨rfl, rfl⟩
              rw [HIN.out]
              go_wp2
              have hw4 : Below wr.heap.size wr (wr.alloc (.cells #[.int .i64 t, .slice A' np c'] 26)) := (Below.refl _ _).alloc (Nat.le_refl _) _
              obtain ⟨p0, p1, -, -⟩ := row2 (heap_alloc_new wr (.cells #[.int .i64 t, .slice A' np c'] 26))
              have x0' := (hw4.cell (p := ⟨bt, ot + i, none⟩) (Nat.lt_of_lt_of_le hbt s1)).trans x0
              have y0' := (hw4.cell (p := ⟨bi, oi + k, none⟩) (Nat.lt_of_lt_of_le hbi s1)).trans y0
              have HO4 := Lib.hid (HO.out.below hw4)
              have HB4 := Lib.hid (HB.out.trans (hw4.mono s1))
              have HP4 := Lib.hid (HP.out.below hw4)
              have s4 := HB4.out.size
              have hgi := size_of_block (heap_alloc_new wr (.cells #[.int .i64 t, .slice A' np c'] 26))
              obtain ⟨gi, hgi2⟩ : ∃ gi, wr.heap.size = gi := ⟨_, rfl⟩
              have hgiv := fun g (e : _ = some g) => (HO.out.own_lt g e).2
              rw [hgi2] at p0 p1 hgi hgiv ⊢
              have HGIV := Lib.hid hgiv
              clear hgiv
              have hbt4 : bt < (wr.alloc (.cells #[.int .i64 t, .slice A' np c'] 26)).heap.size := Nat.lt_of_lt_of_le hbt s4
              have hbi4 : bi < (wr.alloc (.cells #[.int .i64 t, .slice A' np c'] 26)).heap.size := Nat.lt_of_lt_of_le hbi s4
              clear hw4 hgi2
              generalize (wr.alloc (.cells #[.int .i64 t, .slice A' np c'] 26)) = w4 at *
              have n1 : ¬ gi = w4.heap.size := by omega
              have n2 : ¬ bt = w4.heap.size := by omega
              have n3 : ¬ bi = w4.heap.size := by omega
              have m1 : ¬ gi = w4.heap.size + 1 := by omega
              have m2 : ¬ bt = w4.heap.size + 1 := by omega
              have m3 : ¬ bi = w4.heap.size + 1 := by omega
              refine wp_region_noPanic ?_
              refine wp_region_held_drew (S := (fun w' => w'.cell? ⟨gi, 0, none⟩ = some (.int .i64 t) ∧ w'.cell? ⟨gi, 1, none⟩ = some (.slice A' np c') ∧ w'.cell? ⟨bt, ot + i, none⟩ = some (.slice (some ⟨bi, oi, none⟩) n ci) ∧ w'.cell? ⟨bi, oi + k, none⟩ = some (.int .i64 zi))) (by kernel_rfl) (by go_keep) (fun hHeld => ?_)
              refine' wpAnyH_take (i := 0) ?hib0 ?hsb0 ?hfb0 ?hrb0 ?hQb0 ?hyb0 ?hSb0 ?hb0
              case hib0 => (simp only [List.getElem?_toArray, List.getElem?_cons_succ, List.getElem?_cons_zero]; exact rfl)
              case hsb0 => kernel_rfl
              case hfb0 => kernel_rfl
              case hrb0 => kernel_rfl
              case hQb0 => exact fun _ _ _ h => h
              case hyb0 => (first | (refine Or.inr ⟨by rfl, ?_⟩; rfl) | (refine Or.inl ⟨by rfl, ?_⟩; (intro w hSw; (try dsimp only at hSw); go_simp); try with_reducible rfl))
              case hSb0 => assumption
              try simp only [Act.put, List.setIfInBounds_toArray, List.set_cons_zero, List.set_cons_succ]
              refine' wpAnyH_take (i := 1) ?hib1 ?hsb1 ?hfb1 ?hrb1 ?hQb1 ?hyb1 ?hSb1 ?hb1
              case hib1 => (simp only [List.getElem?_toArray, List.getElem?_cons_succ, List.getElem?_cons_zero]; exact rfl)
              case hsb1 => kernel_rfl
              case hfb1 => kernel_rfl
              case hrb1 => kernel_rfl
              case hQb1 => exact fun _ _ _ h => h
              case hyb1 => (first | (refine Or.inr ⟨by rfl, ?_⟩; rfl) | (refine Or.inl ⟨by rfl, ?_⟩; (intro w hSw; (try dsimp only at hSw); go_simp); try with_reducible rfl))
              case hSb1 => assumption
              try simp only [Act.put, List.setIfInBounds_toArray, List.set_cons_zero, List.set_cons_succ]
              refine' wpAnyH_take (i := 2) ?hib2 ?hsb2 ?hfb2 ?hrb2 ?hQb2 ?hyb2 ?hSb2 ?hb2
              case hib2 => (simp only [List.getElem?_toArray, List.getElem?_cons_succ, List.getElem?_cons_zero]; exact rfl)
              case hsb2 => kernel_rfl
              case hfb2 => kernel_rfl
              case hrb2 => kernel_rfl
              case hQb2 => exact fun _ _ _ h => h
              case hyb2 => (first | (refine Or.inr ⟨by rfl, ?_⟩; rfl) | (refine Or.inl ⟨by rfl, ?_⟩; (intro w hSw; (try dsimp only at hSw); go_simp); try with_reducible rfl))
              case hSb2 => assumption
              try simp only [Act.put, List.setIfInBounds_toArray, List.set_cons_zero, List.set_cons_succ]
              refine' wpAnyH_take (i := 3) ?hib3 ?hsb3 ?hfb3 ?hrb3 ?hQb3 ?hyb3 ?hSb3 ?hb3
              case hib3 => (simp only [List.getElem?_toArray, List.getElem?_cons_succ, List.getElem?_cons_zero]; exact rfl)
              case hsb3 => kernel_rfl
              case hfb3 => kernel_rfl
              case hrb3 => kernel_rfl
              case hQb3 => exact fun _ _ _ h => h
              case hyb3 => (first | (refine Or.inr ⟨by rfl, ?_⟩; rfl) | (refine Or.inl ⟨by rfl, ?_⟩; (intro w hSw; (try dsimp only at hSw); go_simp); try with_reducible rfl))
              case hSb3 => assumption
              try simp only [Act.put, List.setIfInBounds_toArray, List.set_cons_zero, List.set_cons_succ]
              refine' wpAnyH_take (i := 4) ?hib4 ?hsb4 ?hfb4 ?hrb4 ?hQb4 ?hyb4 ?hSb4 ?hb4
              case hib4 => (simp only [List.getElem?_toArray, List.getElem?_cons_succ, List.getElem?_cons_zero]; exact rfl)
              case hsb4 => kernel_rfl
              case hfb4 => kernel_rfl
              case hrb4 => kernel_rfl
              case hQb4 => exact fun _ _ _ h => h
              case hyb4 => (first | (refine Or.inr ⟨by rfl, ?_⟩; rfl) | (refine Or.inl ⟨by rfl, ?_⟩; (intro w hSw; (try dsimp only at hSw); go_simp); try with_reducible rfl))
              case hSb4 => assumption
              try simp only [Act.put, List.setIfInBounds_toArray, List.set_cons_zero, List.set_cons_succ]
              refine' wpAnyH_take (i := 5) ?hib5 ?hsb5 ?hfb5 ?hrb5 ?hQb5 ?hyb5 ?hSb5 ?hb5
              case hib5 => (simp only [List.getElem?_toArray, List.getElem?_cons_succ, List.getElem?_cons_zero]; exact rfl)
              case hsb5 => kernel_rfl
              case hfb5 => kernel_rfl
              case hrb5 => kernel_rfl
              case hQb5 => exact fun _ _ _ h => h
              case hyb5 => (first | (refine Or.inr ⟨by rfl, ?_⟩; rfl) | (refine Or.inl ⟨by rfl, ?_⟩; (intro w hSw; (try dsimp only at hSw); go_simp); try with_reducible rfl))
              case hSb5 => assumption
              try simp only [Act.put, List.setIfInBounds_toArray, List.set_cons_zero, List.set_cons_succ]
              refine' wpAnyH_take (i := 6) ?hib6 ?hsb6 ?hfb6 ?hrb6 ?hQb6 ?hyb6 ?hSb6 ?hb6
              case hib6 => (simp only [List.getElem?_toArray, List.getElem?_cons_succ, List.getElem?_cons_zero]; exact rfl)
              case hsb6 => kernel_rfl
              case hfb6 => kernel_rfl
              case hrb6 => kernel_rfl
              case hQb6 => exact fun _ _ _ h => h
              case hyb6 => (first | (refine Or.inr ⟨by rfl, ?_⟩; rfl) | (refine Or.inl ⟨by rfl, ?_⟩; (intro w hSw; (try dsimp only at hSw); go_simp); try with_reducible rfl))
              case hSb6 => assumption
              try simp only [Act.put, List.setIfInBounds_toArray, List.set_cons_zero, List.set_cons_succ]
              refine' wpAnyH_take (i := 7) ?hib7 ?hsb7 ?hfb7 ?hrb7 ?hQb7 ?hyb7 ?hSb7 ?hb7
              case hib7 => (simp only [List.getElem?_toArray, List.getElem?_cons_succ, List.getElem?_cons_zero]; exact rfl)
              case hsb7 => kernel_rfl
              case hfb7 => kernel_rfl
              case hrb7 => kernel_rfl
              case hQb7 => exact fun _ _ _ h => h
              case hyb7 => (first | (refine Or.inr ⟨by rfl, ?_⟩; rfl) | (refine Or.inl ⟨by rfl, ?_⟩; (intro w hSw; (try dsimp only at hSw); go_simp); try with_reducible rfl))
              case hSb7 => assumption
              try simp only [Act.put, List.setIfInBounds_toArray, List.set_cons_zero, List.set_cons_succ]
              refine' wpAnyH_take (i := 8) ?hib8 ?hsb8 ?hfb8 ?hrb8 ?hQb8 ?hyb8 ?hSb8 ?hb8
              case hib8 => (simp only [List.getElem?_toArray, List.getElem?_cons_succ, List.getElem?_cons_zero]; exact rfl)
              case hsb8 => kernel_rfl
              case hfb8 => kernel_rfl
              case hrb8 => kernel_rfl
              case hQb8 => exact fun _ _ _ h => h
              case hyb8 => (first | (refine Or.inr ⟨by rfl, ?_⟩; rfl) | (refine Or.inl ⟨by rfl, ?_⟩; (intro w hSw; (try dsimp only at hSw); go_simp); try with_reducible rfl))
              case hSb8 => assumption
              try simp only [Act.put, List.setIfInBounds_toArray, List.set_cons_zero, List.set_cons_succ]
              refine' wpAnyH_take (i := 10) ?hib10 ?hsb10 ?hfb10 ?hrb10 ?hQb10 ?hyb10 ?hSb10 ?hb10
              case hib10 => (simp only [List.getElem?_toArray, List.getElem?_cons_succ, List.getElem?_cons_zero]; exact rfl)
              case hsb10 => kernel_rfl
              case hfb10 => kernel_rfl
              case hrb10 => kernel_rfl
              case hQb10 => exact fun _ _ _ h => h
              case hyb10 => (first | (refine Or.inr ⟨by rfl, ?_⟩; rfl) | (refine Or.inl ⟨by rfl, ?_⟩; (intro w hSw; (try dsimp only at hSw); go_simp); try with_reducible rfl))
              case hSb10 => assumption
              try simp only [Act.put, List.setIfInBounds_toArray, List.set_cons_zero, List.set_cons_succ]
              refine' wpAnyH_take (i := 11) ?hib11 ?hsb11 ?hfb11 ?hrb11 ?hQb11 ?hyb11 ?hSb11 ?hb11
              case hib11 => (simp only [List.getElem?_toArray, List.getElem?_cons_succ, List.getElem?_cons_zero]; exact rfl)
              case hsb11 => kernel_rfl
              case hfb11 => kernel_rfl
              case hrb11 => kernel_rfl
              case hQb11 => exact fun _ _ _ h => h
              case hyb11 => (first | (refine Or.inr ⟨by rfl, ?_⟩; rfl) | (refine Or.inl ⟨by rfl, ?_⟩; (intro w hSw; (try dsimp only at hSw); go_simp); try with_reducible rfl))
              case hSb11 => assumption
              try simp only [Act.put, List.setIfInBounds_toArray, List.set_cons_zero, List.set_cons_succ]
              refine wpAnyH_ready (rs := [9]) (by kernel_rfl) (by simp) ?_
              refine' AllReadyH.cons ?hib9 (fun K hK => ?hb9) AllReadyH.nil
              case hib9 => (simp only [List.getElem?_toArray, List.getElem?_cons_succ, List.getElem?_cons_zero]; exact rfl)
              go_simp
              refine hK.out _ _ (by go_keep) (fun hHeld => ?_)
              clear hK K
              refine wpAnyH_ready (rs := [12]) (by kernel_rfl) (by simp) ?_
              refine' AllReadyH.cons ?hib12 (fun K hK => ?hb12) AllReadyH.nil
              case hib12 => (simp only [List.getElem?_toArray, List.getElem?_cons_succ, List.getElem?_cons_zero]; exact rfl)
              go_simp
              refine hK.out _ _ (by go_keep) (fun hHeld => ?_)
              clear hK K
              obtain ⟨hA6, hB6⟩ := box2 (w := w4) (o1 := .cells #[.int .i64 i] 3) (o2 := .cells #[.slice (some ⟨w4.heap.size, 0, none⟩) 1 1, .slice A' np c'] 24) (Below.refl _ _)
              have hA6' : ((w4.alloc (.cells #[.int .i64 i] 3)).alloc (.cells #[.slice (some ⟨w4.heap.size, 0, none⟩) 1 1, .slice A' np c'] 24)).drew.heap[w4.heap.size]? = some (.cells #[.int .i64 i] 3 (0, 0)) := hA6
              have hB6' : ((w4.alloc (.cells #[.int .i64 i] 3)).alloc (.cells #[.slice (some ⟨w4.heap.size, 0, none⟩) 1 1, .slice A' np c'] 24)).drew.heap[w4.heap.size + 1]? = some (.cells #[.slice (some ⟨w4.heap.size, 0, none⟩) 1 1, .slice A' np c'] 24 (0, 0)) := hB6
              have hb6 : Below w4.heap.size w4 ((w4.alloc (.cells #[.int .i64 i] 3)).alloc (.cells #[.slice (some ⟨w4.heap.size, 0, none⟩) 1 1, .slice A' np c'] 24)).drew := below_drewN (((Below.refl _ _).alloc (Nat.le_refl _) _).alloc (by simp) _) 1
              clear hA6 hB6
              generalize ((w4.alloc (.cells #[.int .i64 i] 3)).alloc (.cells #[.slice (some ⟨w4.heap.size, 0, none⟩) 1 1, .slice A' np c'] 24)).drew = w6 at *
              obtain ⟨k0, k1, k2, k3⟩ := hHeld
              have HA6 := Lib.hid (R1.of_block (k := .i64) (n := 1) (xs := [(i : Int)]) hA6' rfl rfl (by decide) (by intro x hx; simp at hx; subst hx; exact WalkArith.wf_i64 (by omega)))
              have HB6 := Lib.hid hB6'
              have HP6 := Lib.hid (HP4.out.below hb6)
              have HO6 := Lib.hid (HO4.out.below hb6)
              have HBL6 := Lib.hid (HB4.out.trans (hb6.mono s4))
              have s6 : w4.heap.size ≤ w6.heap.size := hb6.size
              have hln : ([(i : Int)]).length + p.length ≤ 17592186044416 := by rw [HNP.out]; simp only [List.length_cons, List.length_nil]; omega
              have HOB := Lib.hid (HO4.out.own_lt)
              clear hA6' hB6' hb6
              refine wpAnyH_ready (rs := [13]) (by kernel_rfl) (by simp) ?_
              refine' AllReadyH.cons ?hib13 (fun K hK => ?hb13) AllReadyH.nil
              case hib13 => (simp only [List.getElem?_toArray, List.getElem?_cons_succ, List.getElem?_cons_zero]; exact rfl)
              go_simp
              go_at_call 35
              (with_reducible refine (ConcatI_two HB6.out HA6.out HP6.out hln).mono ?_)
              rintro e w7 ⟨v7, rfl, ho7, hb7⟩
              have m0 := (hb7.cell (p := ⟨gi, 0, none⟩) (by simp only; omega)).trans k0
              have m1' := (hb7.cell (p := ⟨gi, 1, none⟩) (by simp only; omega)).trans k1
              have m2' := (hb7.cell (p := ⟨bt, ot + i, none⟩) (by simp only; omega)).trans k2
              have m3' := (hb7.cell (p := ⟨bi, oi + k, none⟩) (by simp only; omega)).trans k3
              obtain ⟨A7, c7, rfl⟩ := ho7.form
              obtain ⟨L7, hL7⟩ : ∃ L7, ([(i : Int)] ++ p).length = L7 := ⟨_, rfl⟩
              rw [hL7] at ho7 ⊢
              have s7 : w6.heap.size ≤ w7.heap.size := hb7.size
              have HO7 := Lib.hid (HO6.out.below hb7)
              have HBL7 := Lib.hid (HBL6.out.trans (hb7.mono (by omega)))
              have HOI7 := Lib.hid ho7
              clear hb7 ho7 hL7 k0 k1 k2 k3
              refine hK.out _ _ (by go_keep) (fun hHeld => ?_)
              clear hK K
              have HNODE : Hid (RdSlice 1 (rdInt .i64) w7 (fun b => w6.heap.size ≤ b ∧ b < w7.heap.size) [.slice A7 L7 c7] ((i : Int) :: p)) := Lib.hid (RdSlice.of_own (xs := (i : Int) :: p) (by have := HOI7.out.1; have hl := (own_form this); obtain ⟨_, _, e⟩ := hl; simp only [Value.slice.injEq] at e; rw [← e.2.1] at this; exact this) (by have := (own_form HOI7.out.1); obtain ⟨_, _, e⟩ := this; simp only [Value.slice.injEq] at e; exact e.2.1.symm) (fun g hg => own_blk HOI7.out.1 g hg) (fun j x hx => ⟨[.int .i64 x], rfl, ⟨rfl, HOI7.out.2 x (List.mem_of_getElem? hx)⟩, fun q u hu => by match q, hu with | 0, hu => (simp only [List.getElem?_cons_zero, Option.some.injEq] at hu; subst hu; rw [List.getElem?_map, Nat.mul_one, Nat.add_zero]; show Option.map _ (((i : Int) :: p)[j]?) = _; rw [hx]; rfl)⟩))
              refine' wpAnyH_take (i := 14) ?hib14 ?hsb14 ?hfb14 ?hrb14 ?hQb14 ?hyb14 ?hSb14 ?hb14
              case hib14 => (simp only [List.getElem?_toArray, List.getElem?_cons_succ, List.getElem?_cons_zero]; exact rfl)
              case hsb14 => kernel_rfl
              case hfb14 => kernel_rfl
              case hrb14 => kernel_rfl
              case hQb14 => exact fun _ _ _ h => h
              case hyb14 => (first | (refine Or.inr ⟨by rfl, ?_⟩; rfl) | (refine Or.inl ⟨by rfl, ?_⟩; (intro w hSw; (try dsimp only at hSw); go_simp); try with_reducible rfl))
              case hSb14 => assumption
              try simp only [Act.put, List.setIfInBounds_toArray, List.set_cons_zero, List.set_cons_succ]
              refine wpAnyH_ready (rs := [15]) (by kernel_rfl) (by simp) ?_
              refine' AllReadyH.cons ?hib15 (fun K hK => ?hb15) AllReadyH.nil
              case hib15 => (simp only [List.getElem?_toArray, List.getElem?_cons_succ, List.getElem?_cons_zero]; exact rfl)
              go_simp
              refine hK.out _ _ (by go_keep) (fun hHeld => ?_)
              clear hK K
              have HO8 := Lib.hid (HO7.out.below ((Below.refl _ _).alloc (Nat.le_refl _) (.cells #[.int .i64 zi, .slice A7 L7 c7] 26)))
              have HND8 : Hid (RdSlice 1 (rdInt .i64) (w7.alloc (.cells #[.int .i64 zi, .slice A7 L7 c7] 26)) (fun b => w.heap.size ≤ b ∧ b < (w7.alloc (.cells #[.int .i64 zi, .slice A7 L7 c7] 26)).heap.size ∧ _ ≠ some b) [.slice A7 L7 c7] ((i : Int) :: p)) := Lib.hid (RdLaw.mono (RdLaw.keep HNODE.out (fun q hq => ((Below.refl w7.heap.size w7).alloc (Nat.le_refl _) _).cell hq.2)) (fun b hb => ⟨by omega, by simp; omega, fun e => by have := (HOB.out b e).2; omega⟩))
              have HOK8 : Hid ((offK W T i k).length ≤ 1000000) := Lib.hid (by have := offK_len W T i k; omega)
              refine wpAnyH_ready (rs := [16]) (by kernel_rfl) (by simp) ?_
              refine' AllReadyH.cons ?hib16 (fun K hK => ?hb16) AllReadyH.nil
              case hib16 => (simp only [List.getElem?_toArray, List.getElem?_cons_succ, List.getElem?_cons_zero]; exact rfl)
              (refine step_append_way rfl (.tmp 55) (.tmp 70) rfl w.heap.size _ (offK W T i k) rfl HO8.out w7.heap.size zi ((i : Int) :: p) L7 A7 c7 26 rfl (heap_alloc_new w7 _) HZW.out HND8.out HOK8.out (by simp; omega) ?_)
              intro v8 w8 hown8 hgrow8
              have hbw8 : Below w7.heap.size w7 (w7.alloc (.cells #[.int .i64 zi, .slice A7 L7 c7] 26)) := (Below.refl _ _).alloc (Nat.le_refl _) _
              obtain ⟨us8, hus8, -⟩ := HO8.out
              have hbw9 : Below w.heap.size w w8 := hgrow8.below (HBL7.out.trans (hbw8.mono (by omega))) hus8 (Nat.le_refl _) (by simp; omega)
              have r0 := (hgrow8.cell (p := ⟨gi, 0, none⟩) (B := 0) hus8 (by simp; omega) (fun g e => by have := HGIV.out g e; simp only; omega)).trans ((hbw8.cell (p := ⟨gi, 0, none⟩) (by simp only; omega)).trans m0)
              have r1 := (hgrow8.cell (p := ⟨gi, 1, none⟩) (B := 0) hus8 (by simp; omega) (fun g e => by have := HGIV.out g e; simp only; omega)).trans ((hbw8.cell (p := ⟨gi, 1, none⟩) (by simp only; omega)).trans m1')
              have r2 := (hgrow8.cell (p := ⟨bt, ot + i, none⟩) (B := 0) hus8 (by simp; omega) (fun g e => by have := (own_blk hus8 g e).1; simp only; omega)).trans ((hbw8.cell (p := ⟨bt, ot + i, none⟩) (by simp only; omega)).trans m2')
              have r3 := (hgrow8.cell (p := ⟨bi, oi + k, none⟩) (B := 0) hus8 (by simp; omega) (fun g e => by have := (own_blk hus8 g e).1; simp only; omega)).trans ((hbw8.cell (p := ⟨bi, oi + k, none⟩) (by simp only; omega)).trans m3')
              have HOWN8 := Lib.hid hown8
              have HBL9 := Lib.hid hbw9
              refine hK.out _ _ (by go_keep) (fun hHeld => ?_)
              clear hK K
              refine' wpAnyH_take (i := 17) ?hib17 ?hsb17 ?hfb17 ?hrb17 ?hQb17 ?hyb17 ?hSb17 ?hb17
              case hib17 => (simp only [List.getElem?_toArray, List.getElem?_cons_succ, List.getElem?_cons_zero]; exact rfl)
              case hsb17 => kernel_rfl
              case hfb17 => kernel_rfl
              case hrb17 => kernel_rfl
              case hQb17 => exact fun _ _ _ h => h
              case hyb17 => (first | (refine Or.inr ⟨by rfl, ?_⟩; rfl) | (refine Or.inl ⟨by rfl, ?_⟩; (intro w hSw; (try dsimp only at hSw); go_simp); try with_reducible rfl))
              case hSb17 => assumption
              try simp only [Act.put, List.setIfInBounds_toArray, List.set_cons_zero, List.set_cons_succ]
              refine wpAnyH_done (by kernel_rfl) ?_ _
              refine NoPanic.normal ?_
              clear hHeld r0 r1 r2 r3 m0 m1' m2' m3'
              go_wp2
              go_roundw
              case rel => exact ⟨k + 1, by omega, by go_num, by rw [HSM2.out]; exact HOWN8.out, HBL9.out⟩
              case measure => simp [intOf]; omega
            · have t3 : (t == 0) = false := by simpa using ht0
              by_cases ht1 : t = 1
              · have t4 : (t == 1) = true := by simpa using ht1
                have HSM2 := Lib.hid (offK_some (W := W) (T := T) (i := i) (k := k) (x := (zi, (i : Int) :: p)) (HOF.out.trans (by rw [if_neg (by rw [not_or, not_or]; exact ⟨hz, HPE.out, fun h => by have := inB_iff.2 h; rw [HIN.out] at this; cases this⟩), if_pos (by exact .inr (.inl ht1))])))
                clear ht0 ht1 hz
                go_wp2_with fail
                go_at_call 34
                (with_reducible refine HCT.out.mono ?_)
                rintro e w1 ⟨rfl, rfl⟩
                rw [HIN.out]
                go_wp2
                have hw4 : Below wr.heap.size wr (wr.alloc (.cells #[.int .i64 t, .slice A' np c'] 26)) := (Below.refl _ _).alloc (Nat.le_refl _) _
                obtain ⟨p0, p1, -, -⟩ := row2 (heap_alloc_new wr (.cells #[.int .i64 t, .slice A' np c'] 26))
                have x0' := (hw4.cell (p := ⟨bt, ot + i, none⟩) (Nat.lt_of_lt_of_le hbt s1)).trans x0
                have y0' := (hw4.cell (p := ⟨bi, oi + k, none⟩) (Nat.lt_of_lt_of_le hbi s1)).trans y0
                have HO4 := Lib.hid (HO.out.below hw4)
                have HB4 := Lib.hid (HB.out.trans (hw4.mono s1))
                have HP4 := Lib.hid (HP.out.below hw4)
                have s4 := HB4.out.size
                have hgi := size_of_block (heap_alloc_new wr (.cells #[.int .i64 t, .slice A' np c'] 26))
                obtain ⟨gi, hgi2⟩ : ∃ gi, wr.heap.size = gi := ⟨_, rfl⟩
                have hgiv := fun g (e : _ = some g) => (HO.out.own_lt g e).2
                rw [hgi2] at p0 p1 hgi hgiv ⊢
                have HGIV := Lib.hid hgiv
                clear hgiv
                have hbt4 : bt < (wr.alloc (.cells #[.int .i64 t, .slice A' np c'] 26)).heap.size := Nat.lt_of_lt_of_le hbt s4
                have hbi4 : bi < (wr.alloc (.cells #[.int .i64 t, .slice A' np c'] 26)).heap.size := Nat.lt_of_lt_of_le hbi s4
                clear hw4 hgi2
                generalize (wr.alloc (.cells #[.int .i64 t, .slice A' np c'] 26)) = w4 at *
                have n1 : ¬ gi = w4.heap.size := by omega
                have n2 : ¬ bt = w4.heap.size := by omega
                have n3 : ¬ bi = w4.heap.size := by omega
                have m1 : ¬ gi = w4.heap.size + 1 := by omega
                have m2 : ¬ bt = w4.heap.size + 1 := by omega
                have m3 : ¬ bi = w4.heap.size + 1 := by omega
                refine wp_region_noPanic ?_
                refine wp_region_held_drew (S := (fun w' => w'.cell? ⟨gi, 0, none⟩ = some (.int .i64 t) ∧ w'.cell? ⟨gi, 1, none⟩ = some (.slice A' np c') ∧ w'.cell? ⟨bt, ot + i, none⟩ = some (.slice (some ⟨bi, oi, none⟩) n ci) ∧ w'.cell? ⟨bi, oi + k, none⟩ = some (.int .i64 zi))) (by kernel_rfl) (by go_keep) (fun hHeld => ?_)
                refine' wpAnyH_take (i := 0) ?hic0 ?hsc0 ?hfc0 ?hrc0 ?hQc0 ?hyc0 ?hSc0 ?hc0
                case hic0 => (simp only [List.getElem?_toArray, List.getElem?_cons_succ, List.getElem?_cons_zero]; exact rfl)
                case hsc0 => kernel_rfl
                case hfc0 => kernel_rfl
                case hrc0 => kernel_rfl
                case hQc0 => exact fun _ _ _ h => h
                case hyc0 => (first | (refine Or.inr ⟨by rfl, ?_⟩; rfl) | (refine Or.inl ⟨by rfl, ?_⟩; (intro w hSw; (try dsimp only at hSw); go_simp); try with_reducible rfl))
                case hSc0 => assumption
                try simp only [Act.put, List.setIfInBounds_toArray, List.set_cons_zero, List.set_cons_succ]
                refine' wpAnyH_take (i := 1) ?hic1 ?hsc1 ?hfc1 ?hrc1 ?hQc1 ?hyc1 ?hSc1 ?hc1
                case hic1 => (simp only [List.getElem?_toArray, List.getElem?_cons_succ, List.getElem?_cons_zero]; exact rfl)
                case hsc1 => kernel_rfl
                case hfc1 => kernel_rfl
                case hrc1 => kernel_rfl
                case hQc1 => exact fun _ _ _ h => h
                case hyc1 => (first | (refine Or.inr ⟨by rfl, ?_⟩; rfl) | (refine Or.inl ⟨by rfl, ?_⟩; (intro w hSw; (try dsimp only at hSw); go_simp); try with_reducible rfl))
                case hSc1 => assumption
                try simp only [Act.put, List.setIfInBounds_toArray, List.set_cons_zero, List.set_cons_succ]
                refine' wpAnyH_take (i := 2) ?hic2 ?hsc2 ?hfc2 ?hrc2 ?hQc2 ?hyc2 ?hSc2 ?hc2
                case hic2 => (simp only [List.getElem?_toArray, List.getElem?_cons_succ, List.getElem?_cons_zero]; exact rfl)
                case hsc2 => kernel_rfl
                case hfc2 => kernel_rfl
                case hrc2 => kernel_rfl
                case hQc2 => exact fun _ _ _ h => h
                case hyc2 => (first | (refine Or.inr ⟨by rfl, ?_⟩; rfl) | (refine Or.inl ⟨by rfl, ?_⟩; (intro w hSw; (try dsimp only at hSw); go_simp); try with_reducible rfl))
                case hSc2 => assumption
                try simp only [Act.put, List.setIfInBounds_toArray, List.set_cons_zero, List.set_cons_succ]
                refine' wpAnyH_take (i := 3) ?hic3 ?hsc3 ?hfc3 ?hrc3 ?hQc3 ?hyc3 ?hSc3 ?hc3
                case hic3 => (simp only [List.getElem?_toArray, List.getElem?_cons_succ, List.getElem?_cons_zero]; exact rfl)
                case hsc3 => kernel_rfl
                case hfc3 => kernel_rfl
                case hrc3 => kernel_rfl
                case hQc3 => exact fun _ _ _ h => h
                case hyc3 => (first | (refine Or.inr ⟨by rfl, ?_⟩; rfl) | (refine Or.inl ⟨by rfl, ?_⟩; (intro w hSw; (try dsimp only at hSw); go_simp); try with_reducible rfl))
                case hSc3 => assumption
                try simp only [Act.put, List.setIfInBounds_toArray, List.set_cons_zero, List.set_cons_succ]
                refine' wpAnyH_take (i := 4) ?hic4 ?hsc4 ?hfc4 ?hrc4 ?hQc4 ?hyc4 ?hSc4 ?hc4
                case hic4 => (simp only [List.getElem?_toArray, List.getElem?_cons_succ, List.getElem?_cons_zero]; exact rfl)
                case hsc4 => kernel_rfl
                case hfc4 => kernel_rfl
                case hrc4 => kernel_rfl
                case hQc4 => exact fun _ _ _ h => h
                case hyc4 => (first | (refine Or.inr ⟨by rfl, ?_⟩; rfl) | (refine Or.inl ⟨by rfl, ?_⟩; (intro w hSw; (try dsimp only at hSw); go_simp); try with_reducible rfl))
                case hSc4 => assumption
                try simp only [Act.put, List.setIfInBounds_toArray, List.set_cons_zero, List.set_cons_succ]
                refine' wpAnyH_take (i := 5) ?hic5 ?hsc5 ?hfc5 ?hrc5 ?hQc5 ?hyc5 ?hSc5 ?hc5
                case hic5 => (simp only [List.getElem?_toArray, List.getElem?_cons_succ, List.getElem?_cons_zero]; exact rfl)
                case hsc5 => kernel_rfl
                case hfc5 => kernel_rfl
                case hrc5 => kernel_rfl
                case hQc5 => exact fun _ _ _ h => h
                case hyc5 => (first | (refine Or.inr ⟨by rfl, ?_⟩; rfl) | (refine Or.inl ⟨by rfl, ?_⟩; (intro w hSw; (try dsimp only at hSw); go_simp); try with_reducible rfl))
                case hSc5 => assumption
                try simp only [Act.put, List.setIfInBounds_toArray, List.set_cons_zero, List.set_cons_succ]
                refine' wpAnyH_take (i := 6) ?hic6 ?hsc6 ?hfc6 ?hrc6 ?hQc6 ?hyc6 ?hSc6 ?hc6
                case hic6 => (simp only [List.getElem?_toArray, List.getElem?_cons_succ, List.getElem?_cons_zero]; exact rfl)
                case hsc6 => kernel_rfl
                case hfc6 => kernel_rfl
                case hrc6 => kernel_rfl
                case hQc6 => exact fun _ _ _ h => h
                case hyc6 => (first | (refine Or.inr ⟨by rfl, ?_⟩; rfl) | (refine Or.inl ⟨by rfl, ?_⟩; (intro w hSw; (try dsimp only at hSw); go_simp); try with_reducible rfl))
                case hSc6 => assumption
                try simp only [Act.put, List.setIfInBounds_toArray, List.set_cons_zero, List.set_cons_succ]
                refine' wpAnyH_take (i := 7) ?hic7 ?hsc7 ?hfc7 ?hrc7 ?hQc7 ?hyc7 ?hSc7 ?hc7
                case hic7 => (simp only [List.getElem?_toArray, List.getElem?_cons_succ, List.getElem?_cons_zero]; exact rfl)
                case hsc7 => kernel_rfl
                case hfc7 => kernel_rfl
                case hrc7 => kernel_rfl
                case hQc7 => exact fun _ _ _ h => h
                case hyc7 => (first | (refine Or.inr ⟨by rfl, ?_⟩; rfl) | (refine Or.inl ⟨by rfl, ?_⟩; (intro w hSw; (try dsimp only at hSw); go_simp); try with_reducible rfl))
                case hSc7 => assumption
                try simp only [Act.put, List.setIfInBounds_toArray, List.set_cons_zero, List.set_cons_succ]
                refine' wpAnyH_take (i := 8) ?hic8 ?hsc8 ?hfc8 ?hrc8 ?hQc8 ?hyc8 ?hSc8 ?hc8
                case hic8 => (simp only [List.getElem?_toArray, List.getElem?_cons_succ, List.getElem?_cons_zero]; exact rfl)
                case hsc8 => kernel_rfl
                case hfc8 => kernel_rfl
                case hrc8 => kernel_rfl
                case hQc8 => exact fun _ _ _ h => h
                case hyc8 => (first | (refine Or.inr ⟨by rfl, ?_⟩; rfl) | (refine Or.inl ⟨by rfl, ?_⟩; (intro w hSw; (try dsimp only at hSw); go_simp); try with_reducible rfl))
                case hSc8 => assumption
                try simp only [Act.put, List.setIfInBounds_toArray, List.set_cons_zero, List.set_cons_succ]
                refine' wpAnyH_take (i := 10) ?hic10 ?hsc10 ?hfc10 ?hrc10 ?hQc10 ?hyc10 ?hSc10 ?hc10
                case hic10 => (simp only [List.getElem?_toArray, List.getElem?_cons_succ, List.getElem?_cons_zero]; exact rfl)
                case hsc10 => kernel_rfl
                case hfc10 => kernel_rfl
                case hrc10 => kernel_rfl
                case hQc10 => exact fun _ _ _ h => h
                case hyc10 => (first | (refine Or.inr ⟨by rfl, ?_⟩; rfl) | (refine Or.inl ⟨by rfl, ?_⟩; (intro w hSw; (try dsimp only at hSw); go_simp); try with_reducible rfl))
                case hSc10 => assumption
                try simp only [Act.put, List.setIfInBounds_toArray, List.set_cons_zero, List.set_cons_succ]
                refine' wpAnyH_take (i := 11) ?hic11 ?hsc11 ?hfc11 ?hrc11 ?hQc11 ?hyc11 ?hSc11 ?hc11
                case hic11 => (simp only [List.getElem?_toArray, List.getElem?_cons_succ, List.getElem?_cons_zero]; exact rfl)
                case hsc11 => kernel_rfl
                case hfc11 => kernel_rfl
                case hrc11 => kernel_rfl
                case hQc11 => exact fun _ _ _ h => h
                case hyc11 => (first | (refine Or.inr ⟨by rfl, ?_⟩; rfl) | (refine Or.inl ⟨by rfl, ?_⟩; (intro w hSw; (try dsimp only at hSw); go_simp); try with_reducible rfl))
                case hSc11 => assumption
                try simp only [Act.put, List.setIfInBounds_toArray, List.set_cons_zero, List.set_cons_succ]
                refine wpAnyH_ready (rs := [9]) (by kernel_rfl) (by simp) ?_
                refine' AllReadyH.cons ?hic9 (fun K hK => ?hc9) AllReadyH.nil
                case hic9 => (simp only [List.getElem?_toArray, List.getElem?_cons_succ, List.getElem?_cons_zero]; exact rfl)
                go_simp
                refine hK.out _ _ (by go_keep) (fun hHeld => ?_)
                clear hK K
                refine wpAnyH_ready (rs := [12]) (by kernel_rfl) (by simp) ?_
                refine' AllReadyH.cons ?hic12 (fun K hK => ?hc12) AllReadyH.nil
                case hic12 => (simp only [List.getElem?_toArray, List.getElem?_cons_succ, List.getElem?_cons_zero]; exact rfl)
                go_simp
                refine hK.out _ _ (by go_keep) (fun hHeld => ?_)
                clear hK K
                obtain ⟨hA6, hB6⟩ := box2 (w := w4) (o1 := .cells #[.int .i64 i] 3) (o2 := .cells #[.slice (some ⟨w4.heap.size, 0, none⟩) 1 1, .slice A' np c'] 24) (Below.refl _ _)
                have hA6' : ((w4.alloc (.cells #[.int .i64 i] 3)).alloc (.cells #[.slice (some ⟨w4.heap.size, 0, none⟩) 1 1, .slice A' np c'] 24)).drew.heap[w4.heap.size]? = some (.cells #[.int .i64 i] 3 (0, 0)) := hA6
                have hB6' : ((w4.alloc (.cells #[.int .i64 i] 3)).alloc (.cells #[.slice (some ⟨w4.heap.size, 0, none⟩) 1 1, .slice A' np c'] 24)).drew.heap[w4.heap.size + 1]? = some (.cells #[.slice (some ⟨w4.heap.size, 0, none⟩) 1 1, .slice A' np c'] 24 (0, 0)) := hB6
                have hb6 : Below w4.heap.size w4 ((w4.alloc (.cells #[.int .i64 i] 3)).alloc (.cells #[.slice (some ⟨w4.heap.size, 0, none⟩) 1 1, .slice A' np c'] 24)).drew := below_drewN (((Below.refl _ _).alloc (Nat.le_refl _) _).alloc (by simp) _) 1
                clear hA6 hB6
                generalize ((w4.alloc (.cells #[.int .i64 i] 3)).alloc (.cells #[.slice (some ⟨w4.heap.size, 0, none⟩) 1 1, .slice A' np c'] 24)).drew = w6 at *
                obtain ⟨k0, k1, k2, k3⟩ := hHeld
                have HA6 := Lib.hid (R1.of_block (k := .i64) (n := 1) (xs := [(i : Int)]) hA6' rfl rfl (by decide) (by intro x hx; simp at hx; subst hx; exact WalkArith.wf_i64 (by omega)))
                have HB6 := Lib.hid hB6'
                have HP6 := Lib.hid (HP4.out.below hb6)
                have HO6 := Lib.hid (HO4.out.below hb6)
                have HBL6 := Lib.hid (HB4.out.trans (hb6.mono s4))
                have s6 : w4.heap.size ≤ w6.heap.size := hb6.size
                have hln : ([(i : Int)]).length + p.length ≤ 17592186044416 := by rw [HNP.out]; simp only [List.length_cons, List.length_nil]; omega
                have HOB := Lib.hid (HO4.out.own_lt)
                clear hA6' hB6' hb6
                refine wpAnyH_ready (rs := [13]) (by kernel_rfl) (by simp) ?_
                refine' AllReadyH.cons ?hic13 (fun K hK => ?hc13) AllReadyH.nil
                case hic13 => (simp only [List.getElem?_toArray, List.getElem?_cons_succ, List.getElem?_cons_zero]; exact rfl)
                go_simp
                go_at_call 35
                (with_reducible refine (ConcatI_two HB6.out HA6.out HP6.out hln).mono ?_)
                rintro e w7 ⟨v7, rfl, ho7, hb7⟩
                have m0 := (hb7.cell (p := ⟨gi, 0, none⟩) (by simp only; omega)).trans k0
                have m1' := (hb7.cell (p := ⟨gi, 1, none⟩) (by simp only; omega)).trans k1
                have m2' := (hb7.cell (p := ⟨bt, ot + i, none⟩) (by simp only; omega)).trans k2
                have m3' := (hb7.cell (p := ⟨bi, oi + k, none⟩) (by simp only; omega)).trans k3
                obtain ⟨A7, c7, rfl⟩ := ho7.form
                obtain ⟨L7, hL7⟩ : ∃ L7, ([(i : Int)] ++ p).length = L7 := ⟨_, rfl⟩
                rw [hL7] at ho7 ⊢
                have s7 : w6.heap.size ≤ w7.heap.size := hb7.size
                have HO7 := Lib.hid (HO6.out.below hb7)
                have HBL7 := Lib.hid (HBL6.out.trans (hb7.mono (by omega)))
                have HOI7 := Lib.hid ho7
                clear hb7 ho7 hL7 k0 k1 k2 k3
                refine hK.out _ _ (by go_keep) (fun hHeld => ?_)
                clear hK K
                have HNODE : Hid (RdSlice 1 (rdInt .i64) w7 (fun b => w6.heap.size ≤ b ∧ b < w7.heap.size) [.slice A7 L7 c7] ((i : Int) :: p)) := Lib.hid (RdSlice.of_own (xs := (i : Int) :: p) (by have := HOI7.out.1; have hl := (own_form this); obtain ⟨_, _, e⟩ := hl; simp only [Value.slice.injEq] at e; rw [← e.2.1] at this; exact this) (by have := (own_form HOI7.out.1); obtain ⟨_, _, e⟩ := this; simp only [Value.slice.injEq] at e; exact e.2.1.symm) (fun g hg => own_blk HOI7.out.1 g hg) (fun j x hx => ⟨[.int .i64 x], rfl, ⟨rfl, HOI7.out.2 x (List.mem_of_getElem? hx)⟩, fun q u hu => by match q, hu with | 0, hu => (simp only [List.getElem?_cons_zero, Option.some.injEq] at hu; subst hu; rw [List.getElem?_map, Nat.mul_one, Nat.add_zero]; show Option.map _ (((i : Int) :: p)[j]?) = _; rw [hx]; rfl)⟩))
                refine' wpAnyH_take (i := 14) ?hic14 ?hsc14 ?hfc14 ?hrc14 ?hQc14 ?hyc14 ?hSc14 ?hc14
                case hic14 => (simp only [List.getElem?_toArray, List.getElem?_cons_succ, List.getElem?_cons_zero]; exact rfl)
                case hsc14 => kernel_rfl
                case hfc14 => kernel_rfl
                case hrc14 => kernel_rfl
                case hQc14 => exact fun _ _ _ h => h
                case hyc14 => (first | (refine Or.inr ⟨by rfl, ?_⟩; rfl) | (refine Or.inl ⟨by rfl, ?_⟩; (intro w hSw; (try dsimp only at hSw); go_simp); try with_reducible rfl))
                case hSc14 => assumption
                try simp only [Act.put, List.setIfInBounds_toArray, List.set_cons_zero, List.set_cons_succ]
                refine wpAnyH_ready (rs := [15]) (by kernel_rfl) (by simp) ?_
                refine' AllReadyH.cons ?hic15 (fun K hK => ?hc15) AllReadyH.nil
                case hic15 => (simp only [List.getElem?_toArray, List.getElem?_cons_succ, List.getElem?_cons_zero]; exact rfl)
                go_simp
                refine hK.out _ _ (by go_keep) (fun hHeld => ?_)
                clear hK K
                have HO8 := Lib.hid (HO7.out.below ((Below.refl _ _).alloc (Nat.le_refl _) (.cells #[.int .i64 zi, .slice A7 L7 c7] 26)))
                have HND8 : Hid (RdSlice 1 (rdInt .i64) (w7.alloc (.cells #[.int .i64 zi, .slice A7 L7 c7] 26)) (fun b => w.heap.size ≤ b ∧ b < (w7.alloc (.cells #[.int .i64 zi, .slice A7 L7 c7] 26)).heap.size ∧ _ ≠ some b) [.slice A7 L7 c7] ((i : Int) :: p)) := Lib.hid (RdLaw.mono (RdLaw.keep HNODE.out (fun q hq => ((Below.refl w7.heap.size w7).alloc (Nat.le_refl _) _).cell hq.2)) (fun b hb => ⟨by omega, by simp; omega, fun e => by have := (HOB.out b e).2; omega⟩))
                have HOK8 : Hid ((offK W T i k).length ≤ 1000000) := Lib.hid (by have := offK_len W T i k; omega)
                refine wpAnyH_ready (rs := [16]) (by kernel_rfl) (by simp) ?_
                refine' AllReadyH.cons ?hic16 (fun K hK => ?hc16) AllReadyH.nil
                case hic16 => (simp only [List.getElem?_toArray, List.getElem?_cons_succ, List.getElem?_cons_zero]; exact rfl)
                (refine step_append_way rfl (.tmp 55) (.tmp 70) rfl w.heap.size _ (offK W T i k) rfl HO8.out w7.heap.size zi ((i : Int) :: p) L7 A7 c7 26 rfl (heap_alloc_new w7 _) HZW.out HND8.out HOK8.out (by simp; omega) ?_)
                intro v8 w8 hown8 hgrow8
                have hbw8 : Below w7.heap.size w7 (w7.alloc (.cells #[.int .i64 zi, .slice A7 L7 c7] 26)) := (Below.refl _ _).alloc (Nat.le_refl _) _
                obtain ⟨us8, hus8, -⟩ := HO8.out
                have hbw9 : Below w.heap.size w w8 := hgrow8.below (HBL7.out.trans (hbw8.mono (by omega))) hus8 (Nat.le_refl _) (by simp; omega)
                have r0 := (hgrow8.cell (p := ⟨gi, 0, none⟩) (B := 0) hus8 (by simp; omega) (fun g e => by have := HGIV.out g e; simp only; omega)).trans ((hbw8.cell (p := ⟨gi, 0, none⟩) (by simp only; omega)).trans m0)
                have r1 := (hgrow8.cell (p := ⟨gi, 1, none⟩) (B := 0) hus8 (by simp; omega) (fun g e => by have := HGIV.out g e; simp only; omega)).trans ((hbw8.cell (p := ⟨gi, 1, none⟩) (by simp only; omega)).trans m1')
                have r2 := (hgrow8.cell (p := ⟨bt, ot + i, none⟩) (B := 0) hus8 (by simp; omega) (fun g e => by have := (own_blk hus8 g e).1; simp only; omega)).trans ((hbw8.cell (p := ⟨bt, ot + i, none⟩) (by simp only; omega)).trans m2')
                have r3 := (hgrow8.cell (p := ⟨bi, oi + k, none⟩) (B := 0) hus8 (by simp; omega) (fun g e => by have := (own_blk hus8 g e).1; simp only; omega)).trans ((hbw8.cell (p := ⟨bi, oi + k, none⟩) (by simp only; omega)).trans m3')
                have HOWN8 := Lib.hid hown8
                have HBL9 := Lib.hid hbw9
                refine hK.out _ _ (by go_keep) (fun hHeld => ?_)
                clear hK K
                refine' wpAnyH_take (i := 17) ?hic17 ?hsc17 ?hfc17 ?hrc17 ?hQc17 ?hyc17 ?hSc17 ?hc17
                case hic17 => (simp only [List.getElem?_toArray, List.getElem?_cons_succ, List.getElem?_cons_zero]; exact rfl)
                case hsc17 => kernel_rfl
                case hfc17 => kernel_rfl
                case hrc17 => kernel_rfl
                case hQc17 => exact fun _ _ _ h => h
                case hyc17 => (first | (refine Or.inr ⟨by rfl, ?_⟩; rfl) | (refine Or.inl ⟨by rfl, ?_⟩; (intro w hSw; (try dsimp only at hSw); go_simp); try with_reducible rfl))
                case hSc17 => assumption
                try simp only [Act.put, List.setIfInBounds_toArray, List.set_cons_zero, List.set_cons_succ]
                refine wpAnyH_done (by kernel_rfl) ?_ _
                refine NoPanic.normal ?_
                clear hHeld r0 r1 r2 r3 m0 m1' m2' m3'
                go_wp2
                go_roundw
                case rel => exact ⟨k + 1, by omega, by go_num, by rw [HSM2.out]; exact HOWN8.out, HBL9.out⟩
                case measure => simp [intOf]; omega
              · have t4 : (t == 1) = false := by simpa using ht1
                by_cases hk1' : zk = 1
                · have t5 : (zk == 1) = true := by simpa using hk1'
                  have HSM2 := Lib.hid (offK_some (W := W) (T := T) (i := i) (k := k) (x := (zi, (i : Int) :: p)) (HOF.out.trans (by rw [if_neg (by rw [not_or, not_or]; exact ⟨hz, HPE.out, fun h => by have := inB_iff.2 h; rw [HIN.out] at this; cases this⟩), if_pos (by exact .inr (.inr hk1'))])))
                  clear ht0 ht1 hk1' hz
                  go_wp2_with fail
                  go_at_call 34
                  (with_reducible refine HCT.out.mono ?_)
                  rintro e w1 ⟨rfl, rfl⟩
                  rw [HIN.out]
                  go_wp2
                  have hw4 : Below wr.heap.size wr (wr.alloc (.cells #[.int .i64 t, .slice A' np c'] 26)) := (Below.refl _ _).alloc (Nat.le_refl _) _
                  obtain ⟨p0, p1, -, -⟩ := row2 (heap_alloc_new wr (.cells #[.int .i64 t, .slice A' np c'] 26))
                  have x0' := (hw4.cell (p := ⟨bt, ot + i, none⟩) (Nat.lt_of_lt_of_le hbt s1)).trans x0
                  have y0' := (hw4.cell (p := ⟨bi, oi + k, none⟩) (Nat.lt_of_lt_of_le hbi s1)).trans y0
                  have HO4 := Lib.hid (HO.out.below hw4)
                  have HB4 := Lib.hid (HB.out.trans (hw4.mono s1))
                  have HP4 := Lib.hid (HP.out.below hw4)
                  have s4 := HB4.out.size
                  have hgi := size_of_block (heap_alloc_new wr (.cells #[.int .i64 t, .slice A' np c'] 26))
                  obtain ⟨gi, hgi2⟩ : ∃ gi, wr.heap.size = gi := ⟨_, rfl⟩
                  have hgiv := fun g (e : _ = some g) => (HO.out.own_lt g e).2
                  rw [hgi2] at p0 p1 hgi hgiv ⊢
                  have HGIV := Lib.hid hgiv
                  clear hgiv
                  have hbt4 : bt < (wr.alloc (.cells #[.int .i64 t, .slice A' np c'] 26)).heap.size := Nat.lt_of_lt_of_le hbt s4
                  have hbi4 : bi < (wr.alloc (.cells #[.int .i64 t, .slice A' np c'] 26)).heap.size := Nat.lt_of_lt_of_le hbi s4
                  clear hw4 hgi2
                  generalize (wr.alloc (.cells #[.int .i64 t, .slice A' np c'] 26)) = w4 at *
                  have n1 : ¬ gi = w4.heap.size := by omega
                  have n2 : ¬ bt = w4.heap.size := by omega
                  have n3 : ¬ bi = w4.heap.size := by omega
                  have m1 : ¬ gi = w4.heap.size + 1 := by omega
                  have m2 : ¬ bt = w4.heap.size + 1 := by omega
                  have m3 : ¬ bi = w4.heap.size + 1 := by omega
                  refine wp_region_noPanic ?_
                  refine wp_region_held_drew (S := (fun w' => w'.cell? ⟨gi, 0, none⟩ = some (.int .i64 t) ∧ w'.cell? ⟨gi, 1, none⟩ = some (.slice A' np c') ∧ w'.cell? ⟨bt, ot + i, none⟩ = some (.slice (some ⟨bi, oi, none⟩) n ci) ∧ w'.cell? ⟨bi, oi + k, none⟩ = some (.int .i64 zi))) (by kernel_rfl) (by go_keep) (fun hHeld => ?_)
                  refine' wpAnyH_take (i := 0) ?hid0 ?hsd0 ?hfd0 ?hrd0 ?hQd0 ?hyd0 ?hSd0 ?hd0
                  case hid0 => (simp only [List.getElem?_toArray, List.getElem?_cons_succ, List.getElem?_cons_zero]; exact rfl)
                  case hsd0 => kernel_rfl
                  case hfd0 => kernel_rfl
                  case hrd0 => kernel_rfl
                  case hQd0 => exact fun _ _ _ h => h
                  case hyd0 => (first | (refine Or.inr ⟨by rfl, ?_⟩; rfl) | (refine Or.inl ⟨by rfl, ?_⟩; (intro w hSw; (try dsimp only at hSw); go_simp); try with_reducible rfl))
                  case hSd0 => assumption
                  try simp only [Act.put, List.setIfInBounds_toArray, List.set_cons_zero, List.set_cons_succ]
                  refine' wpAnyH_take (i := 1) ?hid1 ?hsd1 ?hfd1 ?hrd1 ?hQd1 ?hyd1 ?hSd1 ?hd1
                  case hid1 => (simp only [List.getElem?_toArray, List.getElem?_cons_succ, List.getElem?_cons_zero]; exact rfl)
                  case hsd1 => kernel_rfl
                  case hfd1 => kernel_rfl
                  case hrd1 => kernel_rfl
                  case hQd1 => exact fun _ _ _ h => h
                  case hyd1 => (first | (refine Or.inr ⟨by rfl, ?_⟩; rfl) | (refine Or.inl ⟨by rfl, ?_⟩; (intro w hSw; (try dsimp only at hSw); go_simp); try with_reducible rfl))
                  case hSd1 => assumption
                  try simp only [Act.put, List.setIfInBounds_toArray, List.set_cons_zero, List.set_cons_succ]
                  refine' wpAnyH_take (i := 2) ?hid2 ?hsd2 ?hfd2 ?hrd2 ?hQd2 ?hyd2 ?hSd2 ?hd2
                  case hid2 => (simp only [List.getElem?_toArray, List.getElem?_cons_succ, List.getElem?_cons_zero]; exact rfl)
                  case hsd2 => kernel_rfl
                  case hfd2 => kernel_rfl
                  case hrd2 => kernel_rfl
                  case hQd2 => exact fun _ _ _ h => h
                  case hyd2 => (first | (refine Or.inr ⟨by rfl, ?_⟩; rfl) | (refine Or.inl ⟨by rfl, ?_⟩; (intro w hSw; (try dsimp only at hSw); go_simp); try with_reducible rfl))
                  case hSd2 => assumption
                  try simp only [Act.put, List.setIfInBounds_toArray, List.set_cons_zero, List.set_cons_succ]
                  refine' wpAnyH_take (i := 3) ?hid3 ?hsd3 ?hfd3 ?hrd3 ?hQd3 ?hyd3 ?hSd3 ?hd3
                  case hid3 => (simp only [List.getElem?_toArray, List.getElem?_cons_succ, List.getElem?_cons_zero]; exact rfl)
                  case hsd3 => kernel_rfl
                  case hfd3 => kernel_rfl
                  case hrd3 => kernel_rfl
                  case hQd3 => exact fun _ _ _ h => h
                  case hyd3 => (first | (refine Or.inr ⟨by rfl, ?_⟩; rfl) | (refine Or.inl ⟨by rfl, ?_⟩; (intro w hSw; (try dsimp only at hSw); go_simp); try with_reducible rfl))
                  case hSd3 => assumption
                  try simp only [Act.put, List.setIfInBounds_toArray, List.set_cons_zero, List.set_cons_succ]
                  refine' wpAnyH_take (i := 4) ?hid4 ?hsd4 ?hfd4 ?hrd4 ?hQd4 ?hyd4 ?hSd4 ?hd4
                  case hid4 => (simp only [List.getElem?_toArray, List.getElem?_cons_succ, List.getElem?_cons_zero]; exact rfl)
                  case hsd4 => kernel_rfl
                  case hfd4 => kernel_rfl
                  case hrd4 => kernel_rfl
                  case hQd4 => exact fun _ _ _ h => h
                  case hyd4 => (first | (refine Or.inr ⟨by rfl, ?_⟩; rfl) | (refine Or.inl ⟨by rfl, ?_⟩; (intro w hSw; (try dsimp only at hSw); go_simp); try with_reducible rfl))
                  case hSd4 => assumption
                  try simp only [Act.put, List.setIfInBounds_toArray, List.set_cons_zero, List.set_cons_succ]
                  refine' wpAnyH_take (i := 5) ?hid5 ?hsd5 ?hfd5 ?hrd5 ?hQd5 ?hyd5 ?hSd5 ?hd5
                  case hid5 => (simp only [List.getElem?_toArray, List.getElem?_cons_succ, List.getElem?_cons_zero]; exact rfl)
                  case hsd5 => kernel_rfl
                  case hfd5 => kernel_rfl
                  case hrd5 => kernel_rfl
                  case hQd5 => exact fun _ _ _ h => h
                  case hyd5 => (first | (refine Or.inr ⟨by rfl, ?_⟩; rfl) | (refine Or.inl ⟨by rfl, ?_⟩; (intro w hSw; (try dsimp only at hSw); go_simp); try with_reducible rfl))
                  case hSd5 => assumption
                  try simp only [Act.put, List.setIfInBounds_toArray, List.set_cons_zero, List.set_cons_succ]
                  refine' wpAnyH_take (i := 6) ?hid6 ?hsd6 ?hfd6 ?hrd6 ?hQd6 ?hyd6 ?hSd6 ?hd6
                  case hid6 => (simp only [List.getElem?_toArray, List.getElem?_cons_succ, List.getElem?_cons_zero]; exact rfl)
                  case hsd6 => kernel_rfl
                  case hfd6 => kernel_rfl
                  case hrd6 => kernel_rfl
                  case hQd6 => exact fun _ _ _ h => h
                  case hyd6 => (first | (refine Or.inr ⟨by rfl, ?_⟩; rfl) | (refine Or.inl ⟨by rfl, ?_⟩; (intro w hSw; (try dsimp only at hSw); go_simp); try with_reducible rfl))
                  case hSd6 => assumption
                  try simp only [Act.put, List.setIfInBounds_toArray, List.set_cons_zero, List.set_cons_succ]
                  refine' wpAnyH_take (i := 7) ?hid7 ?hsd7 ?hfd7 ?hrd7 ?hQd7 ?hyd7 ?hSd7 ?hd7
                  case hid7 => (simp only [List.getElem?_toArray, List.getElem?_cons_succ, List.getElem?_cons_zero]; exact rfl)
                  case hsd7 => kernel_rfl
                  case hfd7 => kernel_rfl
                  case hrd7 => kernel_rfl
                  case hQd7 => exact fun _ _ _ h => h
                  case hyd7 => (first | (refine Or.inr ⟨by rfl, ?_⟩; rfl) | (refine Or.inl ⟨by rfl, ?_⟩; (intro w hSw; (try dsimp only at hSw); go_simp); try with_reducible rfl))
                  case hSd7 => assumption
                  try simp only [Act.put, List.setIfInBounds_toArray, List.set_cons_zero, List.set_cons_succ]
                  refine' wpAnyH_take (i := 8) ?hid8 ?hsd8 ?hfd8 ?hrd8 ?hQd8 ?hyd8 ?hSd8 ?hd8
                  case hid8 => (simp only [List.getElem?_toArray, List.getElem?_cons_succ, List.getElem?_cons_zero]; exact rfl)
                  case hsd8 => kernel_rfl
                  case hfd8 => kernel_rfl
                  case hrd8 => kernel_rfl
                  case hQd8 => exact fun _ _ _ h => h
                  case hyd8 => (first | (refine Or.inr ⟨by rfl, ?_⟩; rfl) | (refine Or.inl ⟨by rfl, ?_⟩; (intro w hSw; (try dsimp only at hSw); go_simp); try with_reducible rfl))
                  case hSd8 => assumption
                  try simp only [Act.put, List.setIfInBounds_toArray, List.set_cons_zero, List.set_cons_succ]
                  refine' wpAnyH_take (i := 10) ?hid10 ?hsd10 ?hfd10 ?hrd10 ?hQd10 ?hyd10 ?hSd10 ?hd10
                  case hid10 => (simp only [List.getElem?_toArray, List.getElem?_cons_succ, List.getElem?_cons_zero]; exact rfl)
                  case hsd10 => kernel_rfl
                  case hfd10 => kernel_rfl
                  case hrd10 => kernel_rfl
                  case hQd10 => exact fun _ _ _ h => h
                  case hyd10 => (first | (refine Or.inr ⟨by rfl, ?_⟩; rfl) | (refine Or.inl ⟨by rfl, ?_⟩; (intro w hSw; (try dsimp only at hSw); go_simp); try with_reducible rfl))
                  case hSd10 => assumption
                  try simp only [Act.put, List.setIfInBounds_toArray, List.set_cons_zero, List.set_cons_succ]
                  refine' wpAnyH_take (i := 11) ?hid11 ?hsd11 ?hfd11 ?hrd11 ?hQd11 ?hyd11 ?hSd11 ?hd11
                  case hid11 => (simp only [List.getElem?_toArray, List.getElem?_cons_succ, List.getElem?_cons_zero]; exact rfl)
                  case hsd11 => kernel_rfl
                  case hfd11 => kernel_rfl
                  case hrd11 => kernel_rfl
                  case hQd11 => exact fun _ _ _ h => h
                  case hyd11 => (first | (refine Or.inr ⟨by rfl, ?_⟩; rfl) | (refine Or.inl ⟨by rfl, ?_⟩; (intro w hSw; (try dsimp only at hSw); go_simp); try with_reducible rfl))
                  case hSd11 => assumption
                  try simp only [Act.put, List.setIfInBounds_toArray, List.set_cons_zero, List.set_cons_succ]
                  refine wpAnyH_ready (rs := [9]) (by kernel_rfl) (by simp) ?_
                  refine' AllReadyH.cons ?hid9 (fun K hK => ?hd9) AllReadyH.nil
                  case hid9 => (simp only [List.getElem?_toArray, List.getElem?_cons_succ, List.getElem?_cons_zero]; exact rfl)
                  go_simp
                  refine hK.out _ _ (by go_keep) (fun hHeld => ?_)
                  clear hK K
                  refine wpAnyH_ready (rs := [12]) (by kernel_rfl) (by simp) ?_
                  refine' AllReadyH.cons ?hid12 (fun K hK => ?hd12) AllReadyH.nil
                  case hid12 => (simp only [List.getElem?_toArray, List.getElem?_cons_succ, List.getElem?_cons_zero]; exact rfl)
                  go_simp
                  refine hK.out _ _ (by go_keep) (fun hHeld => ?_)
                  clear hK K
                  obtain ⟨hA6, hB6⟩ := box2 (w := w4) (o1 := .cells #[.int .i64 i] 3) (o2 := .cells #[.slice (some ⟨w4.heap.size, 0, none⟩) 1 1, .slice A' np c'] 24) (Below.refl _ _)
                  have hA6' : ((w4.alloc (.cells #[.int .i64 i] 3)).alloc (.cells #[.slice (some ⟨w4.heap.size, 0, none⟩) 1 1, .slice A' np c'] 24)).drew.heap[w4.heap.size]? = some (.cells #[.int .i64 i] 3 (0, 0)) := hA6
                  have hB6' : ((w4.alloc (.cells #[.int .i64 i] 3)).alloc (.cells #[.slice (some ⟨w4.heap.size, 0, none⟩) 1 1, .slice A' np c'] 24)).drew.heap[w4.heap.size + 1]? = some (.cells #[.slice (some ⟨w4.heap.size, 0, none⟩) 1 1, .slice A' np c'] 24 (0, 0)) := hB6
                  have hb6 : Below w4.heap.size w4 ((w4.alloc (.cells #[.int .i64 i] 3)).alloc (.cells #[.slice (some ⟨w4.heap.size, 0, none⟩) 1 1, .slice A' np c'] 24)).drew := below_drewN (((Below.refl _ _).alloc (Nat.le_refl _) _).alloc (by simp) _) 1
                  clear hA6 hB6
                  generalize ((w4.alloc (.cells #[.int .i64 i] 3)).alloc (.cells #[.slice (some ⟨w4.heap.size, 0, none⟩) 1 1, .slice A' np c'] 24)).drew = w6 at *
                  obtain ⟨k0, k1, k2, k3⟩ := hHeld
                  have HA6 := Lib.hid (R1.of_block (k := .i64) (n := 1) (xs := [(i : Int)]) hA6' rfl rfl (by decide) (by intro x hx; simp at hx; subst hx; exact WalkArith.wf_i64 (by omega)))
                  have HB6 := Lib.hid hB6'
                  have HP6 := Lib.hid (HP4.out.below hb6)
                  have HO6 := Lib.hid (HO4.out.below hb6)
                  have HBL6 := Lib.hid (HB4.out.trans (hb6.mono s4))
                  have s6 : w4.heap.size ≤ w6.heap.size := hb6.size
                  have hln : ([(i : Int)]).length + p.length ≤ 17592186044416 := by rw [HNP.out]; simp only [List.length_cons, List.length_nil]; omega
                  have HOB := Lib.hid (HO4.out.own_lt)
                  clear hA6' hB6' hb6
                  refine wpAnyH_ready (rs := [13]) (by kernel_rfl) (by simp) ?_
                  refine' AllReadyH.cons ?hid13 (fun K hK => ?hd13) AllReadyH.nil
                  case hid13 => (simp only [List.getElem?_toArray, List.getElem?_cons_succ, List.getElem?_cons_zero]; exact rfl)
                  go_simp
                  go_at_call 35
                  (with_reducible refine (ConcatI_two HB6.out HA6.out HP6.out hln).mono ?_)
                  rintro e w7 ⟨v7, rfl, ho7, hb7⟩
                  have m0 := (hb7.cell (p := ⟨gi, 0, none⟩) (by simp only; omega)).trans k0
                  have m1' := (hb7.cell (p := ⟨gi, 1, none⟩) (by simp only; omega)).trans k1
                  have m2' := (hb7.cell (p := ⟨bt, ot + i, none⟩) (by simp only; omega)).trans k2
                  have m3' := (hb7.cell (p := ⟨bi, oi + k, none⟩) (by simp only; omega)).trans k3
                  obtain ⟨A7, c7, rfl⟩ := ho7.form
                  obtain ⟨L7, hL7⟩ : ∃ L7, ([(i : Int)] ++ p).length = L7 := ⟨_, rfl⟩
                  rw [hL7] at ho7 ⊢
                  have s7 : w6.heap.size ≤ w7.heap.size := hb7.size
                  have HO7 := Lib.hid (HO6.out.below hb7)
                  have HBL7 := Lib.hid (HBL6.out.trans (hb7.mono (by omega)))
                  have HOI7 := Lib.hid ho7
                  clear hb7 ho7 hL7 k0 k1 k2 k3
                  refine hK.out _ _ (by go_keep) (fun hHeld => ?_)
                  clear hK K
                  have HNODE : Hid (RdSlice 1 (rdInt .i64) w7 (fun b => w6.heap.size ≤ b ∧ b < w7.heap.size) [.slice A7 L7 c7] ((i : Int) :: p)) := Lib.hid (RdSlice.of_own (xs := (i : Int) :: p) (by have := HOI7.out.1; have hl := (own_form this); obtain ⟨_, _, e⟩ := hl; simp only [Value.slice.injEq] at e; rw [← e.2.1] at this; exact this) (by have := (own_form HOI7.out.1); obtain ⟨_, _, e⟩ := this; simp only [Value.slice.injEq] at e; exact e.2.1.symm) (fun g hg => own_blk HOI7.out.1 g hg) (fun j x hx => ⟨[.int .i64 x], rfl, ⟨rfl, HOI7.out.2 x (List.mem_of_getElem? hx)⟩, fun q u hu => by match q, hu with | 0, hu => (simp only [List.getElem?_cons_zero, Option.some.injEq] at hu; subst hu; rw [List.getElem?_map, Nat.mul_one, Nat.add_zero]; show Option.map _ (((i : Int) :: p)[j]?) = _; rw [hx]; rfl)⟩))
                  refine' wpAnyH_take (i := 14) ?hid14 ?hsd14 ?hfd14 ?hrd14 ?hQd14 ?hyd14 ?hSd14 ?hd14
                  case hid14 => (simp only [List.getElem?_toArray, List.getElem?_cons_succ, List.getElem?_cons_zero]; exact rfl)
                  case hsd14 => kernel_rfl
                  case hfd14 => kernel_rfl
                  case hrd14 => kernel_rfl
                  case hQd14 => exact fun _ _ _ h => h
                  case hyd14 => (first | (refine Or.inr ⟨by rfl, ?_⟩; rfl) | (refine Or.inl ⟨by rfl, ?_⟩; (intro w hSw; (try dsimp only at hSw); go_simp); try with_reducible rfl))
                  case hSd14 => assumption
                  try simp only [Act.put, List.setIfInBounds_toArray, List.set_cons_zero, List.set_cons_succ]
                  refine wpAnyH_ready (rs := [15]) (by kernel_rfl) (by simp) ?_
                  refine' AllReadyH.cons ?hid15 (fun K hK => ?hd15) AllReadyH.nil
                  case hid15 => (simp only [List.getElem?_toArray, List.getElem?_cons_succ, List.getElem?_cons_zero]; exact rfl)
                  go_simp
                  refine hK.out _ _ (by go_keep) (fun hHeld => ?_)
                  clear hK K
                  have HO8 := Lib.hid (HO7.out.below ((Below.refl _ _).alloc (Nat.le_refl _) (.cells #[.int .i64 zi, .slice A7 L7 c7] 26)))
                  have HND8 : Hid (RdSlice 1 (rdInt .i64) (w7.alloc (.cells #[.int .i64 zi, .slice A7 L7 c7] 26)) (fun b => w.heap.size ≤ b ∧ b < (w7.alloc (.cells #[.int .i64 zi, .slice A7 L7 c7] 26)).heap.size ∧ _ ≠ some b) [.slice A7 L7 c7] ((i : Int) :: p)) := Lib.hid (RdLaw.mono (RdLaw.keep HNODE.out (fun q hq => ((Below.refl w7.heap.size w7).alloc (Nat.le_refl _) _).cell hq.2)) (fun b hb => ⟨by omega, by simp; omega, fun e => by have := (HOB.out b e).2; omega⟩))
                  have HOK8 : Hid ((offK W T i k).length ≤ 1000000) := Lib.hid (by have := offK_len W T i k; omega)
                  refine wpAnyH_ready (rs := [16]) (by kernel_rfl) (by simp) ?_
                  refine' AllReadyH.cons ?hid16 (fun K hK => ?hd16) AllReadyH.nil
                  case hid16 => (simp only [List.getElem?_toArray, List.getElem?_cons_succ, List.getElem?_cons_zero]; exact rfl)
                  (refine step_append_way rfl (.tmp 55) (.tmp 70) rfl w.heap.size _ (offK W T i k) rfl HO8.out w7.heap.size zi ((i : Int) :: p) L7 A7 c7 26 rfl (heap_alloc_new w7 _) HZW.out HND8.out HOK8.out (by simp; omega) ?_)
                  intro v8 w8 hown8 hgrow8
                  have hbw8 : Below w7.heap.size w7 (w7.alloc (.cells #[.int .i64 zi, .slice A7 L7 c7] 26)) := (Below.refl _ _).alloc (Nat.le_refl _) _
                  obtain ⟨us8, hus8, -⟩ := HO8.out
                  have hbw9 : Below w.heap.size w w8 := hgrow8.below (HBL7.out.trans (hbw8.mono (by omega))) hus8 (Nat.le_refl _) (by simp; omega)
                  have r0 := (hgrow8.cell (p := ⟨gi, 0, none⟩) (B := 0) hus8 (by simp; omega) (fun g e => by have := HGIV.out g e; simp only; omega)).trans ((hbw8.cell (p := ⟨gi, 0, none⟩) (by simp only; omega)).trans m0)
                  have r1 := (hgrow8.cell (p := ⟨gi, 1, none⟩) (B := 0) hus8 (by simp; omega) (fun g e => by have := HGIV.out g e; simp only; omega)).trans ((hbw8.cell (p := ⟨gi, 1, none⟩) (by simp only; omega)).trans m1')
                  have r2 := (hgrow8.cell (p := ⟨bt, ot + i, none⟩) (B := 0) hus8 (by simp; omega) (fun g e => by have := (own_blk hus8 g e).1; simp only; omega)).trans ((hbw8.cell (p := ⟨bt, ot + i, none⟩) (by simp only; omega)).trans m2')
                  have r3 := (hgrow8.cell (p := ⟨bi, oi + k, none⟩) (B := 0) hus8 (by simp; omega) (fun g e => by have := (own_blk hus8 g e).1; simp only; omega)).trans ((hbw8.cell (p := ⟨bi, oi + k, none⟩) (by simp only; omega)).trans m3')
                  have HOWN8 := Lib.hid hown8
                  have HBL9 := Lib.hid hbw9
                  refine hK.out _ _ (by go_keep) (fun hHeld => ?_)
                  clear hK K
                  refine' wpAnyH_take (i := 17) ?hid17 ?hsd17 ?hfd17 ?hrd17 ?hQd17 ?hyd17 ?hSd17 ?hd17
                  case hid17 => (simp only [List.getElem?_toArray, List.getElem?_cons_succ, List.getElem?_cons_zero]; exact rfl)
                  case hsd17 => kernel_rfl
                  case hfd17 => kernel_rfl
                  case hrd17 => kernel_rfl
                  case hQd17 => exact fun _ _ _ h => h
                  case hyd17 => (first | (refine Or.inr ⟨by rfl, ?_⟩; rfl) | (refine Or.inl ⟨by rfl, ?_⟩; (intro w hSw; (try dsimp only at hSw); go_simp); try with_reducible rfl))
                  case hSd17 => assumption
                  try simp only [Act.put, List.setIfInBounds_toArray, List.set_cons_zero, List.set_cons_succ]
                  refine wpAnyH_done (by kernel_rfl) ?_ _
                  refine NoPanic.normal ?_
                  clear hHeld r0 r1 r2 r3 m0 m1' m2' m3'
                  go_wp2
                  go_roundw
                  case rel => exact ⟨k + 1, by omega, by go_num, by rw [HSM2.out]; exact HOWN8.out, HBL9.out⟩
                  case measure => simp [intOf]; omega
                · have t5 : (zk == 1) = false := by simpa using hk1'
                  have HN := Lib.hid (offK_none (W := W) (T := T) (i := i) (k := k) (HOF.out.trans (by rw [if_neg (by rw [not_or, not_or]; exact ⟨hz, HPE.out, fun h => by have := inB_iff.2 h; rw [HIN.out] at this; cases this⟩), if_neg (by rw [not_or, not_or]; exact ⟨ht0, ht1, hk1'⟩)])))
                  clear ht0 ht1 hk1' hz
                  go_wp2_with fail
                  go_at_call 34
                  (with_reducible refine HCT.out.mono ?_)
                  rintro e w1 ⟨rfl, rfl⟩
                  rw [HIN.out]
                  go_wp2
                  go_roundw
                  case rel => exact ⟨k + 1, by omega, by go_num, by rw [HN.out]; exact HO.out.below ((Below.refl _ _).alloc (Nat.le_refl _) _), HB.out.alloc s1 _⟩
                  case measure => simp [intOf]; omega
          · have HN := Lib.hid (offK_none (W := W) (T := T) (i := i) (k := k) (HOF.out.trans (by rw [if_pos (.inr (.inr (inB_iff.1 HIN.out)))])))
            go_wp2_with fail
            go_at_call 34
            (with_reducible refine HCT.out.mono ?_)
            rintro e w1 ⟨rfl, rfl⟩
            rw [HIN.out]
            go_wp2
            go_roundw
            case rel => exact ⟨k + 1, by omega, by go_num, by rw [HN.out]; exact HO.out.below ((Below.refl _ _).alloc (Nat.le_refl _) _), HB.out.alloc s1 _⟩
            case measure => simp [intOf]; omega
    · have ek : k = n := by omega
      subst ek
      go_wp2
      go_ret
      exact ⟨_, rfl, HO.out, HB.out⟩
end Go.Proofs.YtnihheikaddmoaaDoor
