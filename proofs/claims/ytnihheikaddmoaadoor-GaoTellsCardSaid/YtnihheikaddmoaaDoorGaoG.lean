/- gao.Ways: the row of ways that is written; how many rounds are left. -/
import Derived.Test.YtnihheikaddmoaaDoorGaoF
import Derived.Test.YtnihheikaddmoaaDoorGaoE
namespace Go.Proofs.YtnihheikaddmoaaDoor
open Go.ChangeShapes Go.WideShapes Go.ChangeAt Go.RowKit Ga
set_option linter.unusedVariables false
set_option linter.unusedSimpArgs false
/-- the row of ways: where it lies, what it holds -/
structure WsRow (w : World) (g n : Nat) (T : List Ga.Way) : Prop where
  blk : ∃ vs : List Value, Blk w g 26 vs ∧ vs.length = n * 2 ∧ ∀ i x, T[i]? = some x → ∃ A c, vs[i * 2]? = some (.int .i64 x.1) ∧ vs[i * 2 + 1]? = some (.slice A x.2.length c) ∧ (Lit.int .i64 x.1).wf = true ∧
    RdSlice 1 (rdInt .i64) w (fun b => b < w.heap.size ∧ b ≠ g) [.slice A x.2.length c] x.2
  len : T.length = n
theorem WsRow.lt {w : World} {g n : Nat} {T : List Ga.Way} (h : WsRow w g n T) : g < w.heap.size := by obtain ⟨vs, h1, _⟩ := h.blk; exact h1.lt
theorem WsRow.below {w w' : World} {g n : Nat} {T : List Ga.Way} (h : WsRow w g n T) (hb : Below w.heap.size w w') : WsRow w' g n T := by
  obtain ⟨vs, h1, h2, h3⟩ := h.blk
  refine ⟨⟨vs, h1.below hb h1.lt, h2, fun i x hi => ?_⟩, h.len⟩
  obtain ⟨A, c, a1, a2, a3, a4⟩ := h3 i x hi
  exact ⟨A, c, a1, a2, a3, RdLaw.mono (RdLaw.keep a4 (fun p hp => hb.cell hp.1)) (fun b hb' => ⟨Nat.lt_of_lt_of_le hb'.1 hb.size, hb'.2⟩)⟩
theorem WsRow.at_ {w : World} {g n : Nat} {T : List Ga.Way} (h : WsRow w g n T) {i : Nat} {x : Ga.Way} (hi : T[i]? = some x) :
    ∃ A c, w.cell? ⟨g, i * 2, none⟩ = some (.int .i64 x.1) ∧ w.cell? ⟨g, i * 2 + 1, none⟩ = some (.slice A x.2.length c) ∧ (Lit.int .i64 x.1).wf = true ∧ RdSlice 1 (rdInt .i64) w (fun b => b < w.heap.size ∧ b ≠ g) [.slice A x.2.length c] x.2 ∧
      w.frozen? ⟨g, i * 2, none⟩ = false ∧ w.frozen? ⟨g, i * 2 + 1, none⟩ = false := by
  obtain ⟨vs, h1, h2, h3⟩ := h.blk
  obtain ⟨A, c, a1, a2, a3, a4⟩ := h3 i x hi
  exact ⟨A, c, h1.get a1, h1.get a2, a3, a4, h1.free _, h1.free _⟩
theorem WsRow.read {w : World} {g n : Nat} {T : List Ga.Way} (h : WsRow w g n T) (hn : n ≤ 1000000) : R1 rdWays w (.slice (some ⟨g, 0, none⟩) n n) T := by
  obtain ⟨vs, h1, h2, h3⟩ := h.blk
  have hl := h.len
  subst hl
  refine ⟨_, T.length, rfl, Nat.le_refl _, by unfold maxLen; omega, fun _ => ⟨g, 0, rfl, h1.lt, fun i x hi => ?_⟩⟩
  obtain ⟨A, c, a1, a2, a3, a4⟩ := h3 i x hi
  refine ⟨[.int .i64 x.1, .slice A x.2.length c], rfl, rd_way a3 (RdLaw.mono a4 (fun b hb => hb.1)), fun j u hu => ?_⟩
  match j, hu with
  | 0, hu => simp only [List.getElem?_cons_zero, Option.some.injEq] at hu; subst hu; rw [Nat.zero_add, Nat.add_zero]; exact h1.get a1
  | 1, hu => simp only [List.getElem?_cons_succ, List.getElem?_cons_zero, Option.some.injEq] at hu; subst hu; rw [Nat.zero_add]; exact h1.get a2
theorem WsRow.set {w : World} {g n : Nat} {T : List Ga.Way} (h : WsRow w g n T) {i : Nat} (hi : i < n) {t : Int} {p : List Int} {A : Option Addr} {m c : Nat} (hw : (Lit.int .i64 t).wf = true) (hp : RdSlice 1 (rdInt .i64) w (fun b => b < w.heap.size ∧ b ≠ g) [.slice A m c] p) :
    WsRow ((w.setCell ⟨g, i * 2, none⟩ (.int .i64 t)).setCell ⟨g, i * 2 + 1, none⟩ (.slice A m c)) g n (T.set i (t, p)) := by
  obtain ⟨vs, h1, h2, h3⟩ := h.blk
  have hl := h.len
  have hm := hp.len.1
  subst hm
  have hk : ∀ (A' : Option Addr) (n' c' : Nat) (q : List Int), RdSlice 1 (rdInt .i64) w (fun b => b < w.heap.size ∧ b ≠ g) [.slice A' n' c'] q → RdSlice 1 (rdInt .i64) ((w.setCell ⟨g, i * 2, none⟩ (.int .i64 t)).setCell ⟨g, i * 2 + 1, none⟩ (.slice A p.length c)) (fun b => b < ((w.setCell ⟨g, i * 2, none⟩ (.int .i64 t)).setCell ⟨g, i * 2 + 1, none⟩ (.slice A p.length c)).heap.size ∧ b ≠ g) [.slice A' n' c'] q := fun A' n' c' q hq =>
    RdLaw.mono (RdLaw.keep hq (fun y hy => by rw [World.cell?_setCell_far _ _ _ _ (fun e => hy.2 e.symm), World.cell?_setCell_far _ _ _ _ (fun e => hy.2 e.symm)])) (fun b hb => by simpa using hb)
  refine ⟨⟨_, (h1.set (i * 2) (.int .i64 t)).set (i * 2 + 1) (.slice A p.length c), by simp [h2], fun j y hj => ?_⟩, by simp [hl]⟩
  by_cases e : j = i
  · subst e
    rw [List.getElem?_set_self (by omega)] at hj
    injection hj with hj
    subst hj
    refine ⟨A, c, ?_, ?_, hw, hk _ _ _ _ hp⟩
    · rw [List.getElem?_set_ne (by omega), List.getElem?_set_self (by omega)]
    · rw [List.getElem?_set_self (by simp; omega)]
  · rw [List.getElem?_set_ne (by omega)] at hj
    obtain ⟨A', c', a1, a2, a3, a4⟩ := h3 j y hj
    refine ⟨A', c', ?_, ?_, a3, hk _ _ _ _ a4⟩
    · rw [List.getElem?_set_ne (by omega), List.getElem?_set_ne (by omega)]; exact a1
    · rw [List.getElem?_set_ne (by omega), List.getElem?_set_ne (by omega)]; exact a2
theorem ints_inj {w : World} {ok ok' : Nat → Prop} {A : Option Addr} {n c : Nat} {p q : List Int} (hp : RdSlice 1 (rdInt .i64) w ok [.slice A n c] p) (hq : RdSlice 1 (rdInt .i64) w ok' [.slice A n c] q) : p = q := by
  have l1 := hp.len.1
  have l2 := hq.len.1
  apply List.ext_getElem (by omega)
  intro i h1 h2
  obtain ⟨b, o, x, rfl, _, HX, _, hx⟩ := hp.atI (i := i) (by omega)
  obtain ⟨b', o', y, e, _, HY, _, hy⟩ := hq.atI (i := i) (by omega)
  simp only [Option.some.injEq, Addr.mk.injEq, and_true] at e
  obtain ⟨rfl, rfl⟩ := e
  have hxy := hx.symm.trans hy
  simp only [Option.some.injEq, Value.int.injEq, true_and] at hxy
  have e1 := HX.out
  have e2 := HY.out
  rw [List.getElem?_eq_getElem h1] at e1
  rw [List.getElem?_eq_getElem h2] at e2
  injection e1 with e1
  injection e2 with e2
  rw [e1, e2, hxy]
theorem WsRow.inj {w : World} {g n : Nat} {T T' : List Ga.Way} (h : WsRow w g n T) (h' : WsRow w g n T') : T = T' := by
  apply List.ext_getElem (by rw [h.len, h'.len])
  intro i h1 h2
  obtain ⟨A, c, a1, a2, a3, a4, -⟩ := h.at_ (List.getElem?_eq_getElem h1)
  obtain ⟨A', c', b1, b2, b3, b4, -⟩ := h'.at_ (List.getElem?_eq_getElem h2)
  have e1 := a1.symm.trans b1
  have e2 := a2.symm.trans b2
  simp only [Option.some.injEq, Value.int.injEq, true_and] at e1
  simp only [Option.some.injEq, Value.slice.injEq] at e2
  obtain ⟨rfl, hl, rfl⟩ := e2
  rw [← hl] at b4
  exact Prod.ext e1 (ints_inj a4 b4)
/-! ### how many rounds are left -/
noncomputable def rankT (W : Nat → Nat → Int) (n to : Nat) (T : List Ga.Way) : Nat := by
  classical
  exact if h : ∃ j, mov W n to (iterP W n to j T) = false then Classical.choose (min_ex h) else 0
theorem rank_less {W : Nat → Nat → Int} {n to : Nat} {T : List Ga.Way} (h : ∃ j, mov W n to (iterP W n to j T) = false) (hm : mov W n to T = true) : rankT W n to (passP W n to T) < rankT W n to T := by
  classical
  have e1 : rankT W n to T = Classical.choose (min_ex h) := by unfold rankT; rw [dif_pos h]
  obtain ⟨s1, s2⟩ := Classical.choose_spec (min_ex h)
  rw [e1]
  generalize Classical.choose (min_ex h) = j at *
  cases j with
  | zero => rw [show iterP W n to 0 T = T from rfl, hm] at s1; cases s1
  | succ j =>
    have s1' : mov W n to (iterP W n to j (passP W n to T)) = false := s1
    have h2 : ∃ j, mov W n to (iterP W n to j (passP W n to T)) = false := ⟨j, s1'⟩
    have e2 : rankT W n to (passP W n to T) = Classical.choose (min_ex h2) := by unfold rankT; rw [dif_pos h2]
    rw [e2]
    have := (Classical.choose_spec (min_ex h2)).2 j s1'
    omega
noncomputable def muW (W : Nat → Nat → Int) (n to g : Nat) (q : Bool) (w : World) : Nat := by
  classical
  exact 2 * (if h : ∃ T, WsRow w g n T then rankT W n to (Classical.choose h) else 0) + (if q then 1 else 0)
theorem muW_of {W : Nat → Nat → Int} {n to g : Nat} {q : Bool} {w : World} {T : List Ga.Way} (h : WsRow w g n T) : muW W n to g q w = 2 * rankT W n to T + (if q then 1 else 0) := by
  classical
  have hx : ∃ T, WsRow w g n T := ⟨T, h⟩
  unfold muW
  rw [dif_pos hx, (Classical.choose_spec hx).inj h]
def boolOf : Value → Bool
  | .bool b => b
  | _ => false
/-- part of a round -/
def foldT (W : Nat → Nat → Int) (n to i : Nat) (T : List Ga.Way) : List Ga.Way := (List.range i).foldl (stepP W n to) T
def movK (W : Nat → Nat → Int) (n to : Nat) (T : List Ga.Way) (i : Nat) : Bool := movP W n to (List.range i) T
theorem foldT_succ (W : Nat → Nat → Int) (n to i : Nat) (T : List Ga.Way) : foldT W n to (i + 1) T = stepP W n to (foldT W n to i T) i := by unfold foldT; rw [List.range_succ, List.foldl_append]; rfl
theorem movP_snoc (W : Nat → Nat → Int) (n to i : Nat) : ∀ (l : List Nat) (T : List Ga.Way), movP W n to (l ++ [i]) T = (movP W n to l T || movS W n to (l.foldl (stepP W n to) T) i)
  | [], T => by simp [movP]
  | k :: l, T => by
    show (movS W n to T k || movP W n to (l ++ [i]) (stepP W n to T k)) = (movS W n to T k || movP W n to l (stepP W n to T k) || _)
    rw [movP_snoc W n to i l, Bool.or_assoc]; rfl
theorem movK_succ (W : Nat → Nat → Int) (n to i : Nat) (T : List Ga.Way) : movK W n to T (i + 1) = (movK W n to T i || movS W n to (foldT W n to i T) i) := by
  unfold movK; rw [List.range_succ, movP_snoc]; rfl
theorem foldT_inv {W : Nat → Nat → Int} {n to : Nat} (ok : OkW W n) (hto : to < n) {T : List Ga.Way} (h : InvW W n to T) : ∀ i, i ≤ n → InvW W n to (foldT W n to i T)
  | 0, _ => h
  | i + 1, hi => by rw [foldT_succ]; exact inv_stepP ok hto (foldT_inv ok hto h i (by omega)) (by omega)
theorem pass_inv {W : Nat → Nat → Int} {n to : Nat} (ok : OkW W n) (hto : to < n) {T : List Ga.Way} (h : InvW W n to T) : InvW W n to (passP W n to T) := foldT_inv ok hto h n (Nat.le_refl _)
/-- no way is long -/
def Small (n : Nat) (T : List Ga.Way) : Prop := ∀ x ∈ T, x.2.Nodup ∧ ∀ y ∈ x.2, 0 ≤ y ∧ y < n
theorem nodup_len : ∀ (m : Nat) (p : List Int), p.Nodup → (∀ v ∈ p, 0 ≤ v ∧ v < m) → p.length ≤ m
  | 0, p, _, h => by
    cases p with
    | nil => simp
    | cons a q => exact absurd (h a (by simp)) (by omega)
  | m + 1, p, hn, h => by
    by_cases hm : (m : Int) ∈ p
    · have h1 := nodup_len m (p.erase (m : Int)) (hn.erase _) (fun v hv => by
        have h2 := List.mem_of_mem_erase hv
        have h3 := h v h2
        have h4 : v ≠ m := fun e => by subst e; exact (List.Nodup.not_mem_erase hn) hv
        omega)
      rw [List.length_erase_of_mem hm] at h1
      omega
    · have := nodup_len m p hn (fun v hv => by have h2 := h v hv; have h3 : v ≠ m := fun e => hm (e ▸ hv); omega)
      omega
theorem Small.len {n : Nat} {T : List Ga.Way} (h : Small n T) (h8 : n ≤ 8) : ∀ x ∈ T, x.2.length ≤ 17592186044416 - 10 := fun x hx => by
  have := nodup_len n x.2 (h x hx).1 (h x hx).2; omega
theorem small_best {W : Nat → Nat → Int} {n : Nat} {T : List Ga.Way} (h : Small n T) (hl : T.length = n) {i : Nat} (hi : i < n) : ∀ x ∈ offersP W n T i, x.2.Nodup ∧ ∀ y ∈ x.2, 0 ≤ y ∧ y < n := by
  intro x hx
  obtain ⟨k, hk, ⟨h1, h2, h3, h4⟩, rfl⟩ := mem_offers.1 hx
  have hm : wy T k ∈ T := by
    unfold wy; rw [List.getD_eq_getElem?_getD, List.getElem?_eq_getElem (by omega)]; exact List.getElem_mem _
  obtain ⟨s1, s2⟩ := h _ hm
  refine ⟨List.nodup_cons.2 ⟨h3, s1⟩, fun y hy => ?_⟩
  rcases List.mem_cons.1 hy with rfl | hy
  · omega
  · exact s2 y hy
theorem small_step {W : Nat → Nat → Int} {n to : Nat} {T : List Ga.Way} (h : Small n T) (hl : T.length = n) {i : Nat} (hi : i < n) : Small n (stepP W n to T i) := by
  unfold stepP
  split
  · exact h
  · intro x hx
    rcases List.mem_or_eq_of_mem_set hx with hx | rfl
    · exact h x hx
    · rcases best_or (offers_ne (W := W) (n := n) (T := T) (i := i)) with ⟨_, e⟩ | e
      · rw [e]; simp
      · exact small_best h hl hi _ e
theorem stepP_len {W : Nat → Nat → Int} {n to : Nat} {T : List Ga.Way} {i : Nat} : (stepP W n to T i).length = T.length := by unfold stepP; split <;> simp
theorem small_start {n to : Nat} (hto : to < n) : Small n (startP n to) := by
  intro x hx
  unfold startP at hx
  rcases List.mem_or_eq_of_mem_set hx with hx | rfl
  · obtain ⟨_, rfl⟩ := List.mem_replicate.1 hx; simp
  · refine ⟨by simp, fun y hy => ?_⟩
    simp at hy; omega
end Go.Proofs.YtnihheikaddmoaaDoor
