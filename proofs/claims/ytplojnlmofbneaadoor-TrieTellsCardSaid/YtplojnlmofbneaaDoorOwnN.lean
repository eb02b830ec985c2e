/- Rows of nets of the call's own: what they read as, and append of one and of many. -/
import Derived.Test.YtplojnlmofbneaaDoorTypes
import Derived.Test.YtplojnlmofbneaaDoorGrow
import Derived.Test.YtplojnlmofbneaaDoorBlk
namespace Go.Proofs.YtplojnlmofbneaaDoor
open Go.ChangeShapes Go.WideShapes Go.ChangeAt Go.RowKit
set_option linter.unusedVariables false
def nC (x : Int × Int) : List Value := [.int .u32 x.1, .int .i64 x.2]
def wfN (x : Int × Int) : Prop := (Lit.int .u32 x.1).wf = true ∧ (Lit.int .i64 x.2).wf = true
theorem rd_nC {w : World} {ok : Nat → Prop} {x : Int × Int} (h : wfN x) : rdNet w ok (nC x) x := ⟨_, _, rfl, ⟨rfl, h.1⟩, ⟨rfl, h.2⟩⟩
def OwnN (w : World) (base : Nat) (v : Value) (xs : List (Int × Int)) : Prop := w.ownsRow base 32 2 v xs.length (xs.flatMap nC) ∧ ∀ x ∈ xs, wfN x
theorem nC_len (l : List (Int × Int)) : (l.flatMap nC).length = l.length * 2 := by
  induction l with
  | nil => rfl
  | cons x r ih => rw [List.flatMap_cons, List.length_append, ih]; simp [nC]; omega
theorem nC_at (xs : List (Int × Int)) (i j : Nat) (x : Int × Int) (hi : xs[i]? = some x) (hj : j < 2) : (xs.flatMap nC)[i * 2 + j]? = (nC x)[j]? := by
  induction xs generalizing i with
  | nil => simp at hi
  | cons y r ih =>
    rw [List.flatMap_cons]
    cases i with
    | zero =>
      simp only [List.getElem?_cons_zero, Option.some.injEq] at hi
      subst hi
      rw [Nat.zero_mul, Nat.zero_add, List.getElem?_append_left (by simp [nC]; omega)]
    | succ i =>
      have := ih i (by simpa using hi)
      rw [List.getElem?_append_right (by simp [nC]; omega), ← this]
      congr 1
      simp [nC]; omega
theorem OwnN.read {w : World} {base : Nat} {v : Value} {xs : List (Int × Int)} (h : OwnN w base v xs) : R1 rdNets w v xs := by
  obtain ⟨A, c, rfl⟩ := own_form h.1
  refine RdSlice.of_own (xs := xs) h.1 rfl (fun g hg => (own_blk h.1 g hg).2) (fun i x hi => ⟨nC x, rfl, rd_nC (h.2 x (List.mem_of_getElem? hi)), fun j u hu => ?_⟩)
  have hj : j < 2 := by have := (List.getElem?_eq_some_iff.1 hu).1; simpa [nC] using this
  rw [nC_at xs i j x hi hj]; exact hu
theorem OwnN.nil_ (w : World) (base : Nat) : OwnN w base (.slice none 0 0) [] := ⟨⟨rfl, .inl ⟨rfl, rfl⟩⟩, by simp⟩
theorem OwnN.alloc {w : World} {base : Nat} {v : Value} {xs : List (Int × Int)} (h : OwnN w base v xs) (o : Obj) : OwnN (w.alloc o) base v xs := ⟨h.1.alloc o, h.2⟩
theorem OwnN.below {w w' : World} {base : Nat} {v : Value} {xs : List (Int × Int)} (h : OwnN w base v xs) (hb : Below w.heap.size w w') : OwnN w' base v xs := ⟨own_below h.1 hb, h.2⟩
theorem OwnN.form {w : World} {base : Nat} {v : Value} {xs : List (Int × Int)} (h : OwnN w base v xs) : ∃ A c, v = .slice A xs.length c := own_form h.1
/-- a store beside the row -/
theorem OwnN.setCell {w : World} {base : Nat} {v : Value} {xs : List (Int × Int)} (h : OwnN w base v xs) {g o : Nat} (hg : g < base) (u : Value) : OwnN (w.setCell ⟨g, o, none⟩ u) base v xs := by
  refine ⟨h.1.kept (row := some g) ⟨rfl, rfl, rfl, by simp, fun k hk hne => heap_setCell_other _ _ _ _ (fun e => hne (by rw [e]))⟩ ?_, h.2⟩
  cases hv : v.ownBlock with
  | none => exact .inl rfl
  | some k => exact .inr (by have := (own_blk h.1 k hv).1; intro e; injection e with e; omega)
theorem one_nC (x : Int × Int) : ∀ u ∈ nC x, u.oneCell' = true := by
  intro u hu; simp only [nC, List.mem_cons, List.not_mem_nil, or_false] at hu
  rcases hu with rfl | rfl <;> rfl
theorem one_nCs (l : List (Int × Int)) : ∀ u ∈ l.flatMap nC, u.oneCell' = true := by
  intro u hu
  obtain ⟨x, _, hx⟩ := List.mem_flatMap.1 hu
  exact one_nC x u hx
theorem net_info : (Tryd.prog.info? 32).map (fun i => (i.zero, i.size, i.bytes)) = some (some (.agg #[.int .u32 0, .int .i64 0]), 2, 16) := by kernel_rfl
/-- append of one on a row of the call's own. -/
theorem wpList_append_net {w : World} {ops : Array Oper} {rest : List Oper} {o : Oper} {a : Act} {Q : Exit → Act → World → Prop} (hgd : o.guard = none) (s x : Operand) (t : TypeId) (ht : Tryd.prog.underlying t = some (.slice 32))
    (ho : o.op = .call { callee := .builtin .append, args := #[s, x], argTypes := #[t, t] })
    (base : Nat) (v : Value) (xs : List (Int × Int)) (hs : a.eval s = v) (hown : OwnN w base v xs)
    (G : Nat) (y : Int × Int) (t2 : TypeId) (hx : a.eval x = .slice (some ⟨G, 0, none⟩) 1 1) (hG : w.heap[G]? = some (.cells #[.int .u32 y.1, .int .i64 y.2] t2 (0, 0))) (hwf : wfN y)
    (hl : xs.length ≤ 8796093022000) (hbase : base ≤ w.heap.size)
    (h : ∀ v' w', OwnN w' base v' (xs ++ [y]) → Grow w v w' v' → wpList Tryd.prog ops Q rest (a.put o.dst v') w') : wpList Tryd.prog ops Q (o :: rest) a w := by
  obtain ⟨i0, hi, hz0, hz1, hz2⟩ := info_parts net_info
  have hr : Reads w w.heap.size 2 (some ⟨G, 0, none⟩) 1 (nC y) := ⟨rfl, fun _ => ⟨_, rfl, size_of_block hG, fun j u hu => by
    rw [addr_add, cell_of_row _ G _ _ t2 (0, 0) hG]; simpa [nC] using hu⟩⟩
  refine wpList_append_any w hgd s x t ho base _ i0 _ 2 16 ht hi hz0 hz1 hz2 (by rfl) (by omega) v xs.length _ hs hown.1 w.heap.size _ 1 1 (nC y) hx hr (one_nC y) (by simp only [maxLen]; omega) (by omega) hbase ?_
  intro v' w' h1 h2 h3
  refine h v' w' ⟨by simpa using h1, fun q hq => ?_⟩ ⟨h2, ?_⟩
  · rcases List.mem_append.1 hq with hq | hq
    · exact hown.2 q hq
    · simp only [List.mem_cons, List.not_mem_nil, or_false] at hq; subst hq; exact hwf
  · rcases h3 with h3 | h3
    · exact .inl h3
    · exact .inr ⟨_, h3, Nat.le_refl _⟩
theorem RdSlice.atN {w : World} {ok : Nat → Prop} {A : Option Addr} {n c : Nat} {xs : List (Int × Int)} (h : RdSlice 2 rdNet w ok [.slice A n c] xs) {k : Nat} (hk : k < n) :
    ∃ b o x, A = some ⟨b, o, none⟩ ∧ ok b ∧ Hid (xs[k]? = some x) ∧ wfN x ∧ w.cell? ⟨b, o + k * 2, none⟩ = some (.int .u32 x.1) ∧ w.cell? ⟨b, o + k * 2 + 1, none⟩ = some (.int .i64 x.2) := by
  obtain ⟨b, o, x, cs, hA, hb, hx, _, hr, hc⟩ := h.at_ hk
  obtain ⟨x, y⟩ := x
  obtain ⟨_, _, rfl, ⟨rfl, w0⟩, ⟨rfl, w1⟩⟩ := hr
  exact ⟨b, o, _, hA, hb, hx, ⟨w0, w1⟩, hc 0 _ rfl, by rw [Nat.add_assoc]; exact hc 1 _ rfl⟩
theorem reads_nets {w : World} {ok : Nat → Prop} {A : Option Addr} {n c : Nat} {l : List (Int × Int)} (hr : RdSlice 2 rdNet w ok [.slice A n c] l) (hok : ∀ b, ok b → b < w.heap.size) : Reads w w.heap.size 2 A n (l.flatMap nC) := by
  obtain ⟨hn, _, _⟩ := hr.len
  refine ⟨by rw [nC_len, hn], fun h0 => ?_⟩
  obtain ⟨b, o, x, rfl, hb, _⟩ := hr.atN h0
  refine ⟨⟨b, o, none⟩, rfl, hok b hb, fun j u hu => ?_⟩
  have hj : j < n * 2 := by
    rcases Nat.lt_or_ge j (n * 2) with h | h
    · exact h
    · rw [List.getElem?_eq_none (by rw [nC_len]; omega)] at hu; cases hu
  obtain ⟨b', o', y, e, _, HY, _, c0, c1⟩ := hr.atN (k := j / 2) (by omega)
  simp only [Option.some.injEq, Addr.mk.injEq, and_true] at e
  obtain ⟨rfl, rfl⟩ := e
  have h3 := nC_at l (j / 2) (j % 2) y HY.out (Nat.mod_lt _ (by omega))
  rw [show j / 2 * 2 + j % 2 = j by omega] at h3
  rw [h3] at hu
  rw [addr_add]
  rcases (show j % 2 = 0 ∨ j % 2 = 1 by omega) with hm | hm
  · rw [hm] at hu
    simp only [nC, List.getElem?_cons_zero, Option.some.injEq] at hu
    subst hu
    rw [show j = j / 2 * 2 by omega]; exact c0
  · rw [hm] at hu
    simp only [nC, List.getElem?_cons_succ, List.getElem?_cons_zero, Option.some.injEq] at hu
    subst hu
    rw [show j = j / 2 * 2 + 1 by omega, ← Nat.add_assoc]
    exact c1
theorem nets_wf {w : World} {ok : Nat → Prop} {A : Option Addr} {n c : Nat} {l : List (Int × Int)} (hr : RdSlice 2 rdNet w ok [.slice A n c] l) : ∀ x ∈ l, wfN x := by
  intro x hx
  obtain ⟨hn, _, _⟩ := hr.len
  obtain ⟨i, hi, rfl⟩ := List.getElem_of_mem hx
  obtain ⟨_, _, y, _, _, HY, hw, _⟩ := hr.atN (k := i) (by omega)
  rw [List.getElem?_eq_getElem hi] at HY
  have := HY.out
  injection this with this
  rw [this]; exact hw
/-- append of a slice of nets on a row of the call's own. -/
theorem wpList_append_nets {w : World} {ops : Array Oper} {rest : List Oper} {o : Oper} {a : Act} {Q : Exit → Act → World → Prop} (hgd : o.guard = none) (s x : Operand) (t : TypeId) (ht : Tryd.prog.underlying t = some (.slice 32))
    (ho : o.op = .call { callee := .builtin .append, args := #[s, x], argTypes := #[t, t] })
    (base : Nat) (v : Value) (xs : List (Int × Int)) (hs : a.eval s = v) (hown : OwnN w base v xs)
    (A : Option Addr) (m c : Nat) (ys : List (Int × Int)) (hx : a.eval x = .slice A m c) (hr : R1 rdNets w (.slice A m c) ys)
    (hl : xs.length + ys.length ≤ 8796093022000) (hbase : base ≤ w.heap.size)
    (h : ∀ v' w', OwnN w' base v' (xs ++ ys) → Grow w v w' v' → wpList Tryd.prog ops Q rest (a.put o.dst v') w') : wpList Tryd.prog ops Q (o :: rest) a w := by
  obtain ⟨i0, hi, hz0, hz1, hz2⟩ := info_parts net_info
  obtain ⟨hm, _, _⟩ := RdSlice.len hr
  refine wpList_append_any w hgd s x t ho base _ i0 _ 2 16 ht hi hz0 hz1 hz2 (by rfl) (by omega) v xs.length _ hs hown.1 w.heap.size A m c (ys.flatMap nC) hx (reads_nets hr (fun b h => h)) (one_nCs ys) (by simp only [maxLen]; omega) (by omega) hbase ?_
  intro v' w' h1 h2 h3
  refine h v' w' ⟨by rw [List.length_append, List.flatMap_append, ← hm]; exact h1, fun q hq => ?_⟩ ⟨h2, ?_⟩
  · rcases List.mem_append.1 hq with hq | hq
    · exact hown.2 q hq
    · exact nets_wf hr q hq
  · rcases h3 with h3 | h3
    · exact .inl h3
    · exact .inr ⟨_, h3, Nat.le_refl _⟩
end Go.Proofs.YtplojnlmofbneaaDoor
