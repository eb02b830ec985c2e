/- Rows of entries of the call's own; the state of wire.Decode. -/
import Derived.Test.YtimdnfakgobadaaDoorWireF
import Derived.Test.YtimdnfakgobadaaDoorGrow
namespace Go.Proofs.YtimdnfakgobadaaDoor
open Go.ChangeShapes Go.WideShapes Go.ChangeAt Go.RowKit
set_option linter.unusedVariables false
set_option linter.unusedSimpArgs false

theorem entry_info : (Tryd.prog.info? 58).map (fun i => (i.zero, i.size, i.bytes)) = some (some (.agg #[.int .u32 0, .int .i64 0, .int .i64 0, .int .u32 0, .int .i64 0]), 5, 40) := by kernel_rfl
def OwnE (w : World) (base : Nat) (v : Value) (es : List Entry) : Prop := w.ownsRow base 58 5 v es.length (es.flatMap entC) ∧ ∀ e ∈ es, entWf e
theorem entC_at (es : List Entry) (i j : Nat) (e : Entry) (hi : es[i]? = some e) (hj : j < 5) : (es.flatMap entC)[i * 5 + j]? = (entC e)[j]? := by
  induction es generalizing i with
  | nil => simp at hi
  | cons x r ih =>
    rw [List.flatMap_cons]
    cases i with
    | zero =>
      simp only [List.getElem?_cons_zero, Option.some.injEq] at hi
      subst hi
      rw [Nat.zero_mul, Nat.zero_add, List.getElem?_append_left (by simp [entC]; omega)]
    | succ i =>
      have := ih i (by simpa using hi)
      rw [List.getElem?_append_right (by simp [entC]; omega), ← this]
      congr 1
      simp [entC]; omega
theorem OwnE.read {w : World} {base : Nat} {v : Value} {es : List Entry} (h : OwnE w base v es) : R1 rdEntries w v es := by
  obtain ⟨A, c, rfl⟩ := own_form h.1
  refine RdSlice.of_own (xs := es) h.1 rfl (fun g hg => (own_blk h.1 g hg).2) (fun i x hi => ⟨entC x, rfl, rd_entC (h.2 x (List.mem_of_getElem? hi)), fun j u hu => ?_⟩)
  have hj : j < 5 := by have := (List.getElem?_eq_some_iff.1 hu).1; simpa [entC] using this
  rw [entC_at es i j x hi hj]; exact hu
theorem OwnE.nil_ (w : World) (base : Nat) : OwnE w base (.slice none 0 0) [] := ⟨⟨rfl, .inl ⟨rfl, rfl⟩⟩, by simp⟩
theorem OwnE.alloc {w : World} {base : Nat} {v : Value} {es : List Entry} (h : OwnE w base v es) (o : Obj) : OwnE (w.alloc o) base v es := ⟨h.1.alloc o, h.2⟩
theorem OwnE.below {w w' : World} {base : Nat} {v : Value} {es : List Entry} (h : OwnE w base v es) (hb : Below w.heap.size w w') : OwnE w' base v es := by
  refine ⟨h.1.kept (row := none) ⟨hb.os, hb.tape, hb.output, hb.size, fun k hk _ => hb.block k hk⟩ ?_, h.2⟩
  cases hv : v.ownBlock with
  | none => exact .inl rfl
  | some k => exact .inr (by simp)
theorem OwnE.set {w : World} {base : Nat} {v : Value} {es : List Entry} (h : OwnE w base v es) {a : Addr} (ha : a.block < base) (u : Value) : OwnE (w.setCell a u) base v es := ⟨ownsRow_setCell_below h.1 ha u, h.2⟩
theorem one_entC (e : Entry) : ∀ u ∈ entC e, u.oneCell' = true := by
  intro u hu; simp only [entC, List.mem_cons, List.not_mem_nil, or_false] at hu
  rcases hu with rfl | rfl | rfl | rfl | rfl <;> rfl
/-- append of one entry on a row of entries of the call's own. -/
theorem wpList_append_entry {w : World} {ops : Array Oper} {rest : List Oper} {o : Oper} {a : Act} {Q : Exit → Act → World → Prop} (hgd : o.guard = none) (s x : Operand)
    (ho : o.op = .call { callee := .builtin .append, args := #[s, x], argTypes := #[33, 33] })
    (base : Nat) (v : Value) (es : List Entry) (hs : a.eval s = v) (hown : OwnE w base v es)
    (G : Nat) (e : Entry) (t : TypeId) (hx : a.eval x = .slice (some ⟨G, 0, none⟩) 1 1) (hG : w.heap[G]? = some (.cells #[.int .u32 e.1.1, .int .i64 e.1.2, .int .i64 e.2.1, .int .u32 e.2.2.1, .int .i64 e.2.2.2] t (0, 0))) (hwf : entWf e)
    (hl : es.length ≤ 1000000) (hbase : base ≤ w.heap.size)
    (h : ∀ v' w', OwnE w' base v' (es ++ [e]) → Grow w v w' v' → wpList Tryd.prog ops Q rest (a.put o.dst v') w') : wpList Tryd.prog ops Q (o :: rest) a w := by
  obtain ⟨i0, hi, hz0, hz1, hz2⟩ := info_parts entry_info
  have hr : Reads w w.heap.size 5 (some ⟨G, 0, none⟩) 1 (entC e) := ⟨rfl, fun _ => ⟨_, rfl, size_of_block hG, fun j u hu => by
    rw [addr_add, cell_of_row _ G _ _ t (0, 0) hG]; simpa [entC] using hu⟩⟩
  refine wpList_append_any w hgd s x 33 ho base 58 i0 _ 5 40 Tryd.underlying33 hi hz0 hz1 hz2 (by rfl) (by omega) v es.length _ hs hown.1 w.heap.size _ 1 1 (entC e) hx hr (one_entC e) (by simp only [maxLen]; omega) (by omega) hbase ?_
  intro v' w' h1 h2 h3
  refine h v' w' ⟨by simpa using h1, fun y hy => ?_⟩ ⟨h2, ?_⟩
  · rcases List.mem_append.1 hy with hy | hy
    · exact hown.2 y hy
    · simp only [List.mem_cons, List.not_mem_nil, or_false] at hy; subst hy; exact hwf
  · rcases h3 with h3 | h3
    · exact .inl h3
    · exact .inr ⟨_, h3, Nat.le_refl _⟩

/-- what Decode tells of bytes -/
def DecPost (l : List Int) (w : World) (e : Ending) (w' : World) : Prop :=
  ∃ q ve, e = .returned (.tuple #[.agg #[.bool q, ve], errV (decM l).2]) ∧ q = (decM l).1.1 ∧ R1 rdEntries w' ve (decM l).1.2 ∧ Below w.heap.size w w'
/-- the end of Decode: its two results -/
theorem dec_end {W : World} {R : Nat} {a : Act} {q : Bool} {v e : Value} {K : Ending → World → Prop}
    (h : W.heap[R]? = some (.cells #[.bool q, v] 35 (0, 0))) (h2 : a.tmps[2]?.getD undef = .pointer (some ⟨R, 0, none⟩)) (h3 : a.tmps[3]?.getD undef = e) (hd : a.defers = [])
    (hK : K (.returned (.tuple #[.agg #[.bool q, v], e])) W) : bodyPost Tryd.prog Tryd.f18 K .ret a W := by
  have e0 : W.cell? ⟨R, 0, none⟩ = some (.bool q) := by rw [cell_of_row _ R _ _ _ (0, 0) h]; rfl
  have e1 : W.cell? ⟨R, 1, none⟩ = some v := by rw [cell_of_row _ R _ _ _ (0, 0) h]; rfl
  exact bodyPost_ret (by simp [results, Tryd.results18, go_sem, h2, h3, e0, e1]) hd hK
theorem set2_block {w : World} {R : Nat} {c0 c1 : Value} (v0 v1 : Value) {t : TypeId} (h : w.heap[R]? = some (.cells #[c0, c1] t (0, 0))) :
    ((w.setCell ⟨R, 0, none⟩ v0).setCell ⟨R, 1, none⟩ v1).heap[R]? = some (.cells #[v0, v1] t (0, 0)) :=
  heap_setCell_same _ R 1 _ _ v1 (heap_setCell_same w R 0 _ _ v0 h)
theorem row2 {w : World} {R : Nat} {v0 v1 : Value} {t : TypeId} (h : w.heap[R]? = some (.cells #[v0, v1] t (0, 0))) :
    w.cell? ⟨R, 0, none⟩ = some v0 ∧ w.cell? ⟨R, 1, none⟩ = some v1 ∧ w.frozen? ⟨R, 0, none⟩ = false ∧ w.frozen? ⟨R, 1, none⟩ = false := by
  refine ⟨?_, ?_, frozen_of_row _ R _ _ _ h, frozen_of_row _ R _ _ _ h⟩ <;> rw [cell_of_row _ R _ _ _ (0, 0) h] <;> rfl
theorem dec_bad {l : List Int} (h : ¬ hdOk l) : decM l = ((false, []), 3) := by unfold decM; rw [if_neg h]
theorem R1.nil_e {w : World} : R1 rdEntries w (.slice none 0 0) [] := RdSlice.nil_
/-- which way the head's test goes -/
theorem head_ways (x0 x1 x2 x3 : Int) : (((x0 != 1) = false ∨ ((x0 != 1) = true ∧ (x0 != 2) = false)) ∧
      (((x1 != 2) = false ∧ (((x2 != 0) = false ∧ (((x3 != 0) = false ∧ Hid ((x0 = 1 ∨ x0 = 2) ∧ x1 = 2 ∧ x2 = 0 ∧ x3 = 0)) ∨ ((x3 != 0) = true ∧ Hid (¬ ((x0 = 1 ∨ x0 = 2) ∧ x1 = 2 ∧ x2 = 0 ∧ x3 = 0))))) ∨
        ((x2 != 0) = true ∧ Hid (¬ ((x0 = 1 ∨ x0 = 2) ∧ x1 = 2 ∧ x2 = 0 ∧ x3 = 0))))) ∨
      ((x1 != 2) = true ∧ Hid (¬ ((x0 = 1 ∨ x0 = 2) ∧ x1 = 2 ∧ x2 = 0 ∧ x3 = 0))))) ∨
    ((x0 != 1) = true ∧ (x0 != 2) = true ∧ Hid (¬ ((x0 = 1 ∨ x0 = 2) ∧ x1 = 2 ∧ x2 = 0 ∧ x3 = 0))) := by
  by_cases h0 : x0 = 1
  · left
    refine ⟨.inl (by simp [h0]), ?_⟩
    by_cases h1 : x1 = 2
    · refine .inl ⟨by simp [h1], ?_⟩
      by_cases h2 : x2 = 0
      · refine .inl ⟨by simp [h2], ?_⟩
        by_cases h3 : x3 = 0
        · exact .inl ⟨by simp [h3], Lib.hid ⟨.inl h0, h1, h2, h3⟩⟩
        · exact .inr ⟨by simpa [bne] using h3, Lib.hid fun h => h3 h.2.2.2⟩
      · exact .inr ⟨by simpa [bne] using h2, Lib.hid fun h => h2 h.2.2.1⟩
    · exact .inr ⟨by simpa [bne] using h1, Lib.hid fun h => h1 h.2.1⟩
  · by_cases h0' : x0 = 2
    · left
      refine ⟨.inr ⟨by simpa [bne] using h0, by simp [h0']⟩, ?_⟩
      by_cases h1 : x1 = 2
      · refine .inl ⟨by simp [h1], ?_⟩
        by_cases h2 : x2 = 0
        · refine .inl ⟨by simp [h2], ?_⟩
          by_cases h3 : x3 = 0
          · exact .inl ⟨by simp [h3], Lib.hid ⟨.inr h0', h1, h2, h3⟩⟩
          · exact .inr ⟨by simpa [bne] using h3, Lib.hid fun h => h3 h.2.2.2⟩
        · exact .inr ⟨by simpa [bne] using h2, Lib.hid fun h => h2 h.2.2.1⟩
      · exact .inr ⟨by simpa [bne] using h1, Lib.hid fun h => h1 h.2.1⟩
    · right
      exact ⟨by simpa [bne] using h0, by simpa [bne] using h0', Lib.hid fun h => h.1.elim h0 h0'⟩
theorem dec_none {l : List Int} {w W : World} {e : Value} (R : Nat) (hR : w.heap.size ≤ R) (h : decM l = ((false, []), 3) ∧ e = errV 3 ∨ decM l = ((false, []), 6) ∧ e = errV 6) (hb : Below w.heap.size w W) :
    DecPost l w (.returned (.tuple #[.agg #[.bool false, .slice none 0 0], e])) ((W.setCell ⟨R, 0, none⟩ (.bool false)).setCell ⟨R, 1, none⟩ (.slice none 0 0)) := by
  rcases h with ⟨h, rfl⟩ | ⟨h, rfl⟩ <;> exact ⟨false, .slice none 0 0, by rw [h], by rw [h], by rw [h]; exact R1.nil_e, (hb.setCell hR _).setCell hR _⟩
theorem dec_none_a {l : List Int} {w W : World} {e : Value} (R : Nat) (o : Obj) (hR : w.heap.size ≤ R) (h : decM l = ((false, []), 3) ∧ e = errV 3 ∨ decM l = ((false, []), 6) ∧ e = errV 6) (hb : Below w.heap.size w W) :
    DecPost l w (.returned (.tuple #[.agg #[.bool false, .slice none 0 0], e])) (((W.setCell ⟨R, 0, none⟩ (.bool false)).setCell ⟨R, 1, none⟩ (.slice none 0 0)).alloc o) := by
  rcases h with ⟨h, rfl⟩ | ⟨h, rfl⟩ <;> exact ⟨false, .slice none 0 0, by rw [h], by rw [h], by rw [h]; exact R1.nil_e, ((hb.setCell hR _).setCell hR _).alloc (by have := hb.size; simpa using this) _⟩
theorem set2_block_a {w : World} {R : Nat} {c0 c1 : Value} (v0 v1 : Value) {t : TypeId} (o : Obj) (h : w.heap[R]? = some (.cells #[c0, c1] t (0, 0))) :
    (((w.setCell ⟨R, 0, none⟩ v0).setCell ⟨R, 1, none⟩ v1).alloc o).heap[R]? = some (.cells #[v0, v1] t (0, 0)) := by
  have h1 := set2_block v0 v1 h
  exact (((Below.refl _ _).alloc (Nat.le_refl _) o).block R (size_of_block h1)).trans h1
end Go.Proofs.YtimdnfakgobadaaDoor
