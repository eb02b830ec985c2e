/- The arguments of the wire laws, and what they keep. -/
import Derived.Test.YtimdnfakgobadaaDoorWireL
namespace Go.Proofs.YtimdnfakgobadaaDoor
open Go.ChangeShapes Go.WideShapes Go.ChangeAt Go.RowKit
set_option linter.unusedVariables false
set_option linter.unusedSimpArgs false

theorem opens_bytes : Opens Tryd.prog 36 rdBytes (fun xs => bulkL (fun _ => 1) xs + 1) (fun xs => xs.length * 1 ≤ reachBytes ∧ ∀ x ∈ xs, True) :=
  opens_slice (opens_int Tryd.underlying5 (by kernel_rfl)) Tryd.underlying36 (by kernel_rfl) (by kernel_rfl) (by omega) (by kernel_rfl)
theorem message_parts {W : World} {A0 : Array Value} {x : Bool × List Entry} (h : RV rdMessage W (.agg A0) x) : ∃ A n c, A0 = #[.bool x.1, .slice A n c] ∧ R1 rdEntries W (.slice A n c) x.2 := by
  obtain ⟨c0, c1, e, h0, h1⟩ := h
  have h1' := h1
  obtain ⟨A, c, e1, _⟩ := h1'
  have e0 : c0 = [.bool x.1] := h0
  subst e0; subst e1
  refine ⟨A, x.2.length, c, ?_, h1⟩
  have e2 : A0.toList = [.bool x.1, .slice A x.2.length c] := by simpa [Value.cells] using e
  rw [← Array.toArray_toList (xs := A0), e2]
theorem entR_of {w : World} {v : Value} {es : List Entry} (h : R1 rdEntries w v es) : ∀ e ∈ es, entR e := by
  obtain ⟨A, c, rfl⟩ := R1.form h
  intro e he
  obtain ⟨i, hi, rfl⟩ := List.mem_iff_getElem.1 he
  obtain ⟨b, o, a, l, t, hp, m, _, _, HX, ⟨w0, _, _, w3, _⟩, _⟩ := RdSlice.atE h (k := i) hi
  have e := HX.out
  rw [List.getElem?_eq_getElem hi] at e
  injection e with e
  rw [e]
  exact ⟨bounds_u32 w0, bounds_u32 w3⟩
/-- the message's own variable at the first new block stays -/
structure WB (W : World) (q : Bool) (v : Value) (w : World) : Prop where
  bel : Below W.heap.size W w
  blk : w.heap[W.heap.size]? = some (.cells #[.bool q, v] 35 (0, 0))
theorem WB.below {W w w' : World} {q : Bool} {v : Value} (h : WB W q v w) (hb : Below w.heap.size w w') : WB W q v w' :=
  ⟨h.bel.trans (hb.mono h.bel.size), (hb.block _ (size_of_block h.blk)).trans h.blk⟩
theorem WB.alloc {W w : World} {q : Bool} {v : Value} (h : WB W q v w) (o : Obj) : WB W q v (w.alloc o) := h.below ((Below.refl _ _).alloc (Nat.le_refl _) o)
theorem WB.drewN {W w : World} {q : Bool} {v : Value} (h : WB W q v w) (k : Nat) : WB W q v (w.drewN k) := ⟨below_drewN h.bel k, h.blk⟩
theorem WB.start (W : World) (q : Bool) (v : Value) : WB W q v (W.alloc (.cells #[.bool q, v] 35)) := ⟨(Below.refl _ _).alloc (Nat.le_refl _) _, heap_alloc_new _ _⟩
end Go.Proofs.YtimdnfakgobadaaDoor
