/- Rows of the call's own of integers. -/
import Derived.Test.YtplojnlmofbneaaDoorGrow
import Derived.Test.YtplojnlmofbneaaDoorBlk
namespace Go.Proofs.YtplojnlmofbneaaDoor
open Go.ChangeShapes Go.WideShapes Go.ChangeAt Go.RowKit
set_option linter.unusedVariables false
def OwnI (e : TypeId) (w : World) (base : Nat) (v : Value) (xs : List Int) : Prop := w.ownsRow base e 1 v xs.length (xs.map (Value.int .i64)) ∧ ∀ x ∈ xs, (Lit.int .i64 x).wf = true
theorem OwnI.read {e : TypeId} {w : World} {base : Nat} {v : Value} {xs : List Int} (h : OwnI e w base v xs) : R1 (RdSlice 1 (rdInt .i64)) w v xs := R1.of_own_ints h.1 h.2
theorem OwnI.nil_ (e : TypeId) (w : World) (base : Nat) : OwnI e w base (.slice none 0 0) [] := ⟨⟨rfl, .inl ⟨rfl, rfl⟩⟩, by simp⟩
theorem OwnI.alloc {e : TypeId} {w : World} {base : Nat} {v : Value} {xs : List Int} (h : OwnI e w base v xs) (o : Obj) : OwnI e (w.alloc o) base v xs := ⟨h.1.alloc o, h.2⟩
theorem OwnI.below {e : TypeId} {w w' : World} {base : Nat} {v : Value} {xs : List Int} (h : OwnI e w base v xs) (hb : Below w.heap.size w w') : OwnI e w' base v xs := ⟨own_below h.1 hb, h.2⟩
theorem OwnI.form {e : TypeId} {w : World} {base : Nat} {v : Value} {xs : List Int} (h : OwnI e w base v xs) : ∃ A c, v = .slice A xs.length c := own_form h.1
/-- append of one on a row of the call's own. -/
theorem wpList_append_int {P : Program} {w : World} {ops : Array Oper} {rest : List Oper} {o : Oper} {a : Act} {Q : Exit → Act → World → Prop} (hgd : o.guard = none) (s x : Operand) (t e : TypeId) (ht : P.underlying t = some (.slice e))
    (hinfo : (P.info? e).map (fun i => (i.zero, i.size, i.bytes)) = some (some (.int .i64 0), 1, 8))
    (ho : o.op = .call { callee := .builtin .append, args := #[s, x], argTypes := #[t, t] })
    (base : Nat) (v : Value) (xs : List Int) (hs : a.eval s = v) (hown : OwnI e w base v xs)
    (G : Nat) (y : Int) (t2 : TypeId) (hx : a.eval x = .slice (some ⟨G, 0, none⟩) 1 1) (hG : w.heap[G]? = some (.cells #[.int .i64 y] t2 (0, 0))) (hwf : (Lit.int .i64 y).wf = true)
    (hl : xs.length ≤ 5864062014000) (hbase : base ≤ w.heap.size)
    (h : ∀ v' w', OwnI e w' base v' (xs ++ [y]) → Grow w v w' v' → wpList P ops Q rest (a.put o.dst v') w') : wpList P ops Q (o :: rest) a w := by
  obtain ⟨i0, hi, hz0, hz1, hz2⟩ := info_parts hinfo
  have hr : Reads w w.heap.size 1 (some ⟨G, 0, none⟩) 1 [.int .i64 y] := ⟨rfl, fun _ => ⟨_, rfl, size_of_block hG, fun j u hu => by
    rw [addr_add, cell_of_row _ G _ _ t2 (0, 0) hG]; simpa using hu⟩⟩
  refine wpList_append_any w hgd s x t ho base e i0 _ 1 8 ht hi hz0 hz1 hz2 (by rfl) (by omega) v xs.length _ hs hown.1 w.heap.size _ 1 1 [.int .i64 y] hx hr (by intro u hu; simp only [List.mem_cons, List.not_mem_nil, or_false] at hu; subst hu; rfl) (by simp only [maxLen]; omega) (by omega) hbase ?_
  intro v' w' h1 h2 h3
  refine h v' w' ⟨by simpa using h1, fun q hq => ?_⟩ ⟨h2, ?_⟩
  · rcases List.mem_append.1 hq with hq | hq
    · exact hown.2 q hq
    · simp only [List.mem_cons, List.not_mem_nil, or_false] at hq; subst hq; exact hwf
  · rcases h3 with h3 | h3
    · exact .inl h3
    · exact .inr ⟨_, h3, Nat.le_refl _⟩
end Go.Proofs.YtplojnlmofbneaaDoor
