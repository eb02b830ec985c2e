/- Rows of the call's own of three numbers each: links, beliefs. -/
import Derived.Test.YtccgaflbhpagcaaDoorSpanC
import Derived.Test.YtccgaflbhpagcaaDoorGrow
import Derived.Test.YtccgaflbhpagcaaDoorBlk
import Derived.Test.YtccgaflbhpagcaaDoorLinksAt
namespace Go.Proofs.YtccgaflbhpagcaaDoor
open Go.ChangeShapes Go.WideShapes Go.ChangeAt Go.RowKit Sp
set_option linter.unusedVariables false
abbrev rdT : Rdr (Int × Int × Int) := RdPair (rdInt .i64) (RdPair (rdInt .i64) (rdInt .i64))
def tC (x : Int × Int × Int) : List Value := [.int .i64 x.1, .int .i64 x.2.1, .int .i64 x.2.2]
theorem rd_tC {w : World} {ok : Nat → Prop} {x : Int × Int × Int} (h : wf3 x.1 x.2.1 x.2.2) : rdT w ok (tC x) x := ⟨_, _, rfl, ⟨rfl, h.1⟩, ⟨_, _, rfl, ⟨rfl, h.2.1⟩, ⟨rfl, h.2.2⟩⟩⟩
def OwnT (e : TypeId) (w : World) (base : Nat) (v : Value) (xs : List (Int × Int × Int)) : Prop := w.ownsRow base e 3 v xs.length (xs.flatMap tC) ∧ ∀ x ∈ xs, wf3 x.1 x.2.1 x.2.2
theorem tC_at (xs : List (Int × Int × Int)) (i j : Nat) (x : Int × Int × Int) (hi : xs[i]? = some x) (hj : j < 3) : (xs.flatMap tC)[i * 3 + j]? = (tC x)[j]? := by
  induction xs generalizing i with
  | nil => simp at hi
  | cons y r ih =>
    rw [List.flatMap_cons]
    cases i with
    | zero =>
      simp only [List.getElem?_cons_zero, Option.some.injEq] at hi
      subst hi
      rw [Nat.zero_mul, Nat.zero_add, List.getElem?_append_left (by simp [tC]; omega)]
    | succ i =>
      have := ih i (by simpa using hi)
      rw [List.getElem?_append_right (by simp [tC]; omega), ← this]
      congr 1
      simp [tC]; omega
theorem OwnT.read {e : TypeId} {w : World} {base : Nat} {v : Value} {xs : List (Int × Int × Int)} (h : OwnT e w base v xs) : R1 (RdSlice 3 rdT) w v xs := by
  obtain ⟨A, c, rfl⟩ := own_form h.1
  refine RdSlice.of_own (xs := xs) h.1 rfl (fun g hg => (own_blk h.1 g hg).2) (fun i x hi => ⟨tC x, rfl, rd_tC (h.2 x (List.mem_of_getElem? hi)), fun j u hu => ?_⟩)
  have hj : j < 3 := by have := (List.getElem?_eq_some_iff.1 hu).1; simpa [tC] using this
  rw [tC_at xs i j x hi hj]; exact hu
theorem OwnT.nil_ (e : TypeId) (w : World) (base : Nat) : OwnT e w base (.slice none 0 0) [] := ⟨⟨rfl, .inl ⟨rfl, rfl⟩⟩, by simp⟩
theorem OwnT.alloc {e : TypeId} {w : World} {base : Nat} {v : Value} {xs : List (Int × Int × Int)} (h : OwnT e w base v xs) (o : Obj) : OwnT e (w.alloc o) base v xs := ⟨h.1.alloc o, h.2⟩
theorem OwnT.below {e : TypeId} {w w' : World} {base : Nat} {v : Value} {xs : List (Int × Int × Int)} (h : OwnT e w base v xs) (hb : Below w.heap.size w w') : OwnT e w' base v xs := by
  refine ⟨h.1.kept (row := none) ⟨hb.os, hb.tape, hb.output, hb.size, fun k hk _ => hb.block k hk⟩ ?_, h.2⟩
  cases hv : v.ownBlock with
  | none => exact .inl rfl
  | some k => exact .inr (by simp)
theorem one_tC (x : Int × Int × Int) : ∀ u ∈ tC x, u.oneCell' = true := by
  intro u hu; simp only [tC, List.mem_cons, List.not_mem_nil, or_false] at hu
  rcases hu with rfl | rfl | rfl <;> rfl
/-- append of one on a row of the call's own. -/
theorem wpList_append_three {w : World} {ops : Array Oper} {rest : List Oper} {o : Oper} {a : Act} {Q : Exit → Act → World → Prop} (hgd : o.guard = none) (s x : Operand) (t e : TypeId) (ht : Tryd.prog.underlying t = some (.slice e))
    (hinfo : (Tryd.prog.info? e).map (fun i => (i.zero, i.size, i.bytes)) = some (some (.agg #[.int .i64 0, .int .i64 0, .int .i64 0]), 3, 24))
    (ho : o.op = .call { callee := .builtin .append, args := #[s, x], argTypes := #[t, t] })
    (base : Nat) (v : Value) (xs : List (Int × Int × Int)) (hs : a.eval s = v) (hown : OwnT e w base v xs)
    (G : Nat) (y : Int × Int × Int) (t2 : TypeId) (hx : a.eval x = .slice (some ⟨G, 0, none⟩) 1 1) (hG : w.heap[G]? = some (.cells #[.int .i64 y.1, .int .i64 y.2.1, .int .i64 y.2.2] t2 (0, 0))) (hwf : wf3 y.1 y.2.1 y.2.2)
    (hl : xs.length ≤ 5864062014000) (hbase : base ≤ w.heap.size)
    (h : ∀ v' w', OwnT e w' base v' (xs ++ [y]) → Grow w v w' v' → wpList Tryd.prog ops Q rest (a.put o.dst v') w') : wpList Tryd.prog ops Q (o :: rest) a w := by
  obtain ⟨i0, hi, hz0, hz1, hz2⟩ := info_parts hinfo
  have hr : Reads w w.heap.size 3 (some ⟨G, 0, none⟩) 1 (tC y) := ⟨rfl, fun _ => ⟨_, rfl, size_of_block hG, fun j u hu => by
    rw [addr_add, cell_of_row _ G _ _ t2 (0, 0) hG]; simpa [tC] using hu⟩⟩
  refine wpList_append_any w hgd s x t ho base e i0 _ 3 24 ht hi hz0 hz1 hz2 (by rfl) (by omega) v xs.length _ hs hown.1 w.heap.size _ 1 1 (tC y) hx hr (one_tC y) (by simp only [maxLen]; omega) (by omega) hbase ?_
  intro v' w' h1 h2 h3
  refine h v' w' ⟨by simpa using h1, fun q hq => ?_⟩ ⟨h2, ?_⟩
  · rcases List.mem_append.1 hq with hq | hq
    · exact hown.2 q hq
    · simp only [List.mem_cons, List.not_mem_nil, or_false] at hq; subst hq; exact hwf
  · rcases h3 with h3 | h3
    · exact .inl h3
    · exact .inr ⟨_, h3, Nat.le_refl _⟩
theorem link_info : (Tryd.prog.info? 29).map (fun i => (i.zero, i.size, i.bytes)) = some (some (.agg #[.int .i64 0, .int .i64 0, .int .i64 0]), 3, 24) := by kernel_rfl
theorem bel_info : (Tryd.prog.info? 47).map (fun i => (i.zero, i.size, i.bytes)) = some (some (.agg #[.int .i64 0, .int .i64 0, .int .i64 0]), 3, 24) := by kernel_rfl
end Go.Proofs.YtccgaflbhpagcaaDoor
