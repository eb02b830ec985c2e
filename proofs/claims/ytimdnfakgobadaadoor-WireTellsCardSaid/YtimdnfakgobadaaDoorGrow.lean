/- Rows of the call's own that grow by append, one step after the other. -/
import Derived.Test.YtimdnfakgobadaaDoorRd
namespace Go.Proofs.YtimdnfakgobadaaDoor
open Go.ChangeShapes Go.WideShapes Go.ChangeAt Go.RowKit
set_option linter.unusedVariables false

/-- from the world w with the row v to the world w' with the row v': new blocks, and writes to the row alone -/
def Grow (w : World) (v : Value) (w' : World) (v' : Value) : Prop :=
  w.grownBy w' v.ownBlock ∧ (v'.ownBlock = v.ownBlock ∨ ∃ g, v'.ownBlock = some g ∧ w.heap.size ≤ g)
theorem Grow.refl (w : World) (v : Value) : Grow w v w v := ⟨World.grownBy.refl _ _, .inl rfl⟩
theorem Grow.trans {a b c : World} {v v' v'' : Value} (h : Grow a v b v') (k : Grow b v' c v'') : Grow a v c v'' := by
  obtain ⟨h1, h2⟩ := h
  obtain ⟨k1, k2⟩ := k
  refine ⟨⟨by rw [k1.os, h1.os], by rw [k1.tape, h1.tape], by rw [k1.output, h1.output], Nat.le_trans h1.size k1.size, fun i hi hne => ?_⟩, ?_⟩
  · rw [k1.block i (Nat.lt_of_lt_of_le hi h1.size) ?_, h1.block i hi hne]
    rcases h2 with h2 | ⟨g, h2, hg⟩
    · rw [h2]; exact hne
    · rw [h2]; intro e; injection e with e; omega
  · rcases k2 with k2 | ⟨g, k2, hg⟩
    · rw [k2]; exact h2
    · exact .inr ⟨g, k2, Nat.le_trans h1.size hg⟩
theorem Grow.of_alloc {w w' : World} {v v' : Value} {o : Obj} (h : Grow (w.alloc o) v w' v') : Grow w v w' v' := by
  obtain ⟨h1, h2⟩ := h
  refine ⟨World.grownBy.trans (World.grownBy_alloc w o _) h1, ?_⟩
  rcases h2 with h2 | ⟨g, h2, hg⟩
  · exact .inl h2
  · exact .inr ⟨g, h2, by simp at hg; omega⟩
theorem Grow.below {B : Nat} {a w w' : World} {v v' : Value} {base : Nat} {e : TypeId} {size n : Nat} {xs : List Value} (h : Grow w v w' v') (hb : Below B a w) (hown : w.ownsRow base e size v n xs) (hB : B ≤ base) (hbw : B ≤ w.heap.size) : Below B a w' := below_grown hb hown h.1 hB hbw
theorem Grow.cell {w w' : World} {v v' : Value} (h : Grow w v w' v') {base : Nat} {e : TypeId} {size n : Nat} {xs : List Value} (hown : w.ownsRow base e size v n xs) {p : Addr} {B : Nat} (hlt : p.block < w.heap.size) (hne : ∀ g, v.ownBlock = some g → p.block ≠ g) : w'.cell? p = w.cell? p :=
  World.cell?_of_block (h.1.block p.block hlt (fun e => hne _ e.symm rfl))
theorem Grow.size {w w' : World} {v v' : Value} (h : Grow w v w' v') : w.heap.size ≤ w'.heap.size := h.1.size

/-- append on a row of bytes of the call's own. -/
theorem wpList_append_bytesG {P : Program} (w : World) {ops : Array Oper} {rest : List Oper} {o : Oper} {a : Act} {Q : Exit → Act → World → Prop} (hgd : o.guard = none) (s x : Operand) (t : TypeId)
    (ho : o.op = .call { callee := .builtin .append, args := #[s, x], argTypes := #[t, t] })
    (base : Nat) (e : TypeId) (ht : P.underlying t = some (.slice e)) (hinfo : (P.info? e).map (fun i => (i.zero, i.size, i.bytes)) = some (some (.int .u8 0), 1, 1))
    (v : Value) (l : List Int) (hs : a.eval s = v) (hown : OwnB e w base v l)
    (B : Nat) (A : Option Addr) (m c : Nat) (l2 : List Int) (hx : a.eval x = .slice A m c) (hm : m = l2.length) (hr : Bytes w B A l2)
    (hbytes : l.length + l2.length ≤ 140737488355328) (hbase : base ≤ w.heap.size)
    (h : ∀ v' w', OwnB e w' base v' (l ++ l2) → Grow w v w' v' → wpList P ops Q rest (a.put o.dst v') w') : wpList P ops Q (o :: rest) a w := by
  subst hm
  obtain ⟨i0, hi, hz0, hz1, hz2⟩ := info_parts hinfo
  refine wpList_append_any w hgd s x t ho base e i0 _ 1 1 ht hi hz0 hz1 hz2 rfl (by omega) v l.length _ hs hown.1 B A l2.length c _ hx hr.1 ?_ (by simp only [maxLen]; omega) (by omega) hbase ?_
  · intro u hu
    obtain ⟨y, _, rfl⟩ := List.mem_map.1 hu
    rfl
  · intro v' w' h1 h2 h3
    refine h v' w' ⟨by simpa using h1, fun y hy => ?_⟩ ⟨h2, ?_⟩
    · rcases List.mem_append.1 hy with hy | hy
      · exact hown.2 y hy
      · exact hr.2 y hy
    · rcases h3 with h3 | h3
      · exact .inl h3
      · exact .inr ⟨_, h3, Nat.le_refl _⟩
end Go.Proofs.YtimdnfakgobadaaDoor
