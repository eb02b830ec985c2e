/- A block of two cells of the call's own: what it reads as, behind calls and behind stores. -/
import Derived.Test.YtplojnlmofbneaaDoorWords
namespace Go.Proofs.YtplojnlmofbneaaDoor
open Go.ChangeShapes Go.WideShapes Go.ChangeAt Go.RowKit
theorem size_of_block {w : World} {g : Nat} {o : Obj} (h : w.heap[g]? = some o) : g < w.heap.size := by
  rcases Nat.lt_or_ge g w.heap.size with h' | h'
  · exact h'
  · rw [Array.getElem?_eq_none h'] at h; cases h
theorem row2 {w : World} {R : Nat} {v0 v1 : Value} {t : TypeId} (h : w.heap[R]? = some (.cells #[v0, v1] t (0, 0))) :
    w.cell? ⟨R, 0, none⟩ = some v0 ∧ w.cell? ⟨R, 1, none⟩ = some v1 ∧ w.frozen? ⟨R, 0, none⟩ = false ∧ w.frozen? ⟨R, 1, none⟩ = false := by
  refine ⟨?_, ?_, frozen_of_row _ R _ _ _ h, frozen_of_row _ R _ _ _ h⟩ <;> rw [cell_of_row _ R _ _ _ (0, 0) h] <;> rfl
theorem set2_block {w : World} {R : Nat} {c0 c1 : Value} (v0 v1 : Value) {t : TypeId} (h : w.heap[R]? = some (.cells #[c0, c1] t (0, 0))) :
    ((w.setCell ⟨R, 0, none⟩ v0).setCell ⟨R, 1, none⟩ v1).heap[R]? = some (.cells #[v0, v1] t (0, 0)) :=
  heap_setCell_same _ R 1 _ _ v1 (heap_setCell_same w R 0 _ _ v0 h)
theorem below_block {B : Nat} {w w' : World} {g : Nat} {o : Obj} (hb : Below B w w') (hg : g < B) (h : w.heap[g]? = some o) : w'.heap[g]? = some o := (hb.block _ hg).trans h
/-- behind two boxes: the second one -/
theorem box2 {w w' : World} {o1 o2 : Obj} (hb : Below ((w.alloc o1).alloc o2).heap.size ((w.alloc o1).alloc o2) w') : w'.heap[w.heap.size]? = some o1 ∧ w'.heap[w.heap.size + 1]? = some o2 := by
  have h2 := heap_alloc_new (w.alloc o1) o2
  rw [World.size_alloc] at h2
  exact ⟨below_block hb (by simp; omega) ((((Below.refl (w.heap.size + 1) (w.alloc o1)).alloc (by simp) o2).block w.heap.size (by omega)).trans (heap_alloc_new w o1)), below_block hb (by simp) h2⟩
theorem box3 {w w' : World} {o1 o2 o3 : Obj} (hb : Below (((w.alloc o1).alloc o2).alloc o3).heap.size (((w.alloc o1).alloc o2).alloc o3) w') : w'.heap[w.heap.size]? = some o1 ∧ w'.heap[w.heap.size + 1]? = some o2 ∧ w'.heap[w.heap.size + 2]? = some o3 := by
  have hb2 : Below ((w.alloc o1).alloc o2).heap.size ((w.alloc o1).alloc o2) w' := ((Below.refl _ _).alloc (Nat.le_refl _) o3).trans (hb.mono (by simp))
  have h3 := heap_alloc_new ((w.alloc o1).alloc o2) o3
  rw [World.size_alloc, World.size_alloc] at h3
  exact ⟨(box2 hb2).1, (box2 hb2).2, below_block hb (by simp) h3⟩
/-- a row of the call's own lies on behind what only makes new blocks -/
theorem own_below {w w' : World} {base : Nat} {e : TypeId} {size : Nat} {v : Value} {n : Nat} {xs : List Value} (h : w.ownsRow base e size v n xs) (hb : Below w.heap.size w w') : w'.ownsRow base e size v n xs :=
  h.kept (row := none) ⟨hb.os, hb.tape, hb.output, hb.size, fun k hk _ => hb.block k hk⟩ (by cases v.ownBlock with
    | none => exact .inl rfl
    | some g => exact .inr (by simp))
/-- a row of the call's own that is not empty: where it lies, and its cells -/
theorem own_pos {w : World} {base : Nat} {e : TypeId} {size : Nat} {v : Value} {n : Nat} {xs : List Value} (h : w.ownsRow base e size v n xs) (hn : 0 < n) :
    ∃ g cap, v = .slice (some ⟨g, 0, none⟩) n cap ∧ base ≤ g ∧ g < w.heap.size ∧ n ≤ cap ∧ ∀ j u, xs[j]? = some u → w.cell? ⟨g, 0 + j, none⟩ = some u := by
  have h' := h
  rcases h'.2 with ⟨_, e2⟩ | ⟨g, cap, cur, e1, hg, hb, hc, _, _, _⟩
  · omega
  · subst e1
    refine ⟨g, cap, rfl, hg, size_of_block hb, hc, fun j u hu => ?_⟩
    have := h.cells (g := g) rfl j u hu
    rwa [addr_add] at this
end Go.Proofs.YtplojnlmofbneaaDoor
