/- A block of the call's own whose cells are known one by one, as a list. -/
import Derived.Test.YtnihheikaddmoaaDoorBlk
import Derived.Test.YtnihheikaddmoaaDoorRd
import Derived.Laws.OwnMore
import Derived.Laws.MakeOwn
namespace Go.Proofs.YtnihheikaddmoaaDoor
open Go.ChangeShapes Go.WideShapes Go.ChangeAt Go.RowKit
set_option linter.unusedVariables false
def Blk (w : World) (g : Nat) (t : TypeId) (vs : List Value) : Prop := w.heap[g]? = some (.cells vs.toArray t (0, 0))
theorem Blk.lt {w : World} {g : Nat} {t : TypeId} {vs : List Value} (h : Blk w g t vs) : g < w.heap.size := size_of_block h
theorem Blk.get {w : World} {g : Nat} {t : TypeId} {vs : List Value} (h : Blk w g t vs) {i : Nat} {v : Value} (hi : vs[i]? = some v) : w.cell? ⟨g, i, none⟩ = some v := by
  rw [cell_of_row _ g _ _ t (0, 0) h]; simpa using hi
theorem Blk.free {w : World} {g : Nat} {t : TypeId} {vs : List Value} (h : Blk w g t vs) (i : Nat) : w.frozen? ⟨g, i, none⟩ = false := frozen_of_row _ g _ _ _ h
theorem Blk.set {w : World} {g : Nat} {t : TypeId} {vs : List Value} (h : Blk w g t vs) (i : Nat) (v : Value) : Blk (w.setCell ⟨g, i, none⟩ v) g t (vs.set i v) := by
  have := heap_setCell_same w g i _ _ v h
  unfold Blk
  rw [this]; simp
theorem Blk.below {w w' : World} {g B : Nat} {t : TypeId} {vs : List Value} (h : Blk w g t vs) (hb : Below B w w') (hg : g < B) : Blk w' g t vs := below_block hb hg h
theorem Blk.alloc {w : World} {g : Nat} {t : TypeId} {vs : List Value} (h : Blk w g t vs) (o : Obj) : Blk (w.alloc o) g t vs := h.below ((Below.refl _ _).alloc (Nat.le_refl _) o) h.lt
theorem Blk.new (w : World) (t : TypeId) (vs : List Value) : Blk (w.alloc (.cells vs.toArray t)) w.heap.size t vs := heap_alloc_new w _
theorem Blk.setOther {w : World} {g : Nat} {t : TypeId} {vs : List Value} (h : Blk w g t vs) {a : Addr} (ha : a.block ≠ g) (v : Value) : Blk (w.setCell a v) g t vs := by
  unfold Blk
  rw [← h]
  exact heap_setCell_other _ _ _ _ (fun e => ha e.symm)
theorem made_list (z : Value) (n : Nat) : madeCells #[z] n = (List.replicate n z).toArray := by
  apply Array.ext'
  rw [toList_madeCells_one]
/-- make of n elements of one cell -/
theorem run_make_list {P : Program} (t e : TypeId) (z : Value) (b : Nat) (ht : P.underlying t = some (.slice e)) (hinfo : (P.info? e).map (fun i => (i.zero, i.size, i.bytes)) = some (some z, 1, b)) (hz : z.cells = #[z]) (n : Nat) (hn : n ≤ 1000000) (hb : b ≤ 64) (W : World) :
    (Instr.makeSlice t (.int .i64 (n : Int)) (.int .i64 (n : Int))).run P W = .ok (.slice (some ⟨W.heap.size, 0, none⟩) n n) (W.alloc (.cells (List.replicate n z).toArray e)) := by
  obtain ⟨i0, hi0, hz0, hz1, hz2⟩ := info_parts hinfo
  have hm : n * 64 ≤ 140737488355328 := by omega
  have h := run_make_rowN (P := P) t e i0 _ ht hi0 hz0 .i64 .i64 n n (Nat.le_refl _) (by rw [hz2]; have := Nat.mul_le_mul_right n hb; omega) (by omega) W
  rw [hz1, Nat.mul_one, hz, made_list] at h
  exact h
end Go.Proofs.YtnihheikaddmoaaDoor
