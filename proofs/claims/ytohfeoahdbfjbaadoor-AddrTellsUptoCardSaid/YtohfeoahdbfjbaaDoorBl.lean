/- Blocks of the call's own that lie on behind calls: a list of them; facts that are laid for the walks of the laws on nets. -/
import Derived.Test.YtohfeoahdbfjbaaDoorKnown
import Derived.Test.YtohfeoahdbfjbaaDoorPrefOrder
namespace Go.Proofs.YtohfeoahdbfjbaaDoor
open Go.ChangeShapes Go.WideShapes Go.ChangeAt Go.RowKit
set_option linter.unusedVariables false
theorem is32_lo {a : Int} (h : is32 a) : 0 ≤ a := h.1
theorem is32_hi {a : Int} (h : is32 a) : a ≤ 4294967295 := h.2
theorem netV_mk (a l : Int) : netV (a, l) = .agg #[.int .u32 a, .int .i64 l] := rfl
structure BL (W : World) (L : List (Nat × Obj)) (w : World) : Prop where
  bel : Below W.heap.size W w
  blk : ∀ g o, (g, o) ∈ L → w.heap[g]? = some o
theorem BL.below {W w w' : World} {L : List (Nat × Obj)} (h : BL W L w) (hb : Below w.heap.size w w') : BL W L w' :=
  ⟨h.bel.trans (hb.mono h.bel.size), fun g o hm => below_block hb (size_of_block (h.blk g o hm)) (h.blk g o hm)⟩
theorem BL.push {W w : World} {L : List (Nat × Obj)} (h : BL W L w) (o : Obj) : BL W ((w.heap.size, o) :: L) (w.alloc o) := by
  have h1 := h.below (w' := w.alloc o) ((Below.refl _ _).alloc (Nat.le_refl _) o)
  refine ⟨h1.bel, fun g o' hm => ?_⟩
  rcases List.mem_cons.1 hm with e | hm
  · cases e; exact heap_alloc_new w o
  · exact h1.blk g o' hm
theorem BL.push2 {W w : World} {L : List (Nat × Obj)} (h : BL W L w) (o o2 : Obj) : BL W ((w.heap.size + 1, o2) :: (w.heap.size, o) :: L) ((w.alloc o).alloc o2) := by
  have := (h.push o).push o2
  rwa [World.size_alloc] at this
theorem BL.start (W : World) : BL W [] W := ⟨Below.refl _ _, fun g o hm => by cases hm⟩
theorem BL.start1 (W : World) (o : Obj) : BL W [(W.heap.size, o)] (W.alloc o) := (BL.start W).push o
theorem BL.start3 (W : World) (o1 o2 o3 : Obj) : BL W [(W.heap.size + 2, o3), (W.heap.size + 1, o2), (W.heap.size, o1)] (((W.alloc o1).alloc o2).alloc o3) := by
  have := ((BL.start W).push2 o1 o2).push o3
  rwa [World.size_alloc, World.size_alloc] at this
end Go.Proofs.YtohfeoahdbfjbaaDoor
