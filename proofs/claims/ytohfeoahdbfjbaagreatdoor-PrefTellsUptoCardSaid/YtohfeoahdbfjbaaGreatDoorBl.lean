/- Blocks of the call's own that lie on behind calls: a list of them; facts that are laid for the walks of the laws on nets. -/
import Derived.Test.YtohfeoahdbfjbaaGreatDoorKnown
import Derived.BigQuiet
namespace Go.Proofs.YtohfeoahdbfjbaaGreatDoor
open Go.ChangeShapes Go.WideShapes Go.ChangeAt Go.RowKit
set_option linter.unusedVariables false
abbrev netB (a l : Int) : Obj := .cells #[.int .u32 a, .int .i64 l] 24 (0, 0)
theorem less_c {w : World} {a l b m : Int} {r : Bool} (h : lessB (a, l) (b, m) = r) (d : Nat) (os : Array Obj) :
    Calls Tryz.prog 14 #[.agg #[.int .u32 a, .int .i64 l], .agg #[.int .u32 b, .int .i64 m]] (Sort.grow (redrawn w d) os) fun e w'' => e = .returned (.bool r) ∧ ∃ p : Regrown, w'' = Sort.grow (redrawn w p.d) p.os :=
  Calls.regrown_of ((Less_any a l b m _).mono fun e w' ⟨he, hb⟩ => ⟨by rw [he, h], hb⟩)
theorem less_is {a l b m : Int} {r : Bool} (h : lessB (a, l) (b, m) = r) (w : World) :
    Calls Tryz.prog 14 #[.agg #[.int .u32 a, .int .i64 l], .agg #[.int .u32 b, .int .i64 m]] w fun e w' => e = .returned (.bool r) ∧ Below w.heap.size w w' :=
  (Less_any a l b m _).mono fun e w' ⟨he, hb⟩ => ⟨by rw [he, h], hb⟩
theorem in_is {a l b m : Int} {r : Bool} (h : inB (a, l) (b, m) = r) (ha : is32 a) (hb : is32 b) (w : World) :
    Calls Tryz.prog 12 #[.agg #[.int .u32 a, .int .i64 l], .agg #[.int .u32 b, .int .i64 m]] w fun e w' => e = .returned (.bool r) ∧ Below w.heap.size w w' :=
  (In_any a l b m _ ha hb).mono fun e w' ⟨he, hb⟩ => ⟨by rw [he, h], hb⟩
theorem has_is {a l x : Int} {r : Bool} (h : hasB (a, l) x = r) (ha : is32 a) (hx : is32 x) (w : World) :
    Calls Tryz.prog 10 #[.agg #[.int .u32 a, .int .i64 l], .int .u32 x] w fun e w' => e = .returned (.bool r) ∧ Below w.heap.size w w' :=
  (Has_any a l x _ ha hx).mono fun e w' ⟨he, hb⟩ => ⟨by rw [he, h], hb⟩
theorem B3.grow {W w : World} {o1 o2 o3 : Obj} (h : B3 W o1 o2 o3 w) (d : Nat) (os : Array Obj) : B3 W o1 o2 o3 (Sort.grow (redrawn w d) os) := h.below (below_regrown w d os)
theorem is32_lo {a : Int} (h : is32 a) : 0 ≤ a := h.1
theorem is32_hi {a : Int} (h : is32 a) : a ≤ 4294967295 := h.2
theorem netV_mk (a l : Int) : netV (a, l) = .agg #[.int .u32 a, .int .i64 l] := rfl
structure BL (W : World) (L : List (Nat × Obj)) (w : World) : Prop where
  bel : Below W.heap.size W w
  blk : ∀ g o, (g, o) ∈ L → w.heap[g]? = some o
theorem BL.below {W w w' : World} {L : List (Nat × Obj)} (h : BL W L w) (hb : Below w.heap.size w w') : BL W L w' :=
  ⟨h.bel.trans (hb.mono h.bel.size), fun g o hm => below_block hb (size_of_block (h.blk g o hm)) (h.blk g o hm)⟩
theorem BL.push {W w : World} {L : List (Nat × Obj)} (h : BL W L w) (o : Obj) : BL W ((w.heap.size, o) :: L) (w.alloc o) := by
  have h1 := h.below (w' := w.alloc o) ((Below.refl _ _).alloc (Nat.le_refl _) o)
  refine ⟨h1.bel, fun g o' hm => ?_⟩
  rcases List.mem_cons.1 hm with e | hm
  · cases e; exact heap_alloc_new w o
  · exact h1.blk g o' hm
theorem BL.push2 {W w : World} {L : List (Nat × Obj)} (h : BL W L w) (o o2 : Obj) : BL W ((w.heap.size + 1, o2) :: (w.heap.size, o) :: L) ((w.alloc o).alloc o2) := by
  have := (h.push o).push o2
  rwa [World.size_alloc] at this
theorem BL.start (W : World) : BL W [] W := ⟨Below.refl _ _, fun g o hm => by cases hm⟩
theorem BL.start1 (W : World) (o : Obj) : BL W [(W.heap.size, o)] (W.alloc o) := (BL.start W).push o
theorem BL.start3 (W : World) (o1 o2 o3 : Obj) : BL W [(W.heap.size + 2, o3), (W.heap.size + 1, o2), (W.heap.size, o1)] (((W.alloc o1).alloc o2).alloc o3) := by
  have := ((BL.start W).push2 o1 o2).push o3
  rwa [World.size_alloc, World.size_alloc] at this
end Go.Proofs.YtohfeoahdbfjbaaGreatDoor
