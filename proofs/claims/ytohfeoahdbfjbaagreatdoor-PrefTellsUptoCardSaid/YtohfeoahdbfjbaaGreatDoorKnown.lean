/- The constant that is known; a net that comes in. -/
import Derived.Test.YtohfeoahdbfjbaaGreatDoorPrefT
namespace Go.Proofs.YtohfeoahdbfjbaaGreatDoor
open Go.ChangeShapes Go.WideShapes Go.ChangeAt Go.RowKit
set_option linter.unusedVariables false
set_option linter.unusedSimpArgs false

theorem known_text : (⟨#[49, 48, 46, 48, 46, 48, 46, 48, 47, 56]⟩ : ByteArray).data.toList = netT 167772160 8 := by
  have e1 : dd 10 = [49, 48] := by rw [dd_big (by decide), dd_small (by decide)]; rfl
  have e2 : dd 0 = [48] := by rw [dd_small (by decide)]; rfl
  have e3 : dd 8 = [56] := by rw [dd_small (by decide)]; rfl
  show [49, 48, 46, 48, 46, 48, 46, 48, 47, 56] = (dd 10 ++ 46 :: (dd 0 ++ 46 :: (dd 0 ++ 46 :: dd 0))) ++ 47 :: dd 8
  rw [e1, e2, e3]; rfl
set_option maxHeartbeats 400000 in
theorem known_any (w : World) (hw : HStr w) :
    Calls Tryz.prog 4 #[] w fun e w' => e = .returned (.bool true) ∧ Below w.heap.size w w' := by
  have HW := Lib.hid hw
  clear hw
  go_enter Tryz.func4, Tryz.ntmps4
  go_wp2_with (first
    | (go_at_call 9; refine (NParse_ok 167772160 8 _ _ HW.out (by decide) (by decide) known_text).mono ?_; rintro e w1 ⟨rfl, hb1⟩)
    | fail)
  go_ret
  exact ⟨rfl, hb1.alloc hb1.size _⟩
/-- a net that comes in -/
theorem net_parts {w : World} {A : Array Value} {x : Int × Int} (h : RV rdNet w (.agg A) x) : ∃ a l : Int, x = (a, l) ∧ A = #[.int .u32 a, .int .i64 l] ∧ is32 a ∧ -9223372036854775808 ≤ l ∧ l ≤ 9223372036854775807 := by
  obtain ⟨c0, c1, e, ⟨e0, w0⟩, ⟨e1, w1⟩⟩ := h
  obtain ⟨a, l⟩ := x
  subst e0; subst e1
  have e2 : A.toList = [.int .u32 a, .int .i64 l] := by simpa [Value.cells] using e
  have b1 := bounds_i64 w1
  exact ⟨a, l, rfl, by rw [← Array.toArray_toList (xs := A), e2], bounds_u32 w0, by omega, by omega⟩
/-- the boxes of the parameters lie on -/
structure B3 (W : World) (o1 o2 o3 : Obj) (w : World) : Prop where
  bel : Below W.heap.size W w
  h1 : w.heap[W.heap.size]? = some o1
  h2 : w.heap[W.heap.size + 1]? = some o2
  h3 : w.heap[W.heap.size + 2]? = some o3
theorem B3.start (W : World) (o1 o2 o3 : Obj) : B3 W o1 o2 o3 (((W.alloc o1).alloc o2).alloc o3) := by
  obtain ⟨e1, e2, e3⟩ := box3 (Below.refl _ (((W.alloc o1).alloc o2).alloc o3))
  exact ⟨below_3 W o1 o2 o3, e1, e2, e3⟩
theorem B3.below {W w w' : World} {o1 o2 o3 : Obj} (h : B3 W o1 o2 o3 w) (hb : Below w.heap.size w w') : B3 W o1 o2 o3 w' :=
  ⟨h.bel.trans (hb.mono h.bel.size), below_block hb (size_of_block h.h1) h.h1, below_block hb (size_of_block h.h2) h.h2, below_block hb (size_of_block h.h3) h.h3⟩
theorem B3.drewN {W w : World} {o1 o2 o3 : Obj} (h : B3 W o1 o2 o3 w) (k : Nat) : B3 W o1 o2 o3 (w.drewN k) := h.below (below_drewN (Below.refl _ _) k)
theorem B3.alloc {W w : World} {o1 o2 o3 : Obj} (h : B3 W o1 o2 o3 w) (o : Obj) : B3 W o1 o2 o3 (w.alloc o) := h.below ((Below.refl _ _).alloc (Nat.le_refl _) o)
theorem B3.cells {W w : World} {a0 a1 b0 b1 c0 c1 : Value} {t : TypeId} (h : B3 W (.cells #[a0, a1] t (0, 0)) (.cells #[b0, b1] t (0, 0)) (.cells #[c0, c1] t (0, 0)) w) :
    w.cell? ⟨W.heap.size, 0, none⟩ = some a0 ∧ w.cell? ⟨W.heap.size, 1, none⟩ = some a1 ∧ w.cell? ⟨W.heap.size + 1, 0, none⟩ = some b0 ∧ w.cell? ⟨W.heap.size + 1, 1, none⟩ = some b1 ∧ w.cell? ⟨W.heap.size + 2, 0, none⟩ = some c0 ∧ w.cell? ⟨W.heap.size + 2, 1, none⟩ = some c1 :=
  ⟨(row2 h.h1).1, (row2 h.h1).2.1, (row2 h.h2).1, (row2 h.h2).2.1, (row2 h.h3).1, (row2 h.h3).2.1⟩
end Go.Proofs.YtohfeoahdbfjbaaGreatDoor
