/- One link out of a slice of links. -/
import Derived.Test.YtccgaflbhpagcaaDoorTypes
namespace Go.Proofs.YtccgaflbhpagcaaDoor
open Go.ChangeShapes Go.WideShapes Go.ChangeAt Go.RowKit
theorem RdSlice.atL {w : World} {ok : Nat → Prop} {A : Option Addr} {n c : Nat} {xs : List (Int × Int × Int)} (h : rdLinks w ok [.slice A n c] xs) {k : Nat} (hk : k < n) :
    ∃ b o x y z, A = some ⟨b, o, none⟩ ∧ ok b ∧ Hid (xs[k]? = some (x, y, z)) ∧ ((Lit.int .i64 x).wf = true ∧ (Lit.int .i64 y).wf = true ∧ (Lit.int .i64 z).wf = true) ∧ w.cell? ⟨b, o + k * 3, none⟩ = some (.int .i64 x) ∧ w.cell? ⟨b, o + k * 3 + 1, none⟩ = some (.int .i64 y) ∧ w.cell? ⟨b, o + k * 3 + 2, none⟩ = some (.int .i64 z) := by
  obtain ⟨b, o, x, cs, hA, hb, hx, _, hr, hc⟩ := h.at_ hk
  obtain ⟨x, y, z⟩ := x
  obtain ⟨_, _, rfl, ⟨rfl, w0⟩, ⟨_, _, rfl, ⟨rfl, w1⟩, ⟨rfl, w2⟩⟩⟩ := hr
  exact ⟨b, o, x, y, z, hA, hb, hx, ⟨w0, w1, w2⟩, hc 0 _ rfl, (by rw [Nat.add_assoc]; exact hc 1 _ rfl), (by rw [Nat.add_assoc]; exact hc 2 _ rfl)⟩
end Go.Proofs.YtccgaflbhpagcaaDoor
