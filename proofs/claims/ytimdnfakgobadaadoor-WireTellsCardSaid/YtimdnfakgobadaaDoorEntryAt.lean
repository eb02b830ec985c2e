/- One entry out of a slice of entries; one net out of a slice of nets. -/
import Derived.Test.YtimdnfakgobadaaDoorEntry
namespace Go.Proofs.YtimdnfakgobadaaDoor
open Go.ChangeShapes Go.WideShapes Go.ChangeAt Go.RowKit
theorem RdSlice.atE {w : World} {ok : Nat → Prop} {A : Option Addr} {n c : Nat} {xs : List Entry} (h : rdEntries w ok [.slice A n c] xs) {k : Nat} (hk : k < n) :
    ∃ b o a l t hp m, A = some ⟨b, o, none⟩ ∧ ok b ∧ Hid (xs[k]? = some ((a, l), t, hp, m)) ∧ ((Lit.int .u32 a).wf = true ∧ (Lit.int .i64 l).wf = true ∧ (Lit.int .i64 t).wf = true ∧ (Lit.int .u32 hp).wf = true ∧ (Lit.int .i64 m).wf = true) ∧
      w.cell? ⟨b, o + k * 5, none⟩ = some (.int .u32 a) ∧ w.cell? ⟨b, o + k * 5 + 1, none⟩ = some (.int .i64 l) ∧ w.cell? ⟨b, o + k * 5 + 2, none⟩ = some (.int .i64 t) ∧ w.cell? ⟨b, o + k * 5 + 3, none⟩ = some (.int .u32 hp) ∧ w.cell? ⟨b, o + k * 5 + 4, none⟩ = some (.int .i64 m) := by
  obtain ⟨b, o, x, cs, hA, hb, hx, _, hr, hc⟩ := h.at_ hk
  obtain ⟨⟨a, l⟩, t, hp, m⟩ := x
  obtain ⟨_, _, rfl, ⟨_, _, rfl, ⟨rfl, w0⟩, ⟨rfl, w1⟩⟩, _, _, rfl, ⟨rfl, w2⟩, _, _, rfl, ⟨rfl, w3⟩, ⟨rfl, w4⟩⟩ := hr
  exact ⟨b, o, a, l, t, hp, m, hA, hb, hx, ⟨w0, w1, w2, w3, w4⟩, hc 0 _ rfl, (by rw [Nat.add_assoc]; exact hc 1 _ rfl), (by rw [Nat.add_assoc]; exact hc 2 _ rfl), (by rw [Nat.add_assoc]; exact hc 3 _ rfl), (by rw [Nat.add_assoc]; exact hc 4 _ rfl)⟩
end Go.Proofs.YtimdnfakgobadaaDoor
