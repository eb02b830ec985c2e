/- Answered: what all its ways share. -/
import Derived.Test.YtgdlkjahlajcpaaGreatDoorAO
import Derived.Test.YtgdlkjahlajcpaaGreatDoorAB
import Derived.BigQuiet
import Derived.Deep.RegionHeld3
namespace Go.Proofs.YtgdlkjahlajcpaaGreatDoor
open Go.ChangeShapes Go.WideShapes Go.ChangeAt Go.RowKit
set_option linter.unusedVariables false
set_option linter.unusedSimpArgs false
abbrev rdInts1 : Rdr (List Int) := RdSlice 1 (rdInt .i64)
structure TabR (M : Nat → Prop) (w : World) (m : Tab) (A : Option Addr) (n c : Nat) (A' : Option Addr) (n' c' : Nat) : Prop where
  n0 : rdNets w (fun g => g < w.heap.size ∧ ¬ M g) [.slice A n c] (keysM m)
  v0 : rdInts1 w (fun g => g < w.heap.size ∧ ¬ M g) [.slice A' n' c'] (valsM m)
section
variable {M : Nat → Prop} {w w' : World} {m : Tab} {A A' : Option Addr} {n c n' c' : Nat}
theorem TabR.nets (h : TabR M w m A n c A' n' c') : R1 rdNets w (.slice A n c) (keysM m) := RdLaw.mono h.n0 fun g hg => hg.1
theorem TabR.vals (h : TabR M w m A n c A' n' c') : R1 rdInts1 w (.slice A' n' c') (valsM m) := RdLaw.mono h.v0 fun g hg => hg.1
theorem TabR.below (h : TabR M w m A n c A' n' c') (hb : Below w.heap.size w w') : TabR M w' m A n c A' n' c' :=
  ⟨RdLaw.mono (RdLaw.keep h.n0 fun _ hp => hb.cell hp.1) fun _ hp => ⟨Nat.lt_of_lt_of_le hp.1 hb.size, hp.2⟩, RdLaw.mono (RdLaw.keep h.v0 fun _ hp => hb.cell hp.1) fun _ hp => ⟨Nat.lt_of_lt_of_le hp.1 hb.size, hp.2⟩⟩
theorem TabR.store (h : TabR M w m A n c A' n' c') {T : Nat} (hT : M T) (u v : Value) : TabR M ((w.setCell ⟨T, 0, none⟩ u).setCell ⟨T, 1, none⟩ v) m A n c A' n' c' := by
  have e : ∀ p : Addr, p.block < w.heap.size ∧ ¬ M p.block → ((w.setCell ⟨T, 0, none⟩ u).setCell ⟨T, 1, none⟩ v).cell? p = w.cell? p := fun p hp => by
    have hne : p.block ≠ T := fun e => hp.2 (by rw [e]; exact hT)
    exact World.cell?_of_block ((heap_setCell_other _ _ _ _ hne).trans (heap_setCell_other _ _ _ _ hne))
  have es : ((w.setCell ⟨T, 0, none⟩ u).setCell ⟨T, 1, none⟩ v).heap.size = w.heap.size := by simp
  exact ⟨RdLaw.mono (RdLaw.keep h.n0 e) fun _ hp => ⟨by rw [es]; exact hp.1, hp.2⟩, RdLaw.mono (RdLaw.keep h.v0 e) fun _ hp => ⟨by rw [es]; exact hp.1, hp.2⟩⟩
theorem TabR.grow {v v' : Value} (h : TabR M w m A n c A' n' c') (hg : Grow w v w' v') (hv : ∀ b, v.ownBlock = some b → M b) : TabR M w' m A n c A' n' c' := by
  have e : ∀ p : Addr, p.block < w.heap.size ∧ ¬ M p.block → w'.cell? p = w.cell? p := fun p hp =>
    World.cell?_of_block (hg.1.block p.block hp.1 fun e => hp.2 (hv _ e.symm))
  exact ⟨RdLaw.mono (RdLaw.keep h.n0 e) fun _ hp => ⟨Nat.lt_of_lt_of_le hp.1 hg.size, hp.2⟩, RdLaw.mono (RdLaw.keep h.v0 e) fun _ hp => ⟨Nat.lt_of_lt_of_le hp.1 hg.size, hp.2⟩⟩
theorem TabR.swap {M' : Nat → Prop} (h : TabR M w m A n c A' n' c') (hM : ∀ b, b < w.heap.size → M' b → M b) : TabR M' w m A n c A' n' c' :=
  ⟨RdLaw.mono h.n0 fun g hg => ⟨hg.1, fun e => hg.2 (hM g hg.1 e)⟩, RdLaw.mono h.v0 fun g hg => ⟨hg.1, fun e => hg.2 (hM g hg.1 e)⟩⟩
theorem TabR.nil_ (M : Nat → Prop) (w : World) : TabR M w [] none 0 0 none 0 0 :=
  ⟨⟨none, 0, rfl, Nat.le_refl _, by decide, fun h => absurd h (by decide)⟩, ⟨none, 0, rfl, Nat.le_refl _, by decide, fun h => absurd h (by decide)⟩⟩
end
def AnsPost (M : Nat → Prop) (w : World) (r : Ans × Tab) (e : Ending) (w' : World) : Prop := ∃ B k d B' k' d', e = .returned (.tuple #[.agg #[.slice B k d, .slice B' k' d'], strV (ansT r.1)]) ∧ TabR M w' r.2 B k d B' k' d' ∧ Below w.heap.size w w'
theorem ans_end {W : World} {R : Nat} {a : Act} {v0 v1 v : Value} {t : TypeId} {K : Ending → World → Prop} (h : W.heap[R]? = some (.cells #[v0, v1] t (0, 0))) (h2 : a.tmps[4]?.getD undef = .pointer (some ⟨R, 0, none⟩)) (h3 : a.tmps[5]?.getD undef = v) (hd : a.defers = [])
    (hK : K (.returned (.tuple #[.agg #[v0, v1], v])) W) : bodyPost Tryz.prog Tryz.f8 K .ret a W := by
  have e0 : W.cell? ⟨R, 0, none⟩ = some v0 := by rw [cell_of_row _ R _ _ _ (0, 0) h]; rfl
  have e1 : W.cell? ⟨R, 1, none⟩ = some v1 := by rw [cell_of_row _ R _ _ _ (0, 0) h]; rfl
  exact bodyPost_ret (by simp [results, Tryz.results8, go_sem, h2, h3, e0, e1]) hd hK
abbrev tbO (A : Option Addr) (n c : Nat) (A' : Option Addr) (n' c' : Nat) : Obj := .cells #[.slice A n c, .slice A' n' c'] 29 (0, 0)
structure AB (W : World) (A : Option Addr) (n c : Nat) (A' : Option Addr) (n' c' : Nat) (u v : Value) (w : World) : Prop where
  bel : Below W.heap.size W w
  tb : w.heap[W.heap.size]? = some (tbO A n c A' n' c')
  rs : w.heap[W.heap.size + 1]? = some (.cells #[u, v] 29 (0, 0))
section
variable {W w w' : World} {A A' : Option Addr} {n c n' c' : Nat} {u v : Value}
theorem AB.below (h : AB W A n c A' n' c' u v w) (hb : Below w.heap.size w w') : AB W A n c A' n' c' u v w' :=
  ⟨h.bel.trans (hb.mono h.bel.size), below_block hb (size_of_block h.tb) h.tb, below_block hb (size_of_block h.rs) h.rs⟩
theorem AB.start (W : World) (A : Option Addr) (n c : Nat) (A' : Option Addr) (n' c' : Nat) : AB W A n c A' n' c' (.slice none 0 0) (.slice none 0 0) ((W.alloc (tbO A n c A' n' c')).alloc (.cells #[.slice none 0 0, .slice none 0 0] 29)) := by
  obtain ⟨h1, h2⟩ := box2 (Below.refl ((W.alloc (tbO A n c A' n' c')).alloc (.cells #[.slice none 0 0, .slice none 0 0] 29)).heap.size ((W.alloc (tbO A n c A' n' c')).alloc (.cells #[.slice none 0 0, .slice none 0 0] 29)))
  exact ⟨((Below.refl W.heap.size W).alloc (Nat.le_refl _) _).alloc (by simp) _, h1, h2⟩
theorem AB.laid (h : AB W A n c A' n' c' u v w) (a b : Value) : AB W A n c A' n' c' a b ((w.setCell ⟨W.heap.size + 1, 0, none⟩ a).setCell ⟨W.heap.size + 1, 1, none⟩ b) := by
  refine ⟨(h.bel.setCell (p := ⟨W.heap.size + 1, 0, none⟩) (by simp) _).setCell (p := ⟨W.heap.size + 1, 1, none⟩) (by simp) _, ?_, set2_block _ _ h.rs⟩
  exact ((heap_setCell_other _ _ _ _ (show W.heap.size ≠ W.heap.size + 1 by omega)).trans (heap_setCell_other _ _ _ _ (show W.heap.size ≠ W.heap.size + 1 by omega))).trans h.tb
theorem AnsPost.same {M : Nat → Prop} {m : Tab} {a : Ans} (h : AB W A n c A' n' c' u v w) (hT : TabR M W m A n c A' n' c') : AnsPost M W (a, m) (.returned (.tuple #[.agg #[.slice A n c, .slice A' n' c'], strV (ansT a)])) w :=
  ⟨_, _, _, _, _, _, rfl, hT.below h.bel, h.bel⟩
end
end Go.Proofs.YtgdlkjahlajcpaaGreatDoor
