/- What the law on tables holds beside the table: the reference's table in a block of the law's own. -/
import Derived.Test.YtplojnlmofbneaaDoorTrieV
import Derived.Test.YtplojnlmofbneaaDoorTrieO
import Derived.Test.YtplojnlmofbneaaDoorTrieK
import Derived.Test.YtplojnlmofbneaaDoorTrieS
import Derived.Test.YtplojnlmofbneaaDoorRefH
namespace Go.Proofs.YtplojnlmofbneaaDoor
open Go.ChangeShapes Go.WideShapes Go.ChangeAt Go.RowKit
set_option linter.unusedVariables false
set_option linter.unusedSimpArgs false
theorem OwnI.readS {w : World} {base : Nat} {v : Value} {xs : List Int} (h : OwnI 3 w base v xs) {S : Nat → Prop} (hS : ∀ g, base ≤ g → g < w.heap.size → S g) : RdSlice 1 (rdInt .i64) w S [v] xs := by
  obtain ⟨A, c, rfl⟩ := h.form
  refine RdSlice.of_own (xs := xs) h.1 rfl (fun g hg => hS g (own_blk h.1 g hg).1 (own_blk h.1 g hg).2) (fun i x hi => ⟨[.int .i64 x], rfl, ⟨rfl, h.2 x (List.mem_of_getElem? hi)⟩, fun j u hu => ?_⟩)
  have hj : j < 1 := by have := (List.getElem?_eq_some_iff.1 hu).1; simpa using this
  obtain rfl : j = 0 := by omega
  simp at hu ⊢
  rw [hi]; simpa using hu
/-- rows of the law's own, behind its block -/
structure RwS (M : Nat) (S : Nat → Prop) (w : World) (m : List (Nt × Int)) (A : Option Addr) (n c : Nat) (A' : Option Addr) (n' c' : Nat) : Prop where
  nets : rdNets w (fun g => S g ∧ M < g) [.slice A n c] (keysM m)
  vals : RdSlice 1 (rdInt .i64) w (fun g => S g ∧ M < g) [.slice A' n' c'] (valsM m)
structure RB (M : Nat) (S : Nat → Prop) (w : World) (P : Nat) (m : List (Nt × Int)) (A : Option Addr) (n c : Nat) (A' : Option Addr) (n' c' : Nat) : Prop where
  inS : S P
  blk : w.heap[P]? = some (.cells #[.slice A n c, .slice A' n' c'] 40 (0, 0))
  row : RwS M S w m A n c A' n' c'
section
variable {M P : Nat} {S S' : Nat → Prop} {w w' W : World} {m m0 mt : List (Nt × Int)} {A A' B B' : Option Addr} {n c n' c' k d k' d' T : Nat}
theorem RwS.kept (h : RwS M S w m A n c A' n' c') (k : KeptS S w w') : RwS M S w' m A n c A' n' c' :=
  ⟨RdLaw.keep h.nets fun p hp => World.cell?_of_block (k p.block hp.1), RdLaw.keep h.vals fun p hp => World.cell?_of_block (k p.block hp.1)⟩
theorem RwS.more (h : RwS M S w m A n c A' n' c') (hs : ∀ g, S g → S' g) : RwS M S' w m A n c A' n' c' :=
  ⟨RdLaw.mono h.nets fun g hg => ⟨hs g hg.1, hg.2⟩, RdLaw.mono h.vals fun g hg => ⟨hs g hg.1, hg.2⟩⟩
theorem RB.kept (h : RB M S w P m A n c A' n' c') (k : KeptS S w w') : RB M S w' P m A n c A' n' c' :=
  ⟨h.inS, k.blk h.inS h.blk, h.row.kept k⟩
theorem RB.more (h : RB M S w P m A n c A' n' c') (hs : ∀ g, S g → S' g) : RB M S' w P m A n c A' n' c' := ⟨hs _ h.inS, h.blk, h.row.more hs⟩
theorem Tk.sLt (h : Tk W T mt S w) : ∀ g, S g → g < w.heap.size := by
  obtain ⟨N, hT, hS⟩ := h.ex
  exact fun g hg => (hS g hg).1
theorem Tk.keptS (h : Tk W T mt S w) (hb : Below w.heap.size w w') : KeptS S w w' := fun g hg => hb.block g (h.sLt g hg)
theorem RwS.r1 (h : RwS M S w m A n c A' n' c') (hS : ∀ g, S g → g < w.heap.size) : R1 rdNets w (.slice A n c) (keysM m) := RdLaw.mono h.nets fun g hg => hS g hg.1
theorem RwS.v1 (h : RwS M S w m A n c A' n' c') (hS : ∀ g, S g → g < w.heap.size) : R1 (RdSlice 1 (rdInt .i64)) w (.slice A' n' c') (valsM m) := RdLaw.mono h.vals fun g hg => hS g hg.1
/-- rows that came since -/
theorem RwS.own {base : Nat} (h1 : OwnN w base (.slice A n c) (keysM m)) (h2 : OwnI 3 w base (.slice A' n' c') (valsM m)) (hS : ∀ g, base ≤ g → g < w.heap.size → S g) (hM : M < base) : RwS M S w m A n c A' n' c' :=
  ⟨h1.readS fun g hg hl => ⟨hS g hg hl, by omega⟩, h2.readS fun g hg hl => ⟨hS g hg hl, by omega⟩⟩
/-- rows put into the law's block -/
theorem RB.store (h : RwS M S w m B k d B' k' d') (hM : RB M S w M m0 A n c A' n' c') : RB M S ((w.setCell ⟨M, 0, none⟩ (.slice B k d)).setCell ⟨M, 1, none⟩ (.slice B' k' d')) M m B k d B' k' d' := by
  have e : ∀ p : Addr, S p.block ∧ M < p.block → ((w.setCell ⟨M, 0, none⟩ (.slice B k d)).setCell ⟨M, 1, none⟩ (.slice B' k' d')).cell? p = w.cell? p := fun p hp => by
    have hne : p.block ≠ M := by omega
    exact World.cell?_of_block ((heap_setCell_other _ _ _ _ hne).trans (heap_setCell_other _ _ _ _ hne))
  exact ⟨hM.inS, set2_block _ _ hM.blk, RdLaw.keep h.nets e, RdLaw.keep h.vals e⟩
theorem Tk.store {u v : Value} (h : Tk W T mt S w) (hM : S M) (hW : W.heap.size ≤ M) : Tk W T mt S ((w.setCell ⟨M, 0, none⟩ u).setCell ⟨M, 1, none⟩ v) := (h.setCell hM hW u).setCell hM hW v
theorem RB.cells (h : RB M S w P m A n c A' n' c') : w.cell? ⟨P, 0, none⟩ = some (.slice A n c) ∧ w.cell? ⟨P, 1, none⟩ = some (.slice A' n' c') := by
  obtain ⟨e0, e1, _, _⟩ := row2 h.blk
  exact ⟨e0, e1⟩
theorem RwS.lens (h : RwS M S w m A n c A' n' c') : n = m.length ∧ n' = m.length := by
  have h1 := (RdSlice.len h.nets).1
  have h2 := (RdSlice.len h.vals).1
  rw [h1, h2]; unfold keysM valsM; simp
end
/-- the reference's answers and the table's -/
theorem place_lt {m : List (Nt × Int)} {x : Nt} (h : look m x = none) : decide (placeI x (keysM m) 0 < 0) = true := by rw [place_none h]; decide
theorem put_eq {m : List (Nt × Int)} {x : Nt} {v : Int} (h : netF x = 0) (h2 : ¬ (look m x = none ∧ m.length = 64)) : putE m x = 0 ∧ putT m x v = putM m x v := by
  have e : putE m x = 0 := by unfold putE; rw [if_pos h, if_neg h2]
  exact ⟨e, by unfold putT; rw [if_pos e]⟩
theorem put_full4 {m : List (Nt × Int)} {x : Nt} {v : Int} (h : netF x = 0) (h2 : look m x = none ∧ m.length = 64) : putE m x = 4 ∧ putT m x v = m := by
  have e : putE m x = 4 := by unfold putE; rw [if_pos h, if_pos h2]
  exact ⟨e, by unfold putT; rw [if_neg (by rw [e]; decide)]⟩
theorem put_bad {m : List (Nt × Int)} {x : Nt} {v : Int} (h : netF x ≠ 0) : putE m x = netF x ∧ putT m x v = m := by
  have e : putE m x = netF x := by unfold putE; rw [if_neg h]
  exact ⟨e, by unfold putT; rw [if_neg (by rw [e]; exact h)]⟩
theorem get_bad {m : List (Nt × Int)} {x : Nt} (h : netF x ≠ 0) : getE m x = netF x ∧ getV m x = 0 ∧ dropT m x = m := by
  have e : getE m x = netF x := by unfold getE; rw [if_neg h]
  exact ⟨e, by unfold getV; rw [if_neg h], by unfold dropT; rw [if_neg (by rw [e]; exact h)]⟩
theorem get_none {m : List (Nt × Int)} {x : Nt} (h : netF x = 0) (h2 : look m x = none) : getE m x = 2 ∧ getV m x = 0 ∧ dropT m x = m := by
  have e : getE m x = 2 := by unfold getE; rw [if_pos h, if_pos h2]
  exact ⟨e, by unfold getV; rw [if_pos h, h2]; rfl, by unfold dropT; rw [if_neg (by rw [e]; decide)]⟩
theorem get_some {m : List (Nt × Int)} {x : Nt} {v : Int} (h : netF x = 0) (h2 : look m x = some v) : getE m x = 0 ∧ getV m x = v ∧ dropT m x = delM m x := by
  have e : getE m x = 0 := by unfold getE; rw [if_pos h, if_neg (by rw [h2]; simp)]
  exact ⟨e, by unfold getV; rw [if_pos h, h2]; rfl, by unfold dropT; rw [if_pos e]⟩
theorem places_c {w : World} {A : Option Addr} {n c : Nat} {l : List Nt} {a x r : Int} (hr : R1 rdNets w (.slice A n c) l) (hR : placeI (a, x) l 0 = r) (d : Nat) (os : Array Obj) :
    Calls Tryd.prog 16 #[.slice A n c, .agg #[.int .u32 a, .int .i64 x]] (Sort.grow (redrawn w d) os) fun e w'' => e = .returned (.int .i64 r) ∧ ∃ p : Regrown, w'' = Sort.grow (redrawn w p.d) p.os :=
  Calls.regrown_of ((Places_any (hr.below (below_regrown w d os))).mono fun e w' ⟨he, hb⟩ => ⟨by rw [he, hR], hb⟩)
abbrev tabO (A : Option Addr) (n c : Nat) (A' : Option Addr) (n' c' : Nat) : Obj := .cells #[.slice A n c, .slice A' n' c'] 40 (0, 0)
section
variable {M P : Nat} {S S' : Nat → Prop} {w w' W : World} {m m0 mt mP : List (Nt × Int)} {A A' B B' : Option Addr} {n c n' c' k d k' d' T : Nat} {e : Ending}
/-- the reference's new table, in a block of its own -/
theorem next_of (hT : Tk W T mt S w) (hM : RB M S w M m A n c A' n' c') (hp : PutPost w mP e w') : ∃ B k d B' k' d', e = .returned (.tuple #[.agg #[.slice B k d, .slice B' k' d'], .bool true]) ∧ Below w.heap.size w w' ∧
    ∀ wF : World, Below w'.heap.size w' wF → wF.heap[w'.heap.size]? = some (tabO B k d B' k' d') → ∃ S' : Nat → Prop, Tk W T mt S' wF ∧ RB M S' wF M m A n c A' n' c' ∧ RB M S' wF w'.heap.size mP B k d B' k' d' := by
  obtain ⟨v1, v2, rfl, h1, h2, hb⟩ := hp
  obtain ⟨B, d, rfl⟩ := h1.form
  obtain ⟨B', d', rfl⟩ := h2.form
  refine ⟨B, _, d, B', _, d', rfl, hb, fun wF hF hO => ?_⟩
  have hb2 : Below w.heap.size w wF := hb.trans (hF.mono hb.size)
  have hlt := hT.sLt M hM.inS
  exact ⟨_, hT.more hb2, (hM.kept (hT.keptS hb2)).more (fun g hg => .inl hg), ⟨.inr ⟨hb.size, size_of_block hO⟩, hO, RwS.own (h1.below hF) (h2.below hF) (fun g hg hl => .inr ⟨hg, hl⟩) hlt⟩⟩
/-- the same where the block came ahead -/
theorem laidB {wa : World} (hba : Below w.heap.size w wa) (hb : Below wa.heap.size wa w') (u v : Value) : Below w.heap.size w ((w'.setCell ⟨w.heap.size, 0, none⟩ u).setCell ⟨w.heap.size, 1, none⟩ v) :=
  ((hba.trans (hb.mono hba.size)).setCell (p := ⟨w.heap.size, 0, none⟩) (Nat.le_refl _) _).setCell (p := ⟨w.heap.size, 1, none⟩) (Nat.le_refl _) _
theorem next_ofB {wa : World} (hT : Tk W T mt S w) (hM : RB M S w M m A n c A' n' c') (hba : Below w.heap.size w wa) (hPa : wa.heap[w.heap.size]? = some (tabO none 0 0 none 0 0)) (hp : PutPost wa mP e w') : ∃ B k d B' k' d', e = .returned (.tuple #[.agg #[.slice B k d, .slice B' k' d'], .bool true]) ∧ Below wa.heap.size wa w' ∧
    ∃ S' : Nat → Prop, Tk W T mt S' ((w'.setCell ⟨w.heap.size, 0, none⟩ (.slice B k d)).setCell ⟨w.heap.size, 1, none⟩ (.slice B' k' d')) ∧ RB M S' ((w'.setCell ⟨w.heap.size, 0, none⟩ (.slice B k d)).setCell ⟨w.heap.size, 1, none⟩ (.slice B' k' d')) M m A n c A' n' c' ∧ RB M S' ((w'.setCell ⟨w.heap.size, 0, none⟩ (.slice B k d)).setCell ⟨w.heap.size, 1, none⟩ (.slice B' k' d')) w.heap.size mP B k d B' k' d' := by
  obtain ⟨v1, v2, rfl, h1, h2, hb⟩ := hp
  obtain ⟨B, d, rfl⟩ := h1.form
  obtain ⟨B', d', rfl⟩ := h2.form
  have hPl := size_of_block hPa
  have hbF := laidB hba hb (.slice B (keysM mP).length d) (.slice B' (valsM mP).length d')
  have hlt := hT.sLt M hM.inS
  have hzF : ∀ g, g < ((w'.setCell ⟨w.heap.size, 0, none⟩ (.slice B (keysM mP).length d)).setCell ⟨w.heap.size, 1, none⟩ (.slice B' (valsM mP).length d')).heap.size ↔ g < w'.heap.size := fun g => by simp
  refine ⟨B, _, d, B', _, d', rfl, hb, _, hT.more hbF, (hM.kept (hT.keptS hbF)).more (fun g hg => .inl hg), ⟨.inr ⟨Nat.le_refl _, ?_⟩, set2_block _ _ (below_block hb hPl hPa), ?_⟩⟩
  · rw [hzF]; have := hb.size; omega
  · exact RwS.own (base := wa.heap.size) ((h1.setCell hPl _).setCell hPl _) ((h2.setCell hPl _).setCell hPl _) (fun g hg hl => .inr ⟨by omega, hl⟩) (by omega)
theorem drop_of (hT : Tk W T mt S w) (hM : RB M S w M m A n c A' n' c') (hp : DropPost w mP e w') : ∃ B k d B' k' d', e = .returned (.agg #[.slice B k d, .slice B' k' d']) ∧
    ∃ S' : Nat → Prop, Tk W T mt S' w' ∧ RB M S' w' M m A n c A' n' c' ∧ RwS M S' w' mP B k d B' k' d' := by
  obtain ⟨v1, v2, rfl, h1, h2, hb⟩ := hp
  obtain ⟨B, d, rfl⟩ := h1.form
  obtain ⟨B', d', rfl⟩ := h2.form
  have hlt := hT.sLt M hM.inS
  exact ⟨B, _, d, B', _, d', rfl, _, hT.more hb, (hM.kept (hT.keptS hb)).more (fun g hg => .inl hg), RwS.own h1 h2 (fun g hg hl => .inr ⟨hg, hl⟩) hlt⟩
/-- whatever PutIn says -/
theorem PutIn_some {a l v : Int} (hr : R1 rdNets w (.slice A n c) (keysM m)) (hv : R1 (RdSlice 1 (rdInt .i64)) w (.slice A' n' c') (valsM m)) (hm : m.length ≤ 64) (hwx : wfN (a, l)) (hwv : (Lit.int .i64 v).wf = true) :
    Calls Tryd.prog 19 #[.agg #[.slice A n c, .slice A' n' c'], .agg #[.int .u32 a, .int .i64 l], .int .i64 v] w fun e w' => (∃ B k d B' k' d' b, e = .returned (.tuple #[.agg #[.slice B k d, .slice B' k' d'], .bool b])) ∧ Below w.heap.size w w' := by
  by_cases hx : look m (a, l) = none ∧ 64 ≤ m.length
  · exact (PutIn_full hr hv hm hx.1 hx.2).mono fun e w' hh => ⟨⟨_, _, _, _, _, _, _, hh.1⟩, hh.2⟩
  · refine (PutIn_room hr hv hm hx hwx hwv).mono fun e w' hh => ?_
    obtain ⟨v1, v2, rfl, h1, h2, hb⟩ := hh
    obtain ⟨B, d, rfl⟩ := h1.form
    obtain ⟨B', d', rfl⟩ := h2.form
    exact ⟨⟨_, _, _, _, _, _, _, rfl⟩, hb⟩
theorem PutIn_none {a l v : Int} (hr : R1 rdNets w (.slice A n c) (keysM m)) (hv : R1 (RdSlice 1 (rdInt .i64)) w (.slice A' n' c') (valsM m)) (hm : m.length ≤ 64) (hx : look m (a, l) = none) (h64 : 64 ≤ m.length) :
    Calls Tryd.prog 19 #[.agg #[.slice A n c, .slice A' n' c'], .agg #[.int .u32 a, .int .i64 l], .int .i64 v] w fun e w' => (∃ B k d B' k' d', e = .returned (.tuple #[.agg #[.slice B k d, .slice B' k' d'], .bool false])) ∧ Below w.heap.size w w' :=
  (PutIn_full hr hv hm hx h64).mono fun e w' hh => ⟨⟨_, _, _, _, _, _, hh.1⟩, hh.2⟩
/-- the law's start -/
theorem start_of (hb : Below W.heap.size W w) (hT : Tk W T [] (fun _ => False) w) : ∃ S : Nat → Prop, Tk W T [] S (w.alloc (tabO none 0 0 none 0 0)) ∧ RB w.heap.size S (w.alloc (tabO none 0 0 none 0 0)) w.heap.size [] none 0 0 none 0 0 := by
  refine ⟨_, hT.more (below_1 w _), .inr ⟨Nat.le_refl _, by simp⟩, heap_alloc_new _ _, ?_⟩
  exact RwS.own (base := w.heap.size + 1) (OwnN.nil_ _ _) (OwnI.nil_ _ _ _) (fun g h1 h2 => .inr ⟨by omega, h2⟩) (by omega)
end
end Go.Proofs.YtplojnlmofbneaaDoor
