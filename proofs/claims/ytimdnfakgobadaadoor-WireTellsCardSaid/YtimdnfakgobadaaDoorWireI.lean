/- wire.Decode of four bytes or more. -/
import Derived.Test.YtimdnfakgobadaaDoorWireG
namespace Go.Proofs.YtimdnfakgobadaaDoor
open Go.ChangeShapes Go.WideShapes Go.ChangeAt Go.RowKit
set_option linter.unusedVariables false
set_option linter.unusedSimpArgs false

/-- the state at the head of Decode's loop -/
structure DS (w : World) (l : List Int) (q : Bool) (K base b : Nat) (wr : World) (sb : Bool) (o n c : Nat) (l' : List Int) (es : List Entry) (r : Nat) (ve : Value) : Prop where
  rd : R1 rdBytes w (.slice (some ⟨b, o, none⟩) n c) l'
  len : es.length + r = 25
  own : OwnE wr base ve es
  k6 : wr.heap[K]? = some (.cells #[.bool q, ve] 35 (0, 0))
  rr : wr.heap[w.heap.size]? = some (.cells #[.bool false, .slice none 0 0] 35 (0, 0))
  h1 : w.heap.size < K
  h2 : K < base
  h3 : base ≤ wr.heap.size
  bel : Below w.heap.size w wr
  mean : (sb = true → l' = [] ∧ ∃ x, decE 25 (l.drop 4) = some (x, true)) ∧ (sb = false → decE 25 (l.drop 4) = (decE r l').map fun y => (es ++ y.1, y.2))
theorem decE_bad {r : Nat} {l' : List Int} (h : l' ≠ []) (hb : r = 0 ∨ ¬ entOk (filled (l'.take 20))) : decE r l' = none := by
  cases l' with
  | nil => exact absurd rfl h
  | cons x t =>
    cases r with
    | zero => rfl
    | succ r =>
      rcases hb with hb | hb
      · omega
      · simp only [decE]; rw [if_neg hb]
theorem decE_go {r : Nat} {l' : List Int} (h : l' ≠ []) (hok : entOk (filled (l'.take 20))) :
    decE (r + 1) l' = if l'.length < 20 then some ([entOf (filled (l'.take 20))], true) else (decE r (l'.drop 20)).map fun y => (entOf (filled (l'.take 20)) :: y.1, y.2) := by
  cases l' with
  | nil => exact absurd rfl h
  | cons x t => simp only [decE]; rw [if_pos hok]
theorem DS.next {w : World} {l : List Int} {q : Bool} {K base b : Nat} {wr w3 w4 : World} {o n c : Nat} {l' : List Int} {es : List Entry} {r : Nat} {ve v' : Value} {o' n' c' : Nat} {e : Entry} {X Y : Obj}
    (ds : DS w l q K base b wr false o n c l' es (r + 1) ve) (hl : l' ≠ []) (hok : entOk (filled (l'.take 20))) (he : entOf (filled (l'.take 20)) = e)
    (hrd : R1 rdBytes w (.slice (some ⟨b, o', none⟩) n' c') (l'.drop 20)) (hb : Below wr.heap.size wr w3) (hown : OwnE w4 base v' (es ++ [e])) (hg : Grow ((w3.alloc X).alloc Y) ve w4 v') :
    DS w l q K base b (w4.setCell ⟨K, 1, none⟩ v') (decide (l'.length < 20)) o' n' c' (l'.drop 20) (es ++ [e]) r v' := by
  have hne : ∀ k, k < base → some k ≠ ve.ownBlock := fun k hk e => by have := (own_blk ds.own.1 k e.symm).1; omega
  have hlt : ∀ k, k < base → w4.heap[k]? = wr.heap[k]? := fun k hk => by
    have h3 := ds.h3
    have hs := hb.size
    rw [hg.1.block k (by simp; omega) (hne k hk), ((Below.refl _ _).alloc (Nat.le_refl _) Y).block k (by simp; omega), ((Below.refl _ _).alloc (Nat.le_refl _) X).block k (by omega), hb.block k (by omega)]
  have hk4 : w4.heap[K]? = some (.cells #[.bool q, ve] 35 (0, 0)) := (hlt K ds.h2).trans ds.k6
  refine ⟨hrd, by have := ds.len; simp; omega, hown.set ds.h2 _, heap_setCell_same _ K 1 _ _ v' hk4, ?_, ds.h1, ds.h2, ?_, ?_, ?_⟩
  · rw [heap_setCell_other _ _ _ _ (Nat.ne_of_lt ds.h1)]
    exact (hlt _ (Nat.lt_trans ds.h1 ds.h2)).trans ds.rr
  · have h1 := hg.size
    have h2 := hb.size
    have h3 := ds.h3
    simp at h1
    simp; omega
  · refine (Below.setCell ?_ (Nat.le_of_lt ds.h1) _)
    have h1 := hb.size
    have h2 := ds.bel.size
    have hb3 : Below w.heap.size w w3 := ds.bel.trans (hb.mono h2)
    have hb4 := (hb3.alloc hb3.size X).alloc (Nat.le_trans hb3.size (by simp)) Y
    have hoo : OwnE ((w3.alloc X).alloc Y) base ve es := ((ds.own.below hb).alloc X).alloc Y
    exact hg.below hb4 hoo.1 (Nat.le_of_lt (Nat.lt_trans ds.h1 ds.h2)) (Nat.le_trans hb3.size (by simp; omega))
  · have hm := ds.mean.2 rfl
    rw [decE_go hl hok] at hm
    by_cases h20 : l'.length < 20
    · rw [if_pos h20] at hm
      refine ⟨fun _ => ⟨List.drop_of_length_le (by omega), _, hm⟩, fun h => by simp [h20] at h⟩
    · rw [if_neg h20] at hm
      refine ⟨fun h => by simp [h20] at h, fun _ => ?_⟩
      rw [hm, he]
      cases decE r (l'.drop 20) <;> simp
/-- the rest of bytes behind a part -/
theorem rest_read {w : World} {b o n c : Nat} {l' : List Int} (hr : R1 rdBytes w (.slice (some ⟨b, o, none⟩) n c) l') (k : Nat) (hk : k ≤ n) (hd : l'.drop k = l'.drop 20) :
    R1 rdBytes w (.slice (some ⟨b, o + k, none⟩) (n - k) (c - k)) (l'.drop 20) := by
  rw [← hd]
  rcases Nat.eq_zero_or_pos n with h0 | h0
  · have hn := (RdSlice.len hr).1
    have hk0 : k = 0 := by omega
    subst hk0
    simpa using hr
  · obtain ⟨b', o', e, hb⟩ := RdSlice.some_ hr h0
    simp only [Option.some.injEq, Addr.mk.injEq] at e
    obtain ⟨rfl, rfl, _⟩ := e
    exact RdSlice.from_ hr k hk hb
theorem rest_end {w : World} {b o n c : Nat} {l' : List Int} (hr : R1 rdBytes w (.slice (some ⟨b, o, none⟩) n c) l') (h : l'.drop 20 = []) : R1 rdBytes w (.slice (some ⟨b, o, none⟩) 0 0) (l'.drop 20) := by
  rw [h]; exact RdSlice.nil' (Nat.zero_le _)
theorem dec_ok {l : List Int} {w : World} {K base b : Nat} {q : Bool} {wr : World} {o n c : Nat} {es : List Entry} {r : Nat} {ve : Value} (ds : DS w l q K base b wr false o n c [] es r ve) (hh : hdOk l) (hl : ¬ l.length < 4) (hq : decide (g l 0 = 1) = q) :
    DecPost l w (.returned (.tuple #[.agg #[.bool q, ve], .nilIface])) ((wr.setCell ⟨w.heap.size, 0, none⟩ (.bool q)).setCell ⟨w.heap.size, 1, none⟩ ve) := by
  have hm := ds.mean.2 rfl
  have hd : decE r [] = some ([], false) := by cases r <;> rfl
  rw [hd] at hm
  simp only [Option.map_some, List.append_nil] at hm
  have hD : decM l = ((q, es), 0) := by unfold decM; rw [if_pos hh, if_neg hl, hm]; simp [hq]
  refine ⟨q, ve, by rw [hD]; rfl, by rw [hD], ?_, (ds.bel.setCell (Nat.le_refl _) _).setCell (Nat.le_refl _) _⟩
  rw [hD]
  exact ((ds.own.set (a := ⟨w.heap.size, 0, none⟩) (Nat.lt_trans ds.h1 ds.h2) _).set (a := ⟨w.heap.size, 1, none⟩) (Nat.lt_trans ds.h1 ds.h2) _).read
theorem dec_form {l : List Int} {w : World} {K base b : Nat} {q : Bool} {wr : World} {o n c : Nat} {l' : List Int} {es : List Entry} {r : Nat} {ve : Value} (ds : DS w l q K base b wr false o n c l' es r ve) (hh : hdOk l) (hl : ¬ l.length < 4)
    (h : l' ≠ []) (hb : r = 0 ∨ ¬ entOk (filled (l'.take 20))) : decM l = ((false, []), 3) := by
  have hm := ds.mean.2 rfl
  rw [decE_bad h hb] at hm
  unfold decM
  rw [if_pos hh, if_neg hl, hm]
  rfl
theorem dec_shortE {l : List Int} {w : World} {K base b : Nat} {q : Bool} {wr : World} {o n c : Nat} {l' : List Int} {es : List Entry} {r : Nat} {ve : Value} (ds : DS w l q K base b wr true o n c l' es r ve) (hh : hdOk l) (hl : ¬ l.length < 4) : decM l = ((false, []), 6) := by
  obtain ⟨_, x, hm⟩ := ds.mean.1 rfl
  unfold decM
  rw [if_pos hh, if_neg hl, hm]
theorem grow_block {w : World} {l : List Int} {q : Bool} {K base b : Nat} {wr w3 w4 : World} {sb : Bool} {o n c : Nat} {l' : List Int} {es : List Entry} {r : Nat} {ve v' : Value} {X Y : Obj}
    (hg : Grow ((w3.alloc X).alloc Y) ve w4 v') (ds : DS w l q K base b wr sb o n c l' es r ve) (hb : Below wr.heap.size wr w3) : w4.heap[K]? = some (.cells #[.bool q, ve] 35 (0, 0)) := by
  have hne : some K ≠ ve.ownBlock := fun e => by have := (own_blk ds.own.1 K e.symm).1; have := ds.h2; omega
  have h3 := ds.h3
  have h2 := ds.h2
  have hs := hb.size
  rw [hg.1.block K (by simp; omega) hne, ((Below.refl _ _).alloc (Nat.le_refl _) Y).block K (by simp; omega), ((Below.refl _ _).alloc (Nat.le_refl _) X).block K (by omega), hb.block K (by omega)]
  exact ds.k6
theorem dec_ok0 {l : List Int} {w W : World} {q : Bool} (R : Nat) (o : Obj) (hR : w.heap.size ≤ R) (hn : l.length = 4) (hh : hdOk l) (hq : decide (g l 0 = 1) = q) (hb : Below w.heap.size w W) :
    DecPost l w (.returned (.tuple #[.agg #[.bool q, .slice none 0 0], .nilIface])) (((W.setCell ⟨R, 0, none⟩ (.bool q)).setCell ⟨R, 1, none⟩ (.slice none 0 0)).alloc o) := by
  have hD : decM l = ((q, []), 0) := by
    unfold decM
    rw [if_pos hh, if_neg (by omega), List.drop_of_length_le (by omega)]
    simp [decE, hq]
  exact ⟨q, .slice none 0 0, by rw [hD]; rfl, by rw [hD], by rw [hD]; exact R1.nil_e, ((hb.setCell hR _).setCell hR _).alloc (by have := hb.size; simpa using this) _⟩
end Go.Proofs.YtimdnfakgobadaaDoor
