/- spp.Best and spp.Run. -/
import Derived.Test.YtcpknghfdlmopaaDoorSppF
namespace Go.Proofs.YtcpknghfdlmopaaDoor
open Go.ChangeShapes Go.WideShapes Go.ChangeAt Go.RowKit
set_option linter.unusedVariables false

def bestF (likes : List (List (List Int))) (ways : List (List Int)) (i : Int) : Int := if stF likes ways ≠ 0 then stF likes ways else if i < 0 ∨ likes.length ≤ i then 1 else 0

set_option maxHeartbeats 1000000 in
theorem Best_any {w : World} {v u : Value} {likes : List (List (List Int))} {ways : List (List Int)} {i : Nat} (hlk : R1 rdInts3 w v likes) (hw : R1 rdInts2 w u ways) (hF : stF likes ways = 0) (hi : i < likes.length) :
    Calls Tryd.prog 11 #[v, u, .int .i64 i] w fun e w' => ∃ r, e = .returned (.tuple #[r, .nilIface]) ∧ R1 rdInts w' r (bestP likes ways i) ∧ Below w.heap.size w w' := by
  obtain ⟨A, c, rfl⟩ := hlk.form
  obtain ⟨A2, c2, rfl⟩ := hw.form
  have hS : sppF likes = 0 := by unfold stF at hF; split at hF <;> simp_all
  have hL : ways.length = likes.length := by unfold stF at hF; rw [if_neg (by simp [hS])] at hF; split at hF <;> simp_all
  obtain ⟨hl8, hl1, hsm⟩ := sppF_small hS
  have hsm' : Hid (∀ r ∈ likes, ∀ x ∈ r, x.length ≤ 1048576) := Lib.hid fun r hr x hx => by have := hsm r hr x hx; omega
  have HS := Lib.hid hS; have HI := Lib.hid hi
  clear hsm hF hS
  rw [hL] at hw ⊢
  have hlk2 : R1 rdInts3 (w.alloc (.cells #[.slice A2 likes.length c2] 23)) (.slice A likes.length c) likes := R1.alloc hlk _
  have hw2 : R1 rdInts2 (w.alloc (.cells #[.slice A2 likes.length c2] 23)) (.slice A2 likes.length c2) ways := R1.alloc hw _
  have t0 : (0 : Int) ≤ (i : Int) := by omega
  have t1 : (i : Int) < (likes.length : Int) := by omega
  clear hL hi
  go_enter Tryd.func11, Tryd.ntmps11
  go_wp2_with (first
    | (go_at_call 7; with_reducible refine (Check_any hlk).mono ?_; rintro e w' ⟨rfl, rfl⟩; rw [HS.out, errV_zero])
    | (go_at_call 19; refine (best_any (gw := w.heap.size) hlk2 hw2 (by simp) HI.out hsm'.out).mono ?_; rintro e w3 ⟨r, rfl, hr3, hb3⟩))
  go_ret2
  exact ⟨r, rfl, hr3, ((Below.refl _ _).alloc (Nat.le_refl _) _).trans (hb3.mono (by simp))⟩

/-- the rows behind some turns; none: one is out of range -/
def runP (likes : List (List (List Int))) : List Int → List (List Int) → Option (List (List Int))
  | [], rows => some rows
  | i :: r, rows => if i < 0 ∨ likes.length ≤ i then none else runP likes r (rows.set i.toNat (bestP likes rows i.toNat))
def rows0 (likes : List (List (List Int))) : List (List Int) := [0] :: List.replicate (likes.length - 1) []
def runF (likes : List (List (List Int))) (order : List Int) : Int := if sppF likes ≠ 0 then sppF likes else if (runP likes order (rows0 likes)).isNone then 1 else 0
def runV (likes : List (List (List Int))) (order : List Int) : List (List Int) := if sppF likes ≠ 0 then [] else (runP likes order (rows0 likes)).getD []
theorem runP_snoc (likes : List (List (List Int))) (l : List Int) (i : Int) (rows : List (List Int)) :
    runP likes (l ++ [i]) rows = (runP likes l rows).bind fun r => if i < 0 ∨ likes.length ≤ i then none else some (r.set i.toNat (bestP likes r i.toNat)) := by
  induction l generalizing rows with
  | nil => simp [runP]
  | cons a l ih =>
    simp only [List.cons_append, runP]
    split
    · rfl
    · exact ih _
theorem runP_none {likes : List (List (List Int))} {l m : List Int} {rows : List (List Int)} (h : runP likes l rows = none) : runP likes (l ++ m) rows = none := by
  induction l generalizing rows with
  | nil => simp [runP] at h
  | cons a l ih =>
    simp only [List.cons_append, runP] at h ⊢
    split
    · rfl
    · rename_i hn; rw [if_neg hn] at h; exact ih h

/-- The rows that Run keeps, in its own block g. -/
def Kept (wr : World) (g n : Nat) (rows : List (List Int)) : Prop :=
  ∃ us : Array Value, wr.heap[g]? = some (.cells us 24 (0, 0)) ∧ us.size = n ∧ rows.length = n ∧ (∀ (j : Nat) (v : Value), us[j]? = some v → ∃ A m c, v = Value.slice A m c) ∧
    ∀ (i : Nat) (x : List Int), rows[i]? = some x → ∃ u, us[i]? = some u ∧ rdInts wr (fun b => b < wr.heap.size ∧ b ≠ g) [u] x
theorem Kept.lt {wr : World} {g n : Nat} {rows : List (List Int)} (h : Kept wr g n rows) : g < wr.heap.size := by
  obtain ⟨us, hg, _⟩ := h; exact (Array.getElem?_eq_some_iff.1 hg).1
theorem Kept.rd {wr : World} {g n : Nat} {rows : List (List Int)} (h : Kept wr g n rows) (hn : n ≤ maxLen) : R1 rdInts2 wr (.slice (some ⟨g, 0, none⟩) n n) rows := by
  have hlt := h.lt
  obtain ⟨us, hg, hs, hr, _, hx⟩ := h
  refine RdSlice.new1 hg hlt hr (Nat.le_refl _) hn (fun i x hi => ?_)
  obtain ⟨u, hu, hru⟩ := hx i x hi
  exact ⟨u, hu, RdLaw.mono hru (fun b hb => hb.1)⟩
theorem Kept.below {wr w2 : World} {g n : Nat} {rows : List (List Int)} (h : Kept wr g n rows) (hb : Below wr.heap.size wr w2) : Kept w2 g n rows := by
  have hlt := h.lt
  obtain ⟨us, hg, hs, hr, hf, hx⟩ := h
  refine ⟨us, (hb.block g hlt).trans hg, hs, hr, hf, fun i x hi => ?_⟩
  obtain ⟨u, hu, hru⟩ := hx i x hi
  exact ⟨u, hu, RdLaw.mono (RdLaw.keep hru (fun p hp => hb.cell hp.1)) (fun b hb' => ⟨Nat.lt_of_lt_of_le hb'.1 hb.size, hb'.2⟩)⟩
theorem rdInts_ne {w : World} {ok : Nat → Prop} {u : Value} {x : List Int} {g : Nat} {us : Array Value} {t : TypeId} (h : rdInts w ok [u] x) (hg : w.heap[g]? = some (.cells us t (0, 0))) (hf : ∀ (j : Nat) (v : Value), us[j]? = some v → ∃ A m c, v = Value.slice A m c) :
    rdInts w (fun b => ok b ∧ b ≠ g) [u] x := by
  obtain ⟨A, c, e, h1, h2, h3⟩ := h
  refine ⟨A, c, e, h1, h2, fun hn => ?_⟩
  obtain ⟨b, o, hA, hb, hx⟩ := h3 hn
  refine ⟨b, o, hA, ⟨hb, ?_⟩, fun i y hi => ?_⟩
  · rintro rfl
    obtain ⟨cs, _, ⟨rfl, _⟩, hc⟩ := hx 0 _ (List.getElem?_eq_getElem hn)
    have hc0 := hc 0 _ rfl
    rw [cell_of_row w b _ us t (0, 0) hg] at hc0
    obtain ⟨A', m', c', e'⟩ := hf _ _ hc0
    cases e'
  · exact hx i y hi
theorem Kept.set {wr : World} {g n i : Nat} {rows : List (List Int)} {r : Value} {x : List Int} (h : Kept wr g n rows) (hr : R1 rdInts wr r x) (hi : i < n) :
    wr.cell? ⟨g, i, none⟩ ≠ none ∧ wr.frozen? ⟨g, i, none⟩ = false ∧ Kept (wr.setCell ⟨g, i, none⟩ r) g n (rows.set i x) := by
  have hlt := h.lt
  obtain ⟨us, hg, hs, hrl, hf, hx⟩ := h
  obtain ⟨A, c, hrf⟩ := R1.form hr
  have hkeep : ∀ (v : Value) (y : List Int), rdInts wr (fun b => b < wr.heap.size ∧ b ≠ g) [v] y → rdInts (wr.setCell ⟨g, i, none⟩ r) (fun b => b < (wr.setCell ⟨g, i, none⟩ r).heap.size ∧ b ≠ g) [v] y := fun v y hv =>
    RdLaw.mono (RdLaw.keep hv (fun p hp => World.cell?_setCell_other wr ⟨g, i, none⟩ p r (fun e => hp.2 (by rw [← e])))) (fun b hb => ⟨by simpa [World.setCell] using hb.1, hb.2⟩)
  refine ⟨?_, frozen_of_row wr g i us _ hg, us.setIfInBounds i r, heap_setCell_same wr g i us _ r hg, by simpa using hs, by simpa using hrl, fun j v hj => ?_, fun j y hj => ?_⟩
  · rw [cell_of_row wr g i us _ (0, 0) hg, Array.getElem?_eq_getElem (by omega)]; simp
  · rw [Array.getElem?_setIfInBounds] at hj
    split at hj
    · split at hj
      · injection hj with hj; subst hj; exact ⟨A, _, c, hrf⟩
      · cases hj
    · exact hf j v hj
  · rw [List.getElem?_set] at hj
    by_cases hij : i = j
    · subst hij
      rw [if_pos rfl, if_pos (by omega)] at hj
      injection hj with hj; subst hj
      refine ⟨r, ?_, hkeep r x (rdInts_ne hr hg hf)⟩
      rw [Array.getElem?_setIfInBounds, if_pos rfl, if_pos (by omega)]
    · rw [if_neg hij] at hj
      obtain ⟨u, hu, hru⟩ := hx j y hj
      refine ⟨u, ?_, hkeep u y hru⟩
      rw [Array.getElem?_setIfInBounds, if_neg hij]
      exact hu
theorem Kept.made (w : World) (n : Nat) : Kept (w.alloc (.cells (madeCells #[.slice none 0 0] n) 24)) w.heap.size n (List.replicate n []) := by
  refine ⟨_, heap_alloc_new w _, size_madeCells _ _, by simp, fun j v hj => ?_, fun i x hi => ?_⟩
  · have : v ∈ (madeCells #[Value.slice none 0 0] n).toList := by rw [Array.mem_toList_iff]; exact Array.mem_of_getElem? hj
    rw [toList_madeCells_one] at this
    exact ⟨none, 0, 0, List.eq_of_mem_replicate this⟩
  · have hl : i < n := by have := (List.getElem?_eq_some_iff.1 hi).1; simpa using this
    rw [List.getElem?_replicate, if_pos hl] at hi
    injection hi with hi; subst hi
    refine ⟨.slice none 0 0, ?_, RdSlice.nil_⟩
    have e : (madeCells #[Value.slice none 0 0] n).toList[i]? = some (.slice none 0 0) := by rw [toList_madeCells_one, List.getElem?_replicate, if_pos hl]
    simpa using e
end Go.Proofs.YtcpknghfdlmopaaDoor
