/- Trees of bridges: within one pass; no program in sight. -/
import Derived.Test.YtccgaflbhpagcaaDoorSpanL
import Derived.Test.YtccgaflbhpagcaaDoorSpanT
namespace Go.Proofs.YtccgaflbhpagcaaDoor
open Go.ChangeShapes Go.WideShapes Go.ChangeAt Go.RowKit Sp
set_option linter.unusedVariables false
def arc (x : Lnk) : Arc := (x.1.toNat, x.2.1.toNat, x.2.2)
theorem arcs_all (l : List Lnk) : (l ++ l.map turnL).map arc = arcsOf l := by
  unfold arcsOf; rw [List.map_append, List.map_map]; rfl
theorem link_at {n : Nat} {l : List Lnk} {i : Nat} {x : Lnk} (ok : OkL n l) (h : (l ++ l.map turnL)[i]? = some x) :
    ∃ a b : Nat, x.1 = a ∧ x.2.1 = b ∧ a < n ∧ b < n ∧ 1 ≤ x.2.2 ∧ x.2.2 ≤ 15 ∧ (arcsOf l)[i]? = some (a, b, x.2.2) := by
  have hm := List.mem_of_getElem? h
  have hr : 0 ≤ x.1 ∧ x.1 < n ∧ 0 ≤ x.2.1 ∧ x.2.1 < n ∧ 1 ≤ x.2.2 ∧ x.2.2 ≤ 15 := by
    rcases List.mem_append.1 hm with hm | hm
    · have := ok.rng x hm; omega
    · obtain ⟨y, hy, rfl⟩ := List.mem_map.1 hm
      have := ok.rng y hy
      unfold turnL; simp only; omega
  refine ⟨x.1.toNat, x.2.1.toNat, by omega, by omega, by omega, by omega, hr.2.2.2.2.1, hr.2.2.2.2.2, ?_⟩
  rw [← arcs_all, List.getElem?_map, h]; rfl
/-- within a pass: what is left is right, and what was learnt too -/
structure Inn (n : Nat) (l : List Lnk) (B : List Bel) (q : Bool) (i : Nat) (C : List Bel) : Prop where
  pass : passB C ((arcsOf l).drop i) = passB B (arcsOf l)
  mov : (q || moved C ((arcsOf l).drop i)) = moved B (arcsOf l)
  inv : Inv n (arcsOf l) C
theorem Inn.start {n : Nat} {l : List Lnk} {B : List Bel} (h : Inv n (arcsOf l) B) : Inn n l B false 0 B := ⟨rfl, rfl, h⟩
theorem Inn.step {n : Nat} {l : List Lnk} {B C : List Bel} {q : Bool} {i : Nat} {x : Arc} (ok : OkL n l) (h : Inn n l B q i C) (hx : (arcsOf l)[i]? = some x) : Inn n l B (q || lexB (cand C x) (at_ C x.2.1)) (i + 1) (stepB C x) := by
  obtain ⟨hlt, e⟩ := List.getElem?_eq_some_iff.1 hx
  have hd : (arcsOf l).drop i = x :: (arcsOf l).drop (i + 1) := by rw [List.drop_eq_getElem_cons hlt, e]
  obtain ⟨h1, h2, h3⟩ := h
  rw [hd] at h1 h2
  exact ⟨h1, by rw [← h2, Bool.or_assoc]; rfl, inv_step (ok_arcs ok) h3 (List.mem_of_getElem? hx)⟩
theorem Inn.yes {n : Nat} {l : List Lnk} {B C : List Bel} {q : Bool} {i a b : Nat} {c : Int} (ok : OkL n l) (h : Inn n l B q i C) (hx : (arcsOf l)[i]? = some (a, b, c)) (hr : lexB (cand C (a, b, c)) (at_ C b) = true) :
    Inn n l B true (i + 1) (C.set b ((at_ C a).1, (at_ C a).2.1 + c, (a : Int))) := by
  have := h.step ok hx
  simp only [stepB, hr, if_true, Bool.or_true] at this
  exact this
theorem Inn.no {n : Nat} {l : List Lnk} {B C : List Bel} {q : Bool} {i a b : Nat} {c : Int} (ok : OkL n l) (h : Inn n l B q i C) (hx : (arcsOf l)[i]? = some (a, b, c)) (hr : lexB (cand C (a, b, c)) (at_ C b) = false) :
    Inn n l B q (i + 1) C := by
  have := h.step ok hx
  simp only [stepB, hr, Bool.or_false] at this
  exact this
theorem Inn.fin {n : Nat} {l : List Lnk} {B C : List Bel} {q : Bool} {i : Nat} (h : Inn n l B q i C) (hi : (arcsOf l).length ≤ i) : C = passB B (arcsOf l) ∧ q = moved B (arcsOf l) := by
  have h1 := h.pass
  have h2 := h.mov
  rw [List.drop_of_length_le hi] at h1 h2
  exact ⟨h1, by rw [← h2]; simp [moved]⟩
theorem arcs_len (l : List Lnk) : (arcsOf l).length = (l ++ l.map turnL).length := by rw [← arcs_all, List.length_map]
theorem at_get {B : List Bel} {i : Nat} (h : i < B.length) : B[i]? = some (at_ B i) := by
  unfold at_; rw [List.getD_eq_getElem?_getD, List.getElem?_eq_getElem h]; rfl
theorem inv_wf {n : Nat} {l : List Lnk} {B : List Bel} (ok : OkL n l) (h8 : n ≤ 8) (h : Inv n (arcsOf l) B) {a : Nat} (ha : a < n) {c : Int} (h1 : 1 ≤ c) (h15 : c ≤ 15) :
    wf3 (at_ B a).1 ((at_ B a).2.1 + c) a ∧ 0 ≤ (at_ B a).1 ∧ (at_ B a).1 ≤ 8 ∧ 0 ≤ (at_ B a).2.1 ∧ (at_ B a).2.1 ≤ 200 := by
  have := inv_rng (ok_arcs ok) h ha
  exact ⟨⟨WalkArith.wf_i64 (by omega), WalkArith.wf_i64 (by omega), WalkArith.wf_i64 (by omega)⟩, by omega, by omega, by omega, by omega⟩
/-- one pass: what it comes to, and that it goes down -/
theorem pass_end {n : Nat} {l : List Lnk} {B C : List Bel} {q : Bool} {j : Nat} (ok : OkL n l) (h8 : n ≤ 8) (hB : B = iterB (arcsOf l) j (Sp.start n)) (hC : C = passB B (arcsOf l)) (hq : q = moved B (arcsOf l)) :
    C = iterB (arcsOf l) (j + 1) (Sp.start n) ∧ (q = false → moved C (arcsOf l) = false) ∧ 2 * ranks C + (if q then 1 else 0) < 2 * ranks B + 1 := by
  have hi : Inv n (arcsOf l) B := by rw [hB]; exact inv_iter (ok_arcs ok) j
  obtain ⟨h1, h2, h3⟩ := ranks_pass (ok_arcs ok) h8 hi (fun _ h => h)
  refine ⟨by rw [iterB_succ, ← hB]; exact hC, fun h => ?_, ?_⟩
  · rw [h] at hq; rw [hC, (h3 hq.symm).1]; exact hq.symm
  · cases q with
    | true => have := h2 hq.symm; rw [hC]; simp; omega
    | false => rw [hC, (h3 hq.symm).1]; simp
theorem row3 {w : World} {R : Nat} {v0 v1 v2 : Value} {t : TypeId} (h : w.heap[R]? = some (.cells #[v0, v1, v2] t (0, 0))) :
    w.cell? ⟨R, 0, none⟩ = some v0 ∧ w.cell? ⟨R, 1, none⟩ = some v1 ∧ w.cell? ⟨R, 2, none⟩ = some v2 := by
  refine ⟨?_, ?_, ?_⟩ <;> rw [cell_of_row _ R _ _ _ (0, 0) h] <;> rfl
theorem len64 {n : Nat} {l : List Lnk} (ok : OkL n l) (h8 : n ≤ 8) : l.length ≤ 64 := by
  have h := nodup_len 64 (l.map fun x => x.1.toNat * 8 + x.2.1.toNat) (by
    rw [List.Nodup, List.pairwise_map]
    refine ok.twice.imp_of_mem (fun {x y} hx hy h e => ?_)
    have h1 := ok.rng x hx
    have h2 := ok.rng y hy
    have h3 : x.1.toNat = y.1.toNat ∧ x.2.1.toNat = y.2.1.toNat := by omega
    have : pairB y x = true := pairB_iff.2 (by omega)
    rw [this] at h; cases h) (fun v hv => by
    obtain ⟨x, hx, rfl⟩ := List.mem_map.1 hv
    have := ok.rng x hx
    omega)
  simpa using h
end Go.Proofs.YtccgaflbhpagcaaDoor
