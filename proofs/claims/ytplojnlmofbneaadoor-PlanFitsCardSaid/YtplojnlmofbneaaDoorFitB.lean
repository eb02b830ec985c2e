/- plan.Fit: what it computes, and the rows that it makes. -/
import Derived.Test.YtplojnlmofbneaaDoorFitA
import Derived.Test.YtplojnlmofbneaaDoorOwnN
import Derived.Test.YtplojnlmofbneaaDoorOwnI
import Derived.Laws.OwnMore
import Derived.Laws.MakeOwn
namespace Go.Proofs.YtplojnlmofbneaaDoor
open Go.ChangeShapes Go.WideShapes Go.ChangeAt Go.RowKit
set_option linter.unusedVariables false
set_option linter.unusedSimpArgs false
/-- the nets are given in an order, each behind the one ahead -/
def putAll (L : List Int) : List Int → Int → List Nt → List Nt
  | [], _, ns => ns
  | i :: r, at_, ns => putAll L r (at_ + lowI (keyL L i).toNat) (ns.set i.toNat (at_, keyL L i))
def sumK (L W : List Int) : Int := sumL (W.map (keyL L))
def fitF (x : Nt) (L : List Int) : Int := if roomF x L ≠ 0 then roomF x L else if roomV x L < 0 then 4 else 0
def idsN (n : Nat) : List Int := (List.range n).map fun i : Nat => (i : Int)
theorem idsN_len (n : Nat) : (idsN n).length = n := by simp [idsN]
theorem idsN_succ (n : Nat) : idsN (n + 1) = idsN n ++ [(n : Int)] := by unfold idsN; rw [List.range_succ, List.map_append]; rfl
theorem idsN_asc (n : Nat) : (idsN n).Pairwise (· < ·) := by
  induction n with
  | zero => simp [idsN]
  | succ n ih =>
    rw [idsN_succ, List.pairwise_append]
    refine ⟨ih, by simp, fun x hx y hy => ?_⟩
    simp at hy
    subst hy
    obtain ⟨i, hi, rfl⟩ := List.mem_map.1 hx
    have := List.mem_range.1 hi
    omega
theorem idsN_mem {n : Nat} {x : Int} : x ∈ idsN n ↔ 0 ≤ x ∧ x < n := by
  unfold idsN
  rw [List.mem_map]
  constructor
  · rintro ⟨i, hi, rfl⟩
    have := List.mem_range.1 hi
    omega
  · intro h
    exact ⟨x.toNat, List.mem_range.2 (by omega), by simp; omega⟩
theorem idsN_in (n : Nat) : InN n (idsN n) := fun x hx => idsN_mem.1 hx
theorem OwnI.rw {e : TypeId} {w : World} {base : Nat} {v : Value} {xs : List Int} (h : OwnI e w base v xs) (h0 : 0 < xs.length) : ∃ g cap, v = .slice (some ⟨g, 0, none⟩) xs.length cap ∧ base ≤ g ∧ (xs.length ≤ cap ∧ cap ≤ maxLen) ∧ Rw w g xs := by
  rcases h.1.2 with ⟨_, e2⟩ | ⟨g, cap, cur, e1, hg, hb, hc, hc2, _, hp⟩
  · omega
  · refine ⟨g, cap, e1, hg, ⟨hc, hc2⟩, cur, e, hb, fun i x hx => ?_⟩
    have hi := (List.getElem?_eq_some_iff.1 hx).1
    have : (cur.toList.take (xs.length * 1))[i]? = some (.int .i64 x) := by rw [hp, List.getElem?_map, hx]; rfl
    rw [List.getElem?_take] at this
    split at this
    · simpa using this
    · cases this
theorem Rw.read {w : World} {g n c : Nat} {xs : List Int} (h : Rw w g xs) (hn : xs.length = n) (hc : n ≤ c) (hm : c ≤ maxLen) (hw : ∀ x ∈ xs, (Lit.int .i64 x).wf = true) : R1 (RdSlice 1 (rdInt .i64)) w (.slice (some ⟨g, 0, none⟩) n c) xs := by
  subst hn
  refine ⟨_, c, rfl, hc, hm, fun _ => ⟨g, 0, rfl, h.lt, fun i x hx => ⟨[.int .i64 x], rfl, ⟨rfl, hw x (List.mem_of_getElem? hx)⟩, fun j u hu => ?_⟩⟩⟩
  match j, hu with
  | 0, hu => simp only [List.getElem?_cons_zero, Option.some.injEq] at hu; subst hu; simpa using h.get hx
/-- a block whose cells are these nets -/
def OutN (w : World) (g : Nat) (ns : List Nt) : Prop := ∃ cur t, w.heap[g]? = some (.cells cur t (0, 0)) ∧ ∀ (i : Nat) (x : Nt), ns[i]? = some x → cur[i * 2]? = some (Value.int .u32 x.1) ∧ cur[i * 2 + 1]? = some (Value.int .i64 x.2)
theorem OutN.lt {w : World} {g : Nat} {ns : List Nt} (h : OutN w g ns) : g < w.heap.size := by obtain ⟨_, _, h, _⟩ := h; exact size_of_block h
theorem OutN.below {w w' : World} {g B : Nat} {ns : List Nt} (h : OutN w g ns) (hb : Below B w w') (hg : g < B) : OutN w' g ns := by
  obtain ⟨cur, t, h1, h2⟩ := h
  exact ⟨cur, t, below_block hb hg h1, h2⟩
theorem OutN.cells {w : World} {g : Nat} {ns : List Nt} (h : OutN w g ns) {i : Nat} {x : Nt} (hx : ns[i]? = some x) : w.cell? ⟨g, i * 2, none⟩ = some (.int .u32 x.1) ∧ w.cell? ⟨g, i * 2 + 1, none⟩ = some (.int .i64 x.2) ∧ w.frozen? ⟨g, i * 2, none⟩ = false ∧ w.frozen? ⟨g, i * 2 + 1, none⟩ = false := by
  obtain ⟨cur, t, h1, h2⟩ := h
  obtain ⟨e1, e2⟩ := h2 i x hx
  exact ⟨by rw [cell_of_row _ g _ _ t (0, 0) h1]; exact e1, by rw [cell_of_row _ g _ _ t (0, 0) h1]; exact e2, frozen_of_row _ g _ _ _ h1, frozen_of_row _ g _ _ _ h1⟩
theorem OutN.set {w : World} {g : Nat} {ns : List Nt} (h : OutN w g ns) (i : Nat) (x y : Int) (hi : i < ns.length) : OutN ((w.setCell ⟨g, i * 2, none⟩ (.int .u32 x)).setCell ⟨g, i * 2 + 1, none⟩ (.int .i64 y)) g (ns.set i (x, y)) := by
  obtain ⟨cur, t, h1, h2⟩ := h
  have hz := h2 i ns[i] (List.getElem?_eq_getElem hi)
  have l1 := (Array.getElem?_eq_some_iff.1 hz.1).1
  have l2 := (Array.getElem?_eq_some_iff.1 hz.2).1
  refine ⟨_, t, heap_setCell_same _ g (i * 2 + 1) _ _ _ (heap_setCell_same w g (i * 2) _ _ _ h1), fun j z hj => ?_⟩
  rw [List.getElem?_set] at hj
  by_cases e : i = j
  · subst e
    rw [if_pos rfl, if_pos hi] at hj
    simp only [Option.some.injEq] at hj
    subst hj
    simp only [Array.getElem?_setIfInBounds, Array.size_setIfInBounds]
    refine ⟨?_, ?_⟩
    · rw [if_neg (by omega), if_pos trivial, if_pos l1]
    · rw [if_pos trivial, if_pos l2]
  · rw [if_neg e] at hj
    obtain ⟨e1, e2⟩ := h2 j z hj
    simp only [Array.getElem?_setIfInBounds, Array.size_setIfInBounds]
    refine ⟨?_, ?_⟩
    · rw [if_neg (by omega), if_neg (by omega)]; exact e1
    · rw [if_neg (by omega), if_neg (by omega)]; exact e2
theorem OutN.read {w : World} {g : Nat} {ns : List Nt} (h : OutN w g ns) (hw : ∀ x ∈ ns, wfN x) (hm : ns.length ≤ 1000) : R1 rdNets w (.slice (some ⟨g, 0, none⟩) ns.length ns.length) ns := by
  refine ⟨some ⟨g, 0, none⟩, ns.length, rfl, Nat.le_refl _, by unfold maxLen; omega, fun _ => ⟨g, 0, rfl, h.lt, fun i x hx => ⟨nC x, rfl, rd_nC (hw x (List.mem_of_getElem? hx)), fun j u hu => ?_⟩⟩⟩
  obtain ⟨c0, c1, _, _⟩ := h.cells hx
  rw [Nat.zero_add]
  match j, hu with
  | 0, hu => simp only [nC, List.getElem?_cons_zero, Option.some.injEq] at hu; subst hu; exact c0
  | 1, hu => simp only [nC, List.getElem?_cons_succ, List.getElem?_cons_zero, Option.some.injEq] at hu; subst hu; exact c1
theorem OutN.zero (w : World) (n : Nat) (t : TypeId) : OutN (w.alloc (.cells (madeCells #[.int .u32 0, .int .i64 0] (n * 2)) t)) w.heap.size (List.replicate n (0, 0)) := by
  refine ⟨_, t, heap_alloc_new w _, fun i x hx => ?_⟩
  rw [List.getElem?_replicate] at hx
  split at hx
  · rename_i hi
    simp only [Option.some.injEq] at hx
    subst hx
    unfold madeCells
    simp only [Array.getElem?_map]
    refine ⟨?_, ?_⟩
    · rw [Array.getElem?_eq_getElem (by simp; omega)]
      simp
    · rw [Array.getElem?_eq_getElem (by simp; omega)]
      have : (i * 2 + 1) % 2 = 1 := by omega
      simp [this]
  · cases hx
theorem run_make_nets (n : Nat) (hn : n ≤ 1000) (W : World) :
    (Instr.makeSlice 22 (.int .i64 (n : Int)) (.int .i64 (n : Int))).run Tryd.prog W = .ok (.slice (some ⟨W.heap.size, 0, none⟩) n n) (W.alloc (.cells (madeCells #[.int .u32 0, .int .i64 0] (n * 2)) 32)) := by
  obtain ⟨i0, hi0, hz0, hz1, hz2⟩ := info_parts net_info
  have h := run_make_rowN (P := Tryd.prog) 22 32 i0 _ Tryd.underlying22 hi0 hz0 .i64 .i64 n n (Nat.le_refl _) (by rw [hz2]; omega) (by omega) W
  rw [hz1, show (Value.agg #[.int .u32 0, .int .i64 0]).cells = #[.int .u32 0, .int .i64 0] from rfl] at h
  exact h
theorem Room_any {a n : Int} {A : Option Addr} {m c : Nat} {L : List Int} {w : World} (ha : is32 a) (hL : R1 (RdSlice 1 (rdInt .i64)) w (.slice A m c) L) :
    Calls Tryd.prog 28 #[.agg #[.int .u32 a, .int .i64 n], .slice A m c] w (RoomPost w (a, n) L) := by
  by_cases h : netF (a, n) = 0
  · obtain ⟨k, hk, e, _⟩ := net_ok h
    simp only at e
    subst e
    exact Room_in ha h hL
  · refine (Room_bad w ha h).mono fun e w' hh => ?_
    obtain ⟨rfl, hb⟩ := hh
    have hf : roomF (a, n) L = netF (a, n) := by unfold roomF; rw [if_pos h]
    exact RoomPost.mk hf (by rw [if_neg h]) rfl (errV_ne h).symm hb
end Go.Proofs.YtplojnlmofbneaaDoor
