/- How many addresses a plan's nets have together; no program in sight. -/
import Derived.Test.YtplojnlmofbneaaDoorPlanA
import Derived.Test.YtplojnlmofbneaaDoorCovQ
namespace Go.Proofs.YtplojnlmofbneaaDoor
open Go.ChangeShapes Go.WideShapes Go.ChangeAt Go.RowKit
set_option linter.unusedVariables false
theorem apart_cnt : ∀ {l : List Nn}, (∀ x ∈ l, netF x = 0) → (∀ x ∈ l, is32 x.1) → (l.Pairwise fun a b => ∀ y, hasB a y = true → hasB b y = false) → ∀ {N : Nat}, N = 4294967296 → (cnt (hasL l) N : Int) = sizL l
  | [], _, _, _, N, _ => by
    have : ∀ n, cnt (hasL []) n = 0 := fun n => by
      induction n with
      | zero => rfl
      | succ n ih => unfold cnt; rw [ih]; rfl
    rw [this]; rfl
  | x :: r, hv, h32, ha, N, hN => by
    obtain ⟨a1, a2⟩ := List.pairwise_cons.1 ha
    have h1 := apart_cnt (fun y hy => hv y (List.mem_cons_of_mem _ hy)) (fun y hy => h32 y (List.mem_cons_of_mem _ hy)) a2 hN
    have e := net_end (hv x (by simp)) (h32 x (by simp))
    have h2 := cnt_net (hv x (by simp)) (h32 x (by simp)).1 (N := N) (by omega)
    have h3 : cnt (hasL (x :: r)) N = cnt (hasB x) N + cnt (hasL r) N := by
      rw [← cnt_add (p := hasB x) (q := hasL r) (fun y hy => ?_) N]
      · exact cnt_congr (fun y => hasL_cons x r y) N
      · cases h : hasL r y
        · rfl
        · obtain ⟨t, ht, h4⟩ := hasL_iff.1 h
          rw [a1 t ht y hy] at h4; cases h4
    rw [h3, sizL_cons]; omega
section
variable {a : Int} {n : Nat} {L W : List Int} {ns : List Nt} (h : PlanOk a n L W ns)
include h
theorem PlanOk.all : (∀ x ∈ ns, netF x = 0) ∧ (∀ x ∈ ns, is32 x.1) ∧ ns.map Prod.snd = L ∧ (ns.Pairwise fun a b => ∀ y, hasB a y = true → hasB b y = false) := by
  have hlen := h.len
  have each : ∀ x ∈ ns, netF x = 0 ∧ is32 x.1 := fun x hx => by
    obtain ⟨i, hi, e⟩ := List.getElem_of_mem hx
    obtain ⟨p, k, h1, _, h3, _, _, h6⟩ := h.entry (i := i) (by omega)
    rw [List.getElem?_eq_getElem hi, e] at h1
    simp only [Option.some.injEq] at h1
    rw [h1]; exact ⟨h6, h3⟩
  refine ⟨fun x hx => (each x hx).1, fun x hx => (each x hx).2, ?_, ?_⟩
  · apply List.ext_getElem?
    intro i
    by_cases hi : i < L.length
    · obtain ⟨p, k, h1, h2, _⟩ := h.entry hi
      rw [List.getElem?_map, h1, h2]; rfl
    · rw [List.getElem?_eq_none (by rw [List.length_map]; omega), List.getElem?_eq_none (by omega)]
  · rw [List.pairwise_iff_getElem]
    intro i j hi hj hij
    have e1 : ns[i]? = some (ns[i].1, ns[i].2) := List.getElem?_eq_getElem hi
    have e2 : ns[j]? = some (ns[j].1, ns[j].2) := List.getElem?_eq_getElem hj
    exact (h.two (by omega) e1 e2).2.1
theorem PlanOk.size : sizL (coverV ns) = sumL L := by
  obtain ⟨h1, h2, h3, h4⟩ := h.all
  obtain ⟨N, hN⟩ : ∃ N : Nat, N = 4294967296 := ⟨_, rfl⟩
  rw [← cover_cnt h1 h2 hN, apart_cnt h1 h2 h4 hN, ← h3]
  have : ∀ l : List Nt, sizL l = sumL (l.map Prod.snd) := by
    intro l
    induction l with
    | nil => rfl
    | cons x r ih => rw [sizL_cons, List.map_cons, sumL_cons, ih]; rfl
  exact this ns
end
end Go.Proofs.YtplojnlmofbneaaDoor
