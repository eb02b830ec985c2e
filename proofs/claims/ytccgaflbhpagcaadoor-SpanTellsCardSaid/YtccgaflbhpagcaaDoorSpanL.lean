/- Trees of bridges: where the passes end; no program in sight. -/
import Derived.Test.YtccgaflbhpagcaaDoorSpanG
namespace Go.Proofs.YtccgaflbhpagcaaDoor
set_option linter.unusedVariables false
set_option linter.unusedSimpArgs false
namespace Sp
def iterB (E : List Arc) : Nat → List Bel → List Bel
  | 0, B => B
  | j + 1, B => iterB E j (passB B E)
theorem iterB_succ (E : List Arc) : ∀ (j : Nat) (B : List Bel), iterB E (j + 1) B = passB (iterB E j B) E
  | 0, B => rfl
  | j + 1, B => by
    show iterB E (j + 1) (passB B E) = _
    rw [iterB_succ E j (passB B E)]; rfl
theorem iterB_fix {E : List Arc} {B : List Bel} (h : passB B E = B) : ∀ j, iterB E j B = B
  | 0 => rfl
  | j + 1 => by show iterB E j (passB B E) = B; rw [h]; exact iterB_fix h j
theorem iterB_add (E : List Arc) (i : Nat) : ∀ (j : Nat) (B : List Bel), iterB E (i + j) B = iterB E i (iterB E j B)
  | 0, B => rfl
  | j + 1, B => by
    show iterB E (i + j) (passB B E) = _
    rw [iterB_add E i j (passB B E)]; rfl
/-- what the beliefs are in the end -/
def Last (n : Nat) (E : List Arc) (B : List Bel) : Prop := ∃ j, B = iterB E j (start n) ∧ moved B E = false
section
variable {n : Nat} {E : List Arc} (ok : Ok n E) (hn : n ≤ 8)
include ok
theorem inv_iter : ∀ j, Inv n E (iterB E j (start n))
  | 0 => inv_start
  | j + 1 => by rw [iterB_succ]; exact inv_pass ok (inv_iter j) (fun _ h => h)
theorem Last.inv {B : List Bel} (h : Last n E B) : Inv n E B := by
  obtain ⟨j, rfl, _⟩ := h; exact inv_iter ok j
include hn
theorem Last.fix {B : List Bel} (h : Last n E B) : passB B E = B ∧ ∀ x ∈ E, lexB (cand B x) (at_ B x.2.1) = false := by
  have hi := h.inv ok
  obtain ⟨j, _, hm⟩ := h
  exact (ranks_pass ok hn hi (fun _ h => h)).2.2 hm
theorem Last.one {B C : List Bel} (h : Last n E B) (h' : Last n E C) : B = C := by
  have f1 := (h.fix ok hn).1
  have f2 := (h'.fix ok hn).1
  obtain ⟨i, hi, _⟩ := h
  obtain ⟨j, hj, _⟩ := h'
  rcases Nat.le_total i j with hle | hle
  · have := iterB_add E (j - i) i (start n)
    rw [Nat.sub_add_cancel hle, ← hi, iterB_fix f1, ← hj] at this
    exact this.symm
  · have := iterB_add E (i - j) j (start n)
    rw [Nat.sub_add_cancel hle, ← hj, iterB_fix f2, ← hi] at this
    exact this
theorem Last.fin (hs : Sym E) {B : List Bel} (h : Last n E B) : Fin n E B := fin_of ok hs (h.inv ok) (h.fix ok hn).2
end
end Sp
end Go.Proofs.YtccgaflbhpagcaaDoor
