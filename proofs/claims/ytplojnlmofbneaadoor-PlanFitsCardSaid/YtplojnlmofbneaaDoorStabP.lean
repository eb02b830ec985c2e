/- The order of a stable sort, in plain lists: by key, and else by number; no program in sight. -/
import Derived.Test.YtplojnlmofbneaaDoorStabR
namespace Go.Proofs.YtplojnlmofbneaaDoor
set_option linter.unusedVariables false
def Rl (K : Int → Int) (x y : Int) : Prop := K x < K y ∨ K x = K y ∧ x < y
theorem Rl.trans {K : Int → Int} {x y z : Int} (h : Rl K x y) (k : Rl K y z) : Rl K x z := by unfold Rl at *; omega
theorem Rl.irr {K : Int → Int} {x : Int} : ¬ Rl K x x := by unfold Rl; omega
theorem Rl.of_lt {K : Int → Int} {x y : Int} (h : K x < K y) : Rl K x y := .inl h
theorem Rl.of_not {K : Int → Int} {x y : Int} (h : ¬ K y < K x) (hi : x < y) : Rl K x y := by unfold Rl; omega
theorem Rl.not_lt {K : Int → Int} {x y : Int} (h : Rl K x y) : ¬ K y < K x := by unfold Rl at h; omega
def Srtd (K : Int → Int) (l : List Int) : Prop := l.Pairwise (Rl K)
/-- whoever is in the first one has a lesser number -/
def FB (l r : List Int) : Prop := ∀ x ∈ l, ∀ y ∈ r, x < y
theorem srtd_append {K : Int → Int} {l r : List Int} : Srtd K (l ++ r) ↔ Srtd K l ∧ Srtd K r ∧ ∀ x ∈ l, ∀ y ∈ r, Rl K x y := List.pairwise_append
theorem srtd_cons {K : Int → Int} {x : Int} {l : List Int} : Srtd K (x :: l) ↔ (∀ y ∈ l, Rl K x y) ∧ Srtd K l := List.pairwise_cons
theorem srtd_nil {K : Int → Int} : Srtd K [] := List.Pairwise.nil
theorem srtd_one {K : Int → Int} (x : Int) : Srtd K [x] := List.pairwise_singleton _ _
/-- one more in a sorted piece, between those that stand below and above it -/
theorem srtd_insert {K : Int → Int} {l r : List Int} {x : Int} (h : Srtd K (l ++ r)) (h1 : ∀ y ∈ l, Rl K y x) (h2 : ∀ y ∈ r, Rl K x y) : Srtd K (l ++ x :: r) := by
  obtain ⟨a, b, c⟩ := srtd_append.1 h
  refine srtd_append.2 ⟨a, srtd_cons.2 ⟨h2, b⟩, fun y hy z hz => ?_⟩
  rcases List.mem_cons.1 hz with rfl | hz
  · exact h1 y hy
  · exact c y hy z hz
theorem last_all {K : Int → Int} {l : List Int} {y x : Int} (h : Srtd K (l ++ [y])) (hy : Rl K y x) : ∀ z ∈ l ++ [y], Rl K z x := by
  obtain ⟨_, _, c⟩ := srtd_append.1 h
  intro z hz
  rcases List.mem_append.1 hz with hz | hz
  · exact (c z hz y (by simp)).trans hy
  · simp at hz; subst hz; exact hy
theorem first_all {K : Int → Int} {l : List Int} {y x : Int} (h : Srtd K (y :: l)) (hy : Rl K x y) : ∀ z ∈ y :: l, Rl K x z := by
  obtain ⟨a, _⟩ := srtd_cons.1 h
  intro z hz
  rcases List.mem_cons.1 hz with rfl | hz
  · exact hy
  · exact hy.trans (a z hz)
theorem FB.sub {l r l' r' : List Int} (h : FB l r) (h1 : ∀ x ∈ l', x ∈ l) (h2 : ∀ x ∈ r', x ∈ r) : FB l' r' := fun x hx y hy => h x (h1 x hx) y (h2 y hy)
theorem FB.perm {l r l' r' : List Int} (h : FB l r) (h1 : l'.Perm l) (h2 : r'.Perm r) : FB l' r' := h.sub (fun x hx => h1.mem_iff.1 hx) (fun x hx => h2.mem_iff.1 hx)
theorem snoc_of {l : List Int} (h : l ≠ []) : ∃ a y, l = a ++ [y] := ⟨l.dropLast, l.getLast h, (List.dropLast_concat_getLast h).symm⟩
end Go.Proofs.YtplojnlmofbneaaDoor
