/- Trees of bridges: roots, ways up, and how many links are used; no program in sight. -/
import Derived.Test.YtccgaflbhpagcaaDoorSpanP
namespace Go.Proofs.YtccgaflbhpagcaaDoor
set_option linter.unusedVariables false
set_option linter.unusedSimpArgs false
namespace Sp
section
variable {n : Nat} {E : List Arc} {B : List Bel} (ok : Ok n E) (hf : Fin n E B)
include ok hf
/-- up from a node, to its root -/
theorem up_root : ∀ (m v : Nat), v < n → (at_ B v).2.1.toNat = m → ∃ w, w < n ∧ (at_ B v).1 = (w : Int) ∧ (at_ B w).1 = w ∧ (at_ B w).2.2 = -1 ∧ (at_ B w).2.1 = 0 := by
  intro m
  induction m using Nat.strongRecOn with
  | _ m ih =>
    intro v hv hm
    obtain ⟨h1, h2, h3, h4⟩ := hf.node v hv
    rcases h4 with ⟨e1, e2, e3⟩ | ⟨y, c, e1, e2, e3⟩
    · exact ⟨v, hv, e2, e2, e1, e3⟩
    · obtain ⟨a1, a2, a3⟩ := hf.arc _ _ _ e2
      obtain ⟨o1, o2, o3⟩ := ok.lt _ e2
      simp only at o1 o2 o3
      obtain ⟨g1, g2, g3, -⟩ := hf.node y o1
      obtain ⟨w, hw, w1, w2⟩ := ih (at_ B y).2.1.toNat (by omega) y o1 rfl
      exact ⟨w, hw, by omega, w2⟩
theorem root_root {v : Nat} (hv : v < n) : ∃ w, w < n ∧ (at_ B v).1 = (w : Int) ∧ (at_ B w).1 = w ∧ (at_ B w).2.2 = -1 ∧ (at_ B w).2.1 = 0 := up_root ok hf _ v hv rfl
theorem up_iff {v : Nat} (hv : v < n) : (at_ B v).1 = v ↔ (at_ B v).2.2 = -1 := by
  obtain ⟨w, hw, w1, w2, w3, w4⟩ := root_root ok hf hv
  constructor
  · intro h
    have : w = v := by omega
    subst this; exact w3
  · intro h
    obtain ⟨h1, h2, h3, h4⟩ := hf.node v hv
    rcases h4 with ⟨e1, e2, e3⟩ | ⟨y, c, e1, e2, e3⟩
    · exact e2
    · omega
/-- one step up -/
theorem up_step {v : Nat} (hv : v < n) (hne : (at_ B v).1 ≠ v) : ∃ (y : Nat) (c : Int), y < n ∧ (at_ B v).2.2 = (y : Int) ∧ (y, v, c) ∈ E ∧ (at_ B y).1 = (at_ B v).1 ∧ (at_ B y).2.1 < (at_ B v).2.1 ∧ (at_ B v).2.1 = (at_ B y).2.1 + c := by
  obtain ⟨h1, h2, h3, h4⟩ := hf.node v hv
  rcases h4 with ⟨e1, e2, e3⟩ | ⟨y, c, e1, e2, e3⟩
  · exact absurd e2 hne
  · obtain ⟨o1, o2, o3⟩ := ok.lt _ e2
    simp only at o1 o2 o3
    exact ⟨y, c, o1, e1, e2, (hf.arc _ _ _ e2).1, by omega, e3⟩
end
theorem countP_lt {α : Type} {p q : α → Bool} : ∀ {l : List α}, (∀ x ∈ l, p x = true → q x = true) → (∃ x ∈ l, q x = true ∧ p x = false) → l.countP p < l.countP q
  | [], _, ⟨_, h, _⟩ => by simp at h
  | a :: l, h, ⟨x, hx, h1, h2⟩ => by
    have hle : l.countP p ≤ l.countP q := List.countP_mono_left (fun y hy => h y (by simp [hy]))
    rw [List.countP_cons, List.countP_cons]
    rcases List.mem_cons.1 hx with rfl | hx
    · rw [h1, h2]; simp; omega
    · have := countP_lt (l := l) (fun y hy => h y (by simp [hy])) ⟨x, hx, h1, h2⟩
      have ha := h a (by simp)
      cases e1 : p a <;> cases e2 : q a <;> simp [e1, e2] at ha ⊢ <;> omega
/-- how many are nearer -/
def near (n : Nat) (B : List Bel) (v : Nat) : Nat := (List.range n).countP fun w => decide ((at_ B w).2.1 < (at_ B v).2.1)
theorem near_lt {n : Nat} {B : List Bel} {y v : Nat} (hy : y < n) (h : (at_ B y).2.1 < (at_ B v).2.1) : near n B y < near n B v :=
  countP_lt (fun x _ hx => by simp only [decide_eq_true_eq] at hx ⊢; omega) ⟨y, by simpa using hy, by simpa using h, by simp⟩
theorem near_n {n : Nat} {B : List Bel} {v : Nat} (hv : v < n) : near n B v < n := by
  have := countP_lt (l := List.range n) (p := fun w => decide ((at_ B w).2.1 < (at_ B v).2.1)) (q := fun _ => true) (fun _ _ _ => rfl) ⟨v, by simpa using hv, rfl, by simp⟩
  have e : (List.range n).countP (fun _ => true) = n := by simp
  rw [e] at this
  exact this

/-! ### links that are right -/
def pairB (x y : Lnk) : Bool := decide (x.1 = y.1 ∧ x.2.1 = y.2.1 ∨ x.1 = y.2.1 ∧ x.2.1 = y.1)
structure OkL (n : Nat) (l : List Lnk) : Prop where
  rng : ∀ x ∈ l, 0 ≤ x.1 ∧ x.1 < n ∧ 0 ≤ x.2.1 ∧ x.2.1 < n ∧ 1 ≤ x.2.2 ∧ x.2.2 ≤ 15 ∧ x.1 ≠ x.2.1
  twice : l.Pairwise fun x y => pairB y x = false
theorem pairB_iff {x y : Lnk} : pairB x y = true ↔ x.1 = y.1 ∧ x.2.1 = y.2.1 ∨ x.1 = y.2.1 ∧ x.2.1 = y.1 := decide_eq_true_iff
theorem OkL.sub {n : Nat} {l m : List Lnk} (h : OkL n l) (hs : m.Sublist l) : OkL n m := ⟨fun x hx => h.rng x (hs.subset hx), h.twice.sublist hs⟩
theorem mem_arcs {l : List Lnk} {a b : Nat} {c : Int} : (a, b, c) ∈ arcsOf l ↔ ∃ x ∈ l, (x.1.toNat = a ∧ x.2.1.toNat = b ∨ x.2.1.toNat = a ∧ x.1.toNat = b) ∧ x.2.2 = c := by
  unfold arcsOf
  rw [List.mem_append, List.mem_map, List.mem_map]
  constructor
  · rintro (⟨x, hx, e⟩ | ⟨x, hx, e⟩)
    · simp only [Prod.mk.injEq] at e; exact ⟨x, hx, .inl ⟨e.1, e.2.1⟩, e.2.2⟩
    · simp only [Prod.mk.injEq] at e; exact ⟨x, hx, .inr ⟨e.1, e.2.1⟩, e.2.2⟩
  · rintro ⟨x, hx, (⟨h1, h2⟩ | ⟨h1, h2⟩), h3⟩
    · exact .inl ⟨x, hx, by rw [h1, h2, h3]⟩
    · exact .inr ⟨x, hx, by rw [h1, h2, h3]⟩
theorem ok_arcs {n : Nat} {l : List Lnk} (h : OkL n l) : Ok n (arcsOf l) := by
  refine ⟨fun x hx => ?_⟩
  obtain ⟨a, b, c⟩ := x
  obtain ⟨y, hy, h1, h2⟩ := mem_arcs.1 hx
  have := h.rng y hy
  simp only
  omega
theorem sym_arcs (l : List Lnk) : Sym (arcsOf l) := by
  intro a b c h
  obtain ⟨y, hy, h1, h2⟩ := mem_arcs.1 h
  exact mem_arcs.2 ⟨y, hy, by rcases h1 with ⟨p, q⟩ | ⟨p, q⟩; exact .inr ⟨q, p⟩; exact .inl ⟨q, p⟩, h2⟩
theorem arcs_sub {l m : List Lnk} (h : ∀ x ∈ m, x ∈ l) {a b : Nat} {c : Int} (hm : (a, b, c) ∈ arcsOf m) : (a, b, c) ∈ arcsOf l := by
  obtain ⟨y, hy, h1⟩ := mem_arcs.1 hm
  exact mem_arcs.2 ⟨y, h y hy, h1⟩
/-- is a link used -/
def usedB (B : List Bel) (x : Lnk) : Bool := decide ((at_ B x.1.toNat).2.2 = x.2.1) || decide ((at_ B x.2.1.toNat).2.2 = x.1)
def treeOf (B : List Bel) (l : List Lnk) : List Lnk := l.filter (usedB B)
section
variable {n : Nat} {l : List Lnk} {B : List Bel} (ok : OkL n l) (hf : Fin n (arcsOf l) B)
include ok hf
omit hf in
/-- the link by which a node goes up is used -/
theorem up_used {v y : Nat} {c : Int} (hE : (y, v, c) ∈ arcsOf l) (hu : (at_ B v).2.2 = (y : Int)) : (y, v, c) ∈ arcsOf (treeOf B l) := by
  obtain ⟨x, hx, h1, h2⟩ := mem_arcs.1 hE
  refine mem_arcs.2 ⟨x, List.mem_filter.2 ⟨hx, ?_⟩, h1, h2⟩
  have hr := ok.rng x hx
  unfold usedB
  rw [Bool.or_eq_true, decide_eq_true_eq, decide_eq_true_eq]
  rcases h1 with ⟨h3, h4⟩ | ⟨h3, h4⟩
  · right; rw [h4, hu]; omega
  · left; rw [h4, hu]; omega
omit hf in
theorem tree_ok : OkL n (treeOf B l) := ok.sub List.filter_sublist
/-- by the used links alone each has the same root -/
theorem tree_roots {C : List Bel} (hc : Fin n (arcsOf (treeOf B l)) C) : ∀ v, v < n → (at_ C v).1 = (at_ B v).1 := by
  have okt := tree_ok (B := B) ok
  -- by used links from v to its root
  have up : ∀ (m v : Nat), v < n → (at_ B v).2.1.toNat = m → (at_ C v).1 ≤ (at_ B v).1 := by
    intro m
    induction m using Nat.strongRecOn with
    | _ m ih =>
      intro v hv hm
      by_cases hr : (at_ B v).1 = v
      · rw [hr]; exact (hc.node v hv).2.1
      · obtain ⟨y, c, hy, h1, h2, h3, h4, h5⟩ := up_step (ok_arcs ok) hf hv hr
        have := ih (at_ B y).2.1.toNat (by have := (hf.node y hy).2.2.1; omega) y hy rfl
        have e := (hc.arc _ _ _ (up_used ok h2 h1)).1
        omega
  have dn : ∀ (m v : Nat), v < n → (at_ C v).2.1.toNat = m → (at_ B v).1 ≤ (at_ C v).1 := by
    intro m
    induction m using Nat.strongRecOn with
    | _ m ih =>
      intro v hv hm
      by_cases hr : (at_ C v).1 = v
      · rw [hr]; exact (hf.node v hv).2.1
      · obtain ⟨y, c, hy, h1, h2, h3, h4, h5⟩ := up_step (ok_arcs okt) hc hv hr
        have := ih (at_ C y).2.1.toNat (by have := (hc.node y hy).2.2.1; omega) y hy rfl
        have e := (hf.arc _ _ _ (arcs_sub (fun x hx => (List.mem_filter.1 hx).1) h2)).1
        omega
  intro v hv
  have h1 := up _ v hv rfl
  have h2 := dn _ v hv rfl
  omega
end
theorem nodup_sub {α : Type} [DecidableEq α] : ∀ {p q : List α}, p.Nodup → (∀ x ∈ p, x ∈ q) → p.length ≤ q.length
  | [], _, _, _ => by simp
  | a :: p, q, hn, h => by
    have ha := h a (by simp)
    obtain ⟨hn1, hn2⟩ := List.nodup_cons.1 hn
    have := nodup_sub (p := p) (q := q.erase a) hn2 (fun x hx => by
      have hne : x ≠ a := fun e => hn1 (e ▸ hx)
      exact (List.mem_erase_of_ne hne).2 (h x (by simp [hx])))
    rw [List.length_erase_of_mem ha] at this
    have hp : 0 < q.length := List.length_pos_of_mem ha
    simp only [List.length_cons]; omega
/-- how many are their own root -/
def rootsN (n : Nat) (B : List Bel) : Nat := (List.range n).countP fun v => decide ((at_ B v).1 = (v : Int))
def child (B : List Bel) (x : Lnk) : Nat := if (at_ B x.1.toNat).2.2 = x.2.1 then x.1.toNat else x.2.1.toNat
section
variable {n : Nat} {l : List Lnk} {B : List Bel} (ok : OkL n l) (hf : Fin n (arcsOf l) B)
include ok hf
theorem child_up {x : Lnk} (hx : x ∈ treeOf B l) : child B x < n ∧ ((child B x : Nat) : Int) ≠ (at_ B (child B x)).1 ∧ ((x.1 = (child B x : Nat) ∧ x.2.1 = (at_ B (child B x)).2.2) ∨ (x.2.1 = (child B x : Nat) ∧ x.1 = (at_ B (child B x)).2.2)) := by
  obtain ⟨hl, hu⟩ := List.mem_filter.1 hx
  have hr := ok.rng x hl
  unfold usedB at hu
  rw [Bool.or_eq_true, decide_eq_true_eq, decide_eq_true_eq] at hu
  by_cases h1 : (at_ B x.1.toNat).2.2 = x.2.1
  · have e : child B x = x.1.toNat := by unfold child; rw [if_pos h1]
    rw [e]
    refine ⟨by omega, fun h => ?_, .inl ⟨by omega, h1.symm⟩⟩
    have := (up_iff (ok_arcs ok) hf (v := x.1.toNat) (by omega)).1 h.symm
    omega
  · have e : child B x = x.2.1.toNat := by unfold child; rw [if_neg h1]
    have h2 := hu.resolve_left h1
    rw [e]
    refine ⟨by omega, fun h => ?_, .inr ⟨by omega, h2.symm⟩⟩
    have := (up_iff (ok_arcs ok) hf (v := x.2.1.toNat) (by omega)).1 h.symm
    omega
theorem child_nodup : ((treeOf B l).map (child B)).Nodup := by
  have hp : (treeOf B l).Pairwise fun x y => pairB y x = false := ok.twice.sublist List.filter_sublist
  rw [List.Nodup, List.pairwise_map]
  refine hp.imp_of_mem (fun {x y} hx hy h e => ?_)
  obtain ⟨_, _, h1⟩ := child_up ok hf hx
  obtain ⟨_, _, h2⟩ := child_up ok hf hy
  rw [← e] at h2
  have : pairB y x = true := pairB_iff.2 (by omega)
  rw [this] at h; cases h
/-- as many links are used as there are nodes less roots -/
theorem tree_count : (treeOf B l).length + rootsN n B = n := by
  have hc : ((List.range n).filter fun v => !decide ((at_ B v).1 = (v : Int))).length = (treeOf B l).length := by
    apply Nat.le_antisymm
    · have := nodup_sub (p := (List.range n).filter fun v => !decide ((at_ B v).1 = (v : Int))) (q := (treeOf B l).map (child B)) (List.nodup_range.filter _) (fun v hv => by
        obtain ⟨h1, h2⟩ := List.mem_filter.1 hv
        have hv' : v < n := by simpa using h1
        have hne : (at_ B v).1 ≠ v := by simpa using h2
        obtain ⟨y, c, hy, g1, g2, g3, g4, g5⟩ := up_step (ok_arcs ok) hf hv' hne
        obtain ⟨x, hx, k1, k2⟩ := mem_arcs.1 (up_used ok g2 g1)
        have hr := ok.rng x (List.mem_filter.1 hx).1
        refine List.mem_map.2 ⟨x, hx, ?_⟩
        unfold child
        rcases k1 with ⟨k3, k4⟩ | ⟨k3, k4⟩
        · rw [if_neg, k4]
          intro e
          rw [k3] at e
          -- y goes up by v, and v by y
          have hny : (at_ B y).1 ≠ y := fun h => by have := (up_iff (ok_arcs ok) hf hy).1 h; omega
          obtain ⟨z, c', hz, z1, z2, z3, z4, z5⟩ := up_step (ok_arcs ok) hf hy hny
          have : z = v := by omega
          subst this; omega
        · rw [if_pos, k4]; rw [k4, g1]; omega)
      simpa using this
    · have := nodup_sub (p := (treeOf B l).map (child B)) (q := (List.range n).filter fun v => !decide ((at_ B v).1 = (v : Int))) (child_nodup ok hf) (fun v hv => by
        obtain ⟨x, hx, rfl⟩ := List.mem_map.1 hv
        obtain ⟨h1, h2, _⟩ := child_up ok hf hx
        refine List.mem_filter.2 ⟨by simpa using h1, ?_⟩
        simp; intro h; exact h2 h.symm)
      simpa using this
  have hs := List.length_eq_countP_add_countP (fun v => decide ((at_ B v).1 = (v : Int))) (l := List.range n)
  rw [List.length_range] at hs
  have e : (List.range n).countP (fun a => decide ¬decide ((at_ B a).1 = (a : Int)) = true) = ((List.range n).filter fun v => !decide ((at_ B v).1 = (v : Int))).length := by
    rw [← List.countP_eq_length_filter]
    congr 1
    funext a
    by_cases h : (at_ B a).1 = (a : Int) <;> simp [h]
  unfold rootsN
  rw [e] at hs
  omega
end
/-- without one of the used links roots are others -/
theorem less_roots {n : Nat} {l m : List Lnk} {B C : List Bel} (ok : OkL n l) (hf : Fin n (arcsOf l) B) (hs : m.Sublist (treeOf B l)) (hl : m.length < (treeOf B l).length) (hc : Fin n (arcsOf m) C) : ¬ ∀ v, v < n → (at_ C v).1 = (at_ B v).1 := by
  intro h
  have okm := (tree_ok ok).sub hs
  have h1 := tree_count ok hf
  have h2 := tree_count okm hc
  have h3 : (treeOf C m).length ≤ m.length := List.length_filter_le _ _
  have e : rootsN n C = rootsN n B := by
    unfold rootsN
    refine List.countP_congr fun v hv => ?_
    rw [h v (by simpa using hv)]
  omega
end Sp
end Go.Proofs.YtccgaflbhpagcaaDoor
