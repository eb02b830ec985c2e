/- Trees of bridges in plain lists: what beliefs come to, that it ends, roots and the ways up to them; no program in sight. -/
namespace Go.Proofs.YtccgaflbhpagcaaDoor
set_option linter.unusedVariables false
set_option linter.unusedSimpArgs false

namespace Sp
/-- a belief: root, how far, by whom -/
abbrev Bel := Int × Int × Int
abbrev Lnk := Int × Int × Int
def lexB (x y : Bel) : Bool := decide (x.1 < y.1 ∨ x.1 = y.1 ∧ (x.2.1 < y.2.1 ∨ x.2.1 = y.2.1 ∧ x.2.2 < y.2.2))
def leF (x : Bel) (r f : Int) : Prop := x.1 < r ∨ x.1 = r ∧ x.2.1 ≤ f
def at_ (B : List Bel) (i : Nat) : Bel := B.getD i (0, 0, 0)
/-- one way of a link -/
abbrev Arc := Nat × Nat × Int
def arcsOf (l : List Lnk) : List Arc := l.map (fun x => (x.1.toNat, x.2.1.toNat, x.2.2)) ++ l.map (fun x => (x.2.1.toNat, x.1.toNat, x.2.2))
def cand (B : List Bel) (x : Arc) : Bel := ((at_ B x.1).1, (at_ B x.1).2.1 + x.2.2, (x.1 : Int))
def stepB (B : List Bel) (x : Arc) : List Bel := if lexB (cand B x) (at_ B x.2.1) then B.set x.2.1 (cand B x) else B
def passB (B : List Bel) (E : List Arc) : List Bel := E.foldl stepB B
def moved (B : List Bel) : List Arc → Bool
  | [] => false
  | x :: E => lexB (cand B x) (at_ B x.2.1) || moved (stepB B x) E
def start (n : Nat) : List Bel := (List.range n).map fun (i : Nat) => ((i : Int), (0 : Int), (-1 : Int))

/-- nodes and links that are right, as arcs -/
structure Ok (n : Nat) (E : List Arc) : Prop where
  lt : ∀ x ∈ E, x.1 < n ∧ x.2.1 < n ∧ 1 ≤ x.2.2 ∧ x.2.2 ≤ 15

/-- a way from a node to the root that it believes in; each on it believes no worse -/
inductive Ch (n : Nat) (E : List Arc) (B : List Bel) : List Nat → Int → Int → Prop
  | base {r : Nat} : r < n → leF (at_ B r) r 0 → Ch n E B [r] r 0
  | step {y v : Nat} {p : List Nat} {r f c : Int} : Ch n E B (y :: p) r f → (y, v, c) ∈ E → v < n → v ∉ y :: p → leF (at_ B v) r (f + c) → Ch n E B (v :: y :: p) r (f + c)

theorem at_set {B : List Bel} {i j : Nat} {b : Bel} (hj : j < B.length) : at_ (B.set j b) i = if i = j then b else at_ B i := by
  unfold at_
  by_cases h : i = j
  · subst h; rw [if_pos rfl, List.getD_eq_getElem?_getD, List.getElem?_set_self hj]; rfl
  · rw [if_neg h, List.getD_eq_getElem?_getD, List.getD_eq_getElem?_getD, List.getElem?_set_ne (by omega)]
theorem lex_iff {x y : Bel} : lexB x y = true ↔ x.1 < y.1 ∨ x.1 = y.1 ∧ (x.2.1 < y.2.1 ∨ x.2.1 = y.2.1 ∧ x.2.2 < y.2.2) := decide_eq_true_iff
theorem leF_trans {x y : Bel} {r f : Int} (h : lexB x y = true) (h2 : leF y r f) : leF x r f := by
  have := lex_iff.1 h
  unfold leF at *; omega

section
variable {n : Nat} {E : List Arc} (ok : Ok n E)
include ok
theorem ch_rng {B : List Bel} {p : List Nat} {r f : Int} (h : Ch n E B p r f) : 0 ≤ r ∧ r < n ∧ 0 ≤ f ∧ f ≤ 15 * ((p.length : Int) - 1) ∧ p.Nodup ∧ ∀ v ∈ p, v < n := by
  induction h with
  | base hr _ => exact ⟨by omega, by omega, by omega, by simp, by simp, by simpa using hr⟩
  | step h0 hE hv hn _ ih =>
    obtain ⟨h1, h2, h3, h4, h5, h6⟩ := ih
    have hc := (ok.lt _ hE).2.2
    simp only at hc
    refine ⟨h1, h2, by omega, ?_, List.nodup_cons.2 ⟨hn, h5⟩, ?_⟩
    · simp only [List.length_cons] at h4 ⊢; omega
    · intro v' hv'
      rcases List.mem_cons.1 hv' with rfl | hv'
      · exact hv
      · exact h6 _ hv'
/-- whoever is on the way believes no worse than its end -/
theorem ch_on {B : List Bel} {p : List Nat} {r f : Int} (h : Ch n E B p r f) : ∀ v ∈ p, leF (at_ B v) r f := by
  induction h with
  | base hr hl => intro v hv; simp at hv; subst hv; exact hl
  | step h0 hE hv hn hl ih =>
    have hc := (ok.lt _ hE).2.2
    simp only at hc
    intro v' hv'
    rcases List.mem_cons.1 hv' with rfl | hv'
    · exact hl
    · have := ih v' hv'; unfold leF at *; omega
omit ok in
theorem ch_mono {B B' : List Bel} {p : List Nat} {r f : Int} (h : Ch n E B p r f) (hb : ∀ v r f, leF (at_ B v) r f → leF (at_ B' v) r f) : Ch n E B' p r f := by
  induction h with
  | base hr hl => exact .base hr (hb _ _ _ hl)
  | step h0 hE hv hn hl ih => exact .step ih hE hv hn (hb _ _ _ hl)

/-- what holds of beliefs all the time -/
structure Inv (n : Nat) (E : List Arc) (B : List Bel) : Prop where
  len : B.length = n
  ch : ∀ v, v < n → (∃ p, Ch n E B (v :: p) (at_ B v).1 (at_ B v).2.1 ∧ ((p = [] ∧ (at_ B v).2.2 = -1) ∨ ∃ y q, p = y :: q ∧ (at_ B v).2.2 = (y : Int))) ∧ (at_ B v).1 ≤ v

omit ok in
theorem inv_start : Inv n E (start n) := by
  refine ⟨by simp [start], fun v hv => ?_⟩
  have e : at_ (start n) v = ((v : Int), 0, -1) := by unfold at_ start; simp [List.getD_eq_getElem?_getD, hv]
  rw [e]
  refine ⟨⟨[], .base hv ?_, .inl ⟨rfl, rfl⟩⟩, by simp⟩
  rw [e]; unfold leF; simp
theorem inv_step {B : List Bel} (h : Inv n E B) {x : Arc} (hx : x ∈ E) : Inv n E (stepB B x) := by
  unfold stepB
  by_cases hb : lexB (cand B x) (at_ B x.2.1) = true
  · rw [if_pos hb]
    obtain ⟨a, b, c⟩ := x
    obtain ⟨ha, hb', hc⟩ := ok.lt _ hx
    simp only at ha hb' hc hb ⊢
    have hlen : b < B.length := by rw [h.len]; exact hb'
    have hat := fun i => at_set (i := i) (b := cand B (a, b, c)) hlen
    have hmono : ∀ v r f, leF (at_ B v) r f → leF (at_ (B.set b (cand B (a, b, c))) v) r f := by
      intro v r f hl
      rw [hat]
      by_cases hv : v = b
      · rw [if_pos hv]; subst hv; exact leF_trans hb hl
      · rw [if_neg hv]; exact hl
    refine ⟨by simp [h.len], fun v hv => ?_⟩
    rw [hat]
    by_cases hvb : v = b
    · rw [if_pos hvb]
      subst hvb
      obtain ⟨⟨p, hch, _⟩, _⟩ := h.ch a ha
      have hno : v ∉ a :: p := by
        intro hm
        have h1 := ch_on ok hch v hm
        have h2 := lex_iff.1 hb
        unfold cand at h2; unfold leF at h1
        simp only at h2
        omega
      refine ⟨⟨a :: p, ?_, .inr ⟨a, p, rfl, rfl⟩⟩, ?_⟩
      · have := ch_mono hch hmono
        refine .step this hx hv hno ?_
        rw [hat, if_pos rfl]
        unfold leF cand; simp
      · have h2 := lex_iff.1 hb
        have h3 := (h.ch v hv).2
        unfold cand at h2 ⊢; simp only at h2 ⊢; omega
    · rw [if_neg hvb]
      obtain ⟨⟨p, hch, hp⟩, hle⟩ := h.ch v hv
      exact ⟨⟨p, ch_mono hch hmono, hp⟩, hle⟩
  · rw [if_neg hb]; exact h
theorem inv_pass {B : List Bel} (h : Inv n E B) : ∀ {F : List Arc}, (∀ x ∈ F, x ∈ E) → Inv n E (passB B F) := by
  intro F
  induction F generalizing B with
  | nil => intro _; exact h
  | cons x F ih => intro hF; exact ih (inv_step ok h (hF x (by simp))) (fun y hy => hF y (by simp [hy]))

omit ok in
theorem nodup_len : ∀ (m : Nat) (p : List Nat), p.Nodup → (∀ v ∈ p, v < m) → p.length ≤ m
  | 0, p, _, h => by
    cases p with
    | nil => simp
    | cons a q => exact absurd (h a (by simp)) (by omega)
  | m + 1, p, hn, h => by
    by_cases hm : m ∈ p
    · have h1 := nodup_len m (p.erase m) (hn.erase m) (fun v hv => by
        have h2 := List.mem_of_mem_erase hv
        have h3 := h v h2
        have h4 : v ≠ m := fun e => by subst e; exact (List.Nodup.not_mem_erase hn) hv
        omega)
      rw [List.length_erase_of_mem hm] at h1
      omega
    · have := nodup_len m p hn (fun v hv => by have h2 := h v hv; have h3 : v ≠ m := fun e => hm (e ▸ hv); omega)
      omega
theorem inv_rng {B : List Bel} (h : Inv n E B) {v : Nat} (hv : v < n) : 0 ≤ (at_ B v).1 ∧ (at_ B v).1 < n ∧ 0 ≤ (at_ B v).2.1 ∧ (at_ B v).2.1 ≤ 15 * ((n : Int) - 1) ∧ -1 ≤ (at_ B v).2.2 ∧ (at_ B v).2.2 < n := by
  obtain ⟨⟨p, hch, hp⟩, _⟩ := h.ch v hv
  obtain ⟨h1, h2, h3, h4, h5, h6⟩ := ch_rng ok hch
  have := nodup_len n _ h5 h6
  refine ⟨h1, h2, h3, by omega, ?_⟩
  rcases hp with ⟨_, e⟩ | ⟨y, q, rfl, e⟩
  · omega
  · have := h6 y (by simp); omega

/-! ### it ends -/
def rank (b : Bel) : Nat := (b.1 * 2000 + b.2.1 * 10 + (b.2.2 + 1)).toNat
def ranks (B : List Bel) : Nat := (B.map rank).sum
omit ok in
theorem sum_set : ∀ (B : List Bel) (i : Nat) (b : Bel), i < B.length → ((B.set i b).map rank).sum + rank (at_ B i) = (B.map rank).sum + rank b
  | x :: B, 0, b, _ => by simp [at_]; omega
  | x :: B, i + 1, b, h => by
    have := sum_set B i b (by simpa using h)
    have e : at_ (x :: B) (i + 1) = at_ B i := by unfold at_; simp
    rw [e, List.set_cons_succ, List.map_cons, List.sum_cons, List.map_cons, List.sum_cons]
    omega
theorem rank_step (hn : n ≤ 8) {B : List Bel} (h : Inv n E B) {x : Arc} (hx : x ∈ E) (hb : lexB (cand B x) (at_ B x.2.1) = true) : ranks (stepB B x) < ranks B := by
  have hi := inv_step ok h hx
  obtain ⟨ha, hb', hc⟩ := ok.lt _ hx
  have r1 := inv_rng ok hi hb'
  have r2 := inv_rng ok h hb'
  have e : stepB B x = B.set x.2.1 (cand B x) := by unfold stepB; rw [if_pos hb]
  have hlen : x.2.1 < B.length := by rw [h.len]; exact hb'
  rw [e, at_set hlen, if_pos rfl] at r1
  have hs := sum_set B x.2.1 (cand B x) hlen
  have hl := lex_iff.1 hb
  have : rank (cand B x) < rank (at_ B x.2.1) := by
    unfold rank; omega
  unfold ranks
  rw [e]; omega
theorem ranks_pass (hn : n ≤ 8) {B : List Bel} (h : Inv n E B) : ∀ {F : List Arc}, (∀ x ∈ F, x ∈ E) → ranks (passB B F) ≤ ranks B ∧ (moved B F = true → ranks (passB B F) < ranks B) ∧ (moved B F = false → passB B F = B ∧ ∀ x ∈ F, lexB (cand B x) (at_ B x.2.1) = false) := by
  intro F
  induction F generalizing B with
  | nil => intro _; exact ⟨Nat.le_refl _, fun h => by simp [moved] at h, fun _ => ⟨rfl, by simp⟩⟩
  | cons x F ih =>
    intro hF
    have hx := hF x (by simp)
    obtain ⟨i1, i2, i3⟩ := ih (inv_step ok h hx) (fun y hy => hF y (by simp [hy]))
    have ep : passB B (x :: F) = passB (stepB B x) F := rfl
    rw [ep]
    by_cases hb : lexB (cand B x) (at_ B x.2.1) = true
    · have hr := rank_step ok hn h hx hb
      exact ⟨by omega, fun _ => by omega, fun hm => by simp [moved, hb] at hm⟩
    · have es : stepB B x = B := by unfold stepB; rw [if_neg hb]
      rw [es] at i1 i2 i3 ⊢
      refine ⟨i1, fun hm => i2 (by simpa [moved, hb, es] using hm), fun hm => ?_⟩
      obtain ⟨j1, j2⟩ := i3 (by simpa [moved, hb, es] using hm)
      refine ⟨j1, fun y hy => ?_⟩
      rcases List.mem_cons.1 hy with rfl | hy
      · simpa using hb
      · exact j2 y hy

/-! ### what it comes to -/
/-- links go both ways -/
def Sym (E : List Arc) : Prop := ∀ a b c, (a, b, c) ∈ E → (b, a, c) ∈ E
structure Fin (n : Nat) (E : List Arc) (B : List Bel) : Prop where
  len : B.length = n
  arc : ∀ a b c, (a, b, c) ∈ E → (at_ B a).1 = (at_ B b).1 ∧ (at_ B b).2.1 ≤ (at_ B a).2.1 + c ∧ ((at_ B b).2.1 = (at_ B a).2.1 + c → (at_ B b).2.2 ≤ a)
  node : ∀ v, v < n → 0 ≤ (at_ B v).1 ∧ (at_ B v).1 ≤ v ∧ 0 ≤ (at_ B v).2.1 ∧
    (((at_ B v).2.2 = -1 ∧ (at_ B v).1 = v ∧ (at_ B v).2.1 = 0) ∨ ∃ (y : Nat) (c : Int), (at_ B v).2.2 = (y : Int) ∧ (y, v, c) ∈ E ∧ (at_ B v).2.1 = (at_ B y).2.1 + c)
theorem fin_of {B : List Bel} (hs : Sym E) (h : Inv n E B) (hf : ∀ x ∈ E, lexB (cand B x) (at_ B x.2.1) = false) : Fin n E B := by
  have hfix : ∀ a b c, (a, b, c) ∈ E → ¬ ((at_ B a).1 < (at_ B b).1 ∨ (at_ B a).1 = (at_ B b).1 ∧ ((at_ B a).2.1 + c < (at_ B b).2.1 ∨ (at_ B a).2.1 + c = (at_ B b).2.1 ∧ (a : Int) < (at_ B b).2.2)) := by
    intro a b c hE hl
    have := hf _ hE
    rw [lex_iff.2 (by simpa [cand] using hl)] at this
    cases this
  have hroot : ∀ a b c, (a, b, c) ∈ E → (at_ B a).1 = (at_ B b).1 := fun a b c hE => by
    have h1 := hfix a b c hE
    have h2 := hfix b a c (hs _ _ _ hE)
    omega
  refine ⟨h.len, fun a b c hE => ?_, fun v hv => ?_⟩
  · have h1 := hfix a b c hE
    have h2 := hroot a b c hE
    exact ⟨h2, by omega, fun e => by omega⟩
  · have hr := inv_rng ok h hv
    obtain ⟨⟨p, hch, hp⟩, hle⟩ := h.ch v hv
    refine ⟨hr.1, hle, hr.2.2.1, ?_⟩
    rcases hp with ⟨rfl, e⟩ | ⟨y, q, rfl, e⟩
    · left
      refine ⟨e, ?_⟩
      generalize (at_ B v).1 = R at hch ⊢
      generalize (at_ B v).2.1 = F at hch ⊢
      cases hch with
      | base _ _ => exact ⟨rfl, rfl⟩
    · right
      have hroot' := hroot
      have key : ∀ R F, Ch n E B (v :: y :: q) R F → R = (at_ B v).1 → F = (at_ B v).2.1 → ∃ (y' : Nat) (c : Int), (at_ B v).2.2 = (y' : Int) ∧ (y', v, c) ∈ E ∧ (at_ B v).2.1 = (at_ B y').2.1 + c := by
        intro R F hc eR eF
        cases hc with
        | step h0 hE _ _ _ =>
          refine ⟨y, _, e, hE, ?_⟩
          have h1 := ch_on ok h0 y (by simp)
          have h2 := hfix _ _ _ hE
          have h3 := hroot _ _ _ hE
          unfold leF at h1
          omega
      exact key _ _ hch rfl rfl
end
end Sp
end Go.Proofs.YtccgaflbhpagcaaDoor
