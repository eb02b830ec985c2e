/- Who pays whom: ways that nodes choose, round by round; that it ends, and that there is but one end; no program in sight. -/
namespace Go.Proofs.YtnihheikaddmoaaDoor
set_option linter.unusedVariables false
set_option linter.unusedSimpArgs false
set_option linter.unusedSectionVars false
namespace Ga
abbrev Way := Int × List Int
/-- which of two lists is first -/
def cmpN : List Int → List Int → Int
  | a :: r, b :: s => if a < b then -1 else if b < a then 1 else cmpN r s
  | [], [] => 0
  | [], _ :: _ => -1
  | _ :: _, [] => 1
def betterB (a b : Way) : Bool :=
  if a.2 = [] ∨ b.2 = [] then !a.2.isEmpty
  else if a.1 ≠ b.1 then decide (a.1 < b.1)
  else if a.2.length ≠ b.2.length then decide (a.2.length < b.2.length)
  else decide (cmpN a.2 b.2 < 0)
theorem cmpN_self : ∀ a : List Int, cmpN a a = 0
  | [] => rfl
  | x :: a => by unfold cmpN; rw [if_neg (by omega), if_neg (by omega)]; exact cmpN_self a
theorem cmpN_neg : ∀ a b : List Int, cmpN b a = - cmpN a b
  | [], [] => rfl
  | [], _ :: _ => rfl
  | _ :: _, [] => rfl
  | x :: a, y :: b => by
    unfold cmpN
    by_cases h1 : x < y
    · rw [if_pos h1, if_neg (by omega), if_pos h1]; rfl
    · by_cases h2 : y < x
      · simp only [if_neg h1, if_pos h2]
      · rw [if_neg h1, if_neg h2, if_neg h2, if_neg h1]; exact cmpN_neg a b
theorem cmpN_zero : ∀ a b : List Int, cmpN a b = 0 → a = b
  | [], [], _ => rfl
  | [], _ :: _, h => by simp [cmpN] at h
  | _ :: _, [], h => by simp [cmpN] at h
  | x :: a, y :: b, h => by
    unfold cmpN at h
    by_cases h1 : x < y
    · rw [if_pos h1] at h; omega
    · by_cases h2 : y < x
      · rw [if_neg h1, if_pos h2] at h; omega
      · rw [if_neg h1, if_neg h2] at h
        rw [cmpN_zero a b h, show x = y by omega]
theorem cmpN_val : ∀ a b : List Int, cmpN a b = -1 ∨ cmpN a b = 0 ∨ cmpN a b = 1
  | [], [] => by simp [cmpN]
  | [], _ :: _ => by simp [cmpN]
  | _ :: _, [] => by simp [cmpN]
  | x :: a, y :: b => by
    unfold cmpN
    by_cases h1 : x < y
    · rw [if_pos h1]; simp
    · by_cases h2 : y < x
      · rw [if_neg h1, if_pos h2]; simp
      · rw [if_neg h1, if_neg h2]; exact cmpN_val a b
theorem cmpN_trans : ∀ a b c : List Int, cmpN a b < 0 → cmpN b c < 0 → cmpN a c < 0
  | [], [], _, h, _ => by simp [cmpN] at h
  | [], _ :: _, [], _, h => by simp [cmpN] at h
  | [], _ :: _, _ :: _, _, _ => by simp [cmpN]
  | _ :: _, [], _, h, _ => by simp [cmpN] at h
  | _ :: _, _ :: _, [], _, h => by simp [cmpN] at h
  | x :: a, y :: b, z :: c, h1, h2 => by
    unfold cmpN at h1 h2 ⊢
    by_cases p : x < y
    · by_cases q : y < z
      · rw [if_pos (by omega)]; omega
      · by_cases q' : z < y
        · rw [if_neg q, if_pos q'] at h2; omega
        · rw [if_pos (by omega)]; omega
    · by_cases p' : y < x
      · rw [if_neg p, if_pos p'] at h1; omega
      · rw [if_neg p, if_neg p'] at h1
        by_cases q : y < z
        · rw [if_pos (by omega)]; omega
        · by_cases q' : z < y
          · rw [if_neg q, if_pos q'] at h2; omega
          · rw [if_neg q, if_neg q'] at h2
            rw [if_neg (by omega), if_neg (by omega)]
            exact cmpN_trans a b c h1 h2
/-! ### the order of ways -/
theorem bet_iff {a b : Way} (ha : a.2 ≠ []) (hb : b.2 ≠ []) : betterB a b = true ↔ a.1 < b.1 ∨ a.1 = b.1 ∧ (a.2.length < b.2.length ∨ a.2.length = b.2.length ∧ cmpN a.2 b.2 < 0) := by
  unfold betterB
  rw [if_neg (by intro h; rcases h with h | h <;> contradiction)]
  by_cases h1 : a.1 = b.1
  · rw [if_neg (by simpa using h1)]
    by_cases h2 : a.2.length = b.2.length
    · rw [if_neg (by simpa using h2), decide_eq_true_eq]; omega
    · rw [if_pos h2, decide_eq_true_eq]; omega
  · rw [if_pos h1, decide_eq_true_eq]; omega
theorem bet_empty_r {a b : Way} (ha : a.2 ≠ []) (hb : b.2 = []) : betterB a b = true := by
  unfold betterB; rw [if_pos (.inr hb)]; cases h : a.2 with
  | nil => exact absurd h ha
  | cons x r => rfl
theorem bet_empty_l {a b : Way} (ha : a.2 = []) : betterB a b = false := by unfold betterB; rw [if_pos (.inl ha), ha]; rfl
theorem bet_irr (a : Way) : betterB a a = false := by
  by_cases h : a.2 = []
  · exact bet_empty_l h
  · cases e : betterB a a with
    | false => rfl
    | true => have := (bet_iff h h).1 e; rw [cmpN_self] at this; omega
theorem bet_asym {a b : Way} (ha : a.2 ≠ []) (hb : b.2 ≠ []) (h : betterB a b = true) : betterB b a = false := by
  cases e : betterB b a with
  | false => rfl
  | true =>
    have h1 := (bet_iff ha hb).1 h
    have h2 := (bet_iff hb ha).1 e
    have := cmpN_neg a.2 b.2
    omega
theorem bet_total {a b : Way} (ha : a.2 ≠ []) (hb : b.2 ≠ []) (hne : a ≠ b) : betterB a b = true ∨ betterB b a = true := by
  rw [bet_iff ha hb, bet_iff hb ha]
  have := cmpN_neg a.2 b.2
  rcases cmpN_val a.2 b.2 with h | h | h
  · omega
  · have e := cmpN_zero _ _ h
    have hne2 : a.1 ≠ b.1 := fun h' => hne (Prod.ext h' e)
    have hl : a.2.length = b.2.length := by rw [e]
    omega
  · omega
theorem bet_trans {a b c : Way} (ha : a.2 ≠ []) (hb : b.2 ≠ []) (hc : c.2 ≠ []) (h1 : betterB a b = true) (h2 : betterB b c = true) : betterB a c = true := by
  rw [bet_iff ha hb] at h1
  rw [bet_iff hb hc] at h2
  rw [bet_iff ha hc]
  have := cmpN_trans a.2 b.2 c.2
  omega
def bestP (l : List Way) : Way := l.foldl (fun b x => if betterB x b = true then x else b) (0, [])
/-- the best of some ways that all have nodes -/
theorem best_go : ∀ (l : List Way) (b : Way), (∀ x ∈ l, x.2 ≠ []) → (b.2 ≠ [] ∨ b = (0, [])) →
    let r := l.foldl (fun b x => if betterB x b = true then x else b) b
    (r = b ∨ r ∈ l) ∧ (∀ x ∈ l, x = r ∨ betterB r x = true) ∧ (b.2 ≠ [] → r = b ∨ betterB r b = true) ∧ (r.2 ≠ [] ∨ r = (0, []))
  | [], b, _, hb => ⟨.inl rfl, by simp, fun _ => .inl rfl, hb⟩
  | y :: l, b, hl, hb => by
    intro r
    have hy := hl y (by simp)
    have hl' := fun x hx => hl x (List.mem_cons_of_mem y hx)
    by_cases hc : betterB y b = true
    · have hr : r = l.foldl (fun b x => if betterB x b = true then x else b) y := by show List.foldl _ (if _ then _ else _) l = _; rw [if_pos hc]
      obtain ⟨h1, h2, h3, h4⟩ := best_go l y hl' (.inl hy)
      rw [← hr] at h1 h2 h3 h4
      have hrne : r.2 ≠ [] := by
        rcases h1 with h1 | h1
        · rw [h1]; exact hy
        · exact hl' r h1
      refine ⟨.inr (by rcases h1 with h1 | h1; rw [h1]; simp; exact List.mem_cons_of_mem _ h1), fun x hx => ?_, fun hbn => ?_, h4⟩
      · rcases List.mem_cons.1 hx with rfl | hx
        · rcases h3 hy with h | h
          · exact .inl h.symm
          · exact .inr h
        · exact h2 x hx
      · right
        rcases h3 hy with h | h
        · rw [h]; exact hc
        · exact bet_trans hrne hy hbn h hc
    · have hr : r = l.foldl (fun b x => if betterB x b = true then x else b) b := by show List.foldl _ (if _ then _ else _) l = _; rw [if_neg hc]
      obtain ⟨h1, h2, h3, h4⟩ := best_go l b hl' hb
      rw [← hr] at h1 h2 h3 h4
      have hbn : b.2 ≠ [] := by
        intro h
        exact hc (bet_empty_r hy h)
      have hrne : r.2 ≠ [] := by
        rcases h1 with h1 | h1
        · rw [h1]; exact hbn
        · exact hl' r h1
      refine ⟨by rcases h1 with h1 | h1; exact .inl h1; exact .inr (List.mem_cons_of_mem _ h1), fun x hx => ?_, h3, h4⟩
      rcases List.mem_cons.1 hx with rfl | hx
      · by_cases e : x = b
        · rcases h3 hbn with h | h
          · exact .inl (e.trans h.symm)
          · exact .inr (by rw [e]; exact h)
        · right
          have hbx := (bet_total hy hbn e).resolve_left hc
          rcases h3 hbn with h | h
          · rw [h]; exact hbx
          · exact bet_trans hrne hbn hy h hbx
      · exact h2 x hx
theorem best_nil : bestP [] = (0, []) := rfl
theorem best_mem {l : List Way} (hl : ∀ x ∈ l, x.2 ≠ []) (h0 : l ≠ []) : bestP l ∈ l ∧ ∀ x ∈ l, x = bestP l ∨ betterB (bestP l) x = true := by
  obtain ⟨h1, h2, _, h4⟩ := best_go l (0, []) hl (.inr rfl)
  refine ⟨?_, h2⟩
  rcases h1 with h1 | h1
  · cases l with
    | nil => exact absurd rfl h0
    | cons y l =>
      exfalso
      have hy := hl y (by simp)
      have hz : bestP (y :: l) = (0, []) := h1
      rcases h2 y (by simp) with h | h
      · have : y.2 = [] := by
          have e : y = bestP (y :: l) := h
          rw [e, hz]
        exact hy this
      · have e : betterB (bestP (y :: l)) y = true := h
        rw [hz, bet_empty_l rfl] at e; cases e
  · exact h1
theorem best_or {l : List Way} (hl : ∀ x ∈ l, x.2 ≠ []) : (l = [] ∧ bestP l = (0, [])) ∨ bestP l ∈ l := by
  by_cases h : l = []
  · exact .inl ⟨h, by rw [h]; rfl⟩
  · exact .inr (best_mem hl h).1
theorem best_uniq {l : List Way} (hl : ∀ x ∈ l, x.2 ≠ []) {b : Way} (hb : b ∈ l) (h : ∀ x ∈ l, x = b ∨ betterB b x = true) : bestP l = b := by
  obtain ⟨h1, h2⟩ := best_mem hl (by intro e; rw [e] at hb; cases hb)
  rcases h _ h1 with e | e
  · exact e
  · rcases h2 b hb with e' | e'
    · exact e'.symm
    · rw [bet_asym (hl _ hb) (hl _ h1) e] at e'; cases e'
/-- more ways that are all worse than one of the others change nothing -/
theorem best_more {l m : List Way} (hl : ∀ x ∈ l, x.2 ≠ []) (hsub : ∀ x ∈ m, x ∈ l) (hx : ∀ x ∈ l, x ∈ m ∨ ∃ y ∈ m, betterB y x = true) : bestP l = bestP m := by
  have hm : ∀ x ∈ m, x.2 ≠ [] := fun x h => hl x (hsub x h)
  by_cases h0 : m = []
  · subst h0
    have : l = [] := by
      cases l with
      | nil => rfl
      | cons y l => rcases hx y (by simp) with h | ⟨_, h, _⟩ <;> cases h
    rw [this]
  · obtain ⟨h1, h2⟩ := best_mem hm h0
    refine best_uniq hl (hsub _ h1) (fun x hxl => ?_)
    rcases hx x hxl with h | ⟨y, hy, hyx⟩
    · exact h2 x h
    · right
      rcases h2 y hy with e | e
      · rw [← e]; exact hyx
      · exact bet_trans (hm _ h1) (hm _ hy) (hl _ hxl) e hyx

/-! ### rounds -/
def wy (T : List Way) (i : Nat) : Way := T.getD i (0, [])
def offer (W : Nat → Nat → Int) (T : List Way) (i k : Nat) : Option Way :=
  if W i k = 0 ∨ (wy T k).2 = [] ∨ (i : Int) ∈ (wy T k).2 then none
  else if (wy T k).1 = 0 ∨ (wy T k).1 = 1 ∨ W k i = 1 then some (W i k, (i : Int) :: (wy T k).2) else none
def offersP (W : Nat → Nat → Int) (n : Nat) (T : List Way) (i : Nat) : List Way := (List.range n).filterMap (offer W T i)
def stepP (W : Nat → Nat → Int) (n to : Nat) (T : List Way) (i : Nat) : List Way := if i = to then T else T.set i (bestP (offersP W n T i))
def passP (W : Nat → Nat → Int) (n to : Nat) (T : List Way) : List Way := (List.range n).foldl (stepP W n to) T
def iterP (W : Nat → Nat → Int) (n to : Nat) : Nat → List Way → List Way
  | 0, T => T
  | j + 1, T => iterP W n to j (passP W n to T)
def startP (n to : Nat) : List Way := (List.replicate n ((0 : Int), ([] : List Int))).set to (0, [(to : Int)])
theorem wy_set {T : List Way} {i j : Nat} {x : Way} (hj : j < T.length) : wy (T.set j x) i = if i = j then x else wy T i := by
  unfold wy
  by_cases h : i = j
  · subst h; rw [if_pos rfl, List.getD_eq_getElem?_getD, List.getElem?_set_self hj]; rfl
  · rw [if_neg h, List.getD_eq_getElem?_getD, List.getD_eq_getElem?_getD, List.getElem?_set_ne (by omega)]
theorem offer_some {W : Nat → Nat → Int} {T : List Way} {i k : Nat} {x : Way} : offer W T i k = some x ↔ (W i k ≠ 0 ∧ (wy T k).2 ≠ [] ∧ ¬ (i : Int) ∈ (wy T k).2 ∧ ((wy T k).1 = 0 ∨ (wy T k).1 = 1 ∨ W k i = 1)) ∧ x = (W i k, (i : Int) :: (wy T k).2) := by
  unfold offer
  by_cases h1 : W i k = 0 ∨ (wy T k).2 = [] ∨ (i : Int) ∈ (wy T k).2
  · rw [if_pos h1]
    constructor
    · intro h; cases h
    · rintro ⟨⟨a, b, c, _⟩, _⟩; rcases h1 with h | h | h <;> contradiction
  · rw [if_neg h1]
    have h1' : W i k ≠ 0 ∧ (wy T k).2 ≠ [] ∧ ¬ (i : Int) ∈ (wy T k).2 := ⟨fun h => h1 (.inl h), fun h => h1 (.inr (.inl h)), fun h => h1 (.inr (.inr h))⟩
    by_cases h2 : (wy T k).1 = 0 ∨ (wy T k).1 = 1 ∨ W k i = 1
    · rw [if_pos h2]
      constructor
      · intro h; injection h with h; exact ⟨⟨h1'.1, h1'.2.1, h1'.2.2, h2⟩, h.symm⟩
      · rintro ⟨_, rfl⟩; rfl
    · rw [if_neg h2]
      constructor
      · intro h; cases h
      · rintro ⟨⟨_, _, _, h⟩, _⟩; exact absurd h h2
theorem mem_offers {W : Nat → Nat → Int} {n : Nat} {T : List Way} {i : Nat} {x : Way} : x ∈ offersP W n T i ↔ ∃ k, k < n ∧ (W i k ≠ 0 ∧ (wy T k).2 ≠ [] ∧ ¬ (i : Int) ∈ (wy T k).2 ∧ ((wy T k).1 = 0 ∨ (wy T k).1 = 1 ∨ W k i = 1)) ∧ x = (W i k, (i : Int) :: (wy T k).2) := by
  unfold offersP
  rw [List.mem_filterMap]
  constructor
  · rintro ⟨k, hk, h⟩; exact ⟨k, by simpa using hk, offer_some.1 h⟩
  · rintro ⟨k, hk, h⟩; exact ⟨k, by simpa using hk, offer_some.2 h⟩
theorem offers_ne {W : Nat → Nat → Int} {n : Nat} {T : List Way} {i : Nat} : ∀ x ∈ offersP W n T i, x.2 ≠ [] := by
  intro x hx
  obtain ⟨k, _, _, rfl⟩ := mem_offers.1 hx
  simp
/-- what each is to each, and that none pays itself round about -/
structure OkW (W : Nat → Nat → Int) (n : Nat) : Prop where
  val : ∀ i k, W i k = 0 ∨ W i k = 1 ∨ W i k = 2 ∨ W i k = 3
  rev : ∀ i k, W i k ≠ 0 → W k i = 4 - W i k
  acyc : ∃ rk : Nat → Nat, ∀ i k, i < n → k < n → W i k = 3 → rk k < rk i
/-- down to the end: each next one is a customer -/
inductive Dn (W : Nat → Nat → Int) (n to : Nat) : List Int → Prop
  | base : to < n → Dn W n to [(to : Int)]
  | step {i k : Nat} {p : List Int} : Dn W n to ((k : Int) :: p) → i < n → W i k = 1 → Dn W n to ((i : Int) :: (k : Int) :: p)
/-- ways as they are at any time -/
structure InvW (W : Nat → Nat → Int) (n to : Nat) (T : List Way) : Prop where
  len : T.length = n
  dest : wy T to = (0, [(to : Int)])
  head : ∀ i, i < n → (wy T i).2 ≠ [] → ∃ p, (wy T i).2 = (i : Int) :: p
  zero : ∀ i, i < n → (wy T i).1 = 0 → (wy T i).2 = [] ∨ i = to
  down : ∀ i, i < n → (wy T i).1 = 1 → Dn W n to (wy T i).2
section
variable {W : Nat → Nat → Int} {n to : Nat} (ok : OkW W n) (hto : to < n)
include ok hto
omit ok in
theorem inv_start : InvW W n to (startP n to) := by
  have hs := fun i => wy_set (T := List.replicate n ((0 : Int), ([] : List Int))) (i := i) (j := to) (x := (0, [(to : Int)])) (by simpa using hto)
  have hr : ∀ i, wy (List.replicate n ((0 : Int), ([] : List Int))) i = (0, []) := fun i => by
    unfold wy; rw [List.getD_eq_getElem?_getD]
    by_cases h : i < n <;> simp [h]
  have hv : ∀ i, wy (startP n to) i = if i = to then (0, [(to : Int)]) else (0, []) := fun i => by
    show wy (List.set _ _ _) i = _; rw [hs, hr]
  refine ⟨by simp [startP], by rw [hv, if_pos rfl], fun i hi h => ?_, fun i hi h => ?_, fun i hi h => ?_⟩
  · rw [hv] at h ⊢
    by_cases e : i = to
    · rw [if_pos e, e]; exact ⟨[], rfl⟩
    · rw [if_neg e] at h; exact absurd rfl h
  · rw [hv]
    by_cases e : i = to
    · exact .inr e
    · rw [if_neg e]; exact .inl rfl
  · rw [hv] at h
    by_cases e : i = to
    · rw [if_pos e] at h; cases h
    · rw [if_neg e] at h; cases h
/-- the ways on are right -/
theorem dn_of {T : List Way} (h : InvW W n to T) {k : Nat} (hk : k < n) (hne : (wy T k).2 ≠ []) (ht : (wy T k).1 = 0 ∨ (wy T k).1 = 1) : Dn W n to (wy T k).2 := by
  rcases ht with ht | ht
  · rcases h.zero k hk ht with h0 | h0
    · exact absurd h0 hne
    · subst h0; rw [h.dest]; exact .base hk
  · exact h.down k hk ht
theorem best_inv {T : List Way} (h : InvW W n to T) {i : Nat} (hi : i < n) : let b := bestP (offersP W n T i)
    (b.2 ≠ [] → ∃ p, b.2 = (i : Int) :: p) ∧ (b.1 = 0 → b.2 = []) ∧ (b.1 = 1 → Dn W n to b.2) := by
  intro b
  rcases best_or (offers_ne (W := W) (n := n) (T := T) (i := i)) with ⟨_, e⟩ | e
  · have e' : b = (0, []) := e
    rw [e']; exact ⟨fun h => absurd rfl h, fun _ => rfl, fun h => by cases h⟩
  · obtain ⟨k, hk, ⟨h1, h2, h3, h4⟩, e'⟩ := mem_offers.1 e
    have e'' : b = (W i k, (i : Int) :: (wy T k).2) := e'
    rw [e'']
    refine ⟨fun _ => ⟨_, rfl⟩, fun h => absurd h h1, fun hw => ?_⟩
    have hw' : W i k = 1 := hw
    have hk3 : W k i ≠ 1 := by have := ok.rev i k h1; omega
    have hd := dn_of ok hto h hk h2 (by rcases h4 with h4 | h4 | h4; exact .inl h4; exact .inr h4; exact absurd h4 hk3)
    obtain ⟨p, hp⟩ := h.head k hk h2
    show Dn W n to ((i : Int) :: (wy T k).2)
    rw [hp] at hd ⊢
    exact .step hd hi hw'
theorem inv_stepP {T : List Way} (h : InvW W n to T) {i : Nat} (hi : i < n) : InvW W n to (stepP W n to T i) := by
  unfold stepP
  by_cases e : i = to
  · rw [if_pos e]; exact h
  rw [if_neg e]
  have hs := fun j => wy_set (T := T) (i := j) (j := i) (x := bestP (offersP W n T i)) (by rw [h.len]; exact hi)
  obtain ⟨b1, b2, b3⟩ := best_inv ok hto h hi
  refine ⟨by simp [h.len], by rw [hs, if_neg (fun e' => e e'.symm)]; exact h.dest, fun j hj => ?_, fun j hj => ?_, fun j hj => ?_⟩
  · rw [hs]; by_cases e' : j = i
    · rw [if_pos e', e']; exact b1
    · rw [if_neg e']; exact h.head j hj
  · rw [hs]; by_cases e' : j = i
    · rw [if_pos e']; exact fun h0 => .inl (b2 h0)
    · rw [if_neg e']; exact h.zero j hj
  · rw [hs]; by_cases e' : j = i
    · rw [if_pos e']; exact b3
    · rw [if_neg e']; exact h.down j hj

/-! ### levels -/
/-- at level by level ways come to rest -/
structure Lev (W : Nat → Nat → Int) (n to : Nat) (lev : Nat → Nat) (V : Nat → Way) : Prop where
  low : lev to = 0
  pos : ∀ i, i < n → i ≠ to → 0 < lev i
  at_ : V to = (0, [(to : Int)])
  best : ∀ T, InvW W n to T → ∀ i, i < n → i ≠ to → (∀ k, k < n → lev k < lev i → wy T k = V k) → bestP (offersP W n T i) = V i
theorem lev_step {lev : Nat → Nat} {V : Nat → Way} (hl : Lev W n to lev V) {T : List Way} (h : InvW W n to T) {L : Nat} (hL : ∀ k, k < n → lev k < L → wy T k = V k) {i : Nat} (hi : i < n) :
    (∀ k, k < n → lev k < L → wy (stepP W n to T i) k = V k) ∧ (lev i ≤ L → wy (stepP W n to T i) i = V i) ∧ (∀ k, k < n → lev k ≤ L → wy T k = V k → wy (stepP W n to T i) k = V k) := by
  have key : lev i ≤ L → wy (stepP W n to T i) i = V i := by
    intro hle
    unfold stepP
    by_cases e : i = to
    · rw [if_pos e, e, h.dest, hl.at_]
    · rw [if_neg e, wy_set (by rw [h.len]; exact hi), if_pos rfl]
      exact hl.best T h i hi e (fun k hk hlt => hL k hk (by omega))
  have other : ∀ k, k ≠ i → wy (stepP W n to T i) k = wy T k := by
    intro k hk
    unfold stepP
    by_cases e : i = to
    · rw [if_pos e]
    · rw [if_neg e, wy_set (by rw [h.len]; exact hi), if_neg hk]
  refine ⟨fun k hk hlt => ?_, key, fun k hk hle hv => ?_⟩
  · by_cases e : k = i
    · subst e; exact key (by omega)
    · rw [other k e]; exact hL k hk hlt
  · by_cases e : k = i
    · subst e; exact key hle
    · rw [other k e]; exact hv
theorem lev_fold {lev : Nat → Nat} {V : Nat → Way} (hl : Lev W n to lev V) {L : Nat} : ∀ (l : List Nat) {T : List Way}, InvW W n to T → (∀ k ∈ l, k < n) → (∀ k, k < n → lev k < L → wy T k = V k) →
    InvW W n to (l.foldl (stepP W n to) T) ∧ (∀ k, k < n → lev k < L → wy (l.foldl (stepP W n to) T) k = V k) ∧ (∀ k, k ∈ l → lev k ≤ L → wy (l.foldl (stepP W n to) T) k = V k) ∧ (∀ k, k < n → lev k ≤ L → wy T k = V k → wy (l.foldl (stepP W n to) T) k = V k)
  | [], T, h, _, hL => ⟨h, hL, (fun k hk => by cases hk), fun k _ _ h => h⟩
  | i :: l, T, h, hn, hL => by
    have hi := hn i (by simp)
    obtain ⟨s1, s2, s3⟩ := lev_step ok hto hl h hL hi
    obtain ⟨i1, i2, i3, i4⟩ := lev_fold hl l (inv_stepP ok hto h hi) (fun k hk => hn k (by simp [hk])) s1
    refine ⟨i1, i2, fun k hk hle => ?_, fun k hk hle hv => i4 k hk hle (s3 k hk hle hv)⟩
    rcases List.mem_cons.1 hk with rfl | hk
    · exact i4 k hi hle (s2 hle)
    · exact i3 k hk hle
theorem lev_pass {lev : Nat → Nat} {V : Nat → Way} (hl : Lev W n to lev V) {L : Nat} {T : List Way} (h : InvW W n to T) (hL : ∀ k, k < n → lev k < L → wy T k = V k) :
    InvW W n to (passP W n to T) ∧ ∀ k, k < n → lev k < L + 1 → wy (passP W n to T) k = V k := by
  obtain ⟨i1, i2, i3, i4⟩ := lev_fold ok hto hl (List.range n) h (fun k hk => by simpa using hk) hL
  exact ⟨i1, fun k hk hlt => i3 k (by simpa using hk) (by omega)⟩
theorem lev_iter {lev : Nat → Nat} {V : Nat → Way} (hl : Lev W n to lev V) : ∀ (j L : Nat) {T : List Way}, InvW W n to T → (∀ k, k < n → lev k < L → wy T k = V k) →
    InvW W n to (iterP W n to j T) ∧ ∀ k, k < n → lev k < L + j → wy (iterP W n to j T) k = V k
  | 0, L, T, h, hL => ⟨h, fun k hk hlt => hL k hk (by omega)⟩
  | j + 1, L, T, h, hL => by
    obtain ⟨h1, h2⟩ := lev_pass ok hto hl h hL
    obtain ⟨h3, h4⟩ := lev_iter hl j (L + 1) h1 h2
    exact ⟨h3, fun k hk hlt => h4 k hk (by omega)⟩
end
end Ga
end Go.Proofs.YtnihheikaddmoaaDoor
