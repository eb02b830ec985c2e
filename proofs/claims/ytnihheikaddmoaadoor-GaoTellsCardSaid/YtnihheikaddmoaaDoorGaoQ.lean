/- Who pays whom: that the rounds come to rest, at one place alone; no program in sight. -/
import Derived.Test.YtnihheikaddmoaaDoorGaoP
namespace Go.Proofs.YtnihheikaddmoaaDoor
set_option linter.unusedVariables false
set_option linter.unusedSimpArgs false
set_option linter.unusedSectionVars false
namespace Ga
theorem min_ex {P : Nat → Prop} (h : ∃ L, P L) : ∃ L, P L ∧ ∀ m, P m → L ≤ m := by
  obtain ⟨L, hL⟩ := h
  induction L using Nat.strongRecOn with
  | _ L ih =>
    by_cases h : ∃ m, m < L ∧ P m
    · obtain ⟨m, hm, hp⟩ := h; exact ih m hm hp
    · exact ⟨L, hL, fun m hm => Nat.le_of_not_lt (fun hlt => h ⟨m, hlt, hm⟩)⟩
theorem fin_bd (f : Nat → Nat) : ∀ n, ∃ K, ∀ i, i < n → f i < K
  | 0 => ⟨0, fun i h => by omega⟩
  | n + 1 => by
    obtain ⟨K, hK⟩ := fin_bd f n
    refine ⟨K + f n + 1, fun i hi => ?_⟩
    by_cases e : i = n
    · subst e; omega
    · have := hK i (by omega); omega
def tab (n : Nat) (f : Nat → Way) : List Way := (List.range n).map f
theorem wy_tab {n : Nat} {f : Nat → Way} {i : Nat} (hi : i < n) : wy (tab n f) i = f i := by unfold wy tab; rw [List.getD_eq_getElem?_getD]; simp [hi]
theorem ext_wy {n : Nat} {T T' : List Way} (h : T.length = n) (h' : T'.length = n) (he : ∀ i, i < n → wy T i = wy T' i) : T = T' := by
  apply List.ext_getElem (by omega)
  intro i h1 h2
  have := he i (by omega)
  unfold wy at this
  rwa [List.getD_eq_getElem?_getD, List.getD_eq_getElem?_getD, List.getElem?_eq_getElem h1, List.getElem?_eq_getElem h2] at this
theorem dn_suffix {W : Nat → Nat → Int} {n to : Nat} {p : List Int} (h : Dn W n to p) : ∀ x ∈ p, ∃ (i : Nat) (q : List Int), x = (i : Int) ∧ i < n ∧ Dn W n to ((i : Int) :: q) ∧ q.length < p.length := by
  induction h with
  | base h => intro x hx; simp at hx; subst hx; exact ⟨to, [], rfl, h, .base h, by simp⟩
  | step h0 hi hw ih =>
    intro x hx
    rcases List.mem_cons.1 hx with rfl | hx
    · exact ⟨_, _, rfl, hi, .step h0 hi hw, by simp⟩
    · obtain ⟨j, q, h1, h2, h3, h4⟩ := ih x hx
      exact ⟨j, q, h1, h2, h3, by simp only [List.length_cons] at h4 ⊢; omega⟩
theorem dn_lt {W : Nat → Nat → Int} {n to i : Nat} {p : List Int} (h : Dn W n to ((i : Int) :: p)) : i < n := by
  generalize hq : (i : Int) :: p = q at h
  cases h with
  | base h => simp only [List.cons.injEq] at hq; omega
  | step h0 hi hw => simp only [List.cons.injEq] at hq; omega
theorem dn_inv {W : Nat → Nat → Int} {n to i : Nat} {p : List Int} (h : Dn W n to ((i : Int) :: p)) : (i = to ∧ p = []) ∨ ∃ (k : Nat) (q : List Int), p = (k : Int) :: q ∧ Dn W n to ((k : Int) :: q) ∧ W i k = 1 := by
  generalize hq : (i : Int) :: p = r at h
  cases h with
  | base h => simp only [List.cons.injEq] at hq; exact .inl ⟨by omega, hq.2⟩
  | step h0 hi hw =>
    simp only [List.cons.injEq] at hq
    obtain ⟨h1, rfl⟩ := hq
    rename_i j k q
    obtain rfl : i = j := by omega
    exact .inr ⟨k, q, rfl, h0, hw⟩
def Down (W : Nat → Nat → Int) (n to i : Nat) : Prop := ∃ p, Dn W n to ((i : Int) :: p)
theorem dist_ex (W : Nat → Nat → Int) (n to : Nat) : ∃ dist : Nat → Nat, ∀ i, Down W n to i → (∃ p, Dn W n to ((i : Int) :: p) ∧ p.length = dist i) ∧ ∀ p, Dn W n to ((i : Int) :: p) → dist i ≤ p.length := by
  have h : ∀ i, ∃ d, Down W n to i → (∃ p, Dn W n to ((i : Int) :: p) ∧ p.length = d) ∧ ∀ p, Dn W n to ((i : Int) :: p) → d ≤ p.length := by
    intro i
    by_cases hd : Down W n to i
    · obtain ⟨p, hp⟩ := hd
      obtain ⟨L, hL, hm⟩ := min_ex (P := fun L => ∃ p, Dn W n to ((i : Int) :: p) ∧ p.length = L) ⟨p.length, p, hp, rfl⟩
      exact ⟨L, fun _ => ⟨hL, fun q hq => hm q.length ⟨q, hq, rfl⟩⟩⟩
    · exact ⟨0, fun h => absurd h hd⟩
  exact ⟨fun i => Classical.choose (h i), fun i => Classical.choose_spec (h i)⟩
section
variable {W : Nat → Nat → Int} {n to : Nat} (ok : OkW W n) (hto : to < n)
/-- what is at rest below a level; none above -/
noncomputable def vl (W : Nat → Nat → Int) (n to : Nat) (lev : Nat → Nat) : Nat → Nat → Way
  | 0 => fun i => if i = to then (0, [(to : Int)]) else (0, [])
  | L + 1 => fun i => if i ≠ to ∧ lev i = L then bestP (offersP W n (tab n (vl W n to lev L)) i) else vl W n to lev L i
noncomputable def Vw (W : Nat → Nat → Int) (n to : Nat) (lev : Nat → Nat) (i : Nat) : Way := if i = to then (0, [(to : Int)]) else bestP (offersP W n (tab n (vl W n to lev (lev i))) i)
theorem vl_to (lev : Nat → Nat) : ∀ L, vl W n to lev L to = (0, [(to : Int)])
  | 0 => if_pos rfl
  | L + 1 => by show (if _ then _ else _) = _; rw [if_neg (by simp)]; exact vl_to lev L
theorem vl_is (lev : Nat → Nat) {i : Nat} (hi : i ≠ to) : ∀ L, vl W n to lev L i = if lev i < L then Vw W n to lev i else (0, [])
  | 0 => by rw [if_neg (by omega)]; exact if_neg hi
  | L + 1 => by
    show (if _ then _ else _) = _
    by_cases h : lev i = L
    · rw [if_pos ⟨hi, h⟩, if_pos (by omega)]
      unfold Vw; rw [if_neg hi, h]
    · rw [if_neg (fun h' => h h'.2), vl_is lev hi L]
      by_cases h2 : lev i < L
      · rw [if_pos h2, if_pos (by omega)]
      · rw [if_neg h2, if_neg (by omega)]
include ok hto
theorem inv_vl (lev : Nat → Nat) : ∀ L, InvW W n to (tab n (vl W n to lev L))
  | 0 => by
    have hv : ∀ i, i < n → wy (tab n (vl W n to lev 0)) i = if i = to then (0, [(to : Int)]) else (0, []) := fun i hi => wy_tab hi
    refine ⟨by simp [tab], by rw [hv to hto, if_pos rfl], fun i hi h => ?_, fun i hi h => ?_, fun i hi h => ?_⟩
    · rw [hv i hi] at h ⊢
      by_cases e : i = to
      · rw [if_pos e, e]; exact ⟨[], rfl⟩
      · rw [if_neg e] at h; exact absurd rfl h
    · rw [hv i hi]
      by_cases e : i = to
      · exact .inr e
      · rw [if_neg e]; exact .inl rfl
    · rw [hv i hi] at h
      by_cases e : i = to
      · rw [if_pos e] at h; cases h
      · rw [if_neg e] at h; cases h
  | L + 1 => by
    have h := inv_vl lev L
    have hv : ∀ i, i < n → wy (tab n (vl W n to lev (L + 1))) i = if i ≠ to ∧ lev i = L then bestP (offersP W n (tab n (vl W n to lev L)) i) else wy (tab n (vl W n to lev L)) i := fun i hi => by
      rw [wy_tab hi, wy_tab hi]; rfl
    refine ⟨by simp [tab], by rw [hv to hto, if_neg (by simp)]; exact h.dest, fun i hi => ?_, fun i hi => ?_, fun i hi => ?_⟩
    · rw [hv i hi]; split
      · exact (best_inv ok hto h hi).1
      · exact h.head i hi
    · rw [hv i hi]; split
      · exact fun h0 => .inl ((best_inv ok hto h hi).2.1 h0)
      · exact h.zero i hi
    · rw [hv i hi]; split
      · exact (best_inv ok hto h hi).2.2
      · exact h.down i hi
theorem lev_ex : ∃ (lev : Nat → Nat) (V : Nat → Way), Lev W n to lev V := by
  classical
  obtain ⟨dist, hd⟩ := dist_ex W n to
  obtain ⟨K, hK⟩ := fin_bd dist n
  obtain ⟨rk, hrk⟩ := ok.acyc
  have dto : Down W n to to := ⟨[], .base hto⟩
  have dist_to : dist to = 0 := by have := (hd to dto).2 [] (.base hto); simpa using this
  obtain ⟨lev, hlev⟩ : ∃ lev : Nat → Nat, ∀ i, lev i = if i = to then 0 else if Down W n to i then dist i else if ∃ k, k < n ∧ W i k = 2 ∧ Down W n to k then K else K + 1 + rk i := ⟨_, fun i => rfl⟩
  have lev_down : ∀ i, Down W n to i → lev i = dist i := fun i h => by
    rw [hlev]
    by_cases e : i = to
    · rw [if_pos e, e, dist_to]
    · rw [if_neg e, if_pos h]
  have down_lt : ∀ i, Down W n to i → i < n := fun i ⟨p, hp⟩ => dn_lt hp
  have dist_pos : ∀ i, Down W n to i → i ≠ to → 0 < dist i := fun i h hi => by
    obtain ⟨⟨p, hp, hl⟩, _⟩ := hd i h
    rcases dn_inv hp with ⟨h1, _⟩ | ⟨k, q, rfl, _⟩
    · exact absurd h1 hi
    · rw [← hl]; simp
  -- one goes down by one who is nearer
  have next : ∀ i, Down W n to i → i ≠ to → ∃ k, k < n ∧ W i k = 1 ∧ Down W n to k ∧ dist k + 1 = dist i := fun i h hi => by
    obtain ⟨⟨p, hp, hl⟩, hm⟩ := hd i h
    rcases dn_inv hp with ⟨h1, _⟩ | ⟨k, q, rfl, hq, hw⟩
    · exact absurd h1 hi
    · have hk : Down W n to k := ⟨q, hq⟩
      obtain ⟨⟨r, hr, hrl⟩, hm'⟩ := hd k hk
      have h1 := hm' q hq
      have h2 := hm _ (.step hr (down_lt i h) hw)
      simp only [List.length_cons] at hl h2
      exact ⟨k, dn_lt hq, hw, hk, by omega⟩
  have V_down : ∀ (L k : Nat), Down W n to k → dist k = L → ((Vw W n to lev k).1 = 0 ∨ (Vw W n to lev k).1 = 1) ∧ Dn W n to (Vw W n to lev k).2 ∧ (Vw W n to lev k).2.length = L + 1 := by
    intro L
    induction L with
    | zero =>
      intro k hk h0
      have : k = to := by
        by_cases e : k = to
        · exact e
        · have := dist_pos k hk e; omega
      subst this
      have e : Vw W n k lev k = (0, [(k : Int)]) := if_pos rfl
      rw [e]; exact ⟨.inl rfl, .base hto, rfl⟩
    | succ L ih =>
      intro k hk hL
      have hkn := down_lt k hk
      have hkt : k ≠ to := fun e => by subst e; omega
      obtain ⟨k0, hk0, hw, hdk, hdist⟩ := next k hk hkt
      obtain ⟨v1, v2, v3⟩ := ih k0 hdk (by omega)
      have hu := inv_vl ok hto lev (lev k)
      have hlk : lev k0 < lev k := by rw [lev_down k hk, lev_down k0 hdk]; omega
      have hwy : wy (tab n (vl W n to lev (lev k))) k0 = Vw W n to lev k0 := by
        rw [wy_tab hk0]
        by_cases e : k0 = to
        · subst e; rw [vl_to]; exact (if_pos rfl).symm
        · rw [vl_is lev e, if_pos hlk]
      have hno : ¬ (k : Int) ∈ (Vw W n to lev k0).2 := fun hm => by
        obtain ⟨i, q, e1, e2, e3, e4⟩ := dn_suffix v2 _ hm
        obtain rfl : k = i := by omega
        have := (hd k hk).2 q e3
        omega
      have hne : (Vw W n to lev k0).2 ≠ [] := fun e => by rw [e] at v3; simp at v3
      have hy : ((1 : Int), (k : Int) :: (Vw W n to lev k0).2) ∈ offersP W n (tab n (vl W n to lev (lev k))) k :=
        mem_offers.2 ⟨k0, hk0, ⟨by rw [hw]; omega, by rw [hwy]; exact hne, by rw [hwy]; exact hno, by rw [hwy]; rcases v1 with v | v; exact .inl v; exact .inr (.inl v)⟩, by rw [hwy, hw]⟩
      have hV : Vw W n to lev k = bestP (offersP W n (tab n (vl W n to lev (lev k))) k) := if_neg hkt
      obtain ⟨b1, b2⟩ := best_mem offers_ne (by intro e; rw [e] at hy; cases hy)
      obtain ⟨-, c2, c3⟩ := best_inv ok hto hu hkn
      rw [hV]
      generalize hb : bestP (offersP W n (tab n (vl W n to lev (lev k))) k) = b at *
      have hbne : b.2 ≠ [] := offers_ne _ b1
      have hb1 : b.1 = 1 ∧ b.2.length ≤ L + 2 := by
        obtain ⟨k', _, ⟨h1, _⟩, e'⟩ := mem_offers.1 b1
        have hbv : b.1 = W k k' := by rw [e']
        have hv := ok.val k k'
        rcases b2 _ hy with e | e
        · rw [← e]; exact ⟨rfl, by simp only [List.length_cons]; omega⟩
        · have := (bet_iff hbne (by simp)).1 e
          simp only [List.length_cons] at this
          omega
      have hdn := c3 hb1.1
      refine ⟨.inr hb1.1, hdn, ?_⟩
      have hhead : ∃ p, b.2 = (k : Int) :: p := by
        obtain ⟨k', _, _, e'⟩ := mem_offers.1 b1
        exact ⟨_, by rw [e']⟩
      obtain ⟨p, hp⟩ := hhead
      rw [hp] at hdn hb1 ⊢
      have := (hd k hk).2 p hdn
      simp only [List.length_cons] at hb1 ⊢
      omega
  refine ⟨lev, Vw W n to lev, ?_, ?_, if_pos rfl, ?_⟩
  · rw [hlev, if_pos rfl]
  · intro i hi hne
    by_cases h : Down W n to i
    · rw [lev_down i h]; exact dist_pos i h hne
    · rw [hlev, if_neg hne, if_neg h]
      have : 0 < K := by have := hK to hto; omega
      split <;> omega
  · intro T hT i hi hne hag
    have hV : Vw W n to lev i = bestP (offersP W n (tab n (vl W n to lev (lev i))) i) := if_neg hne
    rw [hV]
    have same : ∀ k, k < n → (k = to ∨ lev k < lev i) → wy T k = wy (tab n (vl W n to lev (lev i))) k := fun k hk h => by
      rw [wy_tab hk]
      by_cases e : k = to
      · subst e; rw [vl_to, hT.dest]
      · rw [vl_is lev e, if_pos (h.resolve_left e)]; exact hag k hk (h.resolve_left e)
    have isV : ∀ k, k < n → (k = to ∨ lev k < lev i) → wy (tab n (vl W n to lev (lev i))) k = Vw W n to lev k := fun k hk h => by
      rw [wy_tab hk]
      by_cases e : k = to
      · subst e; rw [vl_to]; exact (if_pos rfl).symm
      · rw [vl_is lev e, if_pos (h.resolve_left e)]
    -- who would tell of a way down has one
    have tellDown : ∀ k, k < n → (wy T k).2 ≠ [] → ((wy T k).1 = 0 ∨ (wy T k).1 = 1) → ∃ q, (wy T k).2 = (k : Int) :: q ∧ Dn W n to ((k : Int) :: q) := fun k hk h0 ht => by
      have h1 := dn_of ok hto hT hk h0 ht
      obtain ⟨q, hq⟩ := hT.head k hk h0
      rw [hq] at h1
      exact ⟨q, hq, h1⟩
    refine best_more offers_ne (fun x hx => ?_) (fun x hx => ?_)
    · obtain ⟨k, hk, ⟨h1, h2, h3, h4⟩, e⟩ := mem_offers.1 hx
      have hlow : k = to ∨ lev k < lev i := by
        by_cases e' : k = to
        · exact .inl e'
        · right
          rw [wy_tab hk, vl_is lev e'] at h2
          by_cases h : lev k < lev i
          · exact h
          · rw [if_neg h] at h2; exact absurd rfl h2
      rw [← same k hk hlow] at h2 h3 h4 e
      exact mem_offers.2 ⟨k, hk, ⟨h1, h2, h3, h4⟩, e⟩
    · obtain ⟨k, hk, ⟨h1, h2, h3, h4⟩, e⟩ := mem_offers.1 hx
      by_cases hlow : k = to ∨ lev k < lev i
      · left
        rw [same k hk hlow] at h2 h3 h4 e
        exact mem_offers.2 ⟨k, hk, ⟨h1, h2, h3, h4⟩, e⟩
      · right
        have hkt : k ≠ to := fun h => hlow (.inl h)
        have hkl : lev i ≤ lev k := by
          rcases Nat.lt_or_ge (lev k) (lev i) with h | h
          · exact absurd (.inr h) hlow
          · exact h
        have hrev := ok.rev i k h1
        have hv := ok.val i k
        by_cases hDi : Down W n to i
        · obtain ⟨k0, hk0, hw, hdk, hdist⟩ := next i hDi hne
          obtain ⟨v1, v2, v3⟩ := V_down _ k0 hdk rfl
          have hl0 : k0 = to ∨ lev k0 < lev i := .inr (by rw [lev_down i hDi, lev_down k0 hdk]; omega)
          have hwy := isV k0 hk0 hl0
          have hno : ¬ (i : Int) ∈ (Vw W n to lev k0).2 := fun hm => by
            obtain ⟨j, q, e1, e2, e3, e4⟩ := dn_suffix v2 _ hm
            obtain rfl : i = j := by omega
            have := (hd i hDi).2 q e3
            omega
          have hne0 : (Vw W n to lev k0).2 ≠ [] := fun e => by rw [e] at v3; simp at v3
          refine ⟨((1 : Int), (i : Int) :: (Vw W n to lev k0).2), mem_offers.2 ⟨k0, hk0, ⟨by rw [hw]; omega, by rw [hwy]; exact hne0, by rw [hwy]; exact hno, by rw [hwy]; rcases v1 with v | v; exact .inl v; exact .inr (.inl v)⟩, by rw [hwy, hw]⟩, ?_⟩
          rw [e]
          refine (bet_iff (by simp) (by simp)).2 ?_
          simp only [List.length_cons]
          by_cases h1w : W i k = 1
          · right
            refine ⟨h1w.symm, .inl ?_⟩
            obtain ⟨q, hq, hdn⟩ := tellDown k hk h2 (by rcases h4 with h | h | h; exact .inl h; exact .inr h; omega)
            have hDk : Down W n to k := ⟨q, hdn⟩
            have h5 := (hd k hDk).2 q hdn
            rw [lev_down k hDk, lev_down i hDi] at hkl
            rw [hq]; simp only [List.length_cons]; omega
          · left; omega
        · have noDown : ∀ k', k' < n → W i k' = 1 → ¬ Down W n to k' := fun k' _ hw ⟨q, hq⟩ => hDi ⟨_, .step hq hi hw⟩
          have hw1 : W i k ≠ 1 := fun hw => by
            obtain ⟨q, hq, hdn⟩ := tellDown k hk h2 (by rcases h4 with h | h | h; exact .inl h; exact .inr h; omega)
            exact noDown k hk hw ⟨q, hdn⟩
          by_cases hP : ∃ k', k' < n ∧ W i k' = 2 ∧ Down W n to k'
          · have hli : lev i = K := by rw [hlev, if_neg hne, if_neg hDi, if_pos hP]
            have hw2 : W i k ≠ 2 := fun hw => by
              obtain ⟨q, hq, hdn⟩ := tellDown k hk h2 (by rcases h4 with h | h | h; exact .inl h; exact .inr h; omega)
              have hDk : Down W n to k := ⟨q, hdn⟩
              have := hK k hk
              rw [lev_down k hDk, hli] at hkl
              omega
            obtain ⟨k0, hk0, hw, hdk⟩ := hP
            obtain ⟨v1, v2, v3⟩ := V_down _ k0 hdk rfl
            have hl0 : k0 = to ∨ lev k0 < lev i := .inr (by rw [hli, lev_down k0 hdk]; exact hK k0 hk0)
            have hwy := isV k0 hk0 hl0
            have hno : ¬ (i : Int) ∈ (Vw W n to lev k0).2 := fun hm => by
              obtain ⟨j, q, e1, e2, e3, e4⟩ := dn_suffix v2 _ hm
              obtain rfl : i = j := by omega
              exact hDi ⟨q, e3⟩
            have hne0 : (Vw W n to lev k0).2 ≠ [] := fun e => by rw [e] at v3; simp at v3
            refine ⟨((2 : Int), (i : Int) :: (Vw W n to lev k0).2), mem_offers.2 ⟨k0, hk0, ⟨by rw [hw]; omega, by rw [hwy]; exact hne0, by rw [hwy]; exact hno, by rw [hwy]; rcases v1 with v | v; exact .inl v; exact .inr (.inl v)⟩, by rw [hwy, hw]⟩, ?_⟩
            rw [e]
            refine (bet_iff (by simp) (by simp)).2 (.inl ?_)
            simp only; omega
          · exfalso
            have hli : lev i = K + 1 + rk i := by rw [hlev, if_neg hne, if_neg hDi, if_neg hP]
            have hw2 : W i k ≠ 2 := fun hw => by
              obtain ⟨q, hq, hdn⟩ := tellDown k hk h2 (by rcases h4 with h | h | h; exact .inl h; exact .inr h; omega)
              exact hP ⟨k, hk, hw, q, hdn⟩
            have hw3 : W i k = 3 := by omega
            have hr := hrk i k hi hk hw3
            have hlk : lev k ≤ K + 1 + rk k := by
              by_cases hDk : Down W n to k
              · rw [lev_down k hDk]; have := hK k hk; omega
              · rw [hlev, if_neg hkt, if_neg hDk]; split <;> omega
            omega

/-! ### at rest -/
def movS (W : Nat → Nat → Int) (n to : Nat) (T : List Way) (i : Nat) : Bool := !decide (i = to) && (bestP (offersP W n T i) != wy T i)
def movP (W : Nat → Nat → Int) (n to : Nat) : List Nat → List Way → Bool
  | [], _ => false
  | i :: l, T => movS W n to T i || movP W n to l (stepP W n to T i)
def mov (W : Nat → Nat → Int) (n to : Nat) (T : List Way) : Bool := movP W n to (List.range n) T
/-- each has the best of its offers -/
structure Rest (W : Nat → Nat → Int) (n to : Nat) (T : List Way) : Prop where
  len : T.length = n
  dest : wy T to = (0, [(to : Int)])
  best : ∀ i, i < n → i ≠ to → wy T i = bestP (offersP W n T i)
omit ok hto in
theorem step_same {T : List Way} (hl : T.length = n) {i : Nat} (hi : i < n) (h : i ≠ to → wy T i = bestP (offersP W n T i)) : stepP W n to T i = T := by
  unfold stepP
  by_cases e : i = to
  · rw [if_pos e]
  · rw [if_neg e]
    refine ext_wy (n := n) (by simp [hl]) hl (fun j hj => ?_)
    rw [wy_set (by omega)]
    by_cases e' : j = i
    · rw [if_pos e', e']; exact (h e).symm
    · rw [if_neg e']
omit ok hto in
theorem mov_no {T : List Way} (hT : T.length = n) : ∀ (l : List Nat), (∀ i ∈ l, i < n) → movP W n to l T = false → l.foldl (stepP W n to) T = T ∧ ∀ i ∈ l, i ≠ to → wy T i = bestP (offersP W n T i)
  | [], _, _ => ⟨rfl, fun _ h => by cases h⟩
  | i :: l, hl, h => by
    unfold movP at h
    rw [Bool.or_eq_false_iff] at h
    have hi : i ≠ to → wy T i = bestP (offersP W n T i) := fun e => by
      have := h.1
      unfold movS at this
      simp [e] at this
      exact this.symm
    have hs := step_same (W := W) hT (hl i (by simp)) hi
    rw [hs] at h
    obtain ⟨h1, h2⟩ := mov_no hT l (fun k hk => hl k (by simp [hk])) h.2
    refine ⟨by rw [List.foldl_cons, hs]; exact h1, fun k hk => ?_⟩
    rcases List.mem_cons.1 hk with rfl | hk
    · exact hi
    · exact h2 k hk
omit ok hto in
theorem rest_of {T : List Way} (hT : T.length = n) (hd : wy T to = (0, [(to : Int)])) (h : mov W n to T = false) : Rest W n to T :=
  ⟨hT, hd, fun i hi => (mov_no hT (List.range n) (fun k hk => by simpa using hk) h).2 i (by simpa using hi)⟩
omit ok hto in
theorem rest_mov {T : List Way} (h : Rest W n to T) : mov W n to T = false := by
  have key : ∀ (l : List Nat), (∀ i ∈ l, i < n) → movP W n to l T = false := by
    intro l
    induction l with
    | nil => intro _; rfl
    | cons i l ih =>
      intro hl
      have hi := hl i (by simp)
      unfold movP
      rw [step_same h.len hi (fun e => h.best i hi e), ih (fun k hk => hl k (by simp [hk])), Bool.or_false]
      unfold movS
      by_cases e : i = to
      · simp [e]
      · rw [h.best i hi e]; simp
  exact key _ (fun k hk => by simpa using hk)
omit ok hto in
theorem rest_pass {T : List Way} (h : Rest W n to T) : passP W n to T = T := (mov_no h.len (List.range n) (fun k hk => by simpa using hk) (rest_mov h)).1
omit ok hto in
theorem rest_iter {T : List Way} (h : Rest W n to T) : ∀ j, iterP W n to j T = T
  | 0 => rfl
  | j + 1 => by show iterP W n to j (passP W n to T) = T; rw [rest_pass h]; exact rest_iter h j
/-- who rests is as ways are at any time -/
theorem rest_inv {T : List Way} (h : Rest W n to T) : InvW W n to T := by
  have shape : ∀ i, i < n → i ≠ to → wy T i = (0, []) ∨ ∃ k, k < n ∧ (W i k ≠ 0 ∧ (wy T k).2 ≠ [] ∧ ¬ (i : Int) ∈ (wy T k).2 ∧ ((wy T k).1 = 0 ∨ (wy T k).1 = 1 ∨ W k i = 1)) ∧ wy T i = (W i k, (i : Int) :: (wy T k).2) := fun i hi e => by
    rw [h.best i hi e]
    rcases best_or (offers_ne (W := W) (n := n) (T := T) (i := i)) with ⟨_, e'⟩ | e'
    · exact .inl e'
    · exact .inr (mem_offers.1 e')
  have head : ∀ i, i < n → (wy T i).2 ≠ [] → ∃ p, (wy T i).2 = (i : Int) :: p := fun i hi hne => by
    by_cases e : i = to
    · subst e; rw [h.dest]; exact ⟨[], rfl⟩
    · rcases shape i hi e with e' | ⟨k, _, _, e'⟩
      · rw [e'] at hne; exact absurd rfl hne
      · rw [e']; exact ⟨_, rfl⟩
  have zero : ∀ i, i < n → (wy T i).1 = 0 → (wy T i).2 = [] ∨ i = to := fun i hi h0 => by
    by_cases e : i = to
    · exact .inr e
    · rcases shape i hi e with e' | ⟨k, _, ⟨h1, _⟩, e'⟩
      · rw [e']; exact .inl rfl
      · rw [e'] at h0; exact absurd h0 h1
  have down : ∀ (m i : Nat), (wy T i).2.length = m → i < n → (wy T i).1 = 1 → Dn W n to (wy T i).2 := by
    intro m
    induction m using Nat.strongRecOn with
    | _ m ih =>
      intro i hm hi h1
      by_cases e : i = to
      · subst e; rw [h.dest] at h1; cases h1
      · rcases shape i hi e with e' | ⟨k, hk, ⟨h2, h3, h4, h5⟩, e'⟩
        · rw [e'] at h1; cases h1
        · have hw : W i k = 1 := by rw [e'] at h1; exact h1
          have hwk := ok.rev i k h2
          have hdk : Dn W n to (wy T k).2 := by
            have h5' : (wy T k).1 = 0 ∨ (wy T k).1 = 1 := by rcases h5 with h | h | h; exact .inl h; exact .inr h; omega
            rcases h5' with h0 | h0
            · rcases zero k hk h0 with h6 | h6
              · exact absurd h6 h3
              · subst h6; rw [h.dest]; exact .base hk
            · refine ih _ ?_ k rfl hk h0
              rw [← hm, e']; simp
          obtain ⟨p, hp⟩ := head k hk h3
          rw [e', hp]
          rw [hp] at hdk
          exact .step hdk hi hw
  exact ⟨h.len, h.dest, head, zero, fun i hi => down _ i rfl hi⟩
/-- there is an end, and one alone -/
theorem rest_ex : ∃ (M : Nat) (R : List Way), Rest W n to R ∧ ∀ T, InvW W n to T → iterP W n to M T = R := by
  obtain ⟨lev, V, hl⟩ := lev_ex ok hto
  obtain ⟨M, hM⟩ := fin_bd lev n
  have all : ∀ T, InvW W n to T → InvW W n to (iterP W n to M T) ∧ ∀ k, k < n → wy (iterP W n to M T) k = V k := fun T hT => by
    obtain ⟨h1, h2⟩ := lev_iter ok hto hl M 0 hT (fun k _ h => by omega)
    exact ⟨h1, fun k hk => h2 k hk (by have := hM k hk; omega)⟩
  obtain ⟨r1, r2⟩ := all _ (inv_start hto)
  refine ⟨M, iterP W n to M (startP n to), ⟨r1.len, r1.dest, fun i hi e => ?_⟩, fun T hT => ?_⟩
  · rw [r2 i hi]
    exact (hl.best _ r1 i hi e (fun k hk _ => r2 k hk)).symm
  · obtain ⟨t1, t2⟩ := all T hT
    exact ext_wy t1.len r1.len (fun i hi => by rw [t2 i hi, r2 i hi])
theorem rest_one {T T' : List Way} (h : Rest W n to T) (h' : Rest W n to T') : T = T' := by
  obtain ⟨M, R, _, hR⟩ := rest_ex ok hto
  rw [← rest_iter h M, hR T (rest_inv ok hto h), ← hR T' (rest_inv ok hto h'), rest_iter h' M]
/-- how many rounds are left -/
theorem ends {T : List Way} (h : InvW W n to T) : ∃ j, mov W n to (iterP W n to j T) = false := by
  obtain ⟨M, R, hr, hR⟩ := rest_ex ok hto
  exact ⟨M, by rw [hR T h]; exact rest_mov hr⟩
end
end Ga
end Go.Proofs.YtnihheikaddmoaaDoor
