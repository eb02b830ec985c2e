/- Trees of bridges: what the reference's RootOf, LongOf, UpOf come to; no program in sight. -/
import Derived.Test.YtccgaflbhpagcaaDoorSpanI
import Derived.Test.YtccgaflbhpagcaaDoorCost
namespace Go.Proofs.YtccgaflbhpagcaaDoor
set_option linter.unusedVariables false
set_option linter.unusedSimpArgs false
set_option linter.unusedSectionVars false
namespace Sp
def rGet (R : List Bool) (i : Nat) : Bool := R.getD i false
theorem rGet_set {R : List Bool} {i j : Nat} (hj : j < R.length) : rGet (R.set j true) i = (rGet R i || decide (i = j)) := by
  unfold rGet
  by_cases h : i = j
  · subst h; rw [List.getD_eq_getElem?_getD, List.getElem?_set_self hj]; simp
  · rw [List.getD_eq_getElem?_getD, List.getD_eq_getElem?_getD, List.getElem?_set_ne (by omega)]; simp [h]
def reachS (R : List Bool) (x : Lnk) : List Bool := if (rGet R x.1.toNat || rGet R x.2.1.toNat) = true then (R.set x.1.toNat true).set x.2.1.toNat true else R
def reachR (l : List Lnk) (R : List Bool) : List Bool := l.foldl reachS R
def reachN (l : List Lnk) : Nat → List Bool → List Bool
  | 0, R => R
  | t + 1, R => reachR l (reachN l t R)
/-- t steps up -/
def anc (B : List Bel) (i : Nat) : Nat → Nat
  | 0 => i
  | t + 1 => if (at_ B (anc B i t)).1 = (anc B i t : Nat) then anc B i t else (at_ B (anc B i t)).2.2.toNat
section
variable {n : Nat} {l : List Lnk} {B : List Bel} (ok : OkL n l) (hf : Fin n (arcsOf l) B)
include ok
omit ok in
theorem len_reachS (R : List Bool) (x : Lnk) : (reachS R x).length = R.length := by unfold reachS; split <;> simp
theorem reachS_mono {R : List Bool} {x : Lnk} (hx : x ∈ l) (hR : R.length = n) {k : Nat} (h : rGet R k = true) : rGet (reachS R x) k = true := by
  have hr := ok.rng x hx
  unfold reachS
  split
  · rw [rGet_set (by simp; omega), rGet_set (by omega), h]; rfl
  · exact h
theorem reachS_hit {R : List Bool} {x : Lnk} (hx : x ∈ l) (hR : R.length = n) (h : (rGet R x.1.toNat || rGet R x.2.1.toNat) = true) : rGet (reachS R x) x.1.toNat = true ∧ rGet (reachS R x) x.2.1.toNat = true := by
  have hr := ok.rng x hx
  unfold reachS
  rw [if_pos h]
  constructor
  · rw [rGet_set (by simp; omega), rGet_set (by omega)]; simp
  · rw [rGet_set (by simp; omega)]; simp
include hf in
theorem reachS_snd {R : List Bool} {x : Lnk} (hx : x ∈ l) (hR : R.length = n) {r : Int} (h : ∀ k, rGet R k = true → (at_ B k).1 = r) : ∀ k, rGet (reachS R x) k = true → (at_ B k).1 = r := by
  have hr := ok.rng x hx
  have ha := (hf.arc x.1.toNat x.2.1.toNat x.2.2 (mem_arcs.2 ⟨x, hx, .inl ⟨rfl, rfl⟩, rfl⟩)).1
  intro k hk
  unfold reachS at hk
  by_cases hc : (rGet R x.1.toNat || rGet R x.2.1.toNat) = true
  · rw [if_pos hc, rGet_set (by simp; omega), rGet_set (by omega)] at hk
    have hre : (at_ B x.1.toNat).1 = r := by
      rcases Bool.or_eq_true_iff.1 hc with hc | hc
      · exact h _ hc
      · rw [ha]; exact h _ hc
    rcases Bool.or_eq_true_iff.1 hk with hk | hk
    · rcases Bool.or_eq_true_iff.1 hk with hk | hk
      · exact h k hk
      · have := of_decide_eq_true hk; subst this; exact hre
    · have := of_decide_eq_true hk; subst this; rw [← ha]; exact hre
  · rw [if_neg hc] at hk; exact h k hk
theorem reachF {m : List Lnk} (hm : ∀ x ∈ m, x ∈ l) : ∀ {R : List Bool}, R.length = n → (m.foldl reachS R).length = n ∧ (∀ k, rGet R k = true → rGet (m.foldl reachS R) k = true) ∧
    (∀ x ∈ m, (rGet R x.1.toNat || rGet R x.2.1.toNat) = true → rGet (m.foldl reachS R) x.1.toNat = true ∧ rGet (m.foldl reachS R) x.2.1.toNat = true) := by
  induction m with
  | nil => intro R hR; exact ⟨hR, fun _ h => h, by simp⟩
  | cons x m ih =>
    intro R hR
    have hx := hm x (by simp)
    obtain ⟨i1, i2, i3⟩ := ih (fun y hy => hm y (by simp [hy])) (R := reachS R x) (by rw [len_reachS, hR])
    refine ⟨i1, fun k hk => i2 k (reachS_mono ok hx hR hk), fun y hy hc => ?_⟩
    rcases List.mem_cons.1 hy with rfl | hy
    · have := reachS_hit ok hx hR hc
      exact ⟨i2 _ this.1, i2 _ this.2⟩
    · refine i3 y hy ?_
      rcases Bool.or_eq_true_iff.1 hc with hc | hc
      · rw [reachS_mono ok hx hR hc]; rfl
      · rw [reachS_mono ok hx hR hc]; simp
include hf in
theorem reachF_snd {m : List Lnk} (hm : ∀ x ∈ m, x ∈ l) {r : Int} : ∀ {R : List Bool}, R.length = n → (∀ k, rGet R k = true → (at_ B k).1 = r) → ∀ k, rGet (m.foldl reachS R) k = true → (at_ B k).1 = r := by
  induction m with
  | nil => intro R hR h; exact h
  | cons x m ih =>
    intro R hR h
    exact ih (fun y hy => hm y (by simp [hy])) (by rw [len_reachS, hR]) (reachS_snd ok hf (hm x (by simp)) hR h)
include hf in
theorem anc_ok {i : Nat} (hi : i < n) : ∀ t, anc B i t < n ∧ (at_ B (anc B i t)).1 = (at_ B i).1 ∧ ((at_ B (anc B i t)).1 = (anc B i t : Nat) ∨ near n B (anc B i t) + t ≤ near n B i)
  | 0 => ⟨hi, rfl, .inr (by simp [anc])⟩
  | t + 1 => by
    obtain ⟨h1, h2, h3⟩ := anc_ok hi t
    by_cases hr : (at_ B (anc B i t)).1 = (anc B i t : Nat)
    · have e : anc B i (t + 1) = anc B i t := by show (if _ then _ else _) = _; rw [if_pos hr]
      rw [e]; exact ⟨h1, h2, .inl hr⟩
    · have e : anc B i (t + 1) = (at_ B (anc B i t)).2.2.toNat := by show (if _ then _ else _) = _; rw [if_neg hr]
      obtain ⟨y, c, hy, g1, g2, g3, g4, g5⟩ := up_step (ok_arcs ok) hf h1 hr
      have ey : anc B i (t + 1) = y := by rw [e, g1]; rfl
      rw [ey]
      have := near_lt (n := n) hy g4
      exact ⟨hy, g3.trans h2, .inr (by have := h3.resolve_left hr; omega)⟩
structure Rch (n : Nat) (B : List Bel) (i t : Nat) (R : List Bool) : Prop where
  len : R.length = n
  snd : ∀ k, rGet R k = true → (at_ B k).1 = (at_ B i).1
  all : ∀ s, s ≤ t → rGet R (anc B i s) = true
omit ok in
theorem Rch.start {i : Nat} (hi : i < n) : Rch n B i 0 ((List.replicate n false).set i true) := by
  refine ⟨by simp, fun k hk => ?_, fun s hs => ?_⟩
  · rw [rGet_set (by simpa using hi)] at hk
    rcases Bool.or_eq_true_iff.1 hk with hk | hk
    · unfold rGet at hk; rw [List.getD_eq_getElem?_getD] at hk
      by_cases hkn : k < n
      · simp [hkn] at hk
      · simp [hkn] at hk
    · have := of_decide_eq_true hk; subst this; rfl
  · have : s = 0 := by omega
    subst this
    show rGet _ i = true
    rw [rGet_set (by simpa using hi)]; simp
include hf in
theorem Rch.round {i t : Nat} {R : List Bool} (hi : i < n) (h : Rch n B i t R) : Rch n B i (t + 1) (reachR l R) := by
  obtain ⟨j1, j2, j3⟩ := reachF ok (m := l) (fun _ h => h) h.len
  refine ⟨j1, reachF_snd ok hf (fun _ h => h) h.len h.snd, fun s hs => ?_⟩
  by_cases hst : s ≤ t
  · exact j2 _ (h.all s hst)
  · have : s = t + 1 := by omega
    subst this
    obtain ⟨a1, a2, a3⟩ := anc_ok ok hf hi t
    by_cases hr : (at_ B (anc B i t)).1 = (anc B i t : Nat)
    · have e : anc B i (t + 1) = anc B i t := by show (if _ then _ else _) = _; rw [if_pos hr]
      rw [e]; exact j2 _ (h.all t (Nat.le_refl _))
    · have e : anc B i (t + 1) = (at_ B (anc B i t)).2.2.toNat := by show (if _ then _ else _) = _; rw [if_neg hr]
      obtain ⟨y, c, hy, g1, g2, g3, g4, g5⟩ := up_step (ok_arcs ok) hf a1 hr
      have ey : anc B i (t + 1) = y := by rw [e, g1]; rfl
      rw [ey]
      have hv := h.all t (Nat.le_refl _)
      obtain ⟨x, hx, h1, h2⟩ := mem_arcs.1 g2
      rcases h1 with ⟨k1, k2⟩ | ⟨k1, k2⟩
      · have := (j3 x hx (by rw [k2, hv]; simp)).1; rwa [k1] at this
      · have := (j3 x hx (by rw [k2, hv]; rfl)).2; rwa [k1] at this
include hf in
/-- at last: the root is reached, and no smaller one -/
theorem Rch.fin {i : Nat} {R : List Bool} (hi : i < n) (h : Rch n B i n R) : ∃ r : Nat, r < n ∧ (at_ B i).1 = (r : Int) ∧ rGet R r = true ∧ ∀ k, rGet R k = true → k < n → r ≤ k := by
  obtain ⟨a1, a2, a3⟩ := anc_ok ok hf hi n
  have hnn := near_n (B := B) hi
  have hr := a3.resolve_right (by omega)
  refine ⟨anc B i n, a1, by rw [← a2]; exact hr, h.all n (Nat.le_refl _), fun k hk hkn => ?_⟩
  have h1 := h.snd k hk
  have h2 := (hf.node k hkn).2.1
  rw [h1, ← a2, hr] at h2
  omega

/-! ### how far -/
def dGet (D : List Int) (i : Nat) : Int := D.getD i 0
omit ok in
theorem dGet_set {D : List Int} {i j : Nat} {z : Int} (hj : j < D.length) : dGet (D.set j z) i = if i = j then z else dGet D i := by
  unfold dGet
  by_cases h : i = j
  · subst h; rw [if_pos rfl, List.getD_eq_getElem?_getD, List.getElem?_set_self hj]; rfl
  · rw [if_neg h, List.getD_eq_getElem?_getD, List.getD_eq_getElem?_getD, List.getElem?_set_ne (by omega)]
def relD (D : List Int) (a b : Nat) (c : Int) : List Int := D.set a (min (dGet D a) (dGet D b + c))
def longS (D : List Int) (x : Lnk) : List Int := relD (relD D x.1.toNat x.2.1.toNat x.2.2) x.2.1.toNat x.1.toNat x.2.2
def longR (l : List Lnk) (D : List Int) : List Int := l.foldl longS D
def longN (l : List Lnk) : Nat → List Int → List Int
  | 0, D => D
  | t + 1, D => longR l (longN l t D)
/-- what holds all the time -/
structure Lng (n : Nat) (B : List Bel) (r : Nat) (D : List Int) : Prop where
  len : D.length = n
  low : ∀ k, k < n → (at_ B k).1 = (r : Int) → (at_ B k).2.1 ≤ dGet D k
  out : ∀ k, k < n → (at_ B k).1 ≠ (r : Int) → dGet D k = 1000
  bd : ∀ k, k < n → 0 ≤ dGet D k ∧ dGet D k ≤ 1000
include hf in
theorem Lng.rel {r : Nat} {D : List Int} (h : Lng n B r D) {a b : Nat} {c : Int} (hE : (b, a, c) ∈ arcsOf l) : Lng n B r (relD D a b c) ∧ (∀ k, dGet (relD D a b c) k ≤ dGet D k) ∧ dGet (relD D a b c) a ≤ dGet D b + c := by
  obtain ⟨o1, o2, o3, o4⟩ := (ok_arcs ok).lt _ hE
  simp only at o1 o2 o3 o4
  obtain ⟨f1, f2, -⟩ := hf.arc _ _ _ hE
  have hs := fun k => dGet_set (D := D) (i := k) (j := a) (z := min (dGet D a) (dGet D b + c)) (by rw [h.len]; exact o2)
  have hba := h.bd a o2
  have hbb := h.bd b o1
  refine ⟨⟨by simp [relD, h.len], fun k hk hr => ?_, fun k hk hr => ?_, fun k hk => ?_⟩, fun k => ?_, ?_⟩
  · show _ ≤ dGet (D.set _ _) k
    rw [hs]
    by_cases e : k = a
    · subst e; rw [if_pos rfl]
      have h1 := h.low k hk hr
      have h2 := h.low b o1 (by rw [f1]; exact hr)
      omega
    · rw [if_neg e]; exact h.low k hk hr
  · show dGet (D.set _ _) k = _
    rw [hs]
    by_cases e : k = a
    · subst e; rw [if_pos rfl]
      have h1 := h.out k hk hr
      have h2 := h.out b o1 (by rw [f1]; exact hr)
      omega
    · rw [if_neg e]; exact h.out k hk hr
  · show 0 ≤ dGet (D.set _ _) k ∧ dGet (D.set _ _) k ≤ _
    rw [hs]
    by_cases e : k = a
    · rw [if_pos e]; omega
    · rw [if_neg e]; exact h.bd k hk
  · show dGet (D.set _ _) k ≤ _
    rw [hs]
    by_cases e : k = a
    · subst e; rw [if_pos rfl]; omega
    · rw [if_neg e]; exact Int.le_refl _
  · show dGet (D.set _ _) a ≤ _
    rw [hs, if_pos rfl]; omega
include hf in
theorem Lng.step {r : Nat} {D : List Int} (h : Lng n B r D) {x : Lnk} (hx : x ∈ l) : Lng n B r (longS D x) ∧ (∀ k, dGet (longS D x) k ≤ dGet D k) ∧ dGet (longS D x) x.1.toNat ≤ dGet D x.2.1.toNat + x.2.2 ∧ dGet (longS D x) x.2.1.toNat ≤ dGet D x.1.toNat + x.2.2 := by
  obtain ⟨h1, m1, k1⟩ := h.rel ok hf (a := x.1.toNat) (b := x.2.1.toNat) (c := x.2.2) (mem_arcs.2 ⟨x, hx, .inr ⟨rfl, rfl⟩, rfl⟩)
  obtain ⟨h2, m2, k2⟩ := h1.rel ok hf (a := x.2.1.toNat) (b := x.1.toNat) (c := x.2.2) (mem_arcs.2 ⟨x, hx, .inl ⟨rfl, rfl⟩, rfl⟩)
  refine ⟨h2, fun k => Int.le_trans (m2 k) (m1 k), Int.le_trans (m2 _) k1, ?_⟩
  have := m1 x.1.toNat
  show dGet (relD _ _ _ _) _ ≤ _
  omega
include hf in
theorem Lng.fold {r : Nat} {m : List Lnk} (hm : ∀ x ∈ m, x ∈ l) : ∀ {D : List Int}, Lng n B r D → Lng n B r (m.foldl longS D) ∧ (∀ k, dGet (m.foldl longS D) k ≤ dGet D k) ∧
    ∀ x ∈ m, dGet (m.foldl longS D) x.1.toNat ≤ dGet D x.2.1.toNat + x.2.2 ∧ dGet (m.foldl longS D) x.2.1.toNat ≤ dGet D x.1.toNat + x.2.2 := by
  induction m with
  | nil => intro D h; exact ⟨h, fun _ => Int.le_refl _, by simp⟩
  | cons x m ih =>
    intro D h
    obtain ⟨s1, s2, s3, s4⟩ := h.step ok hf (hm x (by simp))
    obtain ⟨i1, i2, i3⟩ := ih (fun y hy => hm y (by simp [hy])) s1
    refine ⟨i1, fun k => Int.le_trans (i2 k) (s2 k), fun y hy => ?_⟩
    rcases List.mem_cons.1 hy with rfl | hy
    · exact ⟨Int.le_trans (i2 _) s3, Int.le_trans (i2 _) s4⟩
    · have := i3 y hy
      have h1 := s2 y.1.toNat
      have h2 := s2 y.2.1.toNat
      exact ⟨by have := this.1; simp only [List.foldl_cons] at *; omega, by have := this.2; simp only [List.foldl_cons] at *; omega⟩
structure LngT (n : Nat) (B : List Bel) (r t : Nat) (D : List Int) : Prop where
  lng : Lng n B r D
  hi : ∀ k, k < n → (at_ B k).1 = (r : Int) → near n B k ≤ t → dGet D k ≤ (at_ B k).2.1
include hf in
theorem LngT.start {r : Nat} (hr : r < n) (hrr : (at_ B r).1 = (r : Int)) (h8 : n ≤ 8) (hinv : ∀ k, k < n → (at_ B k).2.1 ≤ 1000) : LngT n B r 0 ((List.replicate n (1000 : Int)).set r 0) := by
  have hs := fun k => dGet_set (D := List.replicate n (1000 : Int)) (i := k) (j := r) (z := 0) (by simpa using hr)
  have hrep : ∀ k, k < n → dGet (List.replicate n (1000 : Int)) k = 1000 := fun k hk => by unfold dGet; rw [List.getD_eq_getElem?_getD]; simp [hk]
  have hu := (up_iff (ok_arcs ok) hf hr).1 hrr
  have hfar : (at_ B r).2.1 = 0 := by
    rcases (hf.node r hr).2.2.2 with ⟨_, _, h⟩ | ⟨y, c, h, _⟩
    · exact h
    · omega
  refine ⟨⟨by simp, fun k hk h => ?_, fun k hk h => ?_, fun k hk => ?_⟩, fun k hk h hn => ?_⟩
  · rw [hs]; by_cases e : k = r
    · subst e; rw [if_pos rfl, hfar]; exact Int.le_refl _
    · rw [if_neg e, hrep k hk]; exact hinv k hk
  · rw [hs, if_neg (fun e => h (by rw [e]; exact hrr)), hrep k hk]
  · rw [hs]; by_cases e : k = r
    · rw [if_pos e]; omega
    · rw [if_neg e, hrep k hk]; omega
  · by_cases e : k = r
    · subst e; rw [hs, if_pos rfl, hfar]; exact Int.le_refl _
    · exfalso
      obtain ⟨y, c, hy, g1, g2, g3, g4, g5⟩ := up_step (ok_arcs ok) hf hk (by omega)
      have := near_lt (n := n) hy g4
      omega
include hf in
theorem LngT.round {r t : Nat} {D : List Int} (h : LngT n B r t D) : LngT n B r (t + 1) (longR l D) := by
  obtain ⟨i1, i2, i3⟩ := h.lng.fold ok hf (m := l) (fun _ h => h)
  refine ⟨i1, fun k hk hr hn => ?_⟩
  by_cases hkr : (at_ B k).1 = (k : Int)
  · refine Int.le_trans (i2 k) (h.hi k hk hr ?_)
    -- a root is nearest of all
    have hu := (up_iff (ok_arcs ok) hf hk).1 hkr
    have hfar : (at_ B k).2.1 = 0 := by
      rcases (hf.node k hk).2.2.2 with ⟨_, _, h⟩ | ⟨y, c, h, _⟩
      · exact h
      · omega
    have : near n B k = 0 := by
      unfold near
      rw [List.countP_eq_zero]
      intro w hw
      have := (hf.node w (by simpa using hw)).2.2.1
      simp; omega
    omega
  · obtain ⟨y, c, hy, g1, g2, g3, g4, g5⟩ := up_step (ok_arcs ok) hf hk hkr
    have hny := near_lt (n := n) hy g4
    have hD := h.hi y hy (by rw [g3]; exact hr) (by omega)
    obtain ⟨x, hx, h1, h2⟩ := mem_arcs.1 g2
    have h3 := i3 x hx
    show dGet (l.foldl longS D) k ≤ _
    rcases h1 with ⟨k1, k2⟩ | ⟨k1, k2⟩
    · rw [k1, k2, h2] at h3; have := h3.2; omega
    · rw [k1, k2, h2] at h3; have := h3.1; omega
include hf in
theorem LngT.fin {r : Nat} {D : List Int} (h : LngT n B r n D) {k : Nat} (hk : k < n) (hr : (at_ B k).1 = (r : Int)) : dGet D k = (at_ B k).2.1 := by
  have h1 := h.lng.low k hk hr
  have h2 := h.hi k hk hr (Nat.le_of_lt (near_n hk))
  omega
omit ok in
theorem costR_hit {v y : Nat} {c : Int} (ok : OkL n l) (hE : (y, v, c) ∈ arcsOf l) : costL l v y = c := by
  obtain ⟨x, hx, h1, h2⟩ := mem_arcs.1 hE
  have hr := ok.rng x hx
  have hne : ¬ ((v : Int) = y) := by omega
  have hp : pairB x ((v : Int), (y : Int), 0) = true := pair_yes (by omega)
  unfold costL
  rw [if_neg hne]
  have key : ∀ (m : List Lnk), m.Sublist l → x ∈ m → costR (v : Int) y m = c := by
    intro m
    induction m with
    | nil => intro _ h; cases h
    | cons z q ih =>
      intro hm hxm
      unfold costR
      by_cases hz : pairB z ((v : Int), (y : Int), 0) = true
      · rw [if_pos hz]
        have hzx : pairB x z = true := by
          have a1 := pairB_iff.1 hz; have a2 := pairB_iff.1 hp
          exact pairB_iff.2 (by simp only at a1 a2; omega)
        rcases List.mem_cons.1 hxm with rfl | hxm
        · exact h2
        · have := (List.pairwise_cons.1 (ok.twice.sublist hm)).1 x hxm
          rw [hzx] at this; cases this
      · rw [if_neg hz]
        rcases List.mem_cons.1 hxm with rfl | hxm
        · exact absurd hp hz
        · exact ih ((List.sublist_cons_self _ _).trans hm) hxm
  exact key l (List.Sublist.refl _) hx
omit ok in
theorem costR_arc {v y : Nat} (ok : OkL n l) (hne : v ≠ y) (h : costL l v y < 16) : (y, v, costL l v y) ∈ arcsOf l := by
  unfold costL at h ⊢
  rw [if_neg (by omega)] at h ⊢
  have key : ∀ (m : List Lnk), (∀ x ∈ m, x ∈ l) → costR (v : Int) y m < 16 → (y, v, costR (v : Int) y m) ∈ arcsOf l := by
    intro m
    induction m with
    | nil => intro _ h; simp [costR] at h
    | cons z q ih =>
      intro hm hlt
      unfold costR at hlt ⊢
      by_cases hz : pairB z ((v : Int), (y : Int), 0) = true
      · rw [if_pos hz]
        have a1 := pairB_iff.1 hz
        simp only at a1
        exact mem_arcs.2 ⟨z, hm z (by simp), by omega, rfl⟩
      · rw [if_neg hz] at hlt ⊢
        exact ih (fun x hx => hm x (by simp [hx])) hlt
  exact key l (fun _ h => h) h
/-- is a neighbour a way up -/
structure Good (l : List Lnk) (D : List Int) (i k : Nat) : Prop where
  pos : 0 < dGet D i
  ne : (k : Int) ≠ i
  lt : costL l i k < 16
  eq : dGet D k + costL l i k = dGet D i
include hf in
theorem good_iff {r i k : Nat} {D : List Int} (h : LngT n B r n D) (hi : i < n) (hk : k < n) (hr : (at_ B i).1 = (r : Int)) : (Good l D i k → 0 ≤ (at_ B i).2.2 ∧ (at_ B i).2.2 ≤ k) ∧ ((at_ B i).2.2 = (k : Int) → Good l D i k) := by
  constructor
  · intro g
    have hE := costR_arc ok (v := i) (y := k) (by have := g.ne; omega) g.lt
    obtain ⟨f1, f2, f3⟩ := hf.arc _ _ _ hE
    have e1 := h.fin ok hf hi hr
    have e2 := h.fin ok hf hk (by rw [f1]; exact hr)
    have h3 := f3 (by have := g.eq; omega)
    refine ⟨?_, h3⟩
    have hp := g.pos
    rcases (hf.node i hi).2.2.2 with ⟨_, _, e⟩ | ⟨y, c, e, _⟩
    · omega
    · omega
  · intro e
    have hir : (at_ B i).1 ≠ (i : Int) := fun h' => by have := (up_iff (ok_arcs ok) hf hi).1 h'; omega
    obtain ⟨y, c, hy, g1, g2, g3, g4, g5⟩ := up_step (ok_arcs ok) hf hi hir
    have : y = k := by omega
    subst this
    have hc := costR_hit ok g2
    have e1 := h.fin ok hf hi hr
    have e2 := h.fin ok hf hk (by rw [g3]; exact hr)
    have o := (ok_arcs ok).lt _ g2
    simp only at o
    have hn := (hf.node y hy).2.2.1
    refine ⟨by omega, ?_, by omega, by omega⟩
    intro h'
    have : y = i := by omega
    subst this; omega
end
end Sp
end Go.Proofs.YtccgaflbhpagcaaDoor
