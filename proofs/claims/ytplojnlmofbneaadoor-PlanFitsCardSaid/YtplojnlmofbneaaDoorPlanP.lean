/- What a plan gives, in plain lists: where each net lies, that none has an address of another one, that no room is left ahead. -/
import Derived.Test.YtplojnlmofbneaaDoorFitC
namespace Go.Proofs.YtplojnlmofbneaaDoor
open Go.ChangeShapes Go.WideShapes Go.ChangeAt Go.RowKit
set_option linter.unusedVariables false
theorem sumK_nil (L : List Int) : sumK L [] = 0 := by simp [sumK, sumL]
theorem sumK_cons (L : List Int) (i : Int) (W : List Int) : sumK L (i :: W) = lowI (keyL L i).toNat + sumK L W := by unfold sumK; rw [List.map_cons, sumL_cons]
theorem sumK_append (L V W : List Int) : sumK L (V ++ W) = sumK L V + sumK L W := by
  induction V with
  | nil => rw [List.nil_append, sumK_nil]; omega
  | cons x r ih => rw [List.cons_append, sumK_cons, sumK_cons, ih]; omega
theorem sumK_nonneg (L W : List Int) : 0 ≤ sumK L W := (sumL_bound (W.map (keyL L))).1
theorem putAll_length (L : List Int) : ∀ (W : List Int) (p : Int) (ns : List Nt), (putAll L W p ns).length = ns.length
  | [], _, _ => rfl
  | i :: r, p, ns => by simp only [putAll]; rw [putAll_length]; simp
theorem putAll_other (L : List Int) : ∀ (W : List Int) (p : Int) (ns : List Nt) (j : Nat), (∀ x ∈ W, 0 ≤ x) → (j : Int) ∉ W → (putAll L W p ns)[j]? = ns[j]?
  | [], _, _, _, _, _ => rfl
  | i :: r, p, ns, j, h0, h => by
    simp only [putAll]
    have hi := h0 i (by simp)
    have hne : i.toNat ≠ j := fun e => h (by simp; left; omega)
    rw [putAll_other L r _ _ j (fun x hx => h0 x (by simp [hx])) (fun hx => h (by simp [hx])), List.getElem?_set_ne hne]
theorem putAll_get (L : List Int) : ∀ (V : List Int) (W : List Int) (p : Int) (ns : List Nt) (j : Nat), (∀ x ∈ V ++ (j : Int) :: W, 0 ≤ x) → (j : Int) ∉ V → (j : Int) ∉ W → j < ns.length → (putAll L (V ++ (j : Int) :: W) p ns)[j]? = some (p + sumK L V, keyL L j)
  | [], W, p, ns, j, h0, h1, h2, hj => by
    simp only [List.nil_append, putAll, Int.toNat_natCast]
    rw [putAll_other L W _ _ j (fun x hx => h0 x (by simp [hx])) h2, List.getElem?_set_self hj, sumK_nil, Int.add_zero]
  | i :: r, W, p, ns, j, h0, h1, h2, hj => by
    simp only [List.cons_append, putAll]
    rw [putAll_get L r W _ _ j (fun x hx => h0 x (by simp only [List.cons_append, List.mem_cons]; right; exact hx)) (fun hx => h1 (by simp [hx])) h2 (by simpa using hj), sumK_cons, Int.add_assoc]
/-- what holds of a plan -/
structure PlanOk (a : Int) (n : Nat) (L W : List Int) (ns : List Nt) : Prop where
  perm : W.Perm (idsN L.length)
  srt : Srtd (keyL L) W
  net : netF (a, (n : Int)) = 0
  is : is32 a
  bad : badL L = false
  room : sumL L ≤ lowI n
  ns : ns = putAll L W a (List.replicate L.length (0, 0))
theorem low_dvd {k l : Nat} (h : k ≤ l) (hl : l ≤ 32) : lowI k % lowI l = 0 := by rw [low_split h hl]; exact Int.mul_emod_right _ _
theorem low_lt {k l : Nat} (h : k < l) (hl : l ≤ 32) : lowI l < lowI k := by
  rw [lowI_nat, lowI_nat]
  have : 2 ^ (32 - l) < 2 ^ (32 - k) := Nat.pow_lt_pow_right (by omega) (by omega)
  omega
section
variable {a : Int} {n : Nat} {L W : List Int} {ns : List Nt} (h : PlanOk a n L W ns)
include h
theorem PlanOk.n32 : n ≤ 32 := by have := (netF_zero.1 h.net).2.1; omega
theorem PlanOk.a0 : a % lowI n = 0 := by have := (netF_zero.1 h.net).2.2; rw [Int.toNat_natCast] at this; exact fl_mod this
theorem PlanOk.top : a + lowI n ≤ 4294967296 := by
  obtain ⟨q, hq⟩ := Int.dvd_of_emod_eq_zero h.a0
  have e : (4294967296 : Int) = lowI n * 2 ^ n := by unfold lowI; rw [← Int.pow_add, show 32 - n + n = 32 from by have := h.n32; omega]; decide
  have hp := lowI_pos n
  have h1 := h.is.2
  have hq2 : q < 2 ^ n := by
    have : lowI n * q < lowI n * 2 ^ n := by rw [← e, ← hq]; omega
    exact Int.lt_of_mul_lt_mul_left this (by omega)
  have : lowI n * (q + 1) ≤ lowI n * 2 ^ n := Int.mul_le_mul_of_nonneg_left (by omega) (by omega)
  rw [← e, Int.mul_add, Int.mul_one, ← hq] at this
  exact this
theorem PlanOk.nodup : W.Nodup := by
  have h1 : (idsN L.length).Nodup := List.Pairwise.imp (fun hlt e => by omega) (idsN_asc L.length)
  exact (h.perm.nodup_iff).2 h1
theorem PlanOk.mem {i : Nat} (hi : i < L.length) : (i : Int) ∈ W := h.perm.mem_iff.2 (idsN_mem.2 ⟨by omega, by omega⟩)
theorem PlanOk.idx {x : Int} (hx : x ∈ W) : ∃ i : Nat, x = i ∧ i < L.length := by
  have := idsN_mem.1 (h.perm.mem_iff.1 hx)
  exact ⟨x.toNat, by omega, by omega⟩
theorem PlanOk.key {i : Nat} (hi : i < L.length) : ∃ k : Nat, k ≤ 32 ∧ keyL L (i : Int) = k ∧ L[i]? = some (k : Int) := by
  have hr := key_range h.bad (i := (i : Int)) (by omega) (by omega)
  obtain ⟨k, hk⟩ := Int.eq_ofNat_of_zero_le hr.1
  refine ⟨k, by omega, hk, ?_⟩
  have := keyL_at (L := L) (List.getElem?_eq_getElem hi)
  rw [List.getElem?_eq_getElem hi, ← this, hk]
theorem PlanOk.nonneg : ∀ x ∈ W, 0 ≤ x := fun x hx => (idsN_mem.1 (h.perm.mem_iff.1 hx)).1
/-- where a net lies -/
theorem PlanOk.at_ {i : Nat} (hi : i < L.length) : ∃ V V' : List Int, W = V ++ (i : Int) :: V' ∧ ns[i]? = some (a + sumK L V, keyL L (i : Int)) := by
  obtain ⟨V, V', e⟩ := List.append_of_mem (h.mem hi)
  have hn := h.nodup
  rw [e] at hn
  obtain ⟨h1, h2, h3⟩ := List.nodup_append.1 hn
  refine ⟨V, V', e, ?_⟩
  rw [h.ns, e]
  exact putAll_get L V V' a _ i (by rw [← e]; exact h.nonneg) (fun hx => h3 _ hx _ (by simp) rfl) (List.nodup_cons.1 h2).1 (by simpa using hi)
theorem PlanOk.total : sumK L W = sumL L := sumK_perm h.perm
/-- a net of the plan: it is one, within the whole, and where it ends -/
theorem PlanOk.good {V V' : List Int} {i k : Nat} (e : W = V ++ (i : Int) :: V') (hi : i < L.length) (hk : keyL L (i : Int) = k) :
    n ≤ k ∧ k ≤ 32 ∧ netF (a + sumK L V, (k : Int)) = 0 ∧ is32 (a + sumK L V) ∧ a + sumK L V + lowI k ≤ a + lowI n ∧ (∀ x ∈ V, Rl (keyL L) x i) ∧ ∀ x ∈ V', Rl (keyL L) i x := by
  have ht := h.total
  rw [e, sumK_append, sumK_cons, hk, Int.toNat_natCast] at ht
  have hr := h.room
  have h1 := sumK_nonneg L V
  have h2 := sumK_nonneg L V'
  obtain ⟨k', hk', ek, _⟩ := h.key hi
  have hkk : k' = k := by rw [hk] at ek; omega
  subst hkk
  have hkn : n ≤ k' := by
    rcases Nat.lt_or_ge k' n with hlt | hge
    · have := low_lt hlt h.n32; omega
    · exact hge
  have hs := h.srt
  rw [e] at hs
  obtain ⟨_, hs2, hs3⟩ := srtd_append.1 hs
  have hV : ∀ x ∈ V, Rl (keyL L) x i := fun x hx => hs3 x hx _ (by simp)
  have hmod : sumK L V % lowI k' = 0 := by
    have key : ∀ V0 : List Int, (∀ x ∈ V0, x ∈ W ∧ Rl (keyL L) x i) → sumK L V0 % lowI k' = 0 := by
      intro V0
      induction V0 with
      | nil => intro _; rw [sumK_nil]; rfl
      | cons x r ih =>
        intro hx
        rw [sumK_cons]
        obtain ⟨hxW, hxR⟩ := hx x (by simp)
        obtain ⟨j, rfl, hj⟩ := h.idx hxW
        obtain ⟨l, hl, el, _⟩ := h.key hj
        have hle : l ≤ k' := by
          unfold Rl at hxR
          rw [el, hk] at hxR
          omega
        rw [el, Int.toNat_natCast]
        have d1 := low_dvd hle hk'
        have d2 := ih (fun y hy => hx y (by simp [hy]))
        rw [Int.add_emod, d1, d2]; rfl
    exact key V (fun x hx => ⟨by rw [e]; simp [hx], hV x hx⟩)
  have ha : a % lowI k' = 0 := by
    have d := low_dvd hkn hk'
    obtain ⟨q, hq⟩ := Int.dvd_of_emod_eq_zero h.a0
    obtain ⟨r, hr⟩ := Int.dvd_of_emod_eq_zero d
    rw [hq, hr, Int.mul_assoc]
    exact Int.mul_emod_right _ _
  have htop := h.top
  have hlp := lowI_pos k'
  refine ⟨hkn, hk', net_of hk' (fl_of (by rw [Int.add_emod, ha, hmod]; rfl)), ⟨by have := h.is.1; omega, by omega⟩, by omega, hV, fun x hx => ?_⟩
  exact (srtd_cons.1 hs2).1 x hx
omit h in
/-- an address is in a net that lies at p just if it is not farther than its size -/
theorem has_span {p x : Int} {k : Nat} (hn : netF (p, (k : Int)) = 0) : hasB (p, (k : Int)) x = true ↔ p ≤ x ∧ x < p + lowI k := by
  have hz := (netF_zero.1 hn).2.2
  rw [Int.toNat_natCast] at hz
  have hp := lowI_pos k
  rw [hasB_iff, Int.toNat_natCast]
  constructor
  · rintro ⟨_, h2⟩
    simp only at h2
    have h3 := Int.emod_lt_of_pos x hp
    have h4 := Int.emod_nonneg x (by omega : lowI k ≠ 0)
    unfold fl at h2
    omega
  · rintro ⟨h1, h2⟩
    refine ⟨hn, ?_⟩
    simp only
    have hm := fl_mod hz
    obtain ⟨q, hq⟩ := Int.dvd_of_emod_eq_zero hm
    have : x % lowI k = x - p := by
      rw [show x = (x - p) + lowI k * q from by rw [← hq]; omega, Int.add_mul_emod_self_left]
      rw [Int.emod_eq_of_lt (by omega) (by omega)]
      rw [← hq]; omega
    unfold fl
    omega
/-- of two nets one ends ahead of the other -/
theorem PlanOk.apart {V V' U U' : List Int} {i j : Nat} (e : W = V ++ (i : Int) :: V') (e' : W = U ++ (j : Int) :: U') (hij : i ≠ j) :
    (a + sumK L V + lowI (keyL L (i : Int)).toNat ≤ a + sumK L U ∧ Rl (keyL L) i j) ∨ (a + sumK L U + lowI (keyL L (j : Int)).toNat ≤ a + sumK L V ∧ Rl (keyL L) j i) := by
  have hs := h.srt
  have hn := h.nodup
  have hmem : (j : Int) ∈ V ∨ (j : Int) ∈ V' := by
    have : (j : Int) ∈ V ++ (i : Int) :: V' := by rw [← e, e']; simp
    rcases List.mem_append.1 this with h1 | h1
    · exact .inl h1
    · rcases List.mem_cons.1 h1 with h2 | h2
      · exact absurd (by omega : i = j) hij
      · exact .inr h2
  have uniq : ∀ X X' : List Int, W = X ++ (j : Int) :: X' → X = U := by
    intro X X' ex
    rw [e'] at ex hn
    have h1 : ∀ (A B A' B' : List Int) (y : Int), A ++ y :: B = A' ++ y :: B' → y ∉ A → y ∉ A' → A = A' := by
      intro A
      induction A with
      | nil =>
        intro B A' B' y hh _ h2
        cases A' with
        | nil => rfl
        | cons z r => simp at hh; exact absurd (by rw [hh.1]; simp) h2
      | cons x r ih =>
        intro B A' B' y hh h1 h2
        cases A' with
        | nil => simp at hh; exact absurd (by rw [hh.1]; simp) h1
        | cons z s =>
          simp at hh
          rw [hh.1, ih B s B' y hh.2 (fun hx => h1 (by simp [hx])) (fun hx => h2 (by simp [hx]))]
    have k1 := List.nodup_append.1 hn
    have k2 := hn
    rw [ex] at k2
    have k3 := List.nodup_append.1 k2
    exact (h1 _ _ _ _ _ ex (fun hx => k1.2.2 _ hx _ (by simp) rfl) (fun hx => k3.2.2 _ hx _ (by simp) rfl)).symm
  rw [e] at hs
  obtain ⟨s1, s2, s3⟩ := srtd_append.1 hs
  rcases hmem with hm | hm
  · right
    obtain ⟨X, X', ex⟩ := List.append_of_mem hm
    have hU := uniq X (X' ++ (i : Int) :: V') (by rw [e, ex]; simp)
    subst hU
    refine ⟨?_, s3 _ hm _ (by simp)⟩
    rw [ex, sumK_append, sumK_cons]
    have := sumK_nonneg L X'
    omega
  · left
    obtain ⟨X, X', ex⟩ := List.append_of_mem hm
    have hU := uniq (V ++ (i : Int) :: X) X' (by rw [e, ex]; simp)
    subst hU
    refine ⟨?_, (srtd_cons.1 s2).1 _ hm⟩
    rw [sumK_append, sumK_cons]
    have := sumK_nonneg L X
    omega
end
/-- what lies ahead is given away -/
theorem covered_by (L : List Int) : ∀ (V : List Int) (a q : Int), a ≤ q → q < a + sumK L V → ∃ X x X', V = X ++ x :: X' ∧ a + sumK L X ≤ q ∧ q < a + sumK L X + lowI (keyL L x).toNat
  | [], a, q, h1, h2 => by rw [sumK_nil] at h2; omega
  | x :: r, a, q, h1, h2 => by
    rw [sumK_cons] at h2
    by_cases hq : q < a + lowI (keyL L x).toNat
    · exact ⟨[], x, r, rfl, by rw [sumK_nil]; omega, by rw [sumK_nil]; omega⟩
    · obtain ⟨X, y, X', e, h3, h4⟩ := covered_by L r (a + lowI (keyL L x).toNat) q (by omega) (by omega)
      exact ⟨x :: X, y, X', by rw [e]; rfl, by rw [sumK_cons]; omega, by rw [sumK_cons]; omega⟩
end Go.Proofs.YtplojnlmofbneaaDoor
