/- Covers of nets in plain numbers: the stack of a cover, that it is the one list of the greatest nets, how many addresses it has; no program in sight. -/
import Derived.Test.YtgdlkjahlajcpaaGreatDoorKE
namespace Go.Proofs.YtgdlkjahlajcpaaGreatDoor
open Go.ChangeShapes Go.WideShapes Go.ChangeAt Go.RowKit
set_option linter.unusedVariables false

abbrev Nn := Int × Int
def szN (x : Nn) : Int := lowI x.2.toNat
def hasL (l : List Nn) (y : Int) : Bool := l.any fun x => hasB x y
def upN (x : Nn) : Nn := (fl (lowI (x.2.toNat - 1)) x.1, x.2 - 1)
def sibB (t n : Nn) : Bool := decide (n.2 ≠ 0) && decide (t.2 = n.2) && inB t (upN n)
/-- the stack, its top ahead -/
def joinS : Nn → List Nn → List Nn
  | n, [] => [n]
  | n, t :: r => bif sibB t n then joinS (upN n) r else n :: t :: r
def stepS (st : List Nn) (n : Nn) : List Nn :=
  match st with
  | [] => [n]
  | t :: r => bif inB n t then t :: r else joinS n (t :: r)
def covS (s : List Nn) : List Nn := s.foldl stepS []
def HeadOk (n : Nn) (r : List Nn) : Prop := ∀ t, r.head? = some t → t.1 + szN t ≤ n.1 ∧ sibB t n = false
def Can : List Nn → Prop
  | [] => True
  | n :: r => netF n = 0 ∧ HeadOk n r ∧ Can r

theorem szN_pos (x : Nn) : 0 < szN x := lowI_pos _
theorem has_iff {x : Nn} {y : Int} : hasB x y = true ↔ netF x = 0 ∧ x.1 ≤ y ∧ y < x.1 + szN x := by
  rw [hasB_iff]
  constructor
  · rintro ⟨h, e⟩
    have hp := lowI_pos x.2.toNat
    have h1 := Int.emod_nonneg y (Int.ne_of_gt hp)
    have h2 := Int.emod_lt_of_pos y hp
    unfold fl at e
    unfold szN
    exact ⟨h, by omega, by omega⟩
  · rintro ⟨h, h1, h2⟩
    refine ⟨h, ?_⟩
    obtain ⟨k, hk, ek, hf⟩ := net_ok h
    unfold szN at h2
    rw [ek] at h2 ⊢
    simp only [Int.toNat_natCast] at h2 ⊢
    have hp := lowI_pos k
    have hm := fl_mod hf
    obtain ⟨q, hq⟩ := Int.dvd_of_emod_eq_zero hm
    rw [fl_mul _ _ hp]
    have : y / lowI k = q := by
      have e1 : y = (y - x.1) + lowI k * q := by omega
      rw [e1, Int.add_mul_ediv_left _ _ (Int.ne_of_gt hp), Int.ediv_eq_zero_of_lt (by omega) (by omega)]
      omega
    rw [this, hq]
theorem has_self {x : Nn} (h : netF x = 0) : hasB x x.1 = true := has_iff.2 ⟨h, by omega, by have := szN_pos x; omega⟩
theorem in_self {x : Nn} (h : netF x = 0) : inB x x = true := in_of_has (has_self h) (has_self h) (Int.le_refl _)
/-- two right nets that share an address: the one with more bits is within the other -/
theorem share {a b : Nn} {y : Int} (h1 : hasB a y = true) (h2 : hasB b y = true) : inB a b = true ∨ inB b a = true := by
  rcases Int.le_total b.2 a.2 with h | h
  · exact .inl (in_of_has h1 h2 h)
  · exact .inr (in_of_has h2 h1 h)
theorem hasL_cons (x : Nn) (l : List Nn) (y : Int) : hasL (x :: l) y = (hasB x y || hasL l y) := rfl
theorem hasL_iff {l : List Nn} {y : Int} : hasL l y = true ↔ ∃ x ∈ l, hasB x y = true := by unfold hasL; rw [List.any_eq_true]
theorem hasL_append (l m : List Nn) (y : Int) : hasL (l ++ m) y = (hasL l y || hasL m y) := by unfold hasL; rw [List.any_append]
theorem hasL_of_mem {l m : List Nn} (h : ∀ x, x ∈ l ↔ x ∈ m) (y : Int) : hasL l y = hasL m y := by
  rw [Bool.eq_iff_iff, hasL_iff, hasL_iff]
  exact ⟨fun ⟨x, h1, h2⟩ => ⟨x, (h x).1 h1, h2⟩, fun ⟨x, h1, h2⟩ => ⟨x, (h x).2 h1, h2⟩⟩
theorem hasL_rev (l : List Nn) (y : Int) : hasL l.reverse y = hasL l y := hasL_of_mem (fun x => List.mem_reverse) y

/-- what is above a right net that is not all -/
theorem up_ok {n : Nn} (h : netF n = 0) (h0 : n.2 ≠ 0) : ∃ k : Nat, k < 32 ∧ n.2 = (k : Int) + 1 ∧ upN n = (fl (lowI k) n.1, (k : Int)) ∧ netF (upN n) = 0 ∧ (n.1 = (upN n).1 ∨ n.1 = (upN n).1 + lowI (k + 1)) ∧ szN (upN n) = lowI (k + 1) * 2 ∧ szN n = lowI (k + 1) := by
  obtain ⟨j, hj, ej, hf⟩ := net_ok h
  obtain ⟨k, rfl⟩ : ∃ k, j = k + 1 := ⟨j - 1, by omega⟩
  have e2 : n.2 = (k : Int) + 1 := by omega
  have eu : upN n = (fl (lowI k) n.1, (k : Int)) := by
    unfold upN; rw [e2]
    have : ((k : Int) + 1).toNat - 1 = k := by omega
    rw [this]; congr 1; omega
  refine ⟨k, by omega, e2, eu, ?_, ?_, ?_, ?_⟩
  · rw [eu]; exact net_of (by omega) (fl_of (fl_idem _ _ (lowI_pos k)))
  · rw [eu]
    have := fl_half (lowI (k + 1)) n.1 (lowI_pos _)
    rw [hf, ← low_succ (by omega)] at this
    exact this
  · rw [eu]; unfold szN; simp only [Int.toNat_natCast]; exact low_succ (by omega)
  · unfold szN; rw [ej]; simp only [Int.toNat_natCast]
theorem sib_iff {t n : Nn} : sibB t n = true ↔ n.2 ≠ 0 ∧ t.2 = n.2 ∧ inB t (upN n) = true := by
  unfold sibB; simp only [Bool.and_eq_true, decide_eq_true_iff]; exact ⟨fun ⟨⟨a, b⟩, c⟩ => ⟨a, b, c⟩, fun ⟨a, b, c⟩ => ⟨⟨a, b⟩, c⟩⟩
/-- both halves of one, the lesser one ahead -/
theorem sib_parts {t n : Nn} (hn : netF n = 0) (h : sibB t n = true) (hd : t.1 + szN t ≤ n.1) :
    t.1 = (upN n).1 ∧ n.1 = t.1 + szN t ∧ netF (upN n) = 0 ∧ netF t = 0 ∧ szN n = szN t ∧ szN (upN n) = szN t + szN n ∧ (upN n).2 = n.2 - 1 ∧ t.2 = n.2 := by
  obtain ⟨h0, e, hi⟩ := sib_iff.1 h
  obtain ⟨k, hk, e2, eu, hu, hor, hs, hs2⟩ := up_ok hn h0
  obtain ⟨ht, _, _, hf⟩ := inB_iff.1 hi
  obtain ⟨k', hk', e2', eu', hu', hor', hs', hs2'⟩ := up_ok ht (by omega)
  obtain rfl : k = k' := by omega
  have hup : (upN t).1 = (upN n).1 := by
    rw [eu', eu]; rw [eu] at hf; simpa using hf
  have hp := lowI_pos (k + 1)
  rw [hup] at hor'
  refine ⟨by omega, by omega, hu, ht, by omega, by omega, by rw [eu]; simp only; omega, e⟩
theorem sib_has {t n : Nn} (hn : netF n = 0) (h : sibB t n = true) (hd : t.1 + szN t ≤ n.1) (y : Int) : hasB (upN n) y = (hasB n y || hasB t y) := by
  obtain ⟨e1, e2, hu, ht, e3, e4, _, _⟩ := sib_parts hn h hd
  rw [Bool.eq_iff_iff, Bool.or_eq_true, has_iff, has_iff, has_iff]
  constructor
  · rintro ⟨_, h1, h2⟩
    by_cases hy : y < n.1
    · exact .inr ⟨ht, by omega, by omega⟩
    · exact .inl ⟨hn, by omega, by omega⟩
  · rintro (⟨_, h1, h2⟩ | ⟨_, h1, h2⟩)
    · exact ⟨hu, by omega, by have := szN_pos t; omega⟩
    · exact ⟨hu, by omega, by have := szN_pos n; omega⟩

/-! ### the stack -/
theorem join_all : ∀ (r : List Nn) (n : Nn), netF n = 0 → Can r → (∀ t, r.head? = some t → t.1 + szN t ≤ n.1) →
    Can (joinS n r) ∧ (∀ y, hasL (joinS n r) y = hasL (n :: r) y) ∧ (∀ m, lessB m n = false → (∀ t ∈ r, lessB m t = false) → ∀ t ∈ joinS n r, lessB m t = false) ∧ (joinS n r).length ≤ r.length + 1 ∧ (joinS n r) ≠ []
  | [], n, hn, _, _ => ⟨⟨hn, fun _ h => by simp at h, trivial⟩, fun _ => rfl, fun m h1 _ t ht => by simp [joinS] at ht; rw [ht]; exact h1, by simp [joinS], by simp [joinS]⟩
  | t :: r, n, hn, hc, hd => by
    have hd1 := hd t rfl
    unfold joinS
    cases hs : sibB t n with
    | false =>
      rw [cond_false]
      refine ⟨⟨hn, fun x hx => ?_, hc⟩, fun _ => rfl, fun m h1 h2 x hx => ?_, by simp, by simp⟩
      · simp only [List.head?_cons, Option.some.injEq] at hx; subst hx; exact ⟨hd1, hs⟩
      · rcases List.mem_cons.1 hx with rfl | hx
        · exact h1
        · exact h2 x hx
    | true =>
      rw [cond_true]
      obtain ⟨e1, e2, hu, ht, e3, e4, e5, e6⟩ := sib_parts hn hs hd1
      obtain ⟨_, hh, hc'⟩ := hc
      obtain ⟨i1, i2, i3, i4, i5⟩ := join_all r (upN n) hu hc' (fun x hx => by have := (hh x hx).1; omega)
      refine ⟨i1, fun y => ?_, fun m h1 h2 => i3 m ?_ (fun x hx => h2 x (List.mem_cons_of_mem _ hx)), by simp only [List.length_cons]; omega, i5⟩
      · rw [i2, hasL_cons, sib_has hn hs hd1, hasL_cons, hasL_cons, Bool.or_assoc]
      · have := h2 t (by simp)
        cases hb : lessB m (upN n)
        · rfl
        · have h3 := lessB_iff.1 hb
          have : lessB m t = true := lessB_iff.2 (by omega)
          simp_all
theorem apart_of {t n : Nn} (hn : netF n = 0) (ht : netF t = 0) (hl : lessB n t = false) (hi : inB n t = false) : t.1 + szN t ≤ n.1 := by
  have hnl : ¬ (n.1 < t.1 ∨ n.1 = t.1 ∧ n.2 < t.2) := fun h => by rw [lessB_iff.2 h] at hl; cases hl
  by_cases h : n.1 < t.1 + szN t
  · exfalso
    have h1 : hasB t n.1 = true := has_iff.2 ⟨ht, by omega, h⟩
    rcases Int.le_total t.2 n.2 with h2 | h2
    · rw [in_of_has (has_self hn) h1 h2] at hi; cases hi
    · have h3 := in_of_has h1 (has_self hn) h2
      obtain ⟨_, _, _, h4⟩ := inB_iff.1 h3
      have h5 : hasB n t.1 = true := hasB_iff.2 ⟨hn, h4⟩
      have h6 := (has_iff.1 h5).2.1
      have h7 : t = n ∨ t ≠ n := by by_cases e : t = n <;> simp [e]
      rcases h7 with rfl | h7
      · rw [in_self hn] at hi; cases hi
      · have h8 := lessB_iff.1 (less_in h3 h7)
        omega
  · omega
theorem step_all {st : List Nn} {n : Nn} (hn : netF n = 0) (hc : Can st) (hl : ∀ t ∈ st, lessB n t = false) :
    Can (stepS st n) ∧ (∀ y, hasL (stepS st n) y = (hasL st y || hasB n y)) ∧ (∀ m, lessB m n = false → (∀ t ∈ st, lessB m t = false) → ∀ t ∈ stepS st n, lessB m t = false) ∧ (stepS st n).length ≤ st.length + 1 := by
  cases st with
  | nil => exact ⟨⟨hn, fun _ h => by simp at h, trivial⟩, fun y => by simp [stepS, hasL], fun m h1 _ t ht => by simp [stepS] at ht; rw [ht]; exact h1, by simp [stepS]⟩
  | cons t r =>
    unfold stepS
    simp only
    cases hi : inB n t with
    | true =>
      rw [cond_true]
      refine ⟨hc, fun y => ?_, fun m _ h2 => h2, by simp⟩
      rw [hasL_cons]
      cases h : hasB n y
      · simp
      · rw [nests_four hi h]; simp
    | false =>
      rw [cond_false]
      obtain ⟨i1, i2, i3, i4, i5⟩ := join_all (t :: r) n hn hc (fun x hx => by
        simp only [List.head?_cons, Option.some.injEq] at hx; subst hx
        exact apart_of hn hc.1 (hl t (by simp)) hi)
      exact ⟨i1, fun y => by rw [i2, hasL_cons, Bool.or_comm], i3, by simpa using i4⟩
/-- sorted: none is ahead of an earlier one -/
def Srt (s : List Nn) : Prop := s.Pairwise fun a b => lessB b a = false
theorem cov_go : ∀ (s st : List Nn), Can st → (∀ x ∈ s, netF x = 0) → Srt s → (∀ x ∈ s, ∀ t ∈ st, lessB x t = false) →
    Can (s.foldl stepS st) ∧ (∀ y, hasL (s.foldl stepS st) y = (hasL st y || hasL s y)) ∧ (s.foldl stepS st).length ≤ st.length + s.length
  | [], st, hc, _, _, _ => ⟨hc, fun y => by simp [hasL], by simp⟩
  | n :: s, st, hc, hv, hs, hl => by
    have hs' := List.pairwise_cons.1 hs
    obtain ⟨a1, a2, a3, a4⟩ := step_all (hv n (by simp)) hc (hl n (by simp))
    obtain ⟨b1, b2, b3⟩ := cov_go s (stepS st n) a1 (fun x hx => hv x (by simp [hx])) hs'.2 (fun x hx t ht => a3 x (hs'.1 x hx) (fun t' ht' => hl x (by simp [hx]) t' ht') t ht)
    refine ⟨b1, fun y => ?_, ?_⟩
    · rw [List.foldl_cons, b2, a2, hasL_cons, Bool.or_assoc]
    · rw [List.foldl_cons]; simp only [List.length_cons]; omega
theorem cov_all {s : List Nn} (hv : ∀ x ∈ s, netF x = 0) (hs : Srt s) : Can (covS s) ∧ (∀ y, hasL (covS s) y = hasL s y) ∧ (covS s).length ≤ s.length := by
  obtain ⟨a, b, c⟩ := cov_go s [] trivial hv hs (fun _ _ _ h => by cases h)
  exact ⟨a, fun y => by rw [covS, b]; simp [hasL], by simpa [covS] using c⟩

/-! ### there is but one -/
theorem Can.valid : ∀ {c : List Nn}, Can c → ∀ x ∈ c, netF x = 0
  | [], _, _, h => by cases h
  | n :: r, ⟨h1, _, h3⟩, x, h => by
    rcases List.mem_cons.1 h with rfl | h
    · exact h1
    · exact Can.valid h3 x h
theorem Can.below : ∀ {r : List Nn} {n : Nn}, Can (n :: r) → ∀ t ∈ r, t.1 + szN t ≤ n.1
  | [], _, _, _, h => by cases h
  | p :: r, n, ⟨_, h2, h3⟩, t, h => by
    have h4 := (h2 p rfl).1
    rcases List.mem_cons.1 h with rfl | h
    · exact h4
    · have := Can.below h3 t h
      have := szN_pos p
      omega
theorem Can.same : ∀ {c : List Nn}, Can c → ∀ {x z : Nn} {y : Int}, x ∈ c → z ∈ c → hasB x y = true → hasB z y = true → x = z
  | [], _, _, _, _, h, _, _, _ => by cases h
  | n :: r, hc, x, z, y, hx, hz, h1, h2 => by
    have h1' := has_iff.1 h1
    have h2' := has_iff.1 h2
    rcases List.mem_cons.1 hx with ex | hx <;> rcases List.mem_cons.1 hz with ez | hz
    · rw [ex, ez]
    · have := Can.below hc z hz; subst ex; omega
    · have := Can.below hc x hx; subst ez; omega
    · exact Can.same hc.2.2 hx hz h1 h2
theorem Can.sib : ∀ {c : List Nn}, Can c → ∀ {t n : Nn}, t ∈ c → n ∈ c → t.1 + szN t ≤ n.1 → sibB t n = false
  | [], _, _, _, h, _, _ => by cases h
  | p :: r, hc, t, n, ht, hn, hd => by
    have hcn := hc.valid n hn
    have hb := Can.below hc
    have hp := szN_pos p
    have hpn := szN_pos n
    have hpt := szN_pos t
    rcases List.mem_cons.1 hn with en | hn2
    · subst en
      rcases List.mem_cons.1 ht with et | ht
      · subst et; omega
      · cases r with
        | nil => cases ht
        | cons q r =>
          rcases List.mem_cons.1 ht with et | ht
          · subst et; exact (hc.2.1 t rfl).2
          · cases hs : sibB t n
            · rfl
            · have h1 := sib_parts hcn hs hd
              have h2 := hb q (by simp)
              have h3 := Can.below hc.2.2 t ht
              have := szN_pos q
              omega
    · rcases List.mem_cons.1 ht with et | ht
      · subst et; have := hb n hn2; omega
      · exact Can.sib hc.2.2 ht hn2 hd
/-- what a cover has all of is within one of its nets -/
theorem Can.whole {c : List Nn} (hc : Can c) : ∀ (k : Nat) (n : Nn), netF n = 0 → n.2 = 32 - (k : Int) → k ≤ 32 → (∀ y, hasB n y = true → hasL c y = true) → ∃ x ∈ c, inB n x = true
  | 0, n, hn, e, _, h => by
    obtain ⟨x, hx, hy⟩ := hasL_iff.1 (h n.1 (has_self hn))
    obtain ⟨j, hj, ej, _⟩ := net_ok (hc.valid x hx)
    exact ⟨x, hx, in_of_has (has_self hn) hy (by omega)⟩
  | k + 1, n, hn, e, hk, h => by
    obtain ⟨a, l⟩ := n
    simp only at e
    obtain ⟨j, rfl⟩ : ∃ j : Nat, l = (j : Int) := ⟨l.toNat, by omega⟩
    have hj : j < 32 := by omega
    have hh := half_has hj hn
    have hp := half_p hj hn
    have hq := half_q hj hn
    obtain ⟨x0, hx0, h0⟩ := Can.whole hc k (a, (j : Int) + 1) hp (by simp only; omega) (by omega) (fun y hy => h y (by rw [← (hh y).1, hy]; rfl))
    obtain ⟨x1, hx1, h1⟩ := Can.whole hc k (a + lowI (j + 1), (j : Int) + 1) hq (by simp only; omega) (by omega) (fun y hy => h y (by rw [← (hh y).1, hy]; simp))
    have hm := lowI_pos (j + 1)
    have ha0 : hasB x0 a = true := nests_four h0 (has_self hp)
    have ha1 : hasB x1 (a + lowI (j + 1)) = true := nests_four h1 (has_self hq)
    have hn0 : hasB (a, (j : Int)) a = true := has_self hn
    have hn1 : hasB (a, (j : Int)) (a + lowI (j + 1)) = true := by rw [← (hh _).1, has_self hq (x := (a + lowI (j + 1), (j : Int) + 1))]; simp
    by_cases e0 : x0.2 ≤ (j : Int)
    · exact ⟨x0, hx0, in_of_has hn0 ha0 e0⟩
    · by_cases e1 : x1.2 ≤ (j : Int)
      · exact ⟨x1, hx1, in_of_has hn1 ha1 e1⟩
      · exfalso
        have l0 := (inB_iff.1 h0).2.1
        have l1 := (inB_iff.1 h1).2.1
        simp only at l0 l1
        have i0 := nests_two h0 (in_of_has ha0 (has_self hp) (by simp only; omega))
        have i1 := nests_two h1 (in_of_has ha1 (has_self hq) (by simp only; omega))
        subst i0 i1
        have hsz : szN (a, (j : Int) + 1) = lowI (j + 1) := by unfold szN; simp only; congr 1
        have hs := Can.sib hc hx0 hx1 (by rw [hsz]; simp only; omega)
        have : sibB (a, (j : Int) + 1) (a + lowI (j + 1), (j : Int) + 1) = true := by
          refine sib_iff.2 ⟨by simp only; omega, rfl, ?_⟩
          have eu : upN (a + lowI (j + 1), (j : Int) + 1) = (a, (j : Int)) := by
            unfold upN
            have : ((j : Int) + 1).toNat - 1 = j := by omega
            simp only [this]
            rw [half_up_q hj hn]; congr 1; omega
          rw [eu]
          exact in_of_has (has_self hp) hn0 (by simp only; omega)
        rw [this] at hs; cases hs
theorem Can.within {c d : List Nn} (hc : Can c) (hd : Can d) (h : ∀ y, hasL c y = true → hasL d y = true) {x : Nn} (hx : x ∈ c) : ∃ z ∈ d, inB x z = true := by
  have hv := hc.valid x hx
  obtain ⟨k, hk, ek, _⟩ := net_ok hv
  exact hd.whole (32 - k) x hv (by omega) (by omega) (fun y hy => h y (hasL_iff.2 ⟨x, hx, hy⟩))
theorem Can.sub {c d : List Nn} (hc : Can c) (hd : Can d) (h : ∀ y, hasL c y = hasL d y) {x : Nn} (hx : x ∈ c) : x ∈ d := by
  obtain ⟨y, hy, h1⟩ := hc.within hd (fun y hy => by rw [← h]; exact hy) hx
  obtain ⟨z, hz, h2⟩ := hd.within hc (fun y hy => by rw [h]; exact hy) hy
  have hv := has_self (hc.valid x hx)
  have e := hc.same hx hz hv (nests_four (nests_three h1 h2) hv)
  subst e
  rw [nests_two h1 h2]; exact hy
theorem Can.sorted : ∀ {c : List Nn}, Can c → c.Pairwise fun a b => b.1 < a.1
  | [], _ => List.Pairwise.nil
  | n :: r, h => List.pairwise_cons.2 ⟨fun t ht => by have := Can.below h t ht; have := szN_pos t; omega, Can.sorted h.2.2⟩
theorem desc_ext : ∀ {l l' : List Nn}, (l.Pairwise fun a b => b.1 < a.1) → (l'.Pairwise fun a b => b.1 < a.1) → (∀ x, x ∈ l ↔ x ∈ l') → l = l'
  | [], [], _, _, _ => rfl
  | [], y :: r, _, _, h => by have := (h y).2 (by simp); cases this
  | x :: r, [], _, _, h => by have := (h x).1 (by simp); cases this
  | x :: r, y :: s, h1, h2, h => by
    have h1' := List.pairwise_cons.1 h1
    have h2' := List.pairwise_cons.1 h2
    have e : x = y := by
      rcases List.mem_cons.1 ((h x).1 (by simp)) with e | hx
      · exact e
      · rcases List.mem_cons.1 ((h y).2 (by simp)) with e | hy
        · exact e.symm
        · have a := h2'.1 x hx
          have b := h1'.1 y hy
          omega
    subst e
    congr 1
    refine desc_ext h1'.2 h2'.2 fun z => ?_
    have hz := h z
    simp only [List.mem_cons] at hz
    constructor
    · intro h3
      rcases hz.1 (.inr h3) with e | h4
      · subst e; have := h1'.1 z h3; omega
      · exact h4
    · intro h3
      rcases hz.2 (.inr h3) with e | h4
      · subst e; have := h2'.1 z h3; omega
      · exact h4
/-- THERE IS BUT ONE -/
theorem Can.one {c d : List Nn} (hc : Can c) (hd : Can d) (h : ∀ y, hasL c y = hasL d y) : c = d :=
  desc_ext hc.sorted hd.sorted fun x => ⟨hc.sub hd h, hd.sub hc (fun y => (h y).symm)⟩

end Go.Proofs.YtgdlkjahlajcpaaGreatDoor
