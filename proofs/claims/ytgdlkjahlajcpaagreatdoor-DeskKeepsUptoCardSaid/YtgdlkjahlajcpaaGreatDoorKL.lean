/- Covers in plain numbers, continued: what the program tells (coverV), what the reference tells (covR), and how many addresses there are; no program in sight. The Internet checksum: what sum.folded and sum.Sum compute. The Internet checksum: what sum.Right, sum.Swap, the reference's Folded and SumOf, and summed compute. The desk's small parts: the errors' names; must and done, which hand back or panic; the deferred function, which recovers. -/
import Derived.Test.YtgdlkjahlajcpaaGreatDoorKK
import Derived.Test.YtgdlkjahlajcpaaGreatDoorKB
import Derived.Test.YtgdlkjahlajcpaaGreatDoorKC
import Derived.Test.YtgdlkjahlajcpaaGreatDoorKD
import Derived.Test.YtgdlkjahlajcpaaGreatDoorKF
import Derived.Defers
import Derived.Recover
namespace Go.Proofs.YtgdlkjahlajcpaaGreatDoor
open Go.ChangeShapes Go.WideShapes Go.ChangeAt Go.RowKit
set_option linter.unusedVariables false

def sortN (l : List Nn) : List Nn := l.mergeSort fun x y => !lessB y x
def coverV (l : List Nn) : List Nn := (covS (sortN l)).reverse
theorem sortN_perm (l : List Nn) : (sortN l).Perm l := List.mergeSort_perm l _
theorem sortN_srt (l : List Nn) : Srt (sortN l) := by
  have h := List.pairwise_mergeSort (le := fun x y : Nn => !lessB y x) (fun a b c h1 h2 => by
    simp only [Bool.not_eq_true'] at h1 h2 ⊢
    cases h : lessB c a
    · rfl
    · have h' := lessB_iff.1 h
      have n1 : ¬ (b.1 < a.1 ∨ b.1 = a.1 ∧ b.2 < a.2) := fun e => by rw [lessB_iff.2 e] at h1; cases h1
      have n2 : ¬ (c.1 < b.1 ∨ c.1 = b.1 ∧ c.2 < b.2) := fun e => by rw [lessB_iff.2 e] at h2; cases h2
      omega) (fun a b => by
    cases h : lessB b a
    · simp
    · cases h2 : lessB a b
      · simp
      · have := lessB_iff.1 h; have := lessB_iff.1 h2; omega) l
  exact h.imp fun h => by simpa using h
theorem cover_all {l : List Nn} (hv : ∀ x ∈ l, netF x = 0) : Can (coverV l).reverse ∧ (∀ y, hasL (coverV l) y = hasL l y) ∧ (coverV l).length ≤ l.length := by
  have hp := sortN_perm l
  obtain ⟨a, b, c⟩ := cov_all (s := sortN l) (fun x hx => hv x (hp.mem_iff.1 hx)) (sortN_srt l)
  unfold coverV
  refine ⟨by rw [List.reverse_reverse]; exact a, fun y => ?_, ?_⟩
  · rw [hasL_rev, b]; exact hasL_of_mem (fun x => hp.mem_iff) y
  · rw [List.length_reverse]; have := hp.length_eq; omega
theorem cover_valid {l : List Nn} (hv : ∀ x ∈ l, netF x = 0) : ∀ x ∈ coverV l, netF x = 0 := fun x hx => (cover_all hv).1.valid x (List.mem_reverse.2 hx)
/-- what has the same addresses has the same cover -/
theorem cover_one {l c : List Nn} (hv : ∀ x ∈ l, netF x = 0) (hc : Can c.reverse) (h : ∀ y, hasL l y = hasL c y) : coverV l = c := by
  obtain ⟨a, b, _⟩ := cover_all hv
  have := a.one hc (fun y => by rw [hasL_rev, hasL_rev, b, h])
  rw [← List.reverse_reverse (coverV l), this, List.reverse_reverse]
theorem cover_same {l m : List Nn} (hv : ∀ x ∈ l, netF x = 0) (hm : ∀ x ∈ m, netF x = 0) (h : ∀ y, hasL l y = hasL m y) : coverV l = coverV m :=
  cover_one hv (cover_all hm).1 fun y => by rw [h, (cover_all hm).2.1]
theorem cover_again {l : List Nn} (hv : ∀ x ∈ l, netF x = 0) : coverV (coverV l) = coverV l :=
  cover_same (cover_valid hv) hv (cover_all hv).2.1
theorem cover_back {l : List Nn} (hv : ∀ x ∈ l, netF x = 0) : coverV l.reverse = coverV l :=
  cover_same (fun x hx => hv x (List.mem_reverse.1 hx)) hv (hasL_rev l)
/-- of four bytes, the last one too -/
theorem net_end {x : Nn} (h : netF x = 0) (h32 : is32 x.1) : x.1 + szN x ≤ 4294967296 := by
  obtain ⟨k, hk, ek, hf⟩ := net_ok h
  have hp := lowI_pos k
  have hm := fl_mod hf
  obtain ⟨q, hq⟩ := Int.dvd_of_emod_eq_zero hm
  have hs : szN x = lowI k := by unfold szN; rw [ek, Int.toNat_natCast]
  have h0 : lowI 0 = lowI k * 2 ^ k := by have := low_split (k := 0) (l := k) (by omega) hk; simpa using this
  have h1 : lowI 0 = 4294967296 := by decide
  have : q < 2 ^ k := by
    rcases Int.lt_or_le q (2 ^ k) with h | h
    · exact h
    · have := Int.mul_le_mul_of_nonneg_left h (Int.le_of_lt hp)
      have := h32.2
      omega
  have h2 : lowI k * (q + 1) ≤ lowI k * 2 ^ k := Int.mul_le_mul_of_nonneg_left (by omega) (Int.le_of_lt hp)
  rw [Int.mul_add] at h2
  omega
theorem has_32 {x : Nn} {y : Int} (h32 : is32 x.1) (h : hasB x y = true) : is32 y := by
  obtain ⟨h1, h2, h3⟩ := has_iff.1 h
  have := net_end h1 h32
  have := h32.1
  exact ⟨by omega, by omega⟩
theorem join_mem32 : ∀ (r : List Nn) (n : Nn), is32 n.1 → (∀ x ∈ r, is32 x.1) → ∀ x ∈ joinS n r, is32 x.1
  | [], n, hn, _, x, h => by simp [joinS] at h; rw [h]; exact hn
  | t :: r, n, hn, hr, x, h => by
    unfold joinS at h
    cases hs : sibB t n with
    | false =>
      rw [hs, cond_false] at h
      rcases List.mem_cons.1 h with rfl | h
      · exact hn
      · exact hr x h
    | true =>
      rw [hs, cond_true] at h
      exact join_mem32 r (upN n) (fl_32 (lowI_pos _) hn) (fun y hy => hr y (List.mem_cons_of_mem _ hy)) x h
theorem step_mem32 {st : List Nn} {n : Nn} (hn : is32 n.1) (hs : ∀ x ∈ st, is32 x.1) : ∀ x ∈ stepS st n, is32 x.1 := by
  cases st with
  | nil => intro x h; simp [stepS] at h; rw [h]; exact hn
  | cons t r =>
    intro x h
    unfold stepS at h
    simp only at h
    cases hi : inB n t with
    | true => rw [hi, cond_true] at h; exact hs x h
    | false => rw [hi, cond_false] at h; exact join_mem32 _ n hn hs x h
theorem fold_mem32 : ∀ (s st : List Nn), (∀ x ∈ s, is32 x.1) → (∀ x ∈ st, is32 x.1) → ∀ x ∈ s.foldl stepS st, is32 x.1
  | [], _, _, h2 => h2
  | n :: s, st, h1, h2 => fold_mem32 s _ (fun x hx => h1 x (List.mem_cons_of_mem _ hx)) (step_mem32 (h1 n (by simp)) h2)
theorem cover_32 {l : List Nn} (h : ∀ x ∈ l, is32 x.1) : ∀ x ∈ coverV l, is32 x.1 := fun x hx =>
  fold_mem32 _ _ (fun y hy => h y ((sortN_perm l).mem_iff.1 hy)) (fun _ h => by cases h) x (List.mem_reverse.1 hx)

/-- NONE WITHIN ANOTHER ONE, NO TWO HALVES OF ONE; THEY RISE -/
theorem cover_few {l : List Nn} (hv : ∀ x ∈ l, netF x = 0) {i k : Nat} {x t : Nn} (hki : k < i) (hi : (coverV l)[i]? = some x) (hk : (coverV l)[k]? = some t) :
    inB x t = false ∧ inB t x = false ∧ lessB t x = true ∧ (t.2 ≠ 0 → x.2 ≠ 0 → upN t ≠ upN x) := by
  have hc := (cover_all hv).1
  have hx := List.mem_of_getElem? hi
  have ht := List.mem_of_getElem? hk
  have vx := cover_valid hv x hx
  have vt := cover_valid hv t ht
  have hs : (coverV l).Pairwise fun a b => a.1 + szN a ≤ b.1 := by
    have : ∀ {c : List Nn}, Can c → c.Pairwise fun a b => b.1 + szN b ≤ a.1 := by
      intro c
      induction c with
      | nil => exact fun _ => List.Pairwise.nil
      | cons n r ih => exact fun h => List.pairwise_cons.2 ⟨Can.below h, ih h.2.2⟩
    have := this hc
    rw [List.pairwise_reverse] at this
    exact this
  have hd : t.1 + szN t ≤ x.1 := by
    obtain ⟨hi', ei⟩ := List.getElem?_eq_some_iff.1 hi
    obtain ⟨hk', ek⟩ := List.getElem?_eq_some_iff.1 hk
    rw [← ei, ← ek]
    exact List.pairwise_iff_getElem.1 hs k i hk' hi' hki
  have p1 := szN_pos t
  have p2 := szN_pos x
  refine ⟨?_, ?_, lessB_iff.2 (by omega), fun h1 h2 h => ?_⟩
  · cases h : inB x t
    · rfl
    · have := has_iff.1 (nests_four h (has_self vx)); omega
  · cases h : inB t x
    · rfl
    · have := has_iff.1 (nests_four h (has_self vt)); omega
  · have hsb := hc.sib (List.mem_reverse.2 ht) (List.mem_reverse.2 hx) hd
    obtain ⟨k1, _, e1, u1, v1, o1, s1, _⟩ := up_ok vt h1
    obtain ⟨k2, _, e2, u2, v2, o2, s2, _⟩ := up_ok vx h2
    have : sibB t x = true := by
      refine sib_iff.2 ⟨h2, ?_, ?_⟩
      · rw [u1, u2] at h; have := (Prod.mk.inj h).2; omega
      · rw [← h]
        refine in_of_has (has_self vt) (has_iff.2 ⟨v1, ?_, ?_⟩) (by rw [u1]; simp only; omega)
        · have := lowI_pos (k1 + 1); omega
        · have := lowI_pos (k1 + 1); omega
    rw [this] at hsb; cases hsb

/-! ### how many addresses -/
def cnt (p : Int → Bool) : Nat → Nat
  | 0 => 0
  | n + 1 => cnt p n + (p (n : Int)).toNat
theorem cnt_le (p : Int → Bool) : ∀ n, cnt p n ≤ n
  | 0 => Nat.le_refl _
  | n + 1 => by have := cnt_le p n; have : (p (n : Int)).toNat ≤ 1 := by cases p (n : Int) <;> decide
                unfold cnt; omega
theorem cnt_or (p q : Int → Bool) : ∀ n, cnt (fun y => p y || q y) n ≤ cnt p n + cnt q n
  | 0 => Nat.le_refl _
  | n + 1 => by
    have := cnt_or p q n
    have : (p (n : Int) || q (n : Int)).toNat ≤ (p (n : Int)).toNat + (q (n : Int)).toNat := by cases p (n : Int) <;> cases q (n : Int) <;> decide
    unfold cnt; omega
theorem cnt_mono {p q : Int → Bool} (h : ∀ y, p y = true → q y = true) : ∀ n, cnt p n ≤ cnt q n
  | 0 => Nat.le_refl _
  | n + 1 => by
    have := cnt_mono h n
    have : (p (n : Int)).toNat ≤ (q (n : Int)).toNat := by
      have := h (n : Int)
      cases hp : p (n : Int)
      · simp
      · rw [this hp]; decide
    unfold cnt; omega
theorem cnt_add {p q : Int → Bool} (h : ∀ y, p y = true → q y = false) : ∀ n, cnt (fun y => p y || q y) n = cnt p n + cnt q n
  | 0 => rfl
  | n + 1 => by
    have := cnt_add h n
    have : (p (n : Int) || q (n : Int)).toNat = (p (n : Int)).toNat + (q (n : Int)).toNat := by
      have := h (n : Int)
      cases hp : p (n : Int)
      · simp
      · rw [this hp]; decide
    unfold cnt; omega
theorem cnt_congr {p q : Int → Bool} (h : ∀ y, p y = q y) (n : Nat) : cnt p n = cnt q n := by rw [funext h]
theorem cnt_span (a s : Nat) : ∀ n, cnt (fun y => decide ((a : Int) ≤ y ∧ y < a + s)) n = min n (a + s) - min n a
  | 0 => by simp [cnt]
  | n + 1 => by
    have := cnt_span a s n
    unfold cnt
    rw [this]
    by_cases h : (a : Int) ≤ n ∧ (n : Int) < a + s
    · rw [decide_eq_true h]; simp only [Bool.toNat_true]; omega
    · rw [decide_eq_false h]; simp only [Bool.toNat_false]; omega
def sizL (l : List Nn) : Int := (l.map szN).foldr (· + ·) 0
theorem sizL_cons (x : Nn) (l : List Nn) : sizL (x :: l) = szN x + sizL l := rfl
theorem sizL_append (l m : List Nn) : sizL (l ++ m) = sizL l + sizL m := by
  induction l with
  | nil => simp [sizL]
  | cons x r ih => rw [List.cons_append, sizL_cons, sizL_cons, ih]; omega
theorem sizL_rev (l : List Nn) : sizL l.reverse = sizL l := by
  induction l with
  | nil => rfl
  | cons x r ih => rw [List.reverse_cons, sizL_append, ih, sizL_cons, sizL_cons]; simp [sizL]; omega
theorem sizL_nonneg (l : List Nn) : 0 ≤ sizL l := by
  induction l with
  | nil => decide
  | cons x r ih => rw [sizL_cons]; have := szN_pos x; omega
theorem cnt_net {x : Nn} (h : netF x = 0) (h32 : 0 ≤ x.1) {N : Nat} (hN : x.1 + szN x ≤ N) : (cnt (hasB x) N : Int) = szN x := by
  obtain ⟨a, ea⟩ := Int.eq_ofNat_of_zero_le h32
  obtain ⟨s, es⟩ := Int.eq_ofNat_of_zero_le (Int.le_of_lt (szN_pos x))
  have : ∀ y, hasB x y = decide ((a : Int) ≤ y ∧ y < a + s) := fun y => by
    rw [Bool.eq_iff_iff, has_iff, decide_eq_true_iff, ea, es]
    exact ⟨fun h => h.2, fun h' => ⟨h, h'⟩⟩
  rw [cnt_congr this, cnt_span, es]
  rw [ea, es] at hN
  omega
theorem cnt_can : ∀ {c : List Nn}, Can c → ∀ {N : Nat}, (∀ x ∈ c, 0 ≤ x.1 ∧ x.1 + szN x ≤ N) → (cnt (hasL c) N : Int) = sizL c
  | [], _, N, _ => by
    have : ∀ n, cnt (hasL []) n = 0 := fun n => by
      induction n with
      | zero => rfl
      | succ n ih => unfold cnt; rw [ih]; rfl
    rw [this]; rfl
  | n :: r, hc, N, hN => by
    have h1 := cnt_can hc.2.2 (N := N) (fun x hx => hN x (List.mem_cons_of_mem _ hx))
    have h2 := cnt_net hc.1 (hN n (by simp)).1 (hN n (by simp)).2
    have h3 : cnt (hasL (n :: r)) N = cnt (hasB n) N + cnt (hasL r) N := by
      rw [← cnt_add (p := hasB n) (q := hasL r) (fun y hy => ?_) N]
      · exact cnt_congr (fun y => hasL_cons n r y) N
      · cases h : hasL r y
        · rfl
        · obtain ⟨t, ht, h4⟩ := hasL_iff.1 h
          have := Can.below hc t ht
          have := has_iff.1 hy
          have := has_iff.1 h4
          omega
    rw [h3, sizL_cons]; omega
/-- so many addresses have the nets l -/
theorem cover_cnt {l : List Nn} (hv : ∀ x ∈ l, netF x = 0) (h32 : ∀ x ∈ l, is32 x.1) {N : Nat} (hN : N = 4294967296) : (cnt (hasL l) N : Int) = sizL (coverV l) := by
  obtain ⟨a, b, _⟩ := cover_all hv
  rw [← sizL_rev, ← cnt_can (N := N) a (fun x hx => ?_)]
  · congr 1; exact cnt_congr (fun y => by rw [hasL_rev, b]) N
  · have hx' := List.mem_reverse.1 hx
    have h1 := cover_32 h32 x hx'
    have := net_end (cover_valid hv x hx') h1
    exact ⟨h1.1, by omega⟩
theorem cover_max {l : List Nn} (hv : ∀ x ∈ l, netF x = 0) (h32 : ∀ x ∈ l, is32 x.1) : sizL (coverV l) ≤ 4294967296 := by
  obtain ⟨N, hN⟩ : ∃ N : Nat, N = 4294967296 := ⟨_, rfl⟩
  rw [← cover_cnt hv h32 hN]
  have := cnt_le (hasL l) N
  omega
theorem cover_two {l m : List Nn} (hl : ∀ x ∈ l, netF x = 0) (hm : ∀ x ∈ m, netF x = 0) (h32 : ∀ x ∈ l, is32 x.1) (m32 : ∀ x ∈ m, is32 x.1) :
    sizL (coverV (l ++ m)) ≤ sizL (coverV l) + sizL (coverV m) ∧ sizL (coverV l) ≤ sizL (coverV (l ++ m)) ∧ sizL (coverV m) ≤ sizL (coverV (l ++ m)) := by
  obtain ⟨N, hN⟩ : ∃ N : Nat, N = 4294967296 := ⟨_, rfl⟩
  have hv : ∀ x ∈ l ++ m, netF x = 0 := fun x hx => (List.mem_append.1 hx).elim (hl x) (hm x)
  have h3 : ∀ x ∈ l ++ m, is32 x.1 := fun x hx => (List.mem_append.1 hx).elim (h32 x) (m32 x)
  rw [← cover_cnt hv h3 hN, ← cover_cnt hl h32 hN, ← cover_cnt hm m32 hN, cnt_congr (hasL_append l m) N]
  have h1 := cnt_or (hasL l) (hasL m) N
  have h2 := cnt_mono (p := hasL l) (q := fun y => hasL l y || hasL m y) (fun y h => by simp [h]) N
  have h4 := cnt_mono (p := hasL m) (q := fun y => hasL l y || hasL m y) (fun y h => by simp [h]) N
  omega
theorem cover_single {x : Nn} (h : netF x = 0) : coverV [x] = [x] :=
  cover_one (fun y hy => by simp at hy; rw [hy]; exact h) ⟨h, fun _ h => by simp at h, trivial⟩ fun _ => rfl

/-! ### what the reference tells -/
theorem Can.append : ∀ {r s : List Nn}, Can r → Can s → (∀ n ∈ r, ∀ t ∈ s, t.1 + szN t ≤ n.1 ∧ sibB t n = false) → Can (r ++ s)
  | [], s, _, h, _ => h
  | [n], s, hr, hs, h => ⟨hr.1, fun t ht => h n (by simp) t (by cases s with
      | nil => simp at ht
      | cons a b => simp at ht; rw [ht]; simp), hs⟩
  | n :: m :: r, s, hr, hs, h => ⟨hr.1, fun t ht => hr.2.1 t (by simpa using ht), Can.append hr.2.2 hs (fun a ha => h a (List.mem_cons_of_mem _ ha))⟩
def someR (l : List Nn) (n : Nn) : Bool := l.any fun x => inB x n || inB n x
def inR (l : List Nn) (n : Nn) : Bool := l.any fun x => inB n x
def fullR (l : List Nn) : Nat → Nn → Bool
  | 0, n => inR l n
  | k + 1, n => inR l n || ((l.any fun x => inB x n) && fullR l k (halfP n) && fullR l k (halfQ n))
def covR (l : List Nn) : Nat → Nn → List Nn
  | 0, n => bif someR l n then [n] else []
  | k + 1, n => bif someR l n then (bif fullR l (k + 1) n then [n] else covR l k (halfP n) ++ covR l k (halfQ n)) else []
section
variable {l : List Nn} (hl : ∀ x ∈ l, netF x = 0)
include hl
theorem full_iff : ∀ (k : Nat) (n : Nn), netF n = 0 → n.2 = 32 - (k : Int) → k ≤ 32 → (fullR l k n = true ↔ ∀ y, hasB n y = true → hasL l y = true)
  | 0, n, hn, e, _ => by
    unfold fullR inR
    rw [List.any_eq_true]
    constructor
    · rintro ⟨x, hx, h⟩ y hy
      exact hasL_iff.2 ⟨x, hx, nests_four h hy⟩
    · intro h
      obtain ⟨x, hx, hy⟩ := hasL_iff.1 (h n.1 (has_self hn))
      obtain ⟨j, hj, ej, _⟩ := net_ok (hl x hx)
      exact ⟨x, hx, in_of_has (has_self hn) hy (by omega)⟩
  | k + 1, n, hn, e, hk => by
    obtain ⟨a, ln⟩ := n
    simp only at e
    obtain ⟨j, rfl⟩ : ∃ j : Nat, ln = (j : Int) := ⟨ln.toNat, by omega⟩
    have hj : j < 32 := by omega
    have hh := half_has hj hn
    have hp := half_p hj hn
    have hq := half_q hj hn
    have ip := full_iff k (a, (j : Int) + 1) hp (by simp only; omega) (by omega)
    have iq := full_iff k (a + lowI (j + 1), (j : Int) + 1) hq (by simp only; omega) (by omega)
    have ep : halfP (a, (j : Int)) = (a, (j : Int) + 1) := rfl
    have eq : halfQ (a, (j : Int)) = (a + lowI (j + 1), (j : Int) + 1) := by unfold halfQ; simp
    unfold fullR
    rw [ep, eq]
    simp only [Bool.or_eq_true, Bool.and_eq_true]
    constructor
    · rintro (h | ⟨⟨_, h1⟩, h2⟩) y hy
      · obtain ⟨x, hx, h⟩ := List.any_eq_true.1 h
        exact hasL_iff.2 ⟨x, hx, nests_four h hy⟩
      · rw [← (hh y).1, Bool.or_eq_true] at hy
        exact hy.elim (ip.1 h1 y) (iq.1 h2 y)
    · intro h
      obtain ⟨x, hx, hy⟩ := hasL_iff.1 (h a (has_self hn (x := (a, (j : Int)))))
      rcases share (has_self hn) hy with h1 | h1
      · exact .inl (List.any_eq_true.2 ⟨x, hx, h1⟩)
      · exact .inr ⟨⟨List.any_eq_true.2 ⟨x, hx, h1⟩, ip.2 fun y hy => h y (by rw [← (hh y).1, hy]; rfl)⟩, iq.2 fun y hy => h y (by rw [← (hh y).1, hy]; simp)⟩
omit hl in
theorem some_no {n : Nn} (h : someR l n = false) {y : Int} (hy : hasB n y = true) : hasL l y = false := by
  cases h1 : hasL l y
  · rfl
  · obtain ⟨x, hx, h2⟩ := hasL_iff.1 h1
    have : someR l n = true := List.any_eq_true.2 ⟨x, hx, by
      rw [Bool.or_eq_true]
      exact (share hy h2).symm⟩
    rw [this] at h; cases h
theorem covR_all : ∀ (k : Nat) (n : Nn), netF n = 0 → n.2 = 32 - (k : Int) → k ≤ 32 →
    (∀ x ∈ covR l k n, inB x n = true) ∧ Can (covR l k n).reverse ∧ (∀ y, hasL (covR l k n) y = (hasL l y && hasB n y))
  | 0, n, hn, e, hk => by
    unfold covR
    cases hs : someR l n with
    | false =>
      rw [cond_false]
      refine ⟨fun _ h => (by cases h), trivial, fun y => ?_⟩
      cases hy : hasB n y
      · simp [hasL]
      · rw [some_no hs hy]; rfl
    | true =>
      rw [cond_true]
      refine ⟨fun x h => ?_, ⟨hn, fun _ h => by simp at h, trivial⟩, fun y => ?_⟩
      · simp at h; rw [h]; exact in_self hn
      · have : fullR l 0 n = true := by
          obtain ⟨x, hx, h⟩ := List.any_eq_true.1 hs
          refine List.any_eq_true.2 ⟨x, hx, ?_⟩
          rcases Bool.or_eq_true_iff.1 h with h | h
          · have h1 := (inB_iff.1 h)
            obtain ⟨j, hj, ej, _⟩ := net_ok h1.1
            have h2 : x.2 = n.2 := by omega
            have h3 : hasB n x.1 = true := hasB_iff.2 ⟨hn, h1.2.2.2⟩
            exact in_of_has h3 (has_self h1.1) (by omega)
          · exact h
        have h2 := (full_iff hl 0 n hn e hk).1 this y
        rw [hasL_cons]
        cases hy : hasB n y
        · simp [hasL]
        · rw [h2 hy]; rfl
  | k + 1, n, hn, e, hk => by
    cases hs : someR l n with
    | false =>
      unfold covR
      rw [hs, cond_false]
      refine ⟨fun _ h => (by cases h), trivial, fun y => ?_⟩
      cases hy : hasB n y
      · simp [hasL]
      · rw [some_no hs hy]; rfl
    | true =>
      cases hf : fullR l (k + 1) n with
      | true =>
        unfold covR
        rw [hs, hf, cond_true, cond_true]
        refine ⟨fun x h => ?_, ⟨hn, fun _ h => by simp at h, trivial⟩, fun y => ?_⟩
        · simp at h; rw [h]; exact in_self hn
        · have h2 := (full_iff hl (k + 1) n hn e hk).1 hf y
          rw [hasL_cons]
          cases hy : hasB n y
          · simp [hasL]
          · rw [h2 hy]; rfl
      | false =>
        have hnf : ¬ ∀ y, hasB n y = true → hasL l y = true := fun h => by rw [(full_iff hl (k + 1) n hn e hk).2 h] at hf; cases hf
        unfold covR
        rw [hs, hf, cond_true, cond_false]
        obtain ⟨a, ln⟩ := n
        simp only at e
        obtain ⟨j, rfl⟩ : ∃ j : Nat, ln = (j : Int) := ⟨ln.toNat, by omega⟩
        have hj : j < 32 := by omega
        have hh := half_has hj hn
        have hp := half_p hj hn
        have hq := half_q hj hn
        have ep : halfP (a, (j : Int)) = (a, (j : Int) + 1) := rfl
        have eq : halfQ (a, (j : Int)) = (a + lowI (j + 1), (j : Int) + 1) := by unfold halfQ; simp
        rw [ep, eq]
        obtain ⟨p1, p2, p3⟩ := covR_all k (a, (j : Int) + 1) hp (by simp only; omega) (by omega)
        obtain ⟨q1, q2, q3⟩ := covR_all k (a + lowI (j + 1), (j : Int) + 1) hq (by simp only; omega) (by omega)
        have hup : ∀ x, inB x (a, (j : Int) + 1) = true ∨ inB x (a + lowI (j + 1), (j : Int) + 1) = true → inB x (a, (j : Int)) = true := fun x h => by
          have hx : netF x = 0 := h.elim (fun h => (inB_iff.1 h).1) (fun h => (inB_iff.1 h).1)
          have hl2 : (j : Int) + 1 ≤ x.2 := h.elim (fun h => (inB_iff.1 h).2.1) (fun h => (inB_iff.1 h).2.1)
          refine in_of_has (has_self hx) ?_ (by simp only; omega)
          rw [← (hh x.1).1, Bool.or_eq_true]
          exact h.imp (fun h => nests_four h (has_self hx)) (fun h => nests_four h (has_self hx))
        refine ⟨fun x hx => hup x ((List.mem_append.1 hx).imp (p1 x) (q1 x)), ?_, fun y => ?_⟩
        · rw [List.reverse_append]
          refine q2.append p2 fun n hn' t ht => ?_
          have hm := lowI_pos (j + 1)
          have hnq := q1 n (List.mem_reverse.1 hn')
          have htp := p1 t (List.mem_reverse.1 ht)
          have vn := (inB_iff.1 hnq).1
          have vt := (inB_iff.1 htp).1
          have szp : szN (a, (j : Int) + 1) = lowI (j + 1) := by unfold szN; simp only; congr 1
          have szq : szN (a + lowI (j + 1), (j : Int) + 1) = lowI (j + 1) := by unfold szN; simp only; congr 1
          have b1 := has_iff.1 (nests_four hnq (has_self vn))
          have b2 : hasB t (t.1 + szN t - 1) = true := has_iff.2 ⟨vt, by have := szN_pos t; omega, by omega⟩
          have b3 := has_iff.1 (nests_four htp b2)
          have hd : t.1 + szN t ≤ n.1 := by rw [szp] at b3; simp only at b1 b3; omega
          refine ⟨hd, ?_⟩
          cases hsb : sibB t n
          · rfl
          · exfalso
            obtain ⟨e1, e2, hu, _, e3, e4, e5, e6⟩ := sib_parts vn hsb hd
            -- the net above both is within the whole, and has an address of each half: it is the whole
            have hut : hasB (upN n) t.1 = true := has_iff.2 ⟨hu, by omega, by have := szN_pos t; have := szN_pos n; omega⟩
            have hun : hasB (upN n) n.1 = true := has_iff.2 ⟨hu, by have := szN_pos t; omega, by have := szN_pos t; have := szN_pos n; omega⟩
            have hq2 : hasB (a + lowI (j + 1), (j : Int) + 1) n.1 = true := nests_four hnq (has_self vn)
            have hp2 : hasB (a, (j : Int) + 1) t.1 = true := nests_four htp (has_self vt)
            have hlow : (upN n).2 ≤ (j : Int) := by
              rcases Int.lt_or_le (j : Int) (upN n).2 with h | h
              · exfalso
                have h1 := in_of_has hun hq2 (by simp only; omega)
                have h2 := nests_four h1 hut
                have := (hh t.1).2
                rw [hp2, h2] at this; cases this
              · exact h
            have hl2 := (inB_iff.1 hnq).2.1
            simp only at hl2
            have hqn : inB (a + lowI (j + 1), (j : Int) + 1) n = true := in_of_has hq2 (has_self vn) (by simp only; omega)
            have hpt : inB (a, (j : Int) + 1) t = true := in_of_has hp2 (has_self vt) (by simp only; omega)
            have en := nests_two hqn hnq
            have et := nests_two hpt htp
            refine hnf fun y hy => ?_
            rw [← (hh y).1, Bool.or_eq_true] at hy
            rcases hy with hy | hy
            · have := p3 y
              rw [hasL_iff.2 ⟨t, List.mem_reverse.1 ht, by rw [← et]; exact hy⟩] at this
              have := this.symm; rw [Bool.and_eq_true] at this; exact this.1
            · have := q3 y
              rw [hasL_iff.2 ⟨n, List.mem_reverse.1 hn', by rw [← en]; exact hy⟩] at this
              have := this.symm; rw [Bool.and_eq_true] at this; exact this.1
        · rw [hasL_append, p3, q3, ← (hh y).1]
          cases hasL l y <;> rfl
end
theorem has_top {y : Int} (h : is32 y) : hasB (0, 0) y = true := by
  have h1 : szN (0, 0) = 4294967296 := by decide
  refine has_iff.2 ⟨by decide, h.1, ?_⟩
  rw [h1]; have := h.2; simp only; omega
/-- THE REFERENCE TELLS THE SAME -/
theorem cover_ref {l : List Nn} (hv : ∀ x ∈ l, netF x = 0) (h32 : ∀ x ∈ l, is32 x.1) : covR l 32 (0, 0) = coverV l := by
  obtain ⟨_, h2, h3⟩ := covR_all hv 32 (0, 0) (by decide) (by decide) (Nat.le_refl _)
  refine (cover_one hv h2 fun y => ?_).symm
  rw [h3]
  cases h : hasL l y
  · rfl
  · obtain ⟨x, hx, hy⟩ := hasL_iff.1 h
    rw [has_top (has_32 (h32 x hx) hy)]; rfl
end Go.Proofs.YtgdlkjahlajcpaaGreatDoor
namespace Go.Proofs.YtgdlkjahlajcpaaGreatDoor
open Go.ChangeShapes Go.WideShapes Go.ChangeAt Go.RowKit

/-- the ones' sum folded -/
def fo (n : Int) : Int := if n = 0 then 0 else (n - 1) % 65535 + 1
theorem fo_small (n : Int) (h0 : 0 ≤ n) (h : n ≤ 65535) : fo n = n := by unfold fo; split <;> omega
theorem fo_step (n : Int) (h : 65535 < n) : fo (n / 65536 + n % 65536) = fo n := by
  unfold fo; split <;> split <;> omega
theorem fo_rng (n : Int) : 0 ≤ fo n ∧ fo n ≤ 65535 := by unfold fo; split <;> omega

theorem and16 (m : Int) (h0 : 0 ≤ m) (h1 : m ≤ 9223372036854775807) : bits BinOp.and IntKind.u64 m 65535 = m % 65536 := by
  have := u64_and m 65535 h0 (by omega) (by omega) (by omega)
  rw [this]
  have e : m.toNat &&& (65535 : Int).toNat = m.toNat % 65536 := nat_mask16 m.toNat
  rw [e]
  omega

set_option maxHeartbeats 400000 in
theorem folded_any (n : Int) (w : World) (h0 : 0 ≤ n) (h1 : n ≤ 9223372036854775807) :
    Calls Tryz.prog 95 #[.int .u64 n] w fun e w' => e = .returned (.int .u16 (fo n)) ∧ w = w' := by
  go_enter Tryz.func95, Tryz.ntmps95
  go_wp2
  go_loop [0] (fun v => ∃ m : Int, 0 ≤ m ∧ m ≤ 9223372036854775807 ∧ fo m = fo n ∧ v = .int .u64 m) (fun v => (intOf v).toNat)
  case atStart => exact ⟨n, h0, h1, rfl, rfl⟩
  case round =>
    obtain ⟨m, hm0, hm1, hf, rfl⟩ := hrel
    have HF := Lib.hid hf; clear hf
    by_cases hlt : 65535 < m
    · have ha := and16 m hm0 hm1
      have hw : IntKind.u64.wrap (m / 65536 + m % 65536) = m / 65536 + m % 65536 := IntWalk.u64_in _ ⟨by omega, by omega⟩
      go_wp2
      exact ⟨⟨m / 65536 + m % 65536, by omega, by omega, (fo_step m hlt).trans HF.out, rfl⟩, by simp [intOf]; omega⟩
    · go_wp2
      go_ret
      exact ⟨by simp only [Array.getD]; exact ret_int ((fo_small m hm0 (by omega)).symm.trans HF.out), rfl⟩

/-- the weighed sum of bytes: 256 at even places -/
def bsum : Bool → List Int → Int
  | _, [] => 0
  | true, x :: r => 256 * x + bsum false r
  | false, x :: r => x + bsum true r
def wsum (l : List Int) : Int := bsum true l

theorem bsum_snoc (b : Bool) (l : List Int) (x : Int) : bsum b (l ++ [x]) = bsum b l + bsum (if l.length % 2 = 0 then b else !b) [x] := by
  induction l generalizing b with
  | nil => cases b <;> simp [bsum]
  | cons y r ih =>
    have e : (if (y :: r).length % 2 = 0 then b else !b) = (if r.length % 2 = 0 then !b else b) := by
      simp only [List.length_cons]
      by_cases h : r.length % 2 = 0
      · rw [if_pos h, if_neg (by omega)]
      · rw [if_neg h, if_pos (by omega)]
    have e2 : (if r.length % 2 = 0 then !b else !!b) = (if r.length % 2 = 0 then !b else b) := by simp
    rw [e, List.cons_append]
    cases b
    · simp only [bsum, ih]; simp only [Bool.not_false, Bool.not_true]; omega
    · simp only [bsum, ih]; simp only [Bool.not_false, Bool.not_true]; omega
theorem take_snoc {l : List Int} {k : Nat} {x : Int} (h : l[k]? = some x) : l.take (k + 1) = l.take k ++ [x] := by
  rw [List.take_add_one, h]; rfl
theorem wsum_take {l : List Int} {k : Nat} {x : Int} (h : l[k]? = some x) : wsum (l.take (k + 1)) = wsum (l.take k) + if k % 2 = 0 then 256 * x else x := by
  have hk : k < l.length := (List.getElem?_eq_some_iff.1 h).1
  rw [take_snoc h]
  unfold wsum
  rw [bsum_snoc, List.length_take, Nat.min_eq_left (by omega)]
  by_cases hk : k % 2 = 0 <;> simp [hk, bsum]
theorem bsum_rng (b : Bool) (l : List Int) (h : ∀ x ∈ l, 0 ≤ x ∧ x ≤ 255) : 0 ≤ bsum b l ∧ bsum b l ≤ 65280 * l.length := by
  induction l generalizing b with
  | nil => cases b <;> simp [bsum]
  | cons y r ih =>
    have h1 := h y (by simp)
    have h2 := ih (!b) (fun x hx => h x (by simp [hx]))
    cases b <;> simp only [bsum, List.length_cons, Bool.not_true, Bool.not_false] at * <;> omega
theorem wsum_rng (l : List Int) (k : Nat) (hk : k ≤ l.length) (h : ∀ x ∈ l, 0 ≤ x ∧ x ≤ 255) : 0 ≤ wsum (l.take k) ∧ wsum (l.take k) ≤ 65280 * k := by
  have := bsum_rng true (l.take k) (fun x hx => h x (List.mem_of_mem_take hx))
  rw [List.length_take, Nat.min_eq_left hk] at this
  exact this

theorem xor16 (m : Int) (h0 : 0 ≤ m) (h1 : m ≤ 65535) : bits BinOp.xor IntKind.u16 IntKind.u16.max m = 65535 - m := by
  obtain ⟨n, rfl⟩ := Int.eq_ofNat_of_zero_le h0
  have e := u16_xor_nat 65535 n (by omega) (by omega)
  have e2 : IntKind.u16.max = ((65535 : Nat) : Int) := by decide
  rw [e2, e]
  have h : n < 2 ^ 16 := by omega
  have e3 : 65535 ^^^ n = 65535 - n := by
    apply Nat.eq_of_testBit_eq
    intro i
    rw [show (65535 : Nat) - n = 2 ^ 16 - (n + 1) from by omega, Nat.testBit_two_pow_sub_succ h, Nat.testBit_xor, show (65535 : Nat) = 2 ^ 16 - 1 from by decide, Nat.testBit_two_pow_sub_one]
    by_cases hi : i < 16
    · simp [hi]
    · have : n.testBit i = false := Nat.testBit_lt_two_pow (Nat.lt_of_lt_of_le h (Nat.pow_le_pow_right (by omega) (by omega)))
      simp [hi, this]
  rw [e3]
  omega

set_option maxHeartbeats 400000 in
theorem sum_any (A : Option Addr) (c : Nat) (l : List Int) (w : World) (B : Nat) (hb : Bytes w B A l) (hl : l.length ≤ 140737488355328) :
    Calls Tryz.prog 69 #[.slice A l.length c] w fun e w' => e = .returned (.int .u16 (65535 - fo (wsum l))) ∧ w = w' := by
  go_enter Tryz.func69, Tryz.ntmps69
  go_wp2
  go_loop [3, 8] (fun n i => ∃ k : Nat, k ≤ l.length ∧ i = .int .i64 k ∧ n = .int .u64 (wsum (l.take k))) (fun _ i => l.length - (intOf i).toNat)
  case atStart => exact ⟨0, Nat.zero_le _, rfl, rfl⟩
  case round =>
    obtain ⟨k, hk, rfl, rfl⟩ := hrel
    have hr := wsum_rng l k hk hb.2
    by_cases hlt : k < l.length
    · obtain ⟨ad, x, rfl, _, hc, h0, h1, HX⟩ := hb.at_ hlt
      have hs := Lib.hid (wsum_take HX.out)
      generalize wsum (l.take k) = S at *
      by_cases hp : k % 2 = 0
      · go_wp2
        refine ⟨⟨k + 1, by omega, by go_num, ?_⟩, by simp [intOf]; omega⟩
        rw [hs.out, if_pos hp]; go_num
      · go_wp2
        refine ⟨⟨k + 1, by omega, by go_num, ?_⟩, by simp [intOf]; omega⟩
        rw [hs.out, if_neg hp]
    · have e : l.take k = l := List.take_of_length_le (by omega)
      have E := Lib.hid e; clear e
      go_wp2_with (go_at_call 95; refine (folded_any _ _ (by omega) (by omega)).mono ?_; rintro e w' ⟨rfl, rfl⟩)
      go_ret
      exact ⟨ret_int (by rw [E.out]; exact xor16 _ (fo_rng _).1 (fo_rng _).2), rfl⟩
end Go.Proofs.YtgdlkjahlajcpaaGreatDoor
namespace Go.Proofs.YtgdlkjahlajcpaaGreatDoor
open Go.ChangeShapes Go.WideShapes Go.ChangeAt Go.RowKit

/-- the sum of bytes -/
def S16 (l : List Int) : Int := 65535 - fo (wsum l)
theorem S16_rng (l : List Int) : 0 ≤ S16 l ∧ S16 l ≤ 65535 := by have := fo_rng (wsum l); unfold S16; omega
theorem bsum_append (b : Bool) (l m : List Int) : bsum b (l ++ m) = bsum b l + bsum (if l.length % 2 = 0 then b else !b) m := by
  induction l generalizing b with
  | nil => cases b <;> simp [bsum]
  | cons y r ih =>
    have e : (if (y :: r).length % 2 = 0 then b else !b) = (if r.length % 2 = 0 then !b else !!b) := by
      simp only [List.length_cons, Bool.not_not]
      by_cases h : r.length % 2 = 0
      · rw [if_pos h, if_neg (by omega)]
      · rw [if_neg h, if_pos (by omega)]
    rw [e, List.cons_append]
    cases b
    · simp only [bsum, ih, Bool.not_false]; omega
    · simp only [bsum, ih, Bool.not_true]; omega
theorem wsum_append (l m : List Int) (h : l.length % 2 = 0) : wsum (l ++ m) = wsum l + wsum m := by
  unfold wsum; rw [bsum_append, if_pos h]
/-- a sum in which a number has become another one -/
def W16 (s o n : Int) : Int := 65535 - fo (65535 - s + (65535 - o) + n)
theorem W16_rng (s o n : Int) : 0 ≤ W16 s o n ∧ W16 s o n ≤ 65535 := by have := fo_rng (65535 - s + (65535 - o) + n); unfold W16; omega

theorem Sum_any (A : Option Addr) (n : Nat) (c : Nat) (l : List Int) (w : World) (B : Nat) (hb : Bytes w B A l) (hn : n = l.length) (hl : n ≤ 140737488355328) :
    Calls Tryz.prog 69 #[.slice A n c] w fun e w' => e = .returned (.int .u16 (S16 l)) ∧ w = w' := by
  subst hn; exact sum_any A c l w B hb hl

set_option maxHeartbeats 400000 in
theorem Folded_any (n : Int) (w : World) (h0 : 0 ≤ n) (h1 : n ≤ 9223372036854775807) :
    Calls Tryz.prog 35 #[.int .i64 n] w fun e w' => e = .returned (.int .i64 (fo n)) ∧ w = w' := by
  go_enter Tryz.func35, Tryz.ntmps35
  go_wp2
  go_loop [0] (fun v => ∃ m : Int, 0 ≤ m ∧ m ≤ 9223372036854775807 ∧ fo m = fo n ∧ v = .int .i64 m) (fun v => (intOf v).toNat)
  case atStart => exact ⟨n, h0, h1, rfl, rfl⟩
  case round =>
    obtain ⟨m, hm0, hm1, hf, rfl⟩ := hrel
    have HF := Lib.hid hf; clear hf
    by_cases hlt : 65535 < m
    · go_wp2
      exact ⟨⟨m % 65536 + m / 65536, by omega, by omega, by rw [Int.add_comm]; exact (fo_step m hlt).trans HF.out, rfl⟩, by simp [intOf]; omega⟩
    · go_wp2
      go_ret
      exact ⟨by simp only [Array.getD]; exact ret_int ((fo_small m hm0 (by omega)).symm.trans HF.out), rfl⟩

set_option maxHeartbeats 400000 in
theorem SumOf_any (A : Option Addr) (n : Nat) (c : Nat) (l : List Int) (w : World) (B : Nat) (hb : Bytes w B A l) (hn : n = l.length) (hl : n ≤ 140737488355328) :
    Calls Tryz.prog 18 #[.slice A n c] w fun e w' => e = .returned (.int .i64 (S16 l)) ∧ w = w' := by
  subst hn
  go_enter Tryz.func18, Tryz.ntmps18
  go_wp2
  go_loop [3, 4] (fun n i => ∃ k : Nat, k ≤ l.length ∧ i = .int .i64 k ∧ n = .int .i64 (wsum (l.take k))) (fun _ i => l.length - (intOf i).toNat)
  case atStart => exact ⟨0, Nat.zero_le _, rfl, rfl⟩
  case round =>
    obtain ⟨k, hk, rfl, rfl⟩ := hrel
    have hr := wsum_rng l k hk hb.2
    by_cases hlt : k < l.length
    · obtain ⟨ad, x, rfl, _, hc, h0, h1, HX⟩ := hb.at_ hlt
      have hs := Lib.hid (wsum_take HX.out)
      generalize wsum (l.take k) = S at *
      by_cases hp : k % 2 = 0
      · go_wp2
        refine ⟨⟨k + 1, by omega, by go_num, ?_⟩, by simp [intOf]; omega⟩
        rw [hs.out, if_pos hp]
      · go_wp2
        refine ⟨⟨k + 1, by omega, by go_num, ?_⟩, by simp [intOf]; omega⟩
        rw [hs.out, if_neg hp]
    · have e : l.take k = l := List.take_of_length_le (by omega)
      have E := Lib.hid e; clear e
      have hf := fo_rng (wsum (l.take k))
      go_wp2_with (go_at_call 35; refine (Folded_any _ _ (by omega) (by omega)).mono ?_; rintro e w' ⟨rfl, rfl⟩)
      go_ret
      exact ⟨ret_int (by rw [E.out]; rfl), rfl⟩

end Go.Proofs.YtgdlkjahlajcpaaGreatDoor
namespace Go.Proofs.YtgdlkjahlajcpaaGreatDoor
open Go.ChangeShapes Go.WideShapes Go.ChangeAt Go.RowKit
set_option linter.unusedVariables false
set_option linter.unusedSimpArgs false

/-- an error's name -/
def nameE (k : Int) : List UInt8 :=
  if k = 0 then [79, 75] else if k = 1 then [69, 114, 114, 82, 97, 110, 103, 101] else if k = 2 then [69, 114, 114, 78, 111, 110, 101] else if k = 3 then [69, 114, 114, 70, 111, 114, 109]
  else if k = 4 then [69, 114, 114, 70, 117, 108, 108] else if k = 5 then [69, 114, 114, 84, 119, 105, 99, 101] else if k = 6 then [69, 114, 114, 83, 104, 111, 114, 116] else if k = 7 then [69, 114, 114, 83, 121, 110, 116, 97, 120] else [69, 114, 114, 110, 111]
abbrev bsV (l : List UInt8) : Value := .string ⟨l.toArray⟩
theorem Name_any (k : Int) (h0 : 0 ≤ k) (h7 : k ≤ 7) (w : World) :
    Calls Tryz.prog 10 #[.int .i64 k] w fun e w' => e = .returned (bsV (nameE k)) ∧ w' = w := by
  have hk : k = 0 ∨ k = 1 ∨ k = 2 ∨ k = 3 ∨ k = 4 ∨ k = 5 ∨ k = 6 ∨ k = 7 := by omega
  rcases hk with rfl | rfl | rfl | rfl | rfl | rfl | rfl | rfl <;>
  · go_enter Tryz.func10, Tryz.ntmps10
    go_wp2
    go_ret
    exact ⟨rfl, rfl⟩
/-- the panic of an error of ours -/
abbrev panE (k : Int) : Ending := .panicked [{ v := .iface 35 (.int .i64 k), recovered := false }]
theorem MustS_ok (s : Value) (w : World) : Calls Tryz.prog 57 #[s, .nilIface] w fun e w' => e = .returned s ∧ w' = w := by
  go_enter Tryz.func57, Tryz.ntmps57
  go_wp2
  go_ret
  exact ⟨rfl, rfl⟩
theorem MustS_bad (s : Value) (k : Int) (w : World) : Calls Tryz.prog 57 #[s, .iface 35 (.int .i64 k)] w fun e w' => e = panE k ∧ w' = w := by
  go_enter Tryz.func57, Tryz.ntmps57
  go_wp2
  exact ⟨rfl, rfl, rfl⟩
theorem MustI_ok (v : Value) (w : World) : Calls Tryz.prog 52 #[v, .nilIface] w fun e w' => e = .returned v ∧ w' = w := by
  go_enter Tryz.func52, Tryz.ntmps52
  go_wp2
  go_ret
  exact ⟨rfl, rfl⟩
theorem MustI_bad (v : Value) (k : Int) (w : World) : Calls Tryz.prog 52 #[v, .iface 35 (.int .i64 k)] w fun e w' => e = panE k ∧ w' = w := by
  go_enter Tryz.func52, Tryz.ntmps52
  go_wp2
  exact ⟨rfl, rfl, rfl⟩
theorem MustL_ok (A : Option Addr) (n c : Nat) (w : World) : Calls Tryz.prog 63 #[.slice A n c, .nilIface] w fun e w' => e = .returned (.slice A n c) ∧ w' = w := by
  go_enter Tryz.func63, Tryz.ntmps63
  go_wp2
  go_ret
  exact ⟨rfl, rfl⟩
theorem Done_ok (w : World) : Calls Tryz.prog 46 #[.nilIface] w fun e w' => e = .returned (bsV [111, 107]) ∧ w' = w := by
  go_enter Tryz.func46, Tryz.ntmps46
  go_wp2_with (first
    | (go_at_call 57; refine (MustS_ok _ _).mono ?_; rintro e w1 ⟨rfl, rfl⟩)
    | fail)
  go_ret
  exact ⟨rfl, rfl⟩
theorem Done_bad (k : Int) (w : World) : Calls Tryz.prog 46 #[.iface 35 (.int .i64 k)] w fun e w' => e = panE k ∧ w' = w := by
  go_enter Tryz.func46, Tryz.ntmps46
  go_wp2_with (first
    | (go_at_call 57; refine (MustS_bad _ k _).mono ?_; rintro e w1 ⟨rfl, rfl⟩)
    | fail)
  exact ⟨rfl, rfl, rfl⟩

/-! ### the deferred function -/
set_option maxRecDepth 100000 in
theorem catch_pan (p : Addr) (k : Int) (old : Value) (older : List PanicEntry) (w : World) (h0 : 0 ≤ k) (h7 : k ≤ 7) (hc : w.cell? p = some old) (hz : w.frozen? p = false) :
    CallsD Tryz.prog 29 #[.pointer (some p)] (.panicking ({ v := .iface 35 (.int .i64 k), recovered := false } :: older)) w fun e u' w' =>
      e = .returned (.tuple #[]) ∧ u' = .panicking ({ v := .iface 35 (.int .i64 k), recovered := true } :: older) ∧ w' = w.setCell p (bsV (nameE k)) := by
  have hta : ∀ w : World, (Instr.typeAssert (.iface 35 (.int .i64 k)) 20 35 true).run Tryz.prog w = .ok (.tuple #[.int .i64 k, .bool true]) w := fun w => by kernel_rfl
  refine callsD_of_wpS Tryz.func29 rfl fun c₀ cs hu => ?_
  apply wpS_seq
  apply wpS_region
  generalize hQ : Exit.thenS _ _ = Q
  simp [wpOpsS, go_sem, recoverD, hu, Tryz.ntmps29]
  rw [← hQ]
  clear hQ Q
  simp only [Exit.thenS]
  refine wpS_of_wp ?_
  generalize hQ : (fun e a' w' => _) = Q
  have HQ := Lib.hid hQ
  clear hQ hu
  change Code.wp _ _ _ { tmps := #[.pointer (some p), .iface 35 (.int .i64 k), undef, undef, .iface 35 (.int .i64 k), undef, undef, undef, undef, undef, undef, undef, undef, undef, undef, undef, undef], defers := [] } _
  go_wp2_with (first
    | (go_at_call 10; (with_reducible refine (Name_any k h0 h7 _).mono ?_); rintro e w1 ⟨rfl, rfl⟩)
    | fail)
  rw [← HQ.out]
  simp [bodyPostS, results, Tryz.results29]
theorem catch_idle (p : Addr) (w : World) :
    CallsD Tryz.prog 29 #[.pointer (some p)] .returning w fun e u' w' => e = .returned (.tuple #[]) ∧ u' = .returning ∧ w' = w := by
  refine callsD_of_wpS Tryz.func29 rfl fun c₀ cs hu => ?_
  apply wpS_seq
  apply wpS_region
  generalize hQ : Exit.thenS _ _ = Q
  simp [wpOpsS, go_sem, recoverD, hu, Tryz.ntmps29]
  rw [← hQ]
  clear hQ Q
  simp only [Exit.thenS]
  refine wpS_of_wp ?_
  have hcs : c₀ = { c₀ with mode := .returning } := by rw [← hu]
  generalize hQ : (fun e a' w' => _) = Q
  have HQ := Lib.hid hQ
  clear hQ hu
  change Code.wp _ _ _ { tmps := #[.pointer (some p), .nilIface, undef, undef, .nilIface, undef, undef, undef, undef, undef, undef, undef, undef, undef, undef, undef, undef], defers := [] } _
  go_wp2
  rw [← HQ.out]
  simp [bodyPostS, results, Tryz.results29]
  exact hcs
end Go.Proofs.YtgdlkjahlajcpaaGreatDoor
