/- The walk of the law SumSwaps. -/
import Derived.Test.YtimdnfakgobadaaSumD
namespace Go.Proofs.Ytimdnfakgobadaa
open Go.ChangeShapes Go.WideShapes Go.ChangeAt Go.RowKit
set_option linter.unusedVariables false

theorem or16 (x y : Int) (h0 : 0 ≤ x) (h1 : x ≤ 255) (h2 : 0 ≤ y) (h3 : y ≤ 255) : bits BinOp.or IntKind.u16 (x * 256) y = x * 256 + y := by
  have := u16_or (x * 256) y (by omega) (by omega) (by omega) (by omega)
  rw [this, nat_join 8 (x * 256).toNat y.toNat (by omega) (by omega)]
  omega

/-- two bytes changed -/
def put2 (l : List Int) (i : Nat) (a b : Int) : List Int := (l.set i a).set (i + 1) b
theorem put2_len (l : List Int) (i : Nat) (a b : Int) : (put2 l i a b).length = l.length := by simp [put2]
theorem put2_rng {l : List Int} {i : Nat} {a b : Int} (h : ∀ x ∈ l, 0 ≤ x ∧ x ≤ 255) (ha : 0 ≤ a ∧ a ≤ 255) (hb : 0 ≤ b ∧ b ≤ 255) : ∀ x ∈ put2 l i a b, 0 ≤ x ∧ x ≤ 255 := by
  intro x hx
  rcases List.mem_or_eq_of_mem_set hx with hx | rfl
  · rcases List.mem_or_eq_of_mem_set hx with hx | rfl
    · exact h x hx
    · exact ha
  · exact hb
theorem put2_split (l : List Int) (i : Nat) (x y : Int) (h1 : l[i]? = some x) (h2 : l[i + 1]? = some y) : l = l.take i ++ ([x, y] ++ l.drop (i + 2)) := by
  have e1 : l.drop i = x :: l.drop (i + 1) := by
    obtain ⟨hi, rfl⟩ := List.getElem?_eq_some_iff.1 h1
    exact List.drop_eq_getElem_cons hi
  have e2 : l.drop (i + 1) = y :: l.drop (i + 2) := by
    obtain ⟨hi, rfl⟩ := List.getElem?_eq_some_iff.1 h2
    exact List.drop_eq_getElem_cons hi
  conv => lhs; rw [← List.take_append_drop i l, e1, e2]
  simp
theorem wsum_put2 (l : List Int) (i : Nat) (x y a b : Int) (hi : i % 2 = 0) (h1 : l[i]? = some x) (h2 : l[i + 1]? = some y) :
    wsum (put2 l i a b) = wsum l - (256 * x + y) + (256 * a + b) := by
  have hl : i < l.length := (List.getElem?_eq_some_iff.1 h1).1
  have hs := put2_split l i x y h1 h2
  have ht : (l.take i).length = i := by rw [List.length_take]; omega
  generalize hp : l.take i = p at *
  generalize hq : l.drop (i + 2) = q at *
  have e : put2 l i a b = p ++ ([a, b] ++ q) := by
    subst hs
    unfold put2
    rw [List.set_append_right _ _ (by omega), List.set_append_right _ _ (by omega), ht, show i - i = 0 from by omega, show i + 1 - i = 1 from by omega]
    simp
  have hpe : p.length % 2 = 0 := by omega
  rw [e, hs, wsum_append p _ hpe, wsum_append p _ hpe, wsum_append [a, b] q (by simp), wsum_append [x, y] q (by simp)]
  simp [wsum, bsum]
  omega
theorem bsum_zero (b : Bool) (l : List Int) (h : ∀ x ∈ l, 0 ≤ x ∧ x ≤ 255) : bsum b l = 0 → ∀ x ∈ l, x = 0 := by
  induction l generalizing b with
  | nil => intro _ x hx; cases hx
  | cons y r ih =>
    have h1 := h y (by simp)
    have h2 := bsum_rng (!b) r (fun x hx => h x (by simp [hx]))
    have h3 := ih (!b) (fun x hx => h x (by simp [hx]))
    intro he x hx
    have : y = 0 ∧ bsum (!b) r = 0 := by cases b <;> simp only [bsum, Bool.not_true, Bool.not_false] at * <;> omega
    rcases List.mem_cons.1 hx with rfl | hx
    · exact this.1
    · exact h3 this.2 x hx
/-- is a byte other than 0 -/
def someB (l : List Int) : Bool := l.any (· != 0)
theorem someB_pos (l : List Int) (h : ∀ x ∈ l, 0 ≤ x ∧ x ≤ 255) (hs : someB l = true) : 0 < wsum l := by
  have h1 := (bsum_rng true l h).1
  rcases Int.lt_or_eq_of_le h1 with h2 | h2
  · exact h2
  · exfalso
    obtain ⟨x, hx, hne⟩ := List.any_eq_true.1 hs
    have := bsum_zero true l h h2.symm x hx
    simp [this] at hne
theorem someB_take {l : List Int} {k : Nat} {x : Int} (h : l[k]? = some x) : someB (l.take (k + 1)) = (someB (l.take k) || x != 0) := by
  rw [take_snoc h]; simp [someB]
theorem swap_law (N o m : Int) (h : o ≤ N) (h0 : 0 ≤ o) (h1 : o ≤ 65535) (hm : 0 ≤ m) (hm1 : m ≤ 65535) (hp : 0 < N - o + m) :
    fo (65535 - (65535 - fo N) + (65535 - o) + m) = fo (N - o + m) := by
  unfold fo; split <;> split <;> split <;> omega
theorem swap_plain (l : List Int) (i : Nat) (x y m : Int) (hr : ∀ x ∈ l, 0 ≤ x ∧ x ≤ 255) (hi : i % 2 = 0) (h1 : l[i]? = some x) (h2 : l[i + 1]? = some y) (hm : 0 ≤ m) (hm1 : m ≤ 65535)
    (hs : someB (put2 l i (m / 256) (m % 256)) = true) : W16 (S16 l) (x * 256 + y) m = S16 (put2 l i (m / 256) (m % 256)) := by
  have hw := wsum_put2 l i x y (m / 256) (m % 256) hi h1 h2
  have e : 256 * (m / 256) + m % 256 = m := by omega
  rw [e] at hw
  have hpos := someB_pos _ (put2_rng hr (by omega) (by omega)) hs
  have hx := hr x (List.mem_of_getElem? h1)
  have hy := hr y (List.mem_of_getElem? h2)
  have hle : 256 * x + y ≤ wsum l := by
    have hsp := put2_split l i x y h1 h2
    have hl : i < l.length := (List.getElem?_eq_some_iff.1 h1).1
    have hA := bsum_rng true (l.take i) (fun z hz => hr z (List.mem_of_mem_take hz))
    have hB := bsum_rng true (l.drop (i + 2)) (fun z hz => hr z (List.mem_of_mem_drop hz))
    rw [hsp, wsum_append _ _ (by rw [List.length_take]; omega), wsum_append _ _ (by simp)]
    simp only [wsum] at *
    simp only [bsum] at *
    omega
  unfold W16 S16
  rw [hw, show x * 256 + y = 256 * x + y from by omega]
  have := swap_law (wsum l) (256 * x + y) m hle (by omega) (by omega) hm hm1 (by omega)
  omega
end Go.Proofs.Ytimdnfakgobadaa
