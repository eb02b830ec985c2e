/- The table of a plan, in plain lists. -/
import Derived.Test.YtplojnlmofbneaaPlanB
import Derived.Test.YtplojnlmofbneaaTrieL
namespace Go.Proofs.Ytplojnlmofbneaa
open Go.ChangeShapes Go.WideShapes Go.ChangeAt Go.RowKit
set_option linter.unusedVariables false
structure PT (ns : List Nt) (k : Nat) (M : List (Nt × Int)) : Prop where
  hit : ∀ (i : Nat) (y : Nt), i < k → ns[i]? = some y → look M y = some (i : Int)
  all : ∀ (y : Nt) (u : Int), look M y = some u → ∃ i : Nat, i < k ∧ ns[i]? = some y ∧ u = (i : Int)
  len : M.length ≤ k
theorem PT.nil (ns : List Nt) : PT ns 0 [] := ⟨fun i y h => absurd h (by omega), fun y u h => by simp [look] at h, Nat.le_refl _⟩
section
variable {a : Int} {n : Nat} {L W : List Int} {ns : List Nt} (h : PlanOk a n L W ns)
include h
theorem PlanOk.netOf {i : Nat} {y : Nt} (hy : ns[i]? = some y) : netF y = 0 ∧ is32 y.1 ∧ i < L.length := by
  have hi : i < L.length := by rw [← h.len]; exact (List.getElem?_eq_some_iff.1 hy).1
  obtain ⟨p, k, e, _, h1, _, _, h2⟩ := h.entry hi
  rw [hy] at e
  injection e with e
  subst e
  exact ⟨h2, h1, hi⟩
theorem PlanOk.inj {i j : Nat} {y : Nt} (hx : ns[i]? = some y) (hy : ns[j]? = some y) : i = j := by
  by_cases e : i = j
  · exact e
  · obtain ⟨p, k⟩ := y
    have h1 := (h.two e hx hy).1
    have h2 := (h.netOf hx).1
    have h3 : inB (p, k) (p, k) = true := inB_iff.2 ⟨h2, Int.le_refl _, h2, (netF_zero.1 h2).2.2⟩
    rw [h1] at h3; cases h3
theorem PT.put {k : Nat} {M : List (Nt × Int)} (hp : PT ns k M) {y : Nt} (hk : ns[k]? = some y) (hm : L.length ≤ 64) : putE M y = 0 ∧ PT ns (k + 1) (putT M y (k : Int)) := by
  obtain ⟨h1, h2, h3⟩ := h.netOf hk
  have hl := hp.len
  have hE : putE M y = 0 := by
    unfold putE
    rw [if_pos h1, if_neg (fun hh => by omega)]
  refine ⟨hE, ?_⟩
  unfold putT
  rw [if_pos hE]
  refine ⟨fun i z hi hz => ?_, fun z u hu => ?_, ?_⟩
  · rw [look_put]
    by_cases e : z = y
    · subst e
      rw [if_pos rfl, h.inj hz hk]
    · rw [if_neg e]
      refine hp.hit i z ?_ hz
      rcases Nat.lt_or_ge i k with h4 | h4
      · exact h4
      · have : i = k := by omega
        subst this
        rw [hk] at hz; injection hz with hz; exact absurd hz.symm e
  · rw [look_put] at hu
    by_cases e : z = y
    · subst e
      rw [if_pos rfl] at hu
      injection hu with hu
      exact ⟨k, by omega, hk, hu.symm⟩
    · rw [if_neg e] at hu
      obtain ⟨i, h4, h5, h6⟩ := hp.all z u hu
      exact ⟨i, by omega, h5, h6⟩
  · unfold putM delM
    have := List.length_filter_le (fun e : Nt × Int => !(e.1 == y)) M
    simp only [List.length_append, List.length_singleton]
    omega
theorem PT.find_some {M : List (Nt × Int)} (hp : PT ns L.length M) {i : Nat} {p k z : Int} (hi : ns[i]? = some (p, k)) (hz : hasB (p, k) z = true) :
    ∃ j : Nat, k = (j : Int) ∧ j ≤ 32 ∧ fl (lowI j) z = p ∧ fnd M z 33 = some (j, (i : Int)) := by
  obtain ⟨j, hj, e⟩ := has_trim hz
  have e1 : p = fl (lowI j) z := by have := congrArg Prod.fst e; simpa [trimN] using this
  have e2 : k = (j : Int) := by have := congrArg Prod.snd e; simpa [trimN] using this
  have hl := hp.hit i _ (h.netOf hi).2.2 hi
  refine ⟨j, e2, hj, e1.symm, ?_⟩
  cases hf : fnd M z 33 with
  | none =>
    have := fnd_none hf j (by omega)
    rw [← e, hl] at this; cases this
  | some r =>
    obtain ⟨j', u⟩ := r
    obtain ⟨f1, f2, _⟩ := fnd_some hf
    obtain ⟨i', g1, g2, g3⟩ := hp.all _ _ f2
    have hz' := trim_has z (j := j') (by omega)
    have hii : i' = i := by
      by_cases hne : i' = i
      · exact hne
      · have := (h.two (p := (trimN (z, 32) j').1) (k := (trimN (z, 32) j').2) hne g2 hi).2.1 z hz'
        rw [hz] at this; cases this
    subst hii
    rw [hi] at g2
    injection g2 with g2
    have e3 : k = (j' : Int) := by have := congrArg Prod.snd g2; simpa [trimN] using this
    have : j' = j := by omega
    subst this
    rw [g3]
omit h in
theorem PT.find_none {M : List (Nt × Int)} (hp : PT ns L.length M) {z : Int} (hz : ∀ (i : Nat) (y : Nt), ns[i]? = some y → hasB y z = false) : fnd M z 33 = none := by
  cases hf : fnd M z 33 with
  | none => rfl
  | some r =>
    obtain ⟨j, u⟩ := r
    obtain ⟨f1, f2, _⟩ := fnd_some hf
    obtain ⟨i, _, g2, _⟩ := hp.all _ _ f2
    have := hz i _ g2
    rw [trim_has z (by omega)] at this; cases this
end
theorem put_zero : putE [] (0, 0) = 0 ∧ putT [] (0, 0) 3 = [((0, 0), 3)] := by decide
theorem drop_zero : getE [((0, 0), 3)] (0, 0) = 0 ∧ dropT [((0, 0), 3)] (0, 0) = [] := by decide
end Go.Proofs.Ytplojnlmofbneaa
