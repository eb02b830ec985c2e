/- Facts about a plan's nets by their index; waywardenlaw5.planned; pref.In and pref.Less in drawn regions. -/
import Derived.Test.YtplojnlmofbneaaDoorPlanP
import Derived.Lib.QuietBelow
namespace Go.Proofs.YtplojnlmofbneaaDoor
open Go.ChangeShapes Go.WideShapes Go.ChangeAt Go.RowKit
set_option linter.unusedVariables false
set_option linter.unusedSimpArgs false
theorem plan_of {a : Int} {n : Nat} {L W : List Int} (ha : is32 a) (hf : fitF (a, (n : Int)) L = 0) (hW : W.Perm (idsN L.length) ∧ Srtd (keyL L) W) :
    PlanOk a n L W (putAll L W a (List.replicate L.length (0, 0))) := by
  obtain ⟨h0, hv⟩ := fit_room hf
  obtain ⟨h1, h2, h3⟩ := room_parts h0
  refine ⟨hW.1, hW.2, h1, ha, h3, ?_, rfl⟩
  unfold roomV at hv
  simp only [Int.toNat_natCast] at hv
  omega
theorem net_top {a : Int} {n : Nat} (ha : is32 a) (h : netF (a, (n : Int)) = 0) : a + lowI n ≤ 4294967296 := by
  have hn : n ≤ 32 := by have := (netF_zero.1 h).2.1; omega
  have h2 := (netF_zero.1 h).2.2
  rw [Int.toNat_natCast] at h2
  obtain ⟨q, hq⟩ := Int.dvd_of_emod_eq_zero (fl_mod h2)
  have e : (4294967296 : Int) = lowI n * 2 ^ n := by unfold lowI; rw [← Int.pow_add, show 32 - n + n = 32 from by omega]; decide
  have hp := lowI_pos n
  have h1 := ha.2
  have hq2 : q < 2 ^ n := by
    have : lowI n * q < lowI n * 2 ^ n := by rw [← e, ← hq]; omega
    exact Int.lt_of_mul_lt_mul_left this (by omega)
  have : lowI n * (q + 1) ≤ lowI n * 2 ^ n := Int.mul_le_mul_of_nonneg_left (by omega) (by omega)
  rw [← e, Int.mul_add, Int.mul_one, ← hq] at this
  exact this
section
variable {a : Int} {n : Nat} {L W : List Int} {ns : List Nt} (h : PlanOk a n L W ns)
include h
theorem PlanOk.len : ns.length = L.length := by rw [h.ns, putAll_length]; simp
theorem PlanOk.entry {i : Nat} (hi : i < L.length) : ∃ (p : Int) (k : Nat), ns[i]? = some (p, (k : Int)) ∧ L[i]? = some (k : Int) ∧ is32 p ∧ inB (p, (k : Int)) (a, (n : Int)) = true ∧ k ≤ 32 ∧ netF (p, (k : Int)) = 0 := by
  obtain ⟨V, V', e, hn⟩ := h.at_ hi
  obtain ⟨k, hk, ek, hL⟩ := h.key hi
  obtain ⟨g1, g2, g3, g4, g5, _, _⟩ := h.good e hi ek
  refine ⟨_, k, by rw [hn, ek], hL, g4, inB_iff.2 ⟨g3, by simp only; omega, h.net, ?_⟩, g2, g3⟩
  have hp := lowI_pos k
  have h1 := sumK_nonneg L V
  exact (hasB_iff.1 ((has_span h.net (x := a + sumK L V)).2 ⟨by omega, by omega⟩)).2
/-- two nets of a plan: which comes first, and that neither has an address of the other -/
theorem PlanOk.two {i j : Nat} {p q k l : Int} (hij : i ≠ j) (hx : ns[i]? = some (p, k)) (hy : ns[j]? = some (q, l)) :
    inB (p, k) (q, l) = false ∧ (∀ z, hasB (p, k) z = true → hasB (q, l) z = false) ∧ ((k < l ∨ k = l ∧ i < j) → p < q) := by
  have hi : i < L.length := by rw [← h.len]; exact (List.getElem?_eq_some_iff.1 hx).1
  have hj : j < L.length := by rw [← h.len]; exact (List.getElem?_eq_some_iff.1 hy).1
  obtain ⟨V, V', e, hn⟩ := h.at_ hi
  obtain ⟨U, U', e', hn'⟩ := h.at_ hj
  rw [hx] at hn; rw [hy] at hn'
  simp only [Option.some.injEq, Prod.mk.injEq] at hn hn'
  obtain ⟨k', hk, ek, _⟩ := h.key hi
  obtain ⟨l', hl, el, _⟩ := h.key hj
  obtain ⟨_, _, f3, _⟩ := h.good e hi ek
  obtain ⟨_, _, f3', _⟩ := h.good e' hj el
  rw [ek] at hn; rw [el] at hn'
  obtain ⟨rfl, rfl⟩ := hn
  obtain ⟨rfl, rfl⟩ := hn'
  have hap := h.apart e e' hij
  rw [ek, el, Int.toNat_natCast, Int.toNat_natCast] at hap
  unfold Rl at hap
  rw [ek, el] at hap
  have p1 := lowI_pos k'
  have p2 := lowI_pos l'
  have hno : ∀ z, hasB (a + sumK L V, (k' : Int)) z = true → hasB (a + sumK L U, (l' : Int)) z = false := by
    intro z h1
    cases hh : hasB (a + sumK L U, (l' : Int)) z with
    | false => rfl
    | true =>
      have h1 := (has_span f3).1 h1
      have h2 := (has_span f3').1 hh
      omega
  refine ⟨?_, hno, fun hk => by omega⟩
  cases hh : inB (a + sumK L V, (k' : Int)) (a + sumK L U, (l' : Int)) with
  | false => rfl
  | true =>
    have h3 := nests_four hh ((has_span f3).2 ⟨Int.le_refl _, by omega⟩)
    rw [hno _ ((has_span f3).2 ⟨Int.le_refl _, by omega⟩)] at h3
    cases h3
end
theorem in_c {w : World} {a n b m : Int} {r : Bool} (ha : is32 a) (hb : is32 b) (hr : inB (a, n) (b, m) = r) (d : Nat) (os : Array Obj) :
    Calls Tryd.prog 34 #[.agg #[.int .u32 a, .int .i64 n], .agg #[.int .u32 b, .int .i64 m]] (Sort.grow (redrawn w d) os) fun e w'' => e = .returned (.bool r) ∧ ∃ p : Regrown, w'' = Sort.grow (redrawn w p.d) p.os :=
  Calls.regrown_of ((In_any a n b m _ ha hb).mono fun e w' ⟨he, hb⟩ => ⟨by rw [he, hr], hb⟩)
theorem less_c {w : World} {a n b m : Int} {r : Bool} (hr : lessB (a, n) (b, m) = r) (d : Nat) (os : Array Obj) :
    Calls Tryd.prog 57 #[.agg #[.int .u32 a, .int .i64 n], .agg #[.int .u32 b, .int .i64 m]] (Sort.grow (redrawn w d) os) fun e w'' => e = .returned (.bool r) ∧ ∃ p : Regrown, w'' = Sort.grow (redrawn w p.d) p.os :=
  Calls.regrown_of ((Less_any a n b m _).mono fun e w' ⟨he, hb⟩ => ⟨by rw [he, hr], hb⟩)
theorem is32_ten : is32 167772160 := ⟨by decide, by decide⟩
theorem fit_nine : fitF (167772160, ((8 : Nat) : Int)) [9] = 0 := by decide
theorem perm_one {W : List Int} (h : W.Perm (idsN [(9 : Int)].length)) : W = [0] := List.perm_singleton.1 h
theorem put_nine : putAll [9] [0] 167772160 (List.replicate 1 (0, 0)) = [(167772160, 9)] := by decide
theorem Fit_nine (w : World) (t : TypeId) : Calls Tryd.prog 29 #[.agg #[.int .u32 167772160, .int .i64 8], .slice (some ⟨w.heap.size, 0, none⟩) 1 1] (w.alloc (.cells #[.int .i64 9] t)) (FitPost (w.alloc (.cells #[.int .i64 9] t)) 167772160 8 [9]) :=
  Fit_yes is32_ten (new_ints (us := #[.int .i64 9]) rfl rfl rfl (by decide) (by decide)) fit_nine (by decide)
set_option maxHeartbeats 1000000 in
theorem planned_any (w : World) : Calls Tryd.prog 26 #[] w fun e w' => e = .returned (.bool true) ∧ Below w.heap.size w w' := by
  go_enter Tryd.func26, Tryd.ntmps26
  go_wp2_with fail
  go_at_call 29
  (with_reducible refine (Fit_nine w _).mono ?_)
  rintro e w1 ⟨W, g, hW, rfl, hout, hb, hg⟩
  obtain rfl := perm_one hW.1
  rw [show [(9 : Int)].length = 1 from rfl, put_nine] at hout
  obtain ⟨o0, o1, _, _⟩ := hout.cells (i := 0) rfl
  have HB := Lib.hid ((below_1 w _).trans (hb.mono (by simp)))
  clear hb hW
  go_wp2
  go_ret
  exact ⟨rfl, HB.out⟩
end Go.Proofs.YtplojnlmofbneaaDoor
