/- Messages in plain lists: the bytes of entries, the entries of bytes, and what is short; no program in sight. -/
import Derived.Test.YtimdnfakgobadaaDoorWireA
namespace Go.Proofs.YtimdnfakgobadaaDoor
open Go.ChangeShapes Go.WideShapes Go.ChangeAt Go.RowKit
set_option linter.unusedVariables false
set_option linter.unusedSimpArgs false

def byteL (l : List Int) : Prop := ∀ x ∈ l, 0 ≤ x ∧ x ≤ 255
def be4 (n : Int) : List Int := [n / 16777216 % 256, n / 65536 % 256, n / 256 % 256, n % 256]
def num4 (a b c d : Int) : Int := ((a * 256 + b) * 256 + c) * 256 + d
def g (p : List Int) (i : Nat) : Int := p.getD i 0
def n4 (p : List Int) (i : Nat) : Int := num4 (g p i) (g p (i + 1)) (g p (i + 2)) (g p (i + 3))
/-- the bytes of an entry -/
def entB (e : Entry) : List Int := [0, 2, e.2.1 / 256 % 256, e.2.1 % 256] ++ be4 e.1.1 ++ be4 (maskV e.1.2.toNat) ++ be4 e.2.2.1 ++ be4 e.2.2.2
/-- the entry of bytes, and is it one? -/
def lenOf (m : Int) : Int := if maskV (maskL m) = m then maskL m else 0
def entOf (p : List Int) : Entry := ((n4 p 4, lenOf (n4 p 8)), g p 2 * 256 + g p 3, n4 p 12, n4 p 16)
def entOk (p : List Int) : Prop := maskV (maskL (n4 p 8)) = n4 p 8 ∧ g p 0 * 256 + g p 1 = 2 ∧ entF (entOf p) = 0
instance (p : List Int) : Decidable (entOk p) := by unfold entOk; infer_instance
def dflt : List Int := [0, 2, 0, 0, 0, 0, 0, 0, 255, 255, 255, 255, 0, 0, 0, 0, 0, 0, 0, 1]
def dflt0 : List Int := [0, 2, 0, 0, 0, 0, 0, 0, 0, 0, 0, 0, 0, 0, 0, 0, 0, 0, 0, 1]
def filled (p : List Int) : List Int := p ++ (if 8 < p.length ∧ p.length < 12 ∧ g p (p.length - 1) ≠ 255 then dflt0 else dflt).drop p.length

/-- what is wrong with bytes as an entry, said of the bytes -/
def okB (a0 a1 a4 a5 a6 a7 a8 a9 a10 a11 a16 a17 a18 a19 : Int) : Prop :=
  ∃ k : Nat, k ≤ 32 ∧ maskV k = num4 a8 a9 a10 a11 ∧ a0 * 256 + a1 = 2 ∧ num4 a4 a5 a6 a7 % lowI k = 0 ∧ 1 ≤ num4 a16 a17 a18 a19 ∧ num4 a16 a17 a18 a19 ≤ 16

theorem len20 {p : List Int} (h : p.length = 20) : ∃ a0 a1 a2 a3 a4 a5 a6 a7 a8 a9 a10 a11 a12 a13 a14 a15 a16 a17 a18 a19, p = [a0, a1, a2, a3, a4, a5, a6, a7, a8, a9, a10, a11, a12, a13, a14, a15, a16, a17, a18, a19] := by
  match p, h with
  | [a0, a1, a2, a3, a4, a5, a6, a7, a8, a9, a10, a11, a12, a13, a14, a15, a16, a17, a18, a19], _ => exact ⟨_, _, _, _, _, _, _, _, _, _, _, _, _, _, _, _, _, _, _, _, rfl⟩
theorem entF_zero {a l t hp m : Int} : entF ((a, l), t, hp, m) = 0 ↔ (0 ≤ l ∧ l ≤ 32 ∧ a % lowI l.toNat = 0) ∧ 0 ≤ t ∧ t ≤ 65535 ∧ 1 ≤ m ∧ m ≤ 16 := by
  unfold entF netF
  simp only
  by_cases h1 : l < 0 ∨ 32 < l
  · rw [if_pos h1]; simp; omega
  · rw [if_neg h1]
    by_cases h2 : a % lowI l.toNat = 0
    · rw [if_pos h2]
      simp only [if_true]
      by_cases h3 : t < 0 ∨ 65535 < t ∨ m < 1 ∨ 16 < m
      · rw [if_pos h3]; simp; omega
      · rw [if_neg h3]; simp [h2]; omega
    · rw [if_neg h2]; simp [h2]
theorem entOk_iff (a0 a1 a2 a3 a4 a5 a6 a7 a8 a9 a10 a11 a12 a13 a14 a15 a16 a17 a18 a19 : Int) (h2 : 0 ≤ a2 ∧ a2 ≤ 255) (h3 : 0 ≤ a3 ∧ a3 ≤ 255) :
    entOk [a0, a1, a2, a3, a4, a5, a6, a7, a8, a9, a10, a11, a12, a13, a14, a15, a16, a17, a18, a19] ↔ okB a0 a1 a4 a5 a6 a7 a8 a9 a10 a11 a16 a17 a18 a19 := by
  unfold entOk okB entOf lenOf n4 g
  simp only [List.getD_cons_zero, List.getD_cons_succ]
  constructor
  · rintro ⟨h1, h4, h5⟩
    rw [if_pos h1] at h5
    obtain ⟨⟨_, h7, h8⟩, _, _, h9, h10⟩ := entF_zero.1 h5
    exact ⟨maskL (num4 a8 a9 a10 a11), maskL_le _, h1, h4, by simpa using h8, h9, h10⟩
  · rintro ⟨k, hk, h1, h4, h5, h6, h7⟩
    have hm : maskL (num4 a8 a9 a10 a11) = k := by rw [← h1]; exact maskL_of ⟨k, by omega⟩
    rw [hm]
    refine ⟨h1, h4, ?_⟩
    rw [if_pos h1]
    exact entF_zero.2 ⟨⟨by omega, by omega, by simpa using h5⟩, by omega, by omega, h6, h7⟩

theorem be4_num (a b c d : Int) (ha : 0 ≤ a ∧ a ≤ 255) (hb : 0 ≤ b ∧ b ≤ 255) (hc : 0 ≤ c ∧ c ≤ 255) (hd : 0 ≤ d ∧ d ≤ 255) : be4 (num4 a b c d) = [a, b, c, d] := by
  unfold be4 num4
  have e1 : (((a * 256 + b) * 256 + c) * 256 + d) / 16777216 % 256 = a := by omega
  have e2 : (((a * 256 + b) * 256 + c) * 256 + d) / 65536 % 256 = b := by omega
  have e3 : (((a * 256 + b) * 256 + c) * 256 + d) / 256 % 256 = c := by omega
  have e4 : (((a * 256 + b) * 256 + c) * 256 + d) % 256 = d := by omega
  rw [e1, e2, e3, e4]
theorem num_be4 (n : Int) (h0 : 0 ≤ n) (h1 : n ≤ 4294967295) : num4 (n / 16777216 % 256) (n / 65536 % 256) (n / 256 % 256) (n % 256) = n := by
  unfold num4; omega
theorem num4_rng {a b c d : Int} (ha : 0 ≤ a ∧ a ≤ 255) (hb : 0 ≤ b ∧ b ≤ 255) (hc : 0 ≤ c ∧ c ≤ 255) (hd : 0 ≤ d ∧ d ≤ 255) : 0 ≤ num4 a b c d ∧ num4 a b c d ≤ 4294967295 := by
  unfold num4; omega
theorem byte_be4 (n : Int) : byteL (be4 n) := by
  intro x hx
  simp only [be4, List.mem_cons, List.not_mem_nil, or_false] at hx
  omega

/-- an entry that has its ranges -/
def entR (e : Entry) : Prop := (0 ≤ e.1.1 ∧ e.1.1 ≤ 4294967295) ∧ 0 ≤ e.2.2.1 ∧ e.2.2.1 ≤ 4294967295
theorem entB_length (e : Entry) : (entB e).length = 20 := by simp [entB, be4]
theorem byte_entB (e : Entry) (h : 0 ≤ e.2.1) : byteL (entB e) := by
  unfold entB
  intro x hx
  simp only [List.mem_append, List.mem_cons, List.not_mem_nil, or_false] at hx
  rcases hx with (((hx | hx) | hx) | hx) | hx
  · omega
  · exact byte_be4 _ x hx
  · exact byte_be4 _ x hx
  · exact byte_be4 _ x hx
  · exact byte_be4 _ x hx
theorem ent_back (e : Entry) (hr : entR e) (h : entF e = 0) : entOk (entB e) ∧ entOf (entB e) = e := by
  obtain ⟨⟨a, l⟩, t, hp, m⟩ := e
  obtain ⟨⟨a0, a1⟩, p0, p1⟩ := hr
  simp only at a0 a1 p0 p1
  obtain ⟨⟨l0, l1, h2⟩, t0, t1, m0, m1⟩ := entF_zero.1 h
  obtain ⟨k, rfl⟩ := Int.eq_ofNat_of_zero_le l0
  have hmk : maskL (maskV k) = k := maskL_of ⟨k, by omega⟩
  have hv := maskV_rng k
  have e1 : entOf (entB ((a, (k : Int)), t, hp, m)) = ((a, (k : Int)), t, hp, m) := by
    unfold entOf entB lenOf n4 g be4
    simp only [List.cons_append, List.nil_append, List.append_assoc, List.getD_cons_zero, List.getD_cons_succ, Int.toNat_natCast]
    rw [num_be4 _ a0 a1, num_be4 _ hv.1 hv.2, num_be4 _ p0 p1, num_be4 _ (by omega) (by omega), hmk, if_pos rfl]
    have : t / 256 % 256 * 256 + t % 256 = t := by omega
    rw [this]
  refine ⟨⟨?_, ?_, by rw [e1]; exact h⟩, e1⟩
  · unfold entB n4 g be4
    simp only [List.cons_append, List.nil_append, List.append_assoc, List.getD_cons_zero, List.getD_cons_succ, Int.toNat_natCast]
    rw [num_be4 _ hv.1 hv.2, hmk]
  · unfold entB g; simp
theorem ent_forth {p : List Int} (hl : p.length = 20) (hb : byteL p) (h : entOk p) : entB (entOf p) = p ∧ entF (entOf p) = 0 ∧ entR (entOf p) := by
  obtain ⟨a0, a1, a2, a3, a4, a5, a6, a7, a8, a9, a10, a11, a12, a13, a14, a15, a16, a17, a18, a19, rfl⟩ := len20 hl
  simp only [byteL, List.mem_cons, List.not_mem_nil, or_false, forall_eq_or_imp, forall_eq] at hb
  obtain ⟨b0, b1, b2, b3, b4, b5, b6, b7, b8, b9, b10, b11, b12, b13, b14, b15, b16, b17, b18, b19⟩ := hb
  obtain ⟨h1, h2, h3⟩ := h
  refine ⟨?_, h3, ?_⟩
  · unfold entOf entB lenOf
    rw [if_pos h1]
    simp only [Int.toNat_natCast]
    rw [h1]
    simp only [n4, g, List.getD_cons_zero, List.getD_cons_succ] at h2 ⊢
    rw [be4_num _ _ _ _ b4 b5 b6 b7, be4_num _ _ _ _ b8 b9 b10 b11, be4_num _ _ _ _ b12 b13 b14 b15, be4_num _ _ _ _ b16 b17 b18 b19]
    have e0 : a0 = 0 := by omega
    have e1 : a1 = 2 := by omega
    have e2 : (a2 * 256 + a3) / 256 % 256 = a2 := by omega
    have e3 : (a2 * 256 + a3) % 256 = a3 := by omega
    rw [e0, e1, e2, e3]
    rfl
  · unfold entR entOf n4 g
    simp only [List.getD_cons_zero, List.getD_cons_succ]
    exact ⟨num4_rng b4 b5 b6 b7, num4_rng b12 b13 b14 b15⟩

/-! ### what is filled -/
def mb (k i : Nat) : Int := maskV k / (256 ^ (3 - i)) % 256
theorem mask_cut_fin : ∀ k : Fin 33, 
    (mb k.val 0 ≠ 255 → maskV k.val = num4 (mb k.val 0) 0 0 0) ∧ (mb k.val 1 ≠ 255 → maskV k.val = num4 (mb k.val 0) (mb k.val 1) 0 0) ∧ (mb k.val 2 ≠ 255 → maskV k.val = num4 (mb k.val 0) (mb k.val 1) (mb k.val 2) 0) ∧
    (mb k.val 1 = 255 → mb k.val 0 = 255) ∧ (mb k.val 2 = 255 → mb k.val 1 = 255) := by decide +kernel
theorem mask_32 : maskV 32 = num4 255 255 255 255 := by decide
theorem low_32 (a : Int) : a % lowI 32 = 0 := by unfold lowI; simp
theorem filled_20 {p : List Int} (h : p.length = 20) : filled p = p := by
  unfold filled
  rw [h, if_neg (by omega)]
  simp [dflt]
theorem okB_32 {a0 a1 a4 a5 a6 a7 a16 a17 a18 a19 : Int} (h : a0 * 256 + a1 = 2) (m0 : 1 ≤ num4 a16 a17 a18 a19) (m1 : num4 a16 a17 a18 a19 ≤ 16) : okB a0 a1 a4 a5 a6 a7 255 255 255 255 a16 a17 a18 a19 :=
  ⟨32, by omega, mask_32, h, low_32 _, m0, m1⟩
theorem okB_k {k : Nat} {a0 a1 a4 a5 a6 a7 a8 a9 a10 a11 a16 a17 a18 a19 b8 b9 b10 b11 b16 b17 b18 b19 : Int} (h : okB a0 a1 a4 a5 a6 a7 a8 a9 a10 a11 a16 a17 a18 a19)
    (e : num4 a8 a9 a10 a11 = num4 b8 b9 b10 b11) (m0 : 1 ≤ num4 b16 b17 b18 b19) (m1 : num4 b16 b17 b18 b19 ≤ 16) : okB a0 a1 a4 a5 a6 a7 b8 b9 b10 b11 b16 b17 b18 b19 := by
  obtain ⟨k, hk, h1, h2, h3, _, _⟩ := h
  exact ⟨k, hk, by rw [h1, e], h2, h3, m0, m1⟩

set_option maxHeartbeats 1000000 in
/-- the beginning of an entry's bytes, filled, is an entry's bytes -/
theorem filled_ok {q : List Int} (hl : q.length = 20) (hb : byteL q) (h : entOk q) (j : Nat) (hj : j ≤ 20) : entOk (filled (q.take j)) := by
  obtain ⟨a0, a1, a2, a3, a4, a5, a6, a7, a8, a9, a10, a11, a12, a13, a14, a15, a16, a17, a18, a19, rfl⟩ := len20 hl
  simp only [byteL, List.mem_cons, List.not_mem_nil, or_false, forall_eq_or_imp, forall_eq] at hb
  obtain ⟨b0, b1, b2, b3, b4, b5, b6, b7, b8, b9, b10, b11, b12, b13, b14, b15, b16, b17, b18, b19⟩ := hb
  rw [entOk_iff _ _ _ _ _ _ _ _ _ _ _ _ _ _ _ _ _ _ _ _ b2 b3] at h
  have h' := h
  obtain ⟨k, hk, hm, h02, hlow, hm1, hm2⟩ := h'
  have e0 : a0 = 0 := by omega
  have e1 : a1 = 2 := by omega
  subst e0; subst e1
  have hd1 : (1 : Int) ≤ num4 0 0 0 1 := by decide
  have hd2 : num4 0 0 0 1 ≤ (16 : Int) := by decide
  obtain ⟨c0, c1, c2, c3, c4⟩ := mask_cut_fin ⟨k, by omega⟩
  have i0 : mb k 0 = a8 := by unfold mb; rw [hm]; unfold num4; simp; omega
  have i1 : mb k 1 = a9 := by unfold mb; rw [hm]; unfold num4; simp; omega
  have i2 : mb k 2 = a10 := by unfold mb; rw [hm]; unfold num4; simp; omega
  simp only [i0, i1, i2] at c0 c1 c2 c3 c4
  have z : (0 : Int) ≤ 0 ∧ (0 : Int) ≤ 255 := by omega
  have e16 : a16 = 0 := by unfold num4 at hm1 hm2; omega
  have e17 : a17 = 0 := by unfold num4 at hm1 hm2; omega
  have e18 : a18 = 0 := by unfold num4 at hm1 hm2; omega
  subst e16; subst e17; subst e18
  have hj' : j = 0 ∨ j = 1 ∨ j = 2 ∨ j = 3 ∨ j = 4 ∨ j = 5 ∨ j = 6 ∨ j = 7 ∨ j = 8 ∨ j = 9 ∨ j = 10 ∨ j = 11 ∨ j = 12 ∨ j = 13 ∨ j = 14 ∨ j = 15 ∨ j = 16 ∨ j = 17 ∨ j = 18 ∨ j = 19 ∨ j = 20 := by omega
  rcases hj' with rfl | rfl | rfl | rfl | rfl | rfl | rfl | rfl | rfl | rfl | rfl | rfl | rfl | rfl | rfl | rfl | rfl | rfl | rfl | rfl | rfl
  · exact (entOk_iff 0 2 0 0 0 0 0 0 255 255 255 255 0 0 0 0 0 0 0 1 z z).2 (okB_32 h02 hd1 hd2)
  · exact (entOk_iff 0 2 0 0 0 0 0 0 255 255 255 255 0 0 0 0 0 0 0 1 z z).2 (okB_32 h02 hd1 hd2)
  · exact (entOk_iff 0 2 0 0 0 0 0 0 255 255 255 255 0 0 0 0 0 0 0 1 z z).2 (okB_32 h02 hd1 hd2)
  · exact (entOk_iff 0 2 a2 0 0 0 0 0 255 255 255 255 0 0 0 0 0 0 0 1 b2 z).2 (okB_32 h02 hd1 hd2)
  · exact (entOk_iff 0 2 a2 a3 0 0 0 0 255 255 255 255 0 0 0 0 0 0 0 1 b2 b3).2 (okB_32 h02 hd1 hd2)
  · exact (entOk_iff 0 2 a2 a3 a4 0 0 0 255 255 255 255 0 0 0 0 0 0 0 1 b2 b3).2 (okB_32 h02 hd1 hd2)
  · exact (entOk_iff 0 2 a2 a3 a4 a5 0 0 255 255 255 255 0 0 0 0 0 0 0 1 b2 b3).2 (okB_32 h02 hd1 hd2)
  · exact (entOk_iff 0 2 a2 a3 a4 a5 a6 0 255 255 255 255 0 0 0 0 0 0 0 1 b2 b3).2 (okB_32 h02 hd1 hd2)
  · exact (entOk_iff 0 2 a2 a3 a4 a5 a6 a7 255 255 255 255 0 0 0 0 0 0 0 1 b2 b3).2 (okB_32 h02 hd1 hd2)
  · by_cases hc : a8 = 255
    · subst hc
      exact (entOk_iff 0 2 a2 a3 a4 a5 a6 a7 255 255 255 255 0 0 0 0 0 0 0 1 b2 b3).2 (okB_32 h02 hd1 hd2)
    · have e : filled ([0, 2, a2, a3, a4, a5, a6, a7, a8, a9, a10, a11, a12, a13, a14, a15, 0, 0, 0, a19].take 9) = [0, 2, a2, a3, a4, a5, a6, a7, a8, 0, 0, 0, 0, 0, 0, 0, 0, 0, 0, 1] := by
        unfold filled; rw [if_pos ⟨by simp, by simp, by simpa [g] using hc⟩]; rfl
      rw [e, entOk_iff _ _ _ _ _ _ _ _ _ _ _ _ _ _ _ _ _ _ _ _ b2 b3]
      exact okB_k (k := k) h (by rw [← hm]; exact c0 hc) hd1 hd2
  · by_cases hc : a9 = 255
    · have := c3 hc
      subst this; subst hc
      exact (entOk_iff 0 2 a2 a3 a4 a5 a6 a7 255 255 255 255 0 0 0 0 0 0 0 1 b2 b3).2 (okB_32 h02 hd1 hd2)
    · have e : filled ([0, 2, a2, a3, a4, a5, a6, a7, a8, a9, a10, a11, a12, a13, a14, a15, 0, 0, 0, a19].take 10) = [0, 2, a2, a3, a4, a5, a6, a7, a8, a9, 0, 0, 0, 0, 0, 0, 0, 0, 0, 1] := by
        unfold filled; rw [if_pos ⟨by simp, by simp, by simpa [g] using hc⟩]; rfl
      rw [e, entOk_iff _ _ _ _ _ _ _ _ _ _ _ _ _ _ _ _ _ _ _ _ b2 b3]
      exact okB_k (k := k) h (by rw [← hm]; exact c1 hc) hd1 hd2
  · by_cases hc : a10 = 255
    · have h9 := c4 hc
      have h8 := c3 h9
      subst h8; subst h9; subst hc
      exact (entOk_iff 0 2 a2 a3 a4 a5 a6 a7 255 255 255 255 0 0 0 0 0 0 0 1 b2 b3).2 (okB_32 h02 hd1 hd2)
    · have e : filled ([0, 2, a2, a3, a4, a5, a6, a7, a8, a9, a10, a11, a12, a13, a14, a15, 0, 0, 0, a19].take 11) = [0, 2, a2, a3, a4, a5, a6, a7, a8, a9, a10, 0, 0, 0, 0, 0, 0, 0, 0, 1] := by
        unfold filled; rw [if_pos ⟨by simp, by simp, by simpa [g] using hc⟩]; rfl
      rw [e, entOk_iff _ _ _ _ _ _ _ _ _ _ _ _ _ _ _ _ _ _ _ _ b2 b3]
      exact okB_k (k := k) h (by rw [← hm]; exact c2 hc) hd1 hd2
  · exact (entOk_iff 0 2 a2 a3 a4 a5 a6 a7 a8 a9 a10 a11 0 0 0 0 0 0 0 1 b2 b3).2 (okB_k (k := k) h rfl hd1 hd2)
  · exact (entOk_iff 0 2 a2 a3 a4 a5 a6 a7 a8 a9 a10 a11 a12 0 0 0 0 0 0 1 b2 b3).2 (okB_k (k := k) h rfl hd1 hd2)
  · exact (entOk_iff 0 2 a2 a3 a4 a5 a6 a7 a8 a9 a10 a11 a12 a13 0 0 0 0 0 1 b2 b3).2 (okB_k (k := k) h rfl hd1 hd2)
  · exact (entOk_iff 0 2 a2 a3 a4 a5 a6 a7 a8 a9 a10 a11 a12 a13 a14 0 0 0 0 1 b2 b3).2 (okB_k (k := k) h rfl hd1 hd2)
  · exact (entOk_iff 0 2 a2 a3 a4 a5 a6 a7 a8 a9 a10 a11 a12 a13 a14 a15 0 0 0 1 b2 b3).2 (okB_k (k := k) h rfl hd1 hd2)
  · exact (entOk_iff 0 2 a2 a3 a4 a5 a6 a7 a8 a9 a10 a11 a12 a13 a14 a15 0 0 0 1 b2 b3).2 (okB_k (k := k) h rfl hd1 hd2)
  · exact (entOk_iff 0 2 a2 a3 a4 a5 a6 a7 a8 a9 a10 a11 a12 a13 a14 a15 0 0 0 1 b2 b3).2 (okB_k (k := k) h rfl hd1 hd2)
  · exact (entOk_iff 0 2 a2 a3 a4 a5 a6 a7 a8 a9 a10 a11 a12 a13 a14 a15 0 0 0 1 b2 b3).2 (okB_k (k := k) h rfl hd1 hd2)
  · exact (entOk_iff 0 2 a2 a3 a4 a5 a6 a7 a8 a9 a10 a11 a12 a13 a14 a15 0 0 0 a19 b2 b3).2 h

/-! ### messages -/
/-- the entries of the bytes behind the head, room for so many: none, as they are of no form; are they short at the end? -/
def decE : Nat → List Int → Option (List Entry × Bool)
  | _, [] => some ([], false)
  | 0, _ :: _ => none
  | r + 1, x :: l => if entOk (filled ((x :: l).take 20)) then
      (if (x :: l).length < 20 then some ([entOf (filled ((x :: l).take 20))], true) else (decE r ((x :: l).drop 20)).map fun y => (entOf (filled ((x :: l).take 20)) :: y.1, y.2)) else none
def hd4 (b : List Int) : List Int := b.take 4 ++ [2, 2, 0, 0].drop b.length
def hdOk (b : List Int) : Prop := (g (hd4 b) 0 = 1 ∨ g (hd4 b) 0 = 2) ∧ g (hd4 b) 1 = 2 ∧ g (hd4 b) 2 = 0 ∧ g (hd4 b) 3 = 0
instance (b : List Int) : Decidable (hdOk b) := by unfold hdOk; infer_instance
/-- what bytes tell: a message, and what is wrong -/
def decM (b : List Int) : (Bool × List Entry) × Int :=
  if hdOk b then (if b.length < 4 then ((false, []), 6) else match decE 25 (b.drop 4) with
    | none => ((false, []), 3)
    | some (_, true) => ((false, []), 6)
    | some (es, false) => ((decide (g b 0 = 1), es), 0)) else ((false, []), 3)
def msgB (m : Bool × List Entry) : List Int := [if m.1 then 1 else 2, 2, 0, 0] ++ m.2.flatMap entB

theorem byteL_take {l : List Int} (h : byteL l) (k : Nat) : byteL (l.take k) := fun x hx => h x (List.mem_of_mem_take hx)
theorem byteL_drop {l : List Int} (h : byteL l) (k : Nat) : byteL (l.drop k) := fun x hx => h x (List.mem_of_mem_drop hx)
theorem entsF_zero {es : List Entry} : entsF es = 0 ↔ ∀ e ∈ es, entF e = 0 := by
  induction es with
  | nil => simp [entsF]
  | cons e r ih =>
    simp only [entsF, List.forall_mem_cons]
    by_cases h : entF e = 0
    · rw [if_pos h, ih]; simp [h]
    · rw [if_neg h]; simp [h]
theorem decE_cons (r : Nat) (e : Entry) (l : List Int) (hr : entR e) (h : entF e = 0) : decE (r + 1) (entB e ++ l) = (decE r l).map fun y => (e :: y.1, y.2) := by
  have hl := entB_length e
  obtain ⟨h1, h2⟩ := ent_back e hr h
  have ht : (entB e ++ l).take 20 = entB e := by rw [List.take_append_of_le_length (by omega), List.take_of_length_le (by omega)]
  have hdr : (entB e ++ l).drop 20 = l := by rw [List.drop_append_of_le_length (by omega), List.drop_of_length_le (by omega)]; rfl
  have hlen : ¬ (entB e ++ l).length < 20 := by simp [hl]
  obtain ⟨x, t, hx⟩ : ∃ x t, entB e ++ l = x :: t := ⟨0, _, rfl⟩
  rw [hx] at ht hdr hlen ⊢
  simp only [decE]
  rw [ht, hdr, filled_20 hl, if_pos h1, if_neg hlen, h2]
theorem decE_all : ∀ (es : List Entry) (r : Nat), es.length ≤ r → (∀ e ∈ es, entR e) → (∀ e ∈ es, entF e = 0) → decE r (es.flatMap entB) = some (es, false)
  | [], r, _, _, _ => by cases r <;> rfl
  | e :: es, 0, h, _, _ => by simp at h
  | e :: es, r + 1, h, h1, h2 => by
    rw [List.flatMap_cons, decE_cons r e _ (h1 e (by simp)) (h2 e (by simp)), decE_all es r (by simpa using h) (fun x hx => h1 x (by simp [hx])) (fun x hx => h2 x (by simp [hx]))]
    rfl
theorem decE_take : ∀ (es : List Entry) (r k : Nat), es.length ≤ r → (∀ e ∈ es, entR e) → (∀ e ∈ es, entF e = 0) → k ≤ 20 * es.length →
    (k % 20 = 0 → decE r ((es.flatMap entB).take k) = some (es.take (k / 20), false)) ∧ (k % 20 ≠ 0 → ∃ x, decE r ((es.flatMap entB).take k) = some (x, true))
  | [], r, k, _, _, _, hk => by
    have : k = 0 := by simpa using hk
    subst this
    exact ⟨fun _ => by cases r <;> rfl, fun h => absurd rfl h⟩
  | e :: es, 0, _, h, _, _, _ => by simp at h
  | e :: es, r + 1, k, h, h1, h2, hk => by
    have hl := entB_length e
    have he1 := h1 e (by simp)
    have he2 := h2 e (by simp)
    rw [List.flatMap_cons]
    by_cases hk20 : 20 ≤ k
    · obtain ⟨ih1, ih2⟩ := decE_take es r (k - 20) (by simpa using h) (fun x hx => h1 x (by simp [hx])) (fun x hx => h2 x (by simp [hx])) (by simp at hk; omega)
      have ht : (entB e ++ es.flatMap entB).take k = entB e ++ (es.flatMap entB).take (k - 20) := by
        rw [List.take_append, List.take_of_length_le (by omega), hl]
      rw [ht, decE_cons r e _ he1 he2]
      have e1 : (k - 20) % 20 = k % 20 := by omega
      have e2 : k / 20 = (k - 20) / 20 + 1 := by omega
      rw [e1] at ih1 ih2
      exact ⟨fun h0 => by rw [ih1 h0, e2]; rfl, fun h0 => by obtain ⟨x, hx⟩ := ih2 h0; rw [hx]; exact ⟨_, rfl⟩⟩
    · have ht : (entB e ++ es.flatMap entB).take k = (entB e).take k := List.take_append_of_le_length (by omega)
      rw [ht]
      by_cases h0 : k = 0
      · subst h0; exact ⟨fun _ => rfl, fun h => absurd rfl h⟩
      · have hf := filled_ok hl (byte_entB e (by obtain ⟨⟨a, l⟩, t, hp, m⟩ := e; exact (entF_zero.1 he2).2.1)) (ent_back e he1 he2).1 k (by omega)
        have hlen : ((entB e).take k).length = k := by rw [List.length_take]; omega
        obtain ⟨x, t, hx⟩ : ∃ x t, (entB e).take k = x :: t := by
          cases hh : (entB e).take k with
          | nil => rw [hh] at hlen; simp at hlen; omega
          | cons x t => exact ⟨x, t, rfl⟩
        have ht20 : ((entB e).take k).take 20 = (entB e).take k := List.take_of_length_le (by omega)
        refine ⟨fun h => by omega, fun _ => ⟨[entOf (filled ((entB e).take k))], ?_⟩⟩
        rw [hx] at ht20 hf hlen ⊢
        simp only [decE]
        rw [ht20, if_pos hf, if_pos (by omega)]
theorem decE_back : ∀ (r : Nat) (l : List Int) (es : List Entry), byteL l → decE r l = some (es, false) → es.length ≤ r ∧ es.flatMap entB = l ∧ (∀ e ∈ es, entR e) ∧ (∀ e ∈ es, entF e = 0)
  | r, [], es, _, h => by
    have : es = [] := by cases r <;> simp [decE] at h <;> exact h
    subst this
    exact ⟨Nat.zero_le _, rfl, by simp, by simp⟩
  | 0, _ :: _, _, _, h => by simp [decE] at h
  | r + 1, x :: l, es, hb, h => by
    simp only [decE] at h
    split at h
    · rename_i hok
      split at h
      · simp at h
      · rename_i hlen
        have hl20 : ((x :: l).take 20).length = 20 := by rw [List.length_take]; omega
        rw [filled_20 hl20] at h hok
        cases hd : decE r ((x :: l).drop 20) with
        | none => rw [hd] at h; simp at h
        | some y =>
          rw [hd] at h
          simp only [Option.map_some, Option.some.injEq, Prod.mk.injEq] at h
          obtain ⟨rfl, hf⟩ := h
          obtain ⟨y1, y2⟩ := y
          simp only at hf
          subst hf
          obtain ⟨i1, i2, i3, i4⟩ := decE_back r _ y1 (byteL_drop hb 20) hd
          obtain ⟨f1, f2, f3⟩ := ent_forth hl20 (byteL_take hb 20) hok
          refine ⟨by simp; omega, ?_, ?_, ?_⟩
          · rw [List.flatMap_cons, f1, i2, List.take_append_drop]
          · simp only [List.forall_mem_cons]; exact ⟨f3, i3⟩
          · simp only [List.forall_mem_cons]; exact ⟨f2, i4⟩
    · simp at h

theorem hd4_long {b : List Int} (h : 4 ≤ b.length) : hd4 b = b.take 4 := by
  unfold hd4
  rw [List.drop_of_length_le (l := [2, 2, 0, 0]) (by simpa using h)]; simp
theorem msgF_zero {m : Bool × List Entry} : msgF m = 0 ↔ m.2.length ≤ 25 ∧ ∀ e ∈ m.2, entF e = 0 := by
  unfold msgF
  by_cases h : 25 < m.2.length
  · rw [if_pos h]; simp; omega
  · rw [if_neg h, entsF_zero]; simp; omega
theorem msgB_length (m : Bool × List Entry) : (msgB m).length = 4 + 20 * m.2.length := by
  unfold msgB
  have : (m.2.flatMap entB).length = 20 * m.2.length := by
    induction m.2 with
    | nil => rfl
    | cons e r ih => rw [List.flatMap_cons, List.length_append, ih, entB_length]; simp; omega
  simp [this]; omega
/-- there and back -/
theorem dec_msgB (m : Bool × List Entry) (hm : msgF m = 0) (hr : ∀ e ∈ m.2, entR e) : decM (msgB m) = (m, 0) := by
  obtain ⟨q, es⟩ := m
  obtain ⟨h1, h2⟩ := msgF_zero.1 hm
  have hl := msgB_length (q, es)
  have hh : hdOk (msgB (q, es)) := by
    unfold hdOk
    rw [hd4_long (by omega)]
    cases q <;> simp [msgB, g]
  have hd : (msgB (q, es)).drop 4 = es.flatMap entB := by simp [msgB]
  unfold decM
  rw [if_pos hh, if_neg (by omega), hd, decE_all es 25 h1 hr h2]
  cases q <;> simp [msgB, g]
theorem dec_back {b : List Int} {m : Bool × List Entry} (hb : byteL b) (h : decM b = (m, 0)) : msgF m = 0 ∧ msgB m = b ∧ ∀ e ∈ m.2, entR e := by
  unfold decM at h
  split at h
  · rename_i hh
    split at h
    · simp at h
    · rename_i hlen
      split at h
      · simp at h
      · simp at h
      · rename_i es hd
        simp only [Prod.mk.injEq, and_true] at h
        subst h
        obtain ⟨i1, i2, i3, i4⟩ := decE_back 25 _ es (byteL_drop hb 4) hd
        refine ⟨msgF_zero.2 ⟨i1, i4⟩, ?_, i3⟩
        unfold hdOk at hh
        rw [hd4_long (by omega)] at hh
        match b, hlen with
        | b0 :: b1 :: b2 :: b3 :: l, _ =>
          simp only [List.drop_succ_cons, List.drop_zero] at i2
          simp only [g, List.take_succ_cons, List.take_zero, List.getD_cons_zero, List.getD_cons_succ] at hh
          obtain ⟨h0, h1, h2, h3⟩ := hh
          subst h1; subst h2; subst h3
          unfold msgB
          simp only [i2]
          rcases h0 with rfl | rfl <;> simp [g]
        | [], h => simp at h
        | [_], h => simp at h
        | [_, _], h => simp at h
        | [_, _, _], h => simp at h
  · simp at h
/-- torn it is short -/
theorem dec_torn (m : Bool × List Entry) (hm : msgF m = 0) (hr : ∀ e ∈ m.2, entR e) (k : Nat) (hk : k ≤ (msgB m).length) :
    decM ((msgB m).take k) = if 4 ≤ k ∧ k % 20 = 4 then ((m.1, m.2.take ((k - 4) / 20)), 0) else ((false, []), 6) := by
  obtain ⟨q, es⟩ := m
  obtain ⟨h1, h2⟩ := msgF_zero.1 hm
  rw [msgB_length] at hk
  simp only at hk h1 h2 hr
  have hlen : ((msgB (q, es)).take k).length = k := by rw [List.length_take, msgB_length]; simp only; omega
  have hh : hdOk ((msgB (q, es)).take k) := by
    by_cases h4 : 4 ≤ k
    · unfold hdOk
      rw [hd4_long (by omega), List.take_take, show min 4 k = 4 from by omega]
      cases q <;> simp [msgB, g]
    · have : k = 0 ∨ k = 1 ∨ k = 2 ∨ k = 3 := by omega
      rcases this with rfl | rfl | rfl | rfl <;> cases q <;> simp [msgB, hdOk, hd4, g]
  unfold decM
  rw [if_pos hh, hlen]
  by_cases h4 : k < 4
  · rw [if_pos h4, if_neg (by omega)]
  · rw [if_neg h4]
    have hd : ((msgB (q, es)).take k).drop 4 = (es.flatMap entB).take (k - 4) := by
      rw [List.drop_take]; simp [msgB]
    have hg : g ((msgB (q, es)).take k) 0 = if q then 1 else 2 := by
      obtain ⟨k', rfl⟩ : ∃ k', k = k' + 1 := ⟨k - 1, by omega⟩
      simp [g, msgB]
    obtain ⟨t1, t2⟩ := decE_take es 25 (k - 4) h1 hr h2 (by omega)
    rw [hd]
    by_cases h0 : (k - 4) % 20 = 0
    · rw [t1 h0, if_pos ⟨by omega, by omega⟩, hg]
      cases q <;> simp
    · obtain ⟨x, hx⟩ := t2 h0
      rw [hx, if_neg (by omega)]
/-- what is short can go on -/
theorem dec_short {b more : List Int} (hb : byteL (b ++ more)) (h : (decM (b ++ more)).2 = 0) : (decM b).2 ≠ 3 := by
  obtain ⟨m, e⟩ : ∃ m, decM (b ++ more) = (m, 0) := ⟨(decM (b ++ more)).1, by rw [← h]⟩
  obtain ⟨h1, h2, h3⟩ := dec_back hb e
  have ht := dec_torn m h1 h3 b.length (by rw [h2]; simp)
  rw [h2, List.take_left'] at ht
  · rw [ht]
    split <;> simp
  · rfl
theorem decM_cases (b : List Int) : (∃ m, decM b = (m, 0)) ∨ decM b = ((false, []), 3) ∨ decM b = ((false, []), 6) := by
  unfold decM
  split
  · split
    · exact .inr (.inr rfl)
    · split
      · exact .inr (.inl rfl)
      · exact .inr (.inr rfl)
      · exact .inl ⟨_, rfl⟩
  · exact .inr (.inl rfl)
end Go.Proofs.YtimdnfakgobadaaDoor
