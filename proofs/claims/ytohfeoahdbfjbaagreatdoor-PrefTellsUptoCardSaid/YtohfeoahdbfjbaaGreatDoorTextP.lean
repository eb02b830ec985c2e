/- Texts in plain lists: digits and what they spell, pieces at a byte, the texts of addresses and of nets; no program in sight. -/
import Derived.Lib.SplitLaws
import Derived.Lib.ItoaNum
import Derived.Lib.AtoiAllCases
import Derived.Lib.IndexMore
import Derived.Lib.Join
namespace Go.Proofs.YtohfeoahdbfjbaaGreatDoor
set_option linter.unusedVariables false
set_option linter.unusedSimpArgs false

/-! ### digits -/
abbrev dd (n : Nat) : List UInt8 := Lib.decDigits n
theorem dd_small {n : Nat} (h : n < 10) : dd n = [UInt8.ofNat (48 + n)] := Lib.decDigits_one h
theorem dd_big {n : Nat} (h : ¬ n < 10) : dd n = dd (n / 10) ++ [UInt8.ofNat (48 + n % 10)] := by unfold dd; rw [Lib.decDigits, dif_neg h]
theorem digit_nat {n : Nat} (h : n < 10) : (UInt8.ofNat (48 + n)).toNat = 48 + n := by
  rw [UInt8.toNat_ofNat']; omega
theorem dd_digits (n : Nat) : ∀ c ∈ dd n, 48 ≤ c.toNat ∧ c.toNat ≤ 57 := by
  induction n using Nat.strongRecOn with
  | _ n ih =>
    intro c hc
    by_cases h : n < 10
    · rw [dd_small h] at hc
      simp only [List.mem_cons, List.not_mem_nil, or_false] at hc
      subst hc; rw [digit_nat h]; omega
    · rw [dd_big h] at hc
      rcases List.mem_append.1 hc with hc | hc
      · exact ih (n / 10) (by omega) c hc
      · simp only [List.mem_cons, List.not_mem_nil, or_false] at hc
        subst hc; rw [digit_nat (by omega)]; omega
theorem dd_ne (n : Nat) : dd n ≠ [] := by
  by_cases h : n < 10
  · rw [dd_small h]; simp
  · rw [dd_big h]; simp
/-- what digits spell, on from acc -/
def dv (c : UInt8) : Nat := c.toNat - 48
def spell : List UInt8 → Nat → Nat
  | [], acc => acc
  | c :: r, acc => spell r (acc * 10 + dv c)
theorem spell_append : ∀ (l m : List UInt8) (a : Nat), spell (l ++ m) a = spell m (spell l a)
  | [], m, a => rfl
  | c :: r, m, a => spell_append r m (a * 10 + dv c)
theorem spell_one (a : Nat) (c : UInt8) : spell [c] a = a * 10 + dv c := rfl
theorem dv_digit {n : Nat} (h : n < 10) : dv (UInt8.ofNat (48 + n)) = n := by unfold dv; rw [digit_nat h]; omega
theorem spell_dd (n : Nat) : spell (dd n) 0 = n := by
  induction n using Nat.strongRecOn with
  | _ n ih =>
    by_cases h : n < 10
    · rw [dd_small h, spell_one, dv_digit h]; omega
    · rw [dd_big h, spell_append, ih (n / 10) (by omega), spell_one, dv_digit (by omega)]; omega
theorem dd_inj {n m : Nat} (h : dd n = dd m) : n = m := by rw [← spell_dd n, h, spell_dd]
theorem spell_mono (l : List UInt8) : ∀ a, a ≤ spell l a := by
  induction l with
  | nil => intro a; exact Nat.le_refl _
  | cons c r ih => intro a; exact Nat.le_trans (by omega) (ih _)
theorem parse_spell : ∀ (l : List UInt8) (a : Nat), (∀ c ∈ l, 48 ≤ c.toNat ∧ c.toNat ≤ 57) → spell l a < 18446744073709551616 → Lib.parseUint10 a l = .ok (spell l a)
  | [], a, _, _ => rfl
  | c :: r, a, hd, hs => by
    have hc := hd c (by simp)
    have hm := spell_mono r (a * 10 + dv c)
    have hs' : spell r (a * 10 + dv c) < 18446744073709551616 := hs
    have he : spell (c :: r) a = spell r (a * 10 + dv c) := rfl
    have ih := parse_spell r (a * 10 + dv c) (fun c' h' => hd c' (by simp [h'])) hs'
    rw [he, Lib.parseUint10, if_pos hc, show c.toNat - 48 = dv c from rfl, if_neg (by omega), if_neg (by omega)]
    exact ih
theorem atoi_dd (n : Nat) (h : n < 9223372036854775808) : Lib.atoiAll (dd n) = .ok (n : Int) := by
  have hd := dd_digits n
  have hne := dd_ne n
  have hs := spell_dd n
  match e : dd n, hne with
  | c :: r, _ =>
    rw [e] at hd hs
    have hc := hd c (by simp)
    rw [Lib.atoiAll_plain c r (by omega) (by omega)]
    have hp : Lib.parseMag (c :: r) = .ok n := by
      unfold Lib.parseMag
      rw [if_neg (by simp), parse_spell _ _ hd (by omega), hs]
    rw [hp]
    unfold Lib.signless
    simp only
    rw [if_neg (by omega)]
theorem itoa_dd (n : Nat) : Lib.itoa (n : Int) = dd n := by unfold Lib.itoa; rw [if_neg (by omega)]; simp

/-! ### pieces at a byte -/
def segs (c : UInt8) : List UInt8 → List (List UInt8)
  | [] => [[]]
  | x :: r => if x = c then [] :: segs c r else (x :: (segs c r).headD []) :: (segs c r).tail
theorem segs_ne (c : UInt8) (s : List UInt8) : segs c s ≠ [] := by
  cases s with
  | nil => simp [segs]
  | cons x r => unfold segs; split <;> simp
theorem segs_split (c : UInt8) (s : List UInt8) : segs c s = (segs c s).headD [] :: (segs c s).tail := by
  match e : segs c s, segs_ne c s with
  | h :: t, _ => rfl
theorem segs_miss {c : UInt8} : ∀ {p : List UInt8}, c ∉ p → segs c p = [p]
  | [], _ => rfl
  | x :: r, h => by
    have h1 : x ≠ c := fun e => h (by simp [e])
    have h2 : c ∉ r := fun e => h (by simp [e])
    unfold segs
    rw [if_neg h1, segs_miss h2]; rfl
theorem segs_hit {c : UInt8} : ∀ {p : List UInt8} (r : List UInt8), c ∉ p → segs c (p ++ c :: r) = p :: segs c r
  | [], r, _ => by simp [segs]
  | x :: p, r, h => by
    have h1 : x ≠ c := fun e => h (by simp [e])
    have h2 : c ∉ p := fun e => h (by simp [e])
    rw [List.cons_append]
    rw [segs, if_neg h1, segs_hit r h2]; rfl
/-- pieces put together with c between -/
def joinC (c : UInt8) : List (List UInt8) → List UInt8
  | [] => []
  | [p] => p
  | p :: q :: r => p ++ c :: joinC c (q :: r)
theorem join_segs (c : UInt8) : ∀ s : List UInt8, joinC c (segs c s) = s
  | [] => rfl
  | x :: r => by
    have ih := join_segs c r
    rw [segs_split] at ih
    unfold segs
    by_cases h : x = c
    · rw [if_pos h, segs_split c r]
      simp only [joinC, List.nil_append]; rw [ih, h]
    · rw [if_neg h]
      match e : (segs c r).tail with
      | [] => rw [e] at ih; simp only [joinC] at ih ⊢; rw [ih]
      | q :: t => rw [e] at ih; simp only [joinC, List.cons_append] at ih ⊢; rw [ih]
theorem segs_no (c : UInt8) : ∀ s : List UInt8, ∀ p ∈ segs c s, c ∉ p
  | [], p, hp => by simp [segs] at hp; simp [hp]
  | x :: r, p, hp => by
    have ih := segs_no c r
    rw [segs_split] at ih
    unfold segs at hp
    by_cases h : x = c
    · rw [if_pos h] at hp
      rcases List.mem_cons.1 hp with rfl | hp
      · simp
      · exact segs_no c r p hp
    · rw [if_neg h] at hp
      rcases List.mem_cons.1 hp with rfl | hp
      · intro hc
        rcases List.mem_cons.1 hc with e | hc
        · exact h e.symm
        · exact ih _ (by simp) hc
      · exact ih _ (by simp [hp])
theorem segs_length (c : UInt8) : ∀ s : List UInt8, (segs c s).length = s.count c + 1
  | [] => rfl
  | x :: r => by
    have ih := segs_length c r
    rw [segs_split, List.length_cons] at ih
    unfold segs
    by_cases h : x = c
    · rw [if_pos h, h, List.count_cons_self, List.length_cons, segs_length c r]
    · rw [if_neg h, List.count_cons_of_ne h, List.length_cons, ih]

/-- what Lib.index finds, at one byte -/
theorem index_hit1 {c : UInt8} : ∀ {p : List UInt8} (r : List UInt8), c ∉ p → Lib.index (p ++ c :: r) [c] = p.length
  | [], r, _ => by rw [List.nil_append, Lib.index]; simp [List.isPrefixOf]
  | x :: p, r, h => by
    have h1 : x ≠ c := fun e => h (by simp [e])
    have ih := index_hit1 r (fun e => h (by simp [e]) : c ∉ p)
    have hp : ([c] : List UInt8).isPrefixOf (x :: (p ++ c :: r)) = false := by simp [List.isPrefixOf, Ne.symm h1]
    rw [List.cons_append, Lib.index, hp, ih]
    have h2 : ((p.length : Int) == -1) = false := by rw [beq_eq_false_iff_ne]; omega
    simp [h2]
theorem index_miss1 {c : UInt8} : ∀ {p : List UInt8}, c ∉ p → Lib.index p [c] = -1
  | [], _ => by simp [Lib.index]
  | x :: p, h => by
    have h1 : x ≠ c := fun e => h (by simp [e])
    have ih := index_miss1 (fun e => h (by simp [e]) : c ∉ p)
    have hp : ([c] : List UInt8).isPrefixOf (x :: p) = false := by simp [List.isPrefixOf, Ne.symm h1]
    rw [Lib.index, hp, ih]; simp
theorem cut_first {c : UInt8} : ∀ {s : List UInt8}, c ∈ s → ∃ p r, s = p ++ c :: r ∧ c ∉ p
  | x :: s, h => by
    by_cases hx : x = c
    · exact ⟨[], s, by simp [hx], by simp⟩
    · obtain ⟨p, r, rfl, hp⟩ := cut_first ((List.mem_cons.1 h).resolve_left (fun e => hx e.symm))
      refine ⟨x :: p, r, rfl, fun e => ?_⟩
      rcases List.mem_cons.1 e with e | e
      · exact hx e.symm
      · exact hp e
theorem splitK_segs (c : UInt8) : ∀ (k : Nat) (s : List UInt8), s.count c ≤ k → Lib.splitK [c] 0 k s = segs c s
  | 0, s, h => by
    rw [segs_miss (List.count_eq_zero.1 (by omega))]; rfl
  | k + 1, s, h => by
    by_cases hc : c ∈ s
    · obtain ⟨p, r, rfl, hp⟩ := cut_first hc
      rw [Lib.splitK, index_hit1 r hp, segs_hit r hp]
      have h2 : ((p.length : Int) == -1) = false := by rw [beq_eq_false_iff_ne]; omega
      rw [h2, if_neg (by simp)]
      have e1 : (p ++ c :: r).take ((p.length : Int).toNat + 0) = p := by simp
      have e2 : (p ++ c :: r).drop ((p.length : Int).toNat + [c].length) = r := by simp
      rw [e1, e2, splitK_segs c k r (by rw [List.count_append, List.count_cons_self] at h; omega)]
    · rw [Lib.splitK, index_miss1 hc, segs_miss hc]; rfl
theorem splitB_segs (c : UInt8) (s : ByteArray) : (Lib.splitB ⟨#[c]⟩ 0 (Lib.countB s ⟨#[c]⟩) s).map (·.data.toList) = segs c s.data.toList := by
  rw [Lib.splitB_data]
  refine splitK_segs c _ _ ?_
  have : Lib.countB s ⟨#[c]⟩ = Lib.count s.data.toList [c] := rfl
  rw [this, Lib.count_one]
  exact Nat.le_refl _
theorem splitB_len (c : UInt8) (s : ByteArray) : Lib.countB s ⟨#[c]⟩ + 1 = (segs c s.data.toList).length := by
  have h := congrArg List.length (splitB_segs c s)
  have h1 : 1 ≤ (⟨#[c]⟩ : ByteArray).size := Nat.le_refl 1
  have h2 := Lib.splitB_all ⟨#[c]⟩ h1 0 _ s rfl
  rw [List.length_map, h2] at h
  exact h

/-! ### texts of addresses -/
def addrT (a : Nat) : List UInt8 := dd (a / 16777216) ++ 46 :: (dd (a / 65536 % 256) ++ 46 :: (dd (a / 256 % 256) ++ 46 :: dd (a % 256)))
theorem no_dd {c : UInt8} (h : c.toNat < 48 ∨ 57 < c.toNat) (n : Nat) : c ∉ dd n := fun hc => by have := dd_digits n c hc; omega
theorem no_dot (n : Nat) : (46 : UInt8) ∉ dd n := no_dd (by decide) n
theorem segs_addr (a : Nat) : segs 46 (addrT a) = [dd (a / 16777216), dd (a / 65536 % 256), dd (a / 256 % 256), dd (a % 256)] := by
  unfold addrT
  rw [segs_hit _ (no_dot _), segs_hit _ (no_dot _), segs_hit _ (no_dot _), segs_miss (no_dot _)]
theorem addrT_inj {a b : Nat} (h : addrT a = addrT b) : a = b := by
  have := congrArg (segs 46) h
  rw [segs_addr, segs_addr] at this
  simp only [List.cons.injEq, and_true] at this
  obtain ⟨h1, h2, h3, h4⟩ := this
  have h1 := dd_inj h1; have h2 := dd_inj h2; have h3 := dd_inj h3; have h4 := dd_inj h4
  omega
theorem addr_of_segs {s : List UInt8} {n0 n1 n2 n3 : Nat} (h : segs 46 s = [dd n0, dd n1, dd n2, dd n3]) (h0 : n0 < 256) (h1 : n1 < 256) (h2 : n2 < 256) (h3 : n3 < 256) :
    s = addrT (((n0 * 256 + n1) * 256 + n2) * 256 + n3) := by
  rw [← join_segs 46 s, h]
  unfold addrT joinC
  have e0 : (((n0 * 256 + n1) * 256 + n2) * 256 + n3) / 16777216 = n0 := by omega
  have e1 : (((n0 * 256 + n1) * 256 + n2) * 256 + n3) / 65536 % 256 = n1 := by omega
  have e2 : (((n0 * 256 + n1) * 256 + n2) * 256 + n3) / 256 % 256 = n2 := by omega
  have e3 : (((n0 * 256 + n1) * 256 + n2) * 256 + n3) % 256 = n3 := by omega
  rw [e0, e1, e2, e3]
  rfl
theorem no_addr {c : UInt8} (h : c.toNat < 46 ∨ 57 < c.toNat ∨ c.toNat = 47) (a : Nat) : c ∉ addrT a := by
  have hd := fun n => no_dd (c := c) (by omega) n
  have h46 : c ≠ 46 := fun e => by subst e; revert h; decide
  unfold addrT
  simp [hd, h46]
theorem join_addr (a : Nat) : Lib.join [dd (a / 16777216), dd (a / 65536 % 256), dd (a / 256 % 256), dd (a % 256)] [46] = addrT a := by
  unfold Lib.join addrT
  simp [List.intercalate]
theorem dd_length_le {n : Nat} (h : n < 1000) : (dd n).length ≤ 3 := by
  by_cases h1 : n < 10
  · rw [dd_small h1]; simp
  · rw [dd_big h1]
    by_cases h2 : n / 10 < 10
    · rw [dd_small h2]; simp
    · rw [dd_big h2, dd_small (by omega)]; simp
theorem addrT_length (a : Nat) (h : a < 4294967296) : (addrT a).length ≤ 15 := by
  have h1 := dd_length_le (n := a / 16777216) (by omega)
  have h2 := dd_length_le (n := a / 65536 % 256) (by omega)
  have h3 := dd_length_le (n := a / 256 % 256) (by omega)
  have h4 := dd_length_le (n := a % 256) (by omega)
  unfold addrT
  simp only [List.length_append, List.length_cons]
  omega
/-! ### texts of nets -/
def netT (a k : Nat) : List UInt8 := addrT a ++ 47 :: dd k
theorem segs_net (a k : Nat) : segs 47 (netT a k) = [addrT a, dd k] := by
  unfold netT
  rw [segs_hit _ (no_addr (by decide) a), segs_miss (no_dd (by decide) k)]
theorem cut_net (a k : Nat) : Lib.cut (netT a k) [47] = (addrT a, dd k, true) := by
  unfold netT Lib.cut
  rw [index_hit1 _ (no_addr (by decide) a), if_pos (by omega)]
  simp
theorem netT_inj {a b k j : Nat} (h : netT a k = netT b j) : a = b ∧ k = j := by
  have := congrArg (segs 47) h
  rw [segs_net, segs_net] at this
  simp only [List.cons.injEq, and_true] at this
  exact ⟨addrT_inj this.1, dd_inj this.2⟩
theorem net_of_segs {s : List UInt8} {a k : Nat} (h : segs 47 s = [addrT a, dd k]) : s = netT a k := by
  rw [← join_segs 47 s, h]; rfl
theorem netT_length (a k : Nat) (h : a < 4294967296) (hk : k ≤ 32) : (netT a k).length ≤ 19 := by
  have h1 := addrT_length a h
  have h2 := dd_length_le (n := k) (by omega)
  unfold netT
  simp only [List.length_append, List.length_cons]
  omega
end Go.Proofs.YtohfeoahdbfjbaaGreatDoor
