/- Texts in plain lists: digits and what they spell, pieces at a byte, the texts of addresses and of nets; no program in sight. Words for memory: a slice that reads as a list, and that what is below the heap's old size stays. Lines of the kit's page on words (sections 1 and 2) turned to this claim; the rest is this claim's own. -/
import Derived.Lib.SplitLaws
import Derived.Lib.ItoaNum
import Derived.Lib.AtoiAllCases
import Derived.Lib.IndexMore
import Derived.Lib.Join
import Derived.Test.YtgdlkjahlajcpaaGreatDoorRows
import Derived.WalkKit
import Derived.ProofKit
import Derived.OpenShut
import Derived.Handy
import Derived.WalkLawsBesides
import Derived.WalkSpells
import Derived.Lib.Hide
import Derived.Below
import Derived.Carry
import Derived.Laws.OwnMore
import Derived.Deep.AppendLies
import Derived.Deep.Draws
import Derived.Maps.AppendAt
import Derived.RegionTactic
import Derived.OwnWalk
import Derived.Deep.QuietTactic
import Derived.BigQuiet
import Derived.Deep.Slices
import Derived.Deep.Fields
import Derived.ChangeSame
import Derived.JoinedCond
namespace Go.Proofs.YtgdlkjahlajcpaaGreatDoor
set_option linter.unusedVariables false
set_option linter.unusedSimpArgs false

/-! ### digits -/
abbrev dd (n : Nat) : List UInt8 := Lib.decDigits n
theorem dd_small {n : Nat} (h : n < 10) : dd n = [UInt8.ofNat (48 + n)] := Lib.decDigits_one h
theorem dd_big {n : Nat} (h : ¬ n < 10) : dd n = dd (n / 10) ++ [UInt8.ofNat (48 + n % 10)] := by unfold dd; rw [Lib.decDigits, dif_neg h]
theorem digit_nat {n : Nat} (h : n < 10) : (UInt8.ofNat (48 + n)).toNat = 48 + n := by
  rw [UInt8.toNat_ofNat']; omega
theorem dd_digits (n : Nat) : ∀ c ∈ dd n, 48 ≤ c.toNat ∧ c.toNat ≤ 57 := by
  induction n using Nat.strongRecOn with
  | _ n ih =>
    intro c hc
    by_cases h : n < 10
    · rw [dd_small h] at hc
      simp only [List.mem_cons, List.not_mem_nil, or_false] at hc
      subst hc; rw [digit_nat h]; omega
    · rw [dd_big h] at hc
      rcases List.mem_append.1 hc with hc | hc
      · exact ih (n / 10) (by omega) c hc
      · simp only [List.mem_cons, List.not_mem_nil, or_false] at hc
        subst hc; rw [digit_nat (by omega)]; omega
theorem dd_ne (n : Nat) : dd n ≠ [] := by
  by_cases h : n < 10
  · rw [dd_small h]; simp
  · rw [dd_big h]; simp
/-- what digits spell, on from acc -/
def dv (c : UInt8) : Nat := c.toNat - 48
def spell : List UInt8 → Nat → Nat
  | [], acc => acc
  | c :: r, acc => spell r (acc * 10 + dv c)
theorem spell_append : ∀ (l m : List UInt8) (a : Nat), spell (l ++ m) a = spell m (spell l a)
  | [], m, a => rfl
  | c :: r, m, a => spell_append r m (a * 10 + dv c)
theorem spell_one (a : Nat) (c : UInt8) : spell [c] a = a * 10 + dv c := rfl
theorem dv_digit {n : Nat} (h : n < 10) : dv (UInt8.ofNat (48 + n)) = n := by unfold dv; rw [digit_nat h]; omega
theorem spell_dd (n : Nat) : spell (dd n) 0 = n := by
  induction n using Nat.strongRecOn with
  | _ n ih =>
    by_cases h : n < 10
    · rw [dd_small h, spell_one, dv_digit h]; omega
    · rw [dd_big h, spell_append, ih (n / 10) (by omega), spell_one, dv_digit (by omega)]; omega
theorem dd_inj {n m : Nat} (h : dd n = dd m) : n = m := by rw [← spell_dd n, h, spell_dd]
theorem spell_mono (l : List UInt8) : ∀ a, a ≤ spell l a := by
  induction l with
  | nil => intro a; exact Nat.le_refl _
  | cons c r ih => intro a; exact Nat.le_trans (by omega) (ih _)
theorem parse_spell : ∀ (l : List UInt8) (a : Nat), (∀ c ∈ l, 48 ≤ c.toNat ∧ c.toNat ≤ 57) → spell l a < 18446744073709551616 → Lib.parseUint10 a l = .ok (spell l a)
  | [], a, _, _ => rfl
  | c :: r, a, hd, hs => by
    have hc := hd c (by simp)
    have hm := spell_mono r (a * 10 + dv c)
    have hs' : spell r (a * 10 + dv c) < 18446744073709551616 := hs
    have he : spell (c :: r) a = spell r (a * 10 + dv c) := rfl
    have ih := parse_spell r (a * 10 + dv c) (fun c' h' => hd c' (by simp [h'])) hs'
    rw [he, Lib.parseUint10, if_pos hc, show c.toNat - 48 = dv c from rfl, if_neg (by omega), if_neg (by omega)]
    exact ih
theorem atoi_dd (n : Nat) (h : n < 9223372036854775808) : Lib.atoiAll (dd n) = .ok (n : Int) := by
  have hd := dd_digits n
  have hne := dd_ne n
  have hs := spell_dd n
  match e : dd n, hne with
  | c :: r, _ =>
    rw [e] at hd hs
    have hc := hd c (by simp)
    rw [Lib.atoiAll_plain c r (by omega) (by omega)]
    have hp : Lib.parseMag (c :: r) = .ok n := by
      unfold Lib.parseMag
      rw [if_neg (by simp), parse_spell _ _ hd (by omega), hs]
    rw [hp]
    unfold Lib.signless
    simp only
    rw [if_neg (by omega)]
theorem itoa_dd (n : Nat) : Lib.itoa (n : Int) = dd n := by unfold Lib.itoa; rw [if_neg (by omega)]; simp

/-! ### pieces at a byte -/
def segs (c : UInt8) : List UInt8 → List (List UInt8)
  | [] => [[]]
  | x :: r => if x = c then [] :: segs c r else (x :: (segs c r).headD []) :: (segs c r).tail
theorem segs_ne (c : UInt8) (s : List UInt8) : segs c s ≠ [] := by
  cases s with
  | nil => simp [segs]
  | cons x r => unfold segs; split <;> simp
theorem segs_split (c : UInt8) (s : List UInt8) : segs c s = (segs c s).headD [] :: (segs c s).tail := by
  match e : segs c s, segs_ne c s with
  | h :: t, _ => rfl
theorem segs_miss {c : UInt8} : ∀ {p : List UInt8}, c ∉ p → segs c p = [p]
  | [], _ => rfl
  | x :: r, h => by
    have h1 : x ≠ c := fun e => h (by simp [e])
    have h2 : c ∉ r := fun e => h (by simp [e])
    unfold segs
    rw [if_neg h1, segs_miss h2]; rfl
theorem segs_hit {c : UInt8} : ∀ {p : List UInt8} (r : List UInt8), c ∉ p → segs c (p ++ c :: r) = p :: segs c r
  | [], r, _ => by simp [segs]
  | x :: p, r, h => by
    have h1 : x ≠ c := fun e => h (by simp [e])
    have h2 : c ∉ p := fun e => h (by simp [e])
    rw [List.cons_append]
    rw [segs, if_neg h1, segs_hit r h2]; rfl
/-- pieces put together with c between -/
def joinC (c : UInt8) : List (List UInt8) → List UInt8
  | [] => []
  | [p] => p
  | p :: q :: r => p ++ c :: joinC c (q :: r)
theorem join_segs (c : UInt8) : ∀ s : List UInt8, joinC c (segs c s) = s
  | [] => rfl
  | x :: r => by
    have ih := join_segs c r
    rw [segs_split] at ih
    unfold segs
    by_cases h : x = c
    · rw [if_pos h, segs_split c r]
      simp only [joinC, List.nil_append]; rw [ih, h]
    · rw [if_neg h]
      match e : (segs c r).tail with
      | [] => rw [e] at ih; simp only [joinC] at ih ⊢; rw [ih]
      | q :: t => rw [e] at ih; simp only [joinC, List.cons_append] at ih ⊢; rw [ih]
theorem segs_no (c : UInt8) : ∀ s : List UInt8, ∀ p ∈ segs c s, c ∉ p
  | [], p, hp => by simp [segs] at hp; simp [hp]
  | x :: r, p, hp => by
    have ih := segs_no c r
    rw [segs_split] at ih
    unfold segs at hp
    by_cases h : x = c
    · rw [if_pos h] at hp
      rcases List.mem_cons.1 hp with rfl | hp
      · simp
      · exact segs_no c r p hp
    · rw [if_neg h] at hp
      rcases List.mem_cons.1 hp with rfl | hp
      · intro hc
        rcases List.mem_cons.1 hc with e | hc
        · exact h e.symm
        · exact ih _ (by simp) hc
      · exact ih _ (by simp [hp])
theorem segs_length (c : UInt8) : ∀ s : List UInt8, (segs c s).length = s.count c + 1
  | [] => rfl
  | x :: r => by
    have ih := segs_length c r
    rw [segs_split, List.length_cons] at ih
    unfold segs
    by_cases h : x = c
    · rw [if_pos h, h, List.count_cons_self, List.length_cons, segs_length c r]
    · rw [if_neg h, List.count_cons_of_ne h, List.length_cons, ih]

/-- what Lib.index finds, at one byte -/
theorem index_hit1 {c : UInt8} : ∀ {p : List UInt8} (r : List UInt8), c ∉ p → Lib.index (p ++ c :: r) [c] = p.length
  | [], r, _ => by rw [List.nil_append, Lib.index]; simp [List.isPrefixOf]
  | x :: p, r, h => by
    have h1 : x ≠ c := fun e => h (by simp [e])
    have ih := index_hit1 r (fun e => h (by simp [e]) : c ∉ p)
    have hp : ([c] : List UInt8).isPrefixOf (x :: (p ++ c :: r)) = false := by simp [List.isPrefixOf, Ne.symm h1]
    rw [List.cons_append, Lib.index, hp, ih]
    have h2 : ((p.length : Int) == -1) = false := by rw [beq_eq_false_iff_ne]; omega
    simp [h2]
theorem index_miss1 {c : UInt8} : ∀ {p : List UInt8}, c ∉ p → Lib.index p [c] = -1
  | [], _ => by simp [Lib.index]
  | x :: p, h => by
    have h1 : x ≠ c := fun e => h (by simp [e])
    have ih := index_miss1 (fun e => h (by simp [e]) : c ∉ p)
    have hp : ([c] : List UInt8).isPrefixOf (x :: p) = false := by simp [List.isPrefixOf, Ne.symm h1]
    rw [Lib.index, hp, ih]; simp
theorem cut_first {c : UInt8} : ∀ {s : List UInt8}, c ∈ s → ∃ p r, s = p ++ c :: r ∧ c ∉ p
  | x :: s, h => by
    by_cases hx : x = c
    · exact ⟨[], s, by simp [hx], by simp⟩
    · obtain ⟨p, r, rfl, hp⟩ := cut_first ((List.mem_cons.1 h).resolve_left (fun e => hx e.symm))
      refine ⟨x :: p, r, rfl, fun e => ?_⟩
      rcases List.mem_cons.1 e with e | e
      · exact hx e.symm
      · exact hp e
theorem splitK_segs (c : UInt8) : ∀ (k : Nat) (s : List UInt8), s.count c ≤ k → Lib.splitK [c] 0 k s = segs c s
  | 0, s, h => by
    rw [segs_miss (List.count_eq_zero.1 (by omega))]; rfl
  | k + 1, s, h => by
    by_cases hc : c ∈ s
    · obtain ⟨p, r, rfl, hp⟩ := cut_first hc
      rw [Lib.splitK, index_hit1 r hp, segs_hit r hp]
      have h2 : ((p.length : Int) == -1) = false := by rw [beq_eq_false_iff_ne]; omega
      rw [h2, if_neg (by simp)]
      have e1 : (p ++ c :: r).take ((p.length : Int).toNat + 0) = p := by simp
      have e2 : (p ++ c :: r).drop ((p.length : Int).toNat + [c].length) = r := by simp
      rw [e1, e2, splitK_segs c k r (by rw [List.count_append, List.count_cons_self] at h; omega)]
    · rw [Lib.splitK, index_miss1 hc, segs_miss hc]; rfl
theorem splitB_segs (c : UInt8) (s : ByteArray) : (Lib.splitB ⟨#[c]⟩ 0 (Lib.countB s ⟨#[c]⟩) s).map (·.data.toList) = segs c s.data.toList := by
  rw [Lib.splitB_data]
  refine splitK_segs c _ _ ?_
  have : Lib.countB s ⟨#[c]⟩ = Lib.count s.data.toList [c] := rfl
  rw [this, Lib.count_one]
  exact Nat.le_refl _
theorem splitB_len (c : UInt8) (s : ByteArray) : Lib.countB s ⟨#[c]⟩ + 1 = (segs c s.data.toList).length := by
  have h := congrArg List.length (splitB_segs c s)
  have h1 : 1 ≤ (⟨#[c]⟩ : ByteArray).size := Nat.le_refl 1
  have h2 := Lib.splitB_all ⟨#[c]⟩ h1 0 _ s rfl
  rw [List.length_map, h2] at h
  exact h

/-! ### texts of addresses -/
def addrT (a : Nat) : List UInt8 := dd (a / 16777216) ++ 46 :: (dd (a / 65536 % 256) ++ 46 :: (dd (a / 256 % 256) ++ 46 :: dd (a % 256)))
theorem no_dd {c : UInt8} (h : c.toNat < 48 ∨ 57 < c.toNat) (n : Nat) : c ∉ dd n := fun hc => by have := dd_digits n c hc; omega
theorem no_dot (n : Nat) : (46 : UInt8) ∉ dd n := no_dd (by decide) n
theorem segs_addr (a : Nat) : segs 46 (addrT a) = [dd (a / 16777216), dd (a / 65536 % 256), dd (a / 256 % 256), dd (a % 256)] := by
  unfold addrT
  rw [segs_hit _ (no_dot _), segs_hit _ (no_dot _), segs_hit _ (no_dot _), segs_miss (no_dot _)]
theorem addrT_inj {a b : Nat} (h : addrT a = addrT b) : a = b := by
  have := congrArg (segs 46) h
  rw [segs_addr, segs_addr] at this
  simp only [List.cons.injEq, and_true] at this
  obtain ⟨h1, h2, h3, h4⟩ := this
  have h1 := dd_inj h1; have h2 := dd_inj h2; have h3 := dd_inj h3; have h4 := dd_inj h4
  omega
theorem addr_of_segs {s : List UInt8} {n0 n1 n2 n3 : Nat} (h : segs 46 s = [dd n0, dd n1, dd n2, dd n3]) (h0 : n0 < 256) (h1 : n1 < 256) (h2 : n2 < 256) (h3 : n3 < 256) :
    s = addrT (((n0 * 256 + n1) * 256 + n2) * 256 + n3) := by
  rw [← join_segs 46 s, h]
  unfold addrT joinC
  have e0 : (((n0 * 256 + n1) * 256 + n2) * 256 + n3) / 16777216 = n0 := by omega
  have e1 : (((n0 * 256 + n1) * 256 + n2) * 256 + n3) / 65536 % 256 = n1 := by omega
  have e2 : (((n0 * 256 + n1) * 256 + n2) * 256 + n3) / 256 % 256 = n2 := by omega
  have e3 : (((n0 * 256 + n1) * 256 + n2) * 256 + n3) % 256 = n3 := by omega
  rw [e0, e1, e2, e3]
  rfl
theorem no_addr {c : UInt8} (h : c.toNat < 46 ∨ 57 < c.toNat ∨ c.toNat = 47) (a : Nat) : c ∉ addrT a := by
  have hd := fun n => no_dd (c := c) (by omega) n
  have h46 : c ≠ 46 := fun e => by subst e; revert h; decide
  unfold addrT
  simp [hd, h46]
theorem join_addr (a : Nat) : Lib.join [dd (a / 16777216), dd (a / 65536 % 256), dd (a / 256 % 256), dd (a % 256)] [46] = addrT a := by
  unfold Lib.join addrT
  simp [List.intercalate]
theorem dd_length_le {n : Nat} (h : n < 1000) : (dd n).length ≤ 3 := by
  by_cases h1 : n < 10
  · rw [dd_small h1]; simp
  · rw [dd_big h1]
    by_cases h2 : n / 10 < 10
    · rw [dd_small h2]; simp
    · rw [dd_big h2, dd_small (by omega)]; simp
theorem addrT_length (a : Nat) (h : a < 4294967296) : (addrT a).length ≤ 15 := by
  have h1 := dd_length_le (n := a / 16777216) (by omega)
  have h2 := dd_length_le (n := a / 65536 % 256) (by omega)
  have h3 := dd_length_le (n := a / 256 % 256) (by omega)
  have h4 := dd_length_le (n := a % 256) (by omega)
  unfold addrT
  simp only [List.length_append, List.length_cons]
  omega
/-! ### texts of nets -/
def netT (a k : Nat) : List UInt8 := addrT a ++ 47 :: dd k
theorem segs_net (a k : Nat) : segs 47 (netT a k) = [addrT a, dd k] := by
  unfold netT
  rw [segs_hit _ (no_addr (by decide) a), segs_miss (no_dd (by decide) k)]
theorem cut_net (a k : Nat) : Lib.cut (netT a k) [47] = (addrT a, dd k, true) := by
  unfold netT Lib.cut
  rw [index_hit1 _ (no_addr (by decide) a), if_pos (by omega)]
  simp
theorem netT_inj {a b k j : Nat} (h : netT a k = netT b j) : a = b ∧ k = j := by
  have := congrArg (segs 47) h
  rw [segs_net, segs_net] at this
  simp only [List.cons.injEq, and_true] at this
  exact ⟨addrT_inj this.1, dd_inj this.2⟩
theorem net_of_segs {s : List UInt8} {a k : Nat} (h : segs 47 s = [addrT a, dd k]) : s = netT a k := by
  rw [← join_segs 47 s, h]; rfl
theorem netT_length (a k : Nat) (h : a < 4294967296) (hk : k ≤ 32) : (netT a k).length ≤ 19 := by
  have h1 := addrT_length a h
  have h2 := dd_length_le (n := k) (by omega)
  unfold netT
  simp only [List.length_append, List.length_cons]
  omega
end Go.Proofs.YtgdlkjahlajcpaaGreatDoor
namespace Go.Proofs.YtgdlkjahlajcpaaGreatDoor
open Go.ChangeShapes Go.WideShapes Go.ChangeAt Go.RowKit

theorem block_of_add (a : Addr) (n : Nat) : (a.add n).block = a.block := by unfold Addr.add; split <;> rfl
theorem addr_add (g o j : Nat) : (⟨g, o, none⟩ : Addr).add j = ⟨g, o + j, none⟩ := by unfold Addr.add; split <;> simp_all
theorem add_of_add (a : Addr) (i j : Nat) : (a.add i).add j = a.add (i + j) := by
  unfold Addr.add
  by_cases hi : i = 0 <;> by_cases hj : j = 0 <;> simp [hi, hj, Nat.add_assoc]

/-- The slice at A of n elements of so many cells holds xs, and lies below block B. -/
def Reads (w : World) (B size : Nat) (A : Option Addr) (n : Nat) (xs : List Value) : Prop :=
  xs.length = n * size ∧ (0 < n → ∃ ad, A = some ad ∧ ad.block < B ∧ ∀ j u, xs[j]? = some u → w.cell? (ad.add j) = some u)

section
variable {w w' : World} {B B' size n : Nat} {A : Option Addr} {xs : List Value}
theorem Reads.none_ : Reads w B size A 0 [] := ⟨by simp, fun h => absurd h (by omega)⟩
theorem Reads.at_ {k : Nat} (h : Reads w B 1 A n xs) (hk : k < n) : ∃ ad u, A = some ad ∧ ad.block < B ∧ xs[k]? = some u ∧ w.cell? (ad.add k) = some u := by
  obtain ⟨ad, e, hb, hc⟩ := h.2 (by omega)
  have hl : k < xs.length := by have := h.1; omega
  exact ⟨ad, xs[k], e, hb, List.getElem?_eq_getElem hl, hc k _ (List.getElem?_eq_getElem hl)⟩
theorem Reads.keep (h : Reads w B size A n xs) (hk : ∀ p : Addr, p.block < B → w'.cell? p = w.cell? p) : Reads w' B size A n xs :=
  ⟨h.1, fun hn => by
    obtain ⟨ad, e, hb, hc⟩ := h.2 hn
    exact ⟨ad, e, hb, fun j u hu => (hk _ (by rw [block_of_add]; exact hb)).trans (hc j u hu)⟩⟩
theorem Reads.more (h : Reads w B size A n xs) (hB : B ≤ B') : Reads w B' size A n xs :=
  ⟨h.1, fun hn => by
    obtain ⟨ad, e, hb, hc⟩ := h.2 hn
    exact ⟨ad, e, by omega, hc⟩⟩
theorem Reads.below (h : Reads w B size A n xs) (hb : Below B w w') : Reads w' B size A n xs := h.keep fun _ hp => hb.cell hp
theorem Reads.drew (h : Reads w B size A n xs) : Reads w.drew B size A n xs := h
theorem Reads.drewN (h : Reads w B size A n xs) (k : Nat) : Reads (w.drewN k) B size A n xs := h
theorem Reads.alloc (h : Reads w B size A n xs) (hB : B ≤ w.heap.size) (o : Obj) : Reads (w.alloc o) B size A n xs := h.keep fun p hp => World.cell?_alloc_lt w o p (by omega)
theorem Reads.setCell (h : Reads w B size A n xs) {p : Addr} (hB : B ≤ p.block) (u : Value) : Reads (w.setCell p u) B size A n xs :=
  h.keep fun q hq => World.cell?_setCell_other w p q u (fun e => by subst e; omega)
theorem Reads.grown (h : Reads w B size A n xs) {row : Option Nat} (hg : w.grownBy w' row) (hB : B ≤ w.heap.size) (hr : ∀ g, row = some g → B ≤ g) : Reads w' B size A n xs :=
  h.keep fun p hp => World.cell?_of_block (hg.block p.block (by omega) (fun e => by have := hr _ e.symm; omega))
theorem Reads.of_own {base : Nat} {e : TypeId} {c : Nat} (h : w.ownsRow base e size (.slice A n c) n xs) : Reads w w.heap.size size A n xs := by
  refine ⟨h.1, fun hn => ?_⟩
  obtain ⟨g, cap, hv, _, hlt⟩ := h.form hn
  have hA : A = some ⟨g, 0, none⟩ := by injection hv
  subst hA
  exact ⟨_, rfl, hlt, h.cells (g := g) rfl⟩
end

theorem bcell {W w1 : World} (hb : Below W.heap.size W w1) : (∀ b o, b < W.heap.size → w1.cell? ⟨b, o, none⟩ = W.cell? ⟨b, o, none⟩) ∧ (∀ b o, b < W.heap.size → w1.frozen? ⟨b, o, none⟩ = W.frozen? ⟨b, o, none⟩) :=
  ⟨fun b o h => hb.cell (p := ⟨b, o, none⟩) h, fun b o h => hb.frozen (p := ⟨b, o, none⟩) h⟩
theorem below_drewN {B : Nat} {a w : World} (h : Below B a w) (n : Nat) : Below B a (w.drewN n) := ⟨h.os, h.tape, h.output, h.size, h.block⟩
theorem ret_int {k : IntKind} {a b : Int} (h : a = b) : Ending.returned (.int k a) = .returned (.int k b) := by rw [h]
theorem ret_bool {a b : Bool} (h : a = b) : Ending.returned (.bool a) = .returned (.bool b) := by rw [h]

/-- The bytes l: a slice at A reads as them. -/
def Bytes (w : World) (B : Nat) (A : Option Addr) (l : List Int) : Prop :=
  Reads w B 1 A l.length (l.map (Value.int .u8)) ∧ ∀ x ∈ l, 0 ≤ x ∧ x ≤ 255

theorem Bytes.at_ {w : World} {B : Nat} {A : Option Addr} {l : List Int} (h : Bytes w B A l) {k : Nat} (hk : k < l.length) :
    ∃ ad x, A = some ad ∧ ad.block < B ∧ w.cell? (ad.add k) = some (.int .u8 x) ∧ 0 ≤ x ∧ x ≤ 255 ∧ Hid (l[k]? = some x) := by
  obtain ⟨ad, u, hA, hb, hu, hc⟩ := h.1.at_ hk
  have e : l[k]? = some l[k] := List.getElem?_eq_getElem hk
  have hx := h.2 _ (List.getElem_mem hk)
  refine ⟨ad, l[k], hA, hb, ?_, hx.1, hx.2, Lib.hid e⟩
  rw [hc, ← hu, List.getElem?_map, e]; rfl
theorem Bytes.at2 {w : World} {B : Nat} {A : Option Addr} {l : List Int} (h : Bytes w B A l) {k : Nat} (hk : k < l.length) :
    ∃ b o x, A = some ⟨b, o, none⟩ ∧ b < B ∧ w.cell? ⟨b, o + k, none⟩ = some (.int .u8 x) ∧ 0 ≤ x ∧ x ≤ 255 ∧ Hid (l[k]? = some x) := by
  obtain ⟨⟨b, o, s⟩, x, hA, hb, hc, h0, h1, hx⟩ := h.at_ hk
  obtain ⟨⟨b', o', s'⟩, x', hA', _, hc', _⟩ := h.at_ (k := 0) (by omega)
  rw [hA] at hA'; injection hA' with hA'; injection hA' with e1 e2 e3
  subst e1; subst e2; subst e3
  have hs : s = none := by simpa [Addr.add] using World.cell?_spot hc'
  subst hs
  exact ⟨b, o, x, hA, hb, by rw [← addr_add]; exact hc, h0, h1, hx⟩
theorem Bytes.below {w w' : World} {B : Nat} {A : Option Addr} {l : List Int} (h : Bytes w B A l) (hb : Below B w w') : Bytes w' B A l := ⟨h.1.below hb, h.2⟩
theorem Bytes.alloc {w : World} {B : Nat} {A : Option Addr} {l : List Int} (h : Bytes w B A l) (hB : B ≤ w.heap.size) (o : Obj) : Bytes (w.alloc o) B A l := ⟨h.1.alloc hB o, h.2⟩
theorem Bytes.more {w : World} {B B' : Nat} {A : Option Addr} {l : List Int} (h : Bytes w B A l) (hb : B ≤ B') : Bytes w B' A l := ⟨h.1.more hb, h.2⟩
/-- A new block reads as what it was made of. -/
theorem Reads.new (w : World) (t : TypeId) (size n : Nat) (cs : Array Value) (hn : cs.size = n * size) :
    Reads (w.alloc (.cells cs t)) (w.heap.size + 1) size (some ⟨w.heap.size, 0, none⟩) n cs.toList := by
  refine ⟨by simpa using hn, fun _ => ⟨_, rfl, Nat.lt_succ_self _, fun j u hu => ?_⟩⟩
  rw [addr_add, cell_of_row _ w.heap.size _ cs t (0, 0) (heap_alloc_new w _)]
  simpa using hu
theorem Bytes.new (w : World) (t : TypeId) (cs : Array Value) (l : List Int) (hcs : cs.toList = l.map (Value.int .u8)) (hr : ∀ x ∈ l, 0 ≤ x ∧ x ≤ 255) :
    Bytes (w.alloc (.cells cs t)) (w.heap.size + 1) (some ⟨w.heap.size, 0, none⟩) l := by
  refine ⟨?_, hr⟩
  rw [← hcs]
  exact Reads.new w t 1 l.length cs (by have := congrArg List.length hcs; simpa using this)

section
variable {P : Program} (w : World)

theorem run_append_of_nil (base : Nat) (t ty e : TypeId) (i : TypeInfo) (size : Nat) (ht : P.underlying t = some (.slice e)) (hi : P.info? e = some i)
    (v : Value) (n : Nat) (xs : List Value) (hown : w.ownsRow base e size v n xs) (c : Nat) : (Builtin.append_ #[t, t] ty #[v, .slice none 0 c]).run P w = .ok v w := by
  rcases hown.2 with ⟨rfl, rfl⟩ | ⟨g, cap, cur, rfl, _, _, hnc, _⟩
  · simp [Builtin.append_, run_underlying ht, sizeOf, typeInfo, hi, Builtin.lenOf, Builtin.firstCells]
  · simp [Builtin.append_, run_underlying ht, sizeOf, typeInfo, hi, Builtin.lenOf, Builtin.firstCells, hnc, storeCells]

theorem run_append_any (base : Nat) (t ty e : TypeId) (i : TypeInfo) (z : Value) (size bytes : Nat) (ht : P.underlying t = some (.slice e)) (hi : P.info? e = some i) (hz : i.zero = some z)
    (hsize : i.size = size) (hby : i.bytes = bytes) (hzs : z.cells.size = size) (hsz : 0 < size)
    (v : Value) (n : Nat) (xs : List Value) (hown : w.ownsRow base e size v n xs)
    (B : Nat) (A : Option Addr) (m c : Nat) (news : List Value) (hr : Reads w B size A m news) (h1 : ∀ u ∈ news, u.oneCell' = true)
    (h63 : n + m ≤ maxLen) (hbytes : (n + m) * bytes ≤ 140737488355328) (hbase : base ≤ w.heap.size) :
    ∃ v' w', (Builtin.append_ #[t, t] ty #[v, .slice A m c]).run P w = .ok v' w' ∧ w'.ownsRow base e size v' (n + m) (xs ++ news) ∧ w.grownBy w' v.ownBlock ∧
      (v'.ownBlock = v.ownBlock ∨ v'.ownBlock = some w.heap.size) := by
  rcases A with _ | ad
  · have hm : m = 0 := by
      rcases Nat.eq_zero_or_pos m with h0 | h0
      · exact h0
      · obtain ⟨ad, h, _⟩ := hr.2 h0
        cases h
    subst hm
    have hn : news = [] := List.eq_nil_of_length_eq_zero (by simpa using hr.1)
    subst hn
    exact ⟨v, w, run_append_of_nil w base t ty e i size ht hi v n xs hown c, by simpa using hown, World.grownBy.refl w _, .inl rfl⟩
  · have hcells : ∀ j u, news[j]? = some u → w.cell? (ad.add j) = some u := by
      intro j u hu
      rcases Nat.eq_zero_or_pos m with h0 | h0
      · subst h0
        have hn : news = [] := List.eq_nil_of_length_eq_zero (by simpa using hr.1)
        subst hn
        simp at hu
      · obtain ⟨ad', h, _, hc⟩ := hr.2 h0
        injection h with h
        subst h
        exact hc j u hu
    obtain ⟨v', w', hrun, h2, h3, _, h5⟩ := run_append_own_at (P := P) w base t ty e i z size bytes ht hi hz hsize hby hzs hsz v n xs hown ad m c news hr.1 hcells h1 h63 hbytes hbase
    exact ⟨v', w', hrun, h2, h3, h5⟩

theorem wp_append_any {o : Oper} {a : Act} {K : Act → World → Prop} {Q : Exit → Act → World → Prop} (s x : Operand) (t : TypeId)
    (ho : o.op = .call { callee := .builtin .append, args := #[s, x], argTypes := #[t, t] })
    (base : Nat) (e : TypeId) (i : TypeInfo) (z : Value) (size bytes : Nat) (ht : P.underlying t = some (.slice e)) (hi : P.info? e = some i) (hz : i.zero = some z)
    (hsize : i.size = size) (hby : i.bytes = bytes) (hzs : z.cells.size = size) (hsz : 0 < size)
    (v : Value) (n : Nat) (xs : List Value) (hs : a.eval s = v) (hown : w.ownsRow base e size v n xs)
    (B : Nat) (A : Option Addr) (m c : Nat) (news : List Value) (hx : a.eval x = .slice A m c) (hr : Reads w B size A m news) (h1 : ∀ u ∈ news, u.oneCell' = true)
    (h63 : n + m ≤ maxLen) (hbytes : (n + m) * bytes ≤ 140737488355328) (hbase : base ≤ w.heap.size)
    (h : ∀ v' w', w'.ownsRow base e size v' (n + m) (xs ++ news) → w.grownBy w' v.ownBlock → (v'.ownBlock = v.ownBlock ∨ v'.ownBlock = some w.heap.size) → K (a.put o.dst v') w') : o.wp P a w K Q := by
  obtain ⟨v', w', hrun, h2, h3, h4⟩ := run_append_any (P := P) w base t o.type e i z size bytes ht hi hz hsize hby hzs hsz v n xs hown B A m c news hr h1 h63 hbytes hbase
  unfold Oper.wp execOp
  simp only [ho, resolve, invoke, builtin, Sem.run_bind, Sem.run_pure, Result.andThen_ok, List.map_toArray, List.map_cons, List.map_nil, hs, hx, hrun]
  exact h v' w' h2 h3 h4

theorem wpList_append_any {ops : Array Oper} {rest : List Oper} {o : Oper} {a : Act} {Q : Exit → Act → World → Prop} (hgd : o.guard = none) (s x : Operand) (t : TypeId)
    (ho : o.op = .call { callee := .builtin .append, args := #[s, x], argTypes := #[t, t] })
    (base : Nat) (e : TypeId) (i : TypeInfo) (z : Value) (size bytes : Nat) (ht : P.underlying t = some (.slice e)) (hi : P.info? e = some i) (hz : i.zero = some z)
    (hsize : i.size = size) (hby : i.bytes = bytes) (hzs : z.cells.size = size) (hsz : 0 < size)
    (v : Value) (n : Nat) (xs : List Value) (hs : a.eval s = v) (hown : w.ownsRow base e size v n xs)
    (B : Nat) (A : Option Addr) (m c : Nat) (news : List Value) (hx : a.eval x = .slice A m c) (hr : Reads w B size A m news) (h1 : ∀ u ∈ news, u.oneCell' = true)
    (h63 : n + m ≤ maxLen) (hbytes : (n + m) * bytes ≤ 140737488355328) (hbase : base ≤ w.heap.size)
    (h : ∀ v' w', w'.ownsRow base e size v' (n + m) (xs ++ news) → w.grownBy w' v.ownBlock → (v'.ownBlock = v.ownBlock ∨ v'.ownBlock = some w.heap.size) → wpList P ops Q rest (a.put o.dst v') w') : wpList P ops Q (o :: rest) a w :=
  wpList_plain hgd fun _ hK => wp_append_any w s x t ho base e i z size bytes ht hi hz hsize hby hzs hsz v n xs hs hown B A m c news hx hr h1 h63 hbytes hbase fun v' w' h2 h3 h4 => hK _ _ (h v' w' h2 h3 h4)

theorem step_append_any {ops : Array Oper} {o : Oper} {a : Act} {K : Act → World → Prop} {Q : Exit → Act → World → Prop} {E : Prop} (hgd : o.guard = none) (s x : Operand) (t : TypeId)
    (ho : o.op = .call { callee := .builtin .append, args := #[s, x], argTypes := #[t, t] })
    (base : Nat) (e : TypeId) (i : TypeInfo) (z : Value) (size bytes : Nat) (ht : P.underlying t = some (.slice e)) (hi : P.info? e = some i) (hz : i.zero = some z)
    (hsize : i.size = size) (hby : i.bytes = bytes) (hzs : z.cells.size = size) (hsz : 0 < size)
    (v : Value) (n : Nat) (xs : List Value) (hs : a.eval s = v) (hown : w.ownsRow base e size v n xs)
    (B : Nat) (A : Option Addr) (m c : Nat) (news : List Value) (hx : a.eval x = .slice A m c) (hr : Reads w B size A m news) (h1 : ∀ u ∈ news, u.oneCell' = true)
    (h63 : n + m ≤ maxLen) (hbytes : (n + m) * bytes ≤ 140737488355328) (hbase : base ≤ w.heap.size)
    (h : ∀ v' w', w'.ownsRow base e size v' (n + m) (xs ++ news) → w.grownBy w' v.ownBlock → (v'.ownBlock = v.ownBlock ∨ v'.ownBlock = some w.heap.size) → K (a.put o.dst v') w') :
    if Region.wanted o (yielded ops a.tmps) = true then Oper.wp P o a w K Q else E := by
  have hw : Region.wanted o (yielded ops a.tmps) = true := by simp [Region.wanted, hgd]
  rw [if_pos hw]
  exact wp_append_any w s x t ho base e i z size bytes ht hi hz hsize hby hzs hsz v n xs hs hown B A m c news hx hr h1 h63 hbytes hbase h
end

theorem own_form {w : World} {base : Nat} {e : TypeId} {size : Nat} {v : Value} {n : Nat} {xs : List Value} (h : w.ownsRow base e size v n xs) : ∃ A c, v = .slice A n c := by
  rcases h.2 with ⟨rfl, rfl⟩ | ⟨g, cap, cur, rfl, _⟩
  · exact ⟨none, 0, rfl⟩
  · exact ⟨some ⟨g, 0, none⟩, cap, rfl⟩
theorem own_blk {w : World} {base : Nat} {e : TypeId} {size : Nat} {v : Value} {n : Nat} {xs : List Value} (h : w.ownsRow base e size v n xs) : ∀ k, v.ownBlock = some k → base ≤ k ∧ k < w.heap.size := h.lt
/-- A value that is a slice and reads as bytes. -/
def VBytes (w : World) (B : Nat) (v : Value) (l : List Int) : Prop := ∃ A n c, v = .slice A n c ∧ n = l.length ∧ Bytes w B A l
theorem VBytes.of_own {w : World} {base : Nat} {e : TypeId} {v : Value} {n : Nat} {l : List Int} (h : w.ownsRow base e 1 v n (l.map (Value.int .u8))) (hr : ∀ x ∈ l, 0 ≤ x ∧ x ≤ 255) : VBytes w w.heap.size v l := by
  obtain ⟨A, c, rfl⟩ := own_form h
  have hn : n = l.length := by have := h.1; simp at this; omega
  subst hn
  exact ⟨A, l.length, c, rfl, rfl, Reads.of_own h, hr⟩
theorem VBytes.below {w w' : World} {B : Nat} {v : Value} {l : List Int} (h : VBytes w B v l) (hb : Below B w w') : VBytes w' B v l := by
  obtain ⟨A, n, c, e, e2, h⟩ := h; exact ⟨A, n, c, e, e2, h.below hb⟩
/-- A row of the call's own, of bytes. -/
def OwnB (E : TypeId) (w : World) (base : Nat) (v : Value) (l : List Int) : Prop := w.ownsRow base E 1 v l.length (l.map (Value.int .u8)) ∧ ∀ x ∈ l, 0 ≤ x ∧ x ≤ 255
theorem OwnB.v {E : TypeId} {w : World} {base : Nat} {v : Value} {l : List Int} (h : OwnB E w base v l) : VBytes w w.heap.size v l := VBytes.of_own h.1 h.2
theorem OwnB.empty (E : TypeId) (w : World) : OwnB E (w.alloc (.cells #[] E)) w.heap.size (.slice (some ⟨w.heap.size, 0, none⟩) 0 0) [] :=
  ⟨World.ownsRow_made w #[] 0 (Nat.le_refl _) (by decide) rfl, by simp⟩

/-- append on a row of bytes of the call's own. -/
theorem wpList_append_bytes {P : Program} (w : World) {ops : Array Oper} {rest : List Oper} {o : Oper} {a : Act} {Q : Exit → Act → World → Prop} (hgd : o.guard = none) (s x : Operand) (t : TypeId)
    (ho : o.op = .call { callee := .builtin .append, args := #[s, x], argTypes := #[t, t] })
    (base : Nat) (e : TypeId) (ht : P.underlying t = some (.slice e)) (hinfo : (P.info? e).map (fun i => (i.zero, i.size, i.bytes)) = some (some (.int .u8 0), 1, 1))
    (v : Value) (l : List Int) (hs : a.eval s = v) (hown : OwnB e w base v l)
    (B : Nat) (A : Option Addr) (m c : Nat) (l2 : List Int) (hx : a.eval x = .slice A m c) (hm : m = l2.length) (hr : Bytes w B A l2)
    (hbytes : l.length + l2.length ≤ 140737488355328) (hbase : base ≤ w.heap.size)
    (h : ∀ v' w', OwnB e w' base v' (l ++ l2) → w.grownBy w' v.ownBlock → wpList P ops Q rest (a.put o.dst v') w') : wpList P ops Q (o :: rest) a w := by
  subst hm
  obtain ⟨i0, hi, hz0, hz1, hz2⟩ := info_parts hinfo
  refine wpList_append_any w hgd s x t ho base e i0 _ 1 1 ht hi hz0 hz1 hz2 rfl (by omega) v l.length _ hs hown.1 B A l2.length c _ hx hr.1 ?_ (by simp only [maxLen]; omega) (by omega) hbase ?_
  · intro u hu
    obtain ⟨y, _, rfl⟩ := List.mem_map.1 hu
    rfl
  · intro v' w' h1 h2 _
    refine h v' w' ⟨by simpa using h1, fun y hy => ?_⟩ h2
    rcases List.mem_append.1 hy with hy | hy
    · exact hown.2 y hy
    · exact hr.2 y hy
/-- Behind an append on a row of the call's own nothing below its base has turned. -/
theorem below_grown {B : Nat} {a w w' : World} {v : Value} {base : Nat} {e : TypeId} {size n : Nat} {xs : List Value} (h : Below B a w) (hown : w.ownsRow base e size v n xs) (hg : w.grownBy w' v.ownBlock) (hB : B ≤ base) (hbw : B ≤ w.heap.size) : Below B a w' :=
  h.grown hg hbw (fun k hk => Nat.le_trans hB (hown.lt k hk).1)
end Go.Proofs.YtgdlkjahlajcpaaGreatDoor
