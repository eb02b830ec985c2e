/- A table of nets in plain lists: what it holds, the longest one that has an address, all of them in order; no program in sight. pref.Has, In, Less, Up, Halves and Common, as contracts in plain numbers. -/
import Derived.Test.YtgdlkjahlajcpaaGreatDoorAB
import Derived.WalkLawsBesides
import Derived.Deep.RegionHeld3
namespace Go.Proofs.YtgdlkjahlajcpaaGreatDoor
open Go.ChangeShapes Go.WideShapes Go.ChangeAt Go.RowKit
set_option linter.unusedVariables false

abbrev Nt := Int × Int
def bitI (a : Int) (i : Nat) : Int := a / 2 ^ (31 - i) % 2
theorem bitI_01 (a : Int) (i : Nat) : bitI a i = 0 ∨ bitI a i = 1 := by unfold bitI; omega
theorem fl_halves (h x : Int) (hh : 0 < h) : fl h x = fl (h * 2) x + (if x / h % 2 = 1 then h else 0) := by
  have e := fl_fl h 2 x hh (by omega)
  have h0 := fl_mul h x hh
  have h1 := fl_mul (h * 2) (fl h x) (by omega)
  rw [e] at h1
  rw [h1, h0, Int.mul_ediv_mul_of_pos _ _ hh]
  have h2 := Int.mul_ediv_add_emod (x / h) 2
  have h3 : x / h % 2 = 0 ∨ x / h % 2 = 1 := by omega
  rcases h3 with h3 | h3
  · rw [if_neg (by omega), Int.add_zero]
    have : x / h = 2 * (x / h / 2) := by omega
    rw [Int.mul_assoc, ← this]
  · rw [if_pos h3]
    have : x / h = 2 * (x / h / 2) + 1 := by omega
    rw [Int.mul_assoc]
    have e2 : h * (x / h) = h * (2 * (x / h / 2) + 1) := by rw [← this]
    rw [e2, Int.mul_add, Int.mul_one]
theorem trim_step (x : Nt) (i : Nat) (hi : i < 32) : trimN x (i + 1) = if bitI x.1 i = 1 then halfQ (trimN x i) else halfP (trimN x i) := by
  have e : (2 : Int) ^ (31 - i) = lowI (i + 1) := by unfold lowI; rw [show 32 - (i + 1) = 31 - i from by omega]
  have h := fl_halves (lowI (i + 1)) x.1 (lowI_pos _)
  rw [← low_succ hi] at h
  unfold trimN halfQ halfP bitI
  rw [e, h]
  simp only [Int.toNat_natCast]
  split
  · simp
  · simp
theorem trim_zero {x : Nt} (h : is32 x.1) : trimN x 0 = (0, 0) := by
  unfold trimN fl
  have e : lowI 0 = 4294967296 := by decide
  rw [e]
  have h1 := h.1; have h2 := h.2
  have : x.1 % 4294967296 = x.1 := Int.emod_eq_of_lt h1 (by omega)
  rw [this]; simp
theorem trim_self {x : Nt} {k : Nat} (hk : x.2 = k) (h : fl (lowI k) x.1 = x.1) : trimN x k = x := by
  unfold trimN; rw [h, ← hk]
theorem trim_trim (x : Nt) {i j : Nat} (hij : i ≤ j) (hj : j ≤ 32) : trimN (trimN x j) i = trimN x i := by
  unfold trimN; simp only; rw [fl_low hij hj]
theorem trim_32 {a : Int} (h : is32 a) : trimN (a, 32) 32 = (a, 32) := by
  unfold trimN fl
  have e : lowI 32 = 1 := by decide
  rw [e]; simp
theorem trim_is {x : Nt} (h : is32 x.1) (k : Nat) : is32 (trimN x k).1 := fl_32 (lowI_pos k) h
theorem trim_halfP (x : Nt) {k : Nat} (hk : x.2 = k) (hl : k < 32) (h : fl (lowI k) x.1 = x.1) : trimN (halfP x) k = x := by
  unfold trimN halfP; simp only; rw [h, ← hk]
theorem trim_halfQ (x : Nt) {k : Nat} (hk : x.2 = k) (hl : k < 32) (h : fl (lowI k) x.1 = x.1) : trimN (halfQ x) k = x := by
  obtain ⟨a, l⟩ := x
  simp only at hk h
  subst hk
  have hn : netF (a, (k : Int)) = 0 := net_of (by omega) h
  have := half_up_q hl hn
  unfold trimN halfQ; simp only [Int.toNat_natCast]; rw [this]
theorem half_is {a : Int} {k : Nat} (hk : k < 32) (ha : is32 a) (hn : netF (a, (k : Int)) = 0) : is32 (a + lowI (k + 1)) := by
  have h0 := half_zero hk hn
  have hp := lowI_pos (k + 1)
  rw [← low_succ hk] at h0
  have e : (4294967296 : Int) = lowI k * 2 ^ k := by
    unfold lowI; rw [← Int.pow_add, show 32 - k + k = 32 from by omega]; decide
  have h1 := ha.1; have h2 := ha.2
  refine ⟨by omega, ?_⟩
  have hl := low_succ hk
  obtain ⟨q, hq⟩ := Int.dvd_of_emod_eq_zero h0
  have hlp := lowI_pos k
  have hq2 : q < 2 ^ k := by
    have : lowI k * q < lowI k * 2 ^ k := by rw [← e, ← hq]; omega
    exact Int.lt_of_mul_lt_mul_left this (by omega)
  have : lowI k * (q + 1) ≤ lowI k * 2 ^ k := Int.mul_le_mul_of_nonneg_left (by omega) (by omega)
  rw [← e, Int.mul_add, Int.mul_one, ← hq] at this
  omega

/-! ### What a table holds -/
def look : List (Nt × Int) → Nt → Option Int
  | [], _ => none
  | e :: r, x => if e.1 = x then some e.2 else look r x
def delM (m : List (Nt × Int)) (x : Nt) : List (Nt × Int) := m.filter fun e => !(e.1 == x)
def putM (m : List (Nt × Int)) (x : Nt) (v : Int) : List (Nt × Int) := delM m x ++ [(x, v)]
def keysM (m : List (Nt × Int)) : List Nt := m.map Prod.fst
theorem look_append (m m' : List (Nt × Int)) (x : Nt) : look (m ++ m') x = (look m x).or (look m' x) := by
  induction m with
  | nil => simp [look]
  | cons e r ih => simp only [List.cons_append, look]; split <;> simp_all
theorem look_none {m : List (Nt × Int)} {x : Nt} : look m x = none ↔ x ∉ keysM m := by
  induction m with
  | nil => simp [look, keysM]
  | cons e r ih =>
    simp only [look, keysM, List.map_cons, List.mem_cons, not_or]
    split
    · rename_i h; simp [h]
    · rename_i h; rw [ih]; exact ⟨fun h' => ⟨fun e' => h e'.symm, h'⟩, fun h' => h'.2⟩
theorem look_mem {m : List (Nt × Int)} {x : Nt} {v : Int} (h : look m x = some v) : (x, v) ∈ m := by
  induction m with
  | nil => simp [look] at h
  | cons e r ih =>
    simp only [look] at h
    split at h
    · rename_i h'; simp at h; subst h; subst h'; simp
    · simp [ih h]
theorem look_del (m : List (Nt × Int)) (x y : Nt) : look (delM m x) y = if y = x then none else look m y := by
  induction m with
  | nil => simp [look, delM]
  | cons e r ih =>
    unfold delM at ih ⊢
    rw [List.filter_cons]
    by_cases h : e.1 = x
    · rw [show (!(e.1 == x)) = false from by simp [h], if_neg (by simp), ih]
      by_cases h2 : y = x
      · rw [if_pos h2, if_pos h2]
      · rw [if_neg h2, if_neg h2]; simp only [look]; rw [if_neg (by rw [h]; exact fun e => h2 e.symm)]
    · rw [show (!(e.1 == x)) = true from by simp [h], if_pos rfl]
      simp only [look]
      rw [ih]
      by_cases h2 : e.1 = y
      · rw [if_pos h2, if_pos h2, if_neg (by rw [← h2]; exact h)]
      · rw [if_neg h2, if_neg h2]
theorem look_put (m : List (Nt × Int)) (x y : Nt) (v : Int) : look (putM m x v) y = if y = x then some v else look m y := by
  unfold putM
  rw [look_append, look_del]
  by_cases h : y = x
  · subst h; simp [look]
  · rw [if_neg h, if_neg h]
    simp only [look]
    rw [if_neg (fun e => h e.symm)]; simp
theorem del_none {m : List (Nt × Int)} {x : Nt} (h : look m x = none) : delM m x = m := by
  unfold delM
  rw [List.filter_eq_self]
  intro e he
  have := look_none.1 h
  simp only [keysM, List.mem_map, not_exists, not_and] at this
  have := this e he
  simp [this]
theorem keys_del (m : List (Nt × Int)) (x : Nt) : keysM (delM m x) = (keysM m).filter fun y => !(y == x) := by
  unfold keysM delM
  rw [List.filter_map]; rfl
structure MOk (m : List (Nt × Int)) : Prop where
  nodup : (keysM m).Nodup
  nets : ∀ e ∈ m, netF e.1 = 0 ∧ is32 e.1.1
  vals : ∀ e ∈ m, (Lit.int .i64 e.2).wf = true
  len : m.length ≤ 64
theorem MOk.nil : MOk [] := ⟨by simp [keysM], by simp, by simp, by simp⟩
theorem MOk.net {m : List (Nt × Int)} (h : MOk m) {x : Nt} (hx : look m x ≠ none) : netF x = 0 ∧ is32 x.1 := by
  obtain ⟨v, hv⟩ := Option.ne_none_iff_exists'.1 hx
  exact h.nets _ (look_mem hv)
theorem del_length {m : List (Nt × Int)} {x : Nt} (hn : (keysM m).Nodup) (h : look m x ≠ none) : (delM m x).length + 1 = m.length := by
  induction m with
  | nil => simp [look] at h
  | cons e r ih =>
    simp only [keysM, List.map_cons, List.nodup_cons] at hn
    by_cases he : e.1 = x
    · have : look r x = none := look_none.2 (by rw [← he]; exact hn.1)
      have h2 := del_none this
      unfold delM at h2 ⊢
      rw [List.filter_cons, show (!(e.1 == x)) = false from by simp [he], if_neg (by simp), h2]; simp
    · simp only [look] at h
      rw [if_neg he] at h
      have := ih hn.2 h
      unfold delM at this ⊢
      rw [List.filter_cons, show (!(e.1 == x)) = true from by simp [he], if_pos rfl]
      simp only [List.length_cons]; omega
theorem MOk.del {m : List (Nt × Int)} (h : MOk m) (x : Nt) : MOk (delM m x) := by
  refine ⟨by rw [keys_del]; exact h.nodup.filter _, fun e he => h.nets e (List.mem_filter.1 he).1, fun e he => h.vals e (List.mem_filter.1 he).1, ?_⟩
  have := List.length_filter_le (fun e : Nt × Int => !(e.1 == x)) m
  have := h.len
  unfold delM; omega
theorem put_length {m : List (Nt × Int)} (h : (keysM m).Nodup) (x : Nt) (v : Int) : (putM m x v).length = if look m x = none then m.length + 1 else m.length := by
  unfold putM
  rw [List.length_append]
  by_cases hx : look m x = none
  · rw [if_pos hx, del_none hx]; rfl
  · rw [if_neg hx]; have := del_length h hx; simp; omega
theorem MOk.put {m : List (Nt × Int)} (h : MOk m) {x : Nt} {v : Int} (hx : netF x = 0) (hi : is32 x.1) (hv : (Lit.int .i64 v).wf = true) (hl : look m x = none → m.length < 64) : MOk (putM m x v) := by
  have hd := h.del x
  refine ⟨?_, ?_, ?_, ?_⟩
  · unfold putM keysM
    rw [List.map_append, List.nodup_append]
    refine ⟨hd.nodup, by simp, ?_⟩
    intro a ha b hb
    simp only [List.map_cons, List.map_nil, List.mem_singleton] at hb
    subst hb
    have h2 := keys_del m b
    unfold keysM at h2
    rw [h2] at ha
    intro e
    subst e
    simp [List.mem_filter] at ha
  · intro e he
    unfold putM at he
    rcases List.mem_append.1 he with he | he
    · exact hd.nets e he
    · simp at he; subst he; exact ⟨hx, hi⟩
  · intro e he
    unfold putM at he
    rcases List.mem_append.1 he with he | he
    · exact hd.vals e he
    · simp at he; subst he; exact hv
  · rw [put_length h.nodup]
    have := h.len
    split
    · rename_i hx; have := hl hx; omega
    · omega

/-! ### The longest one that has an address -/
def fnd (m : List (Nt × Int)) (a : Int) : Nat → Option (Nat × Int)
  | 0 => none
  | i + 1 => match look m (trimN (a, 32) i) with
    | some v => some (i, v)
    | none => fnd m a i
theorem fnd_some {m : List (Nt × Int)} {a : Int} {i j : Nat} {v : Int} (h : fnd m a i = some (j, v)) : j < i ∧ look m (trimN (a, 32) j) = some v ∧ ∀ k, j < k → k < i → look m (trimN (a, 32) k) = none := by
  induction i with
  | zero => simp [fnd] at h
  | succ i ih =>
    simp only [fnd] at h
    cases hl : look m (trimN (a, 32) i) with
    | none =>
      rw [hl] at h
      obtain ⟨h1, h2, h3⟩ := ih h
      refine ⟨by omega, h2, fun k hk hk' => ?_⟩
      by_cases e : k = i
      · rw [e]; exact hl
      · exact h3 k hk (by omega)
    | some u =>
      rw [hl] at h
      simp only [Option.some.injEq, Prod.mk.injEq] at h
      obtain ⟨rfl, rfl⟩ := h
      exact ⟨by omega, hl, fun k hk hk' => by omega⟩
theorem fnd_none {m : List (Nt × Int)} {a : Int} {i : Nat} (h : fnd m a i = none) : ∀ k, k < i → look m (trimN (a, 32) k) = none := by
  induction i with
  | zero => intro k hk; omega
  | succ i ih =>
    simp only [fnd] at h
    cases hl : look m (trimN (a, 32) i) with
    | none =>
      rw [hl] at h
      intro k hk
      by_cases e : k = i
      · rw [e]; exact hl
      · exact ih h k (by omega)
    | some u => rw [hl] at h; simp at h
theorem fnd_stop {m : List (Nt × Int)} {a : Int} {i : Nat} (h : ∀ k, i ≤ k → look m (trimN (a, 32) k) = none) : ∀ j, i ≤ j → fnd m a j = fnd m a i := by
  intro j hj
  induction j with
  | zero => obtain rfl : i = 0 := by omega
            rfl
  | succ j ih =>
    by_cases e : i = j + 1
    · rw [e]
    · simp only [fnd]; rw [h j (by omega)]; exact ih (by omega)
theorem has_trim {x : Nt} {a : Int} (h : hasB x a = true) : ∃ j : Nat, j ≤ 32 ∧ x = trimN (a, 32) j := by
  obtain ⟨h1, h2⟩ := hasB_iff.1 h
  obtain ⟨k, hk, e, _⟩ := net_ok h1
  refine ⟨k, hk, ?_⟩
  rw [e] at h2
  simp only [Int.toNat_natCast] at h2
  unfold trimN
  exact Prod.ext h2.symm e
theorem trim_has (a : Int) {j : Nat} (hj : j ≤ 32) : hasB (trimN (a, 32) j) a = true := hasB_iff.2 ⟨trim_ok _ _ hj, by unfold trimN; simp⟩

/-! ### All of them, in their order -/
def lst (m : List (Nt × Int)) : Nat → Nt → List Nt
  | 0, x => if (look m x).isSome then [x] else []
  | k + 1, x => (if (look m x).isSome then [x] else []) ++ (lst m k (halfP x) ++ lst m k (halfQ x))
def NetsOk (m : List (Nt × Int)) : Prop := ∀ y, look m y ≠ none → netF y = 0
theorem MOk.netsOk {m : List (Nt × Int)} (h : MOk m) : NetsOk m := fun _ hy => (h.net hy).1
theorem in_split {a : Int} {n : Nat} (hn : n < 32) (h : netF (a, (n : Int)) = 0) {y : Nt} (hy : netF y = 0) :
    inB y (a, (n : Int)) = true ↔ y = (a, (n : Int)) ∨ inB y (a, (n : Int) + 1) = true ∨ inB y (a + lowI (n + 1), (n : Int) + 1) = true := by
  obtain ⟨k, hk, ek, fk⟩ := net_ok hy
  have hh := (half_has hn h y.1).1
  have np := half_p hn h
  have nq := half_q hn h
  constructor
  · intro h1
    obtain ⟨_, hl, _, he⟩ := inB_iff.1 h1
    simp only [Int.toNat_natCast] at hl he
    by_cases e : k = n
    · left; subst e; exact Prod.ext (by rw [← fk]; exact he) ek
    · right
      have : hasB (a, (n : Int)) y.1 = true := hasB_iff.2 ⟨h, by simpa using he⟩
      rw [this] at hh
      rcases Bool.or_eq_true_iff.1 hh with h2 | h2
      · left; unfold inB; rw [h2]; simp only [Bool.and_true, decide_eq_true_eq]; exact ⟨hy, by omega⟩
      · right; unfold inB; rw [h2]; simp only [Bool.and_true, decide_eq_true_eq]; exact ⟨hy, by omega⟩
  · rintro (h1 | h1 | h1)
    · subst h1
      obtain rfl : k = n := by simp only at ek; omega
      exact inB_iff.2 ⟨h, Int.le_refl _, h, by simpa using fk⟩
    · obtain ⟨_, hl, _, he⟩ := inB_iff.1 h1
      have : hasB (a, (n : Int)) y.1 = true := by
        rw [← hh, hasB_iff.2 ⟨np, he⟩]; rfl
      refine inB_iff.2 ⟨hy, by simp only at hl ⊢; omega, h, (hasB_iff.1 this).2⟩
    · obtain ⟨_, hl, _, he⟩ := inB_iff.1 h1
      have : hasB (a, (n : Int)) y.1 = true := by
        rw [← hh, hasB_iff.2 ⟨nq, he⟩]; simp
      refine inB_iff.2 ⟨hy, by simp only at hl ⊢; omega, h, (hasB_iff.1 this).2⟩
theorem mem_lst {m : List (Nt × Int)} (hm : NetsOk m) : ∀ (k : Nat) {a : Int} {n : Nat}, n + k = 32 → netF (a, (n : Int)) = 0 → ∀ y, y ∈ lst m k (a, (n : Int)) ↔ look m y ≠ none ∧ inB y (a, (n : Int)) = true
  | 0, a, n, hn, h, y => by
    obtain rfl : n = 32 := by omega
    simp only [lst]
    constructor
    · intro hy
      split at hy
      · rename_i hs
        simp at hy
        subst hy
        exact ⟨Option.isSome_iff_ne_none.1 hs, inB_iff.2 ⟨h, Int.le_refl _, h, (netF_zero.1 h).2.2⟩⟩
      · cases hy
    · rintro ⟨hy, hi⟩
      obtain ⟨h1, h2, h3, h4⟩ := inB_iff.1 hi
      obtain ⟨k, hk, ek, fk⟩ := net_ok h1
      have e : k = 32 := by simp only at h2; omega
      subst e
      simp only [Int.toNat_natCast] at h4
      have e2 : y = (a, ((32 : Nat) : Int)) := Prod.ext (by rw [← fk]; exact h4) ek
      rw [← e2, if_pos (Option.isSome_iff_ne_none.2 hy)]; simp
  | k + 1, a, n, hn, h, y => by
    have hlt : n < 32 := by omega
    simp only [lst]
    rw [List.mem_append, List.mem_append]
    have ip := mem_lst hm k (a := a) (n := n + 1) (by omega) (by simpa using half_p hlt h) y
    have iq := mem_lst hm k (a := a + lowI (n + 1)) (n := n + 1) (by omega) (by simpa using half_q hlt h) y
    have e1 : halfP (a, (n : Int)) = (a, ((n + 1 : Nat) : Int)) := by simp [halfP]
    have e2 : halfQ (a, (n : Int)) = (a + lowI (n + 1), ((n + 1 : Nat) : Int)) := by simp [halfQ]
    rw [e1, e2, ip, iq]
    constructor
    · rintro (hy | ⟨h1, h2⟩ | ⟨h1, h2⟩)
      · split at hy
        · rename_i hs
          simp at hy
          subst hy
          exact ⟨Option.isSome_iff_ne_none.1 hs, (in_split hlt h h).2 (.inl rfl)⟩
        · cases hy
      · exact ⟨h1, (in_split hlt h (hm y h1)).2 (.inr (.inl (by simpa using h2)))⟩
      · exact ⟨h1, (in_split hlt h (hm y h1)).2 (.inr (.inr (by simpa using h2)))⟩
    · rintro ⟨h1, h2⟩
      rcases (in_split hlt h (hm y h1)).1 h2 with h3 | h3 | h3
      · left; subst h3; rw [if_pos (Option.isSome_iff_ne_none.2 h1)]; simp
      · right; left; exact ⟨h1, by simpa using h3⟩
      · right; right; exact ⟨h1, by simpa using h3⟩
theorem lst_sorted {m : List (Nt × Int)} (hm : NetsOk m) : ∀ (k : Nat) {a : Int} {n : Nat}, n + k = 32 → netF (a, (n : Int)) = 0 → (lst m k (a, (n : Int))).Pairwise fun x y => lessB x y = true
  | 0, a, n, hn, h => by simp only [lst]; split <;> simp
  | k + 1, a, n, hn, h => by
    have hlt : n < 32 := by omega
    have e1 : halfP (a, (n : Int)) = (a, ((n + 1 : Nat) : Int)) := by simp [halfP]
    have e2 : halfQ (a, (n : Int)) = (a + lowI (n + 1), ((n + 1 : Nat) : Int)) := by simp [halfQ]
    have np : netF (a, ((n + 1 : Nat) : Int)) = 0 := by simpa using half_p hlt h
    have nq : netF (a + lowI (n + 1), ((n + 1 : Nat) : Int)) = 0 := by simpa using half_q hlt h
    simp only [lst]
    rw [e1, e2]
    have ip := lst_sorted hm k (a := a) (n := n + 1) (by omega) np
    have iq := lst_sorted hm k (a := a + lowI (n + 1)) (n := n + 1) (by omega) nq
    have mp := mem_lst hm k (a := a) (n := n + 1) (by omega) np
    have mq := mem_lst hm k (a := a + lowI (n + 1)) (n := n + 1) (by omega) nq
    rw [List.pairwise_append, List.pairwise_append]
    refine ⟨by split <;> simp, ⟨ip, iq, ?_⟩, ?_⟩
    · intro x hx y hy
      obtain ⟨_, hx⟩ := (mp x).1 hx
      obtain ⟨_, hy⟩ := (mq y).1 hy
      obtain ⟨_, _, _, ex⟩ := inB_iff.1 hx
      obtain ⟨_, _, _, ey⟩ := inB_iff.1 hy
      simp only [Int.toNat_natCast] at ex ey
      have hp := lowI_pos (n + 1)
      have h1 := Int.emod_lt_of_pos x.1 hp
      have h2 := fl_le (lowI (n + 1)) y.1 hp
      unfold fl at ex
      exact lessB_iff.2 (.inl (by omega))
    · intro x hx y hy
      split at hx
      · simp at hx
        subst hx
        have : ∀ z : Nt, ((n + 1 : Nat) : Int) ≤ z.2 → z ≠ (a, (n : Int)) := by
          rintro z hz rfl
          simp at hz; omega
        rcases List.mem_append.1 hy with hy | hy
        · obtain ⟨h1, hy⟩ := (mp y).1 hy
          exact less_in ((in_split hlt h (hm y h1)).2 (.inr (.inl (by simpa using hy)))) (this y (inB_iff.1 hy).2.1)
        · obtain ⟨h1, hy⟩ := (mq y).1 hy
          exact less_in ((in_split hlt h (hm y h1)).2 (.inr (.inr (by simpa using hy)))) (this y (inB_iff.1 hy).2.1)
      · cases hx
def allM (m : List (Nt × Int)) : List Nt := lst m 32 (0, 0)
theorem net00 : netF (0, ((0 : Nat) : Int)) = 0 := by decide
theorem in_00 {y : Nt} (h : netF y = 0) (h2 : is32 y.1) : inB y (0, ((0 : Nat) : Int)) = true := by
  obtain ⟨k, hk, ek, fk⟩ := net_ok h
  refine inB_iff.2 ⟨h, by rw [ek]; simp, net00, ?_⟩
  have := trim_zero (x := y) h2
  unfold trimN at this
  simpa using congrArg Prod.fst this
theorem mem_all {m : List (Nt × Int)} (h : MOk m) (y : Nt) : y ∈ allM m ↔ look m y ≠ none := by
  unfold allM
  rw [show ((0, 0) : Nt) = (0, ((0 : Nat) : Int)) from rfl, mem_lst h.netsOk 32 (by omega) net00]
  exact ⟨fun h' => h'.1, fun h' => ⟨h', in_00 (h.net h').1 (h.net h').2⟩⟩
theorem all_sorted {m : List (Nt × Int)} (h : MOk m) : (allM m).Pairwise fun x y => lessB x y = true := lst_sorted h.netsOk 32 (a := 0) (n := 0) (by omega) net00
theorem sorted_nodup {l : List Nt} (h : l.Pairwise fun x y => lessB x y = true) : l.Nodup := by
  refine List.Pairwise.imp ?_ h
  intro a b hab e
  subst e
  rw [less_irr] at hab; cases hab
theorem sorted_ext : ∀ {l l' : List Nt}, (l.Pairwise fun x y => lessB x y = true) → (l'.Pairwise fun x y => lessB x y = true) → (∀ x, x ∈ l ↔ x ∈ l') → l = l'
  | [], [], _, _, _ => rfl
  | [], y :: r, _, _, h => by have := (h y).2 (by simp); cases this
  | x :: r, [], _, _, h => by have := (h x).1 (by simp); cases this
  | x :: r, y :: s, h1, h2, h => by
    have h1' := List.pairwise_cons.1 h1
    have h2' := List.pairwise_cons.1 h2
    have e : x = y := by
      rcases List.mem_cons.1 ((h x).1 (by simp)) with e | hx
      · exact e
      · rcases List.mem_cons.1 ((h y).2 (by simp)) with e | hy
        · exact e.symm
        · have a := h2'.1 x hx
          have b := h1'.1 y hy
          have := less_trans a b
          rw [less_irr] at this; cases this
    subst e
    congr 1
    refine sorted_ext h1'.2 h2'.2 fun z => ?_
    have hz := h z
    simp only [List.mem_cons] at hz
    constructor
    · intro h3
      rcases hz.1 (.inr h3) with e | h4
      · subst e; have := h1'.1 z h3; rw [less_irr] at this; cases this
      · exact h4
    · intro h3
      rcases hz.2 (.inr h3) with e | h4
      · subst e; have := h2'.1 z h3; rw [less_irr] at this; cases this
      · exact h4
theorem nodup_le {α : Type} [BEq α] [LawfulBEq α] : ∀ {l l' : List α}, l.Nodup → (∀ x ∈ l, x ∈ l') → l.length ≤ l'.length
  | [], _, _, _ => Nat.zero_le _
  | x :: r, l', h, hs => by
    obtain ⟨h1, h2⟩ := List.nodup_cons.1 h
    have hx := hs x (by simp)
    have := nodup_le (l := r) (l' := l'.erase x) h2 (fun y hy => by
      have hne : y ≠ x := fun e => h1 (e ▸ hy)
      exact (List.mem_erase_of_ne hne).2 (hs y (by simp [hy])))
    rw [List.length_erase_of_mem hx] at this
    have : 0 < l'.length := List.length_pos_of_mem hx
    simp only [List.length_cons]; omega
theorem all_length {m : List (Nt × Int)} (h : MOk m) : (allM m).length = m.length := by
  have hk : (keysM m).length = m.length := by simp [keysM]
  have hm : ∀ x, x ∈ allM m ↔ x ∈ keysM m := fun x => by
    rw [mem_all h, ne_eq, look_none, Classical.not_not]
  have h1 := nodup_le (sorted_nodup (all_sorted h)) (fun x hx => (hm x).1 hx)
  have h2 := nodup_le h.nodup (fun x hx => (hm x).2 hx)
  omega
theorem lst_nil {m : List (Nt × Int)} (hm : NetsOk m) {k : Nat} {a : Int} {n : Nat} (hn : n + k = 32) (h : netF (a, (n : Int)) = 0) (hno : ∀ y, look m y ≠ none → inB y (a, (n : Int)) = false) : lst m k (a, (n : Int)) = [] := by
  rw [List.eq_nil_iff_forall_not_mem]
  intro y hy
  obtain ⟨h1, h2⟩ := (mem_lst hm k hn h y).1 hy
  rw [hno y h1] at h2; cases h2
end Go.Proofs.YtgdlkjahlajcpaaGreatDoor
namespace Go.Proofs.YtgdlkjahlajcpaaGreatDoor
open Go.ChangeShapes Go.WideShapes Go.ChangeAt Go.RowKit
set_option linter.unusedVariables false
set_option linter.unusedSimpArgs false

theorem Check_ok {a n : Int} (w : World) (h0 : 0 ≤ a) (h1 : a ≤ 4294967295) (h : netF (a, n) = 0) :
    Calls Tryz.prog 77 #[.agg #[.int .u32 a, .int .i64 n]] w fun e w' => e = .returned .nilIface ∧ Below w.heap.size w w' :=
  (Check_net a n w h0 h1).mono fun e w' ⟨he, hb⟩ => ⟨by rw [he, h]; rfl, hb⟩
theorem Check_bad {a n : Int} (w : World) (h0 : 0 ≤ a) (h1 : a ≤ 4294967295) (h : netF (a, n) ≠ 0) :
    Calls Tryz.prog 77 #[.agg #[.int .u32 a, .int .i64 n]] w fun e w' => e = .returned (.iface 35 (.int .i64 (netF (a, n)))) ∧ Below w.heap.size w w' :=
  (Check_net a n w h0 h1).mono fun e w' ⟨he, hb⟩ => ⟨by rw [he, errV_ne h], hb⟩
theorem below_2 (w : World) (o1 o2 : Obj) : Below w.heap.size w ((w.alloc o1).alloc o2) := ((Below.refl _ _).alloc (Nat.le_refl _) _).alloc (by simp) _
theorem below_3 (w : World) (o1 o2 o3 : Obj) : Below w.heap.size w (((w.alloc o1).alloc o2).alloc o3) := (below_2 w o1 o2).alloc (by simp; omega) _
theorem below_4 (w : World) (o1 o2 o3 o4 : Obj) : Below w.heap.size w ((((w.alloc o1).alloc o2).alloc o3).alloc o4) := (below_3 w o1 o2 o3).alloc (by simp; omega) _
theorem hasB_of {a l x : Int} (h : netF (a, l) = 0) : hasB (a, l) x = (fl (lowI l.toNat) x == a) := by
  unfold hasB; simp only [h, true_and]; rfl

set_option maxHeartbeats 400000 in
theorem Has_any (a n x : Int) (w : World) (ha : is32 a) (hx : is32 x) :
    Calls Tryz.prog 113 #[.agg #[.int .u32 a, .int .i64 n], .int .u32 x] w fun e w' => e = .returned (.bool (hasB (a, n) x)) ∧ Below w.heap.size w w' := by
  obtain ⟨h0, h1⟩ := ha
  by_cases hz : netF (a, n) = 0
  · obtain ⟨k, hk, ek, _⟩ := net_ok hz
    simp only at ek
    subst ek
    have hb := and_maskI x k hx.1 hx.2
    rw [hasB_of hz, Int.toNat_natCast]
    have hfl : x - x % lowI k = fl (lowI k) x := rfl
    rw [hfl] at hb
    have HB := Lib.hid hb
    have HZ := Lib.hid hz
    clear hb hfl hz hx
    go_enter Tryz.func113, Tryz.ntmps113
    go_wp2_with (first
      | (go_at_call 104; refine (Mask_in k _ hk).mono ?_; rintro e w' ⟨rfl, rfl⟩)
      | (go_at_call 77; refine (Check_ok _ h0 h1 HZ.out).mono ?_; rintro e w1 ⟨rfl, hb1⟩; have d0 : w1.cell? ⟨w.heap.size, 0, none⟩ = some (.int .u32 a) := (hb1.cell (by simp)).trans (by simp); have HB1 := Lib.hid hb1; clear hb1)
      | fail)
    go_ret
    exact ⟨by rw [HB.out]; rfl, ((Below.refl _ _).alloc (Nat.le_refl _) _).trans (HB1.out.mono (by simp))⟩
  · have hF : hasB (a, n) x = false := by unfold hasB; simp [hz]
    rw [hF]
    have HZ := Lib.hid hz
    clear hF hz
    by_cases hin : 0 ≤ n ∧ n ≤ 32
    · obtain ⟨k, rfl⟩ := Int.eq_ofNat_of_zero_le hin.1
      have hk : k ≤ 32 := by omega
      clear hin
      go_enter Tryz.func113, Tryz.ntmps113
      go_wp2_with (first
        | (go_at_call 104; refine (Mask_in k _ hk).mono ?_; rintro e w' ⟨rfl, rfl⟩)
        | (go_at_call 77; refine (Check_bad _ h0 h1 HZ.out).mono ?_; rintro e w1 ⟨rfl, hb1⟩; have HB1 := Lib.hid hb1; clear hb1)
        | fail)
      go_ret
      exact ⟨rfl, ((Below.refl _ _).alloc (Nat.le_refl _) _).trans (HB1.out.mono (by simp))⟩
    · have HN := Lib.hid (show n < 0 ∨ 32 < n by omega)
      clear hin
      go_enter Tryz.func113, Tryz.ntmps113
      go_wp2_with (first
        | (go_at_call 104; refine (Mask_out n _ HN.out).mono ?_; rintro e w' ⟨rfl, rfl⟩)
        | fail)
      go_ret
      exact ⟨rfl, (Below.refl _ _).alloc (Nat.le_refl _) _⟩

theorem inB_no {a b : Int × Int} (h : netF a ≠ 0) : inB a b = false := by unfold inB; simp [h]
theorem inB_len {a b : Int × Int} (h : a.2 < b.2) : inB a b = false := by unfold inB; simp; intro _ h2; omega
theorem inB_has {a b : Int × Int} (h : netF a = 0) (h2 : b.2 ≤ a.2) : inB a b = hasB b a.1 := by unfold inB; simp [h, h2]
set_option maxHeartbeats 400000 in
theorem In_any (a n b m : Int) (w : World) (ha : is32 a) (hb : is32 b) :
    Calls Tryz.prog 91 #[.agg #[.int .u32 a, .int .i64 n], .agg #[.int .u32 b, .int .i64 m]] w fun e w' => e = .returned (.bool (inB (a, n) (b, m))) ∧ Below w.heap.size w w' := by
  obtain ⟨h0, h1⟩ := ha
  have HB := Lib.hid hb
  by_cases hz : netF (a, n) = 0
  · have HZ := Lib.hid hz
    by_cases hl : m ≤ n
    · rw [inB_has hz hl]
      clear hz
      go_enter Tryz.func91, Tryz.ntmps91
      go_wp2_with (first
        | (go_at_call 77; refine (Check_ok _ h0 h1 HZ.out).mono ?_; rintro e w1 ⟨rfl, hb1⟩; have d0 : w1.cell? ⟨w.heap.size, 0, none⟩ = some (.int .u32 a) := (hb1.cell (by simp; omega)).trans (by simp); have d1 : w1.cell? ⟨w.heap.size, 1, none⟩ = some (.int .i64 n) := (hb1.cell (by simp; omega)).trans (by simp); have d2 : w1.cell? ⟨w.heap.size + 1, 0, none⟩ = some (.int .u32 b) := (hb1.cell (by simp)).trans (by simp); have d3 : w1.cell? ⟨w.heap.size + 1, 1, none⟩ = some (.int .i64 m) := (hb1.cell (by simp)).trans (by simp); have hz1 := hb1.size; simp only [World.size_alloc] at hz1; have HB1 := Lib.hid ((((Below.refl w.heap.size w).alloc (Nat.le_refl _) _).alloc (by simp) _).trans (hb1.mono (by simp; omega))); clear hb1)
        | (go_at_call 113; refine (Has_any b m a _ HB.out ⟨h0, h1⟩).mono ?_; rintro e w2 ⟨rfl, hb2⟩; have HB2 := Lib.hid (HB1.out.trans (hb2.mono (by omega))); clear hb2)
        | fail)
      go_ret
      exact ⟨rfl, HB2.out⟩
    · have hlt : n < m := by omega
      rw [inB_len (a := (a, n)) (b := (b, m)) hlt]
      clear hz
      go_enter Tryz.func91, Tryz.ntmps91
      go_wp2_with (first
        | (go_at_call 77; refine (Check_ok _ h0 h1 HZ.out).mono ?_; rintro e w1 ⟨rfl, hb1⟩; have d0 : w1.cell? ⟨w.heap.size, 0, none⟩ = some (.int .u32 a) := (hb1.cell (by simp; omega)).trans (by simp); have d1 : w1.cell? ⟨w.heap.size, 1, none⟩ = some (.int .i64 n) := (hb1.cell (by simp; omega)).trans (by simp); have d2 : w1.cell? ⟨w.heap.size + 1, 0, none⟩ = some (.int .u32 b) := (hb1.cell (by simp)).trans (by simp); have d3 : w1.cell? ⟨w.heap.size + 1, 1, none⟩ = some (.int .i64 m) := (hb1.cell (by simp)).trans (by simp); have HB1 := Lib.hid ((((Below.refl w.heap.size w).alloc (Nat.le_refl _) _).alloc (by simp) _).trans (hb1.mono (by simp; omega))); clear hb1)
        | fail)
      go_ret
      exact ⟨rfl, HB1.out⟩
  · rw [inB_no hz]
    have HZ := Lib.hid hz
    clear hz
    go_enter Tryz.func91, Tryz.ntmps91
    go_wp2_with (first
      | (go_at_call 77; refine (Check_bad _ h0 h1 HZ.out).mono ?_; rintro e w1 ⟨rfl, hb1⟩; have HB1 := Lib.hid ((((Below.refl w.heap.size w).alloc (Nat.le_refl _) _).alloc (by simp) _).trans (hb1.mono (by simp; omega))); clear hb1)
      | fail)
    go_ret
    exact ⟨rfl, HB1.out⟩
set_option maxHeartbeats 400000 in
theorem cut_any (a n : Int) (k : Nat) (w : World) (ha : is32 a) (hk : k ≤ 32) :
    Calls Tryz.prog 93 #[.agg #[.int .u32 a, .int .i64 n], .int .i64 k] w fun e w' => e = .returned (.agg #[.int .u32 (fl (lowI k) a), .int .i64 k]) ∧ Below w.heap.size w w' := by
  have hb := and_maskI a k ha.1 ha.2
  have hfl : a - a % lowI k = fl (lowI k) a := rfl
  rw [hfl] at hb
  have HB := Lib.hid hb
  clear hb hfl ha
  go_enter Tryz.func93, Tryz.ntmps93
  go_wp2_with (first
    | (go_at_call 104; refine (Mask_in k _ hk).mono ?_; rintro e w' ⟨rfl, rfl⟩)
    | fail)
  refine bodyPost_ret (v := .agg #[.int .u32 (bits .and .u32 a (maskV k)), .int .i64 k]) (by simp [results, Tryz.results93, go_sem]) rfl ⟨by rw [HB.out], ?_⟩
  exact ((Below.refl _ _).alloc (Nat.le_refl _) _).alloc (by simp) _
theorem up_end {W : World} {R : Nat} {a : Act} {v0 v1 e : Value} {t : TypeId} {K : Ending → World → Prop} (h : W.heap[R]? = some (.cells #[v0, v1] t (0, 0))) (h2 : a.tmps[2]?.getD undef = .pointer (some ⟨R, 0, none⟩)) (h3 : a.tmps[3]?.getD undef = e) (hd : a.defers = [])
    (hK : K (.returned (.tuple #[.agg #[v0, v1], e])) W) : bodyPost Tryz.prog Tryz.f82 K .ret a W := by
  have e0 : W.cell? ⟨R, 0, none⟩ = some v0 := by rw [cell_of_row _ R _ _ _ (0, 0) h]; rfl
  have e1 : W.cell? ⟨R, 1, none⟩ = some v1 := by rw [cell_of_row _ R _ _ _ (0, 0) h]; rfl
  exact bodyPost_ret (by simp [results, Tryz.results82, go_sem, h2, h3, e0, e1]) hd hK
set_option maxHeartbeats 400000 in
theorem Up_top {a : Int} (w : World) (ha : is32 a) (h : netF (a, 0) = 0) :
    Calls Tryz.prog 82 #[.agg #[.int .u32 a, .int .i64 0]] w fun e w' => e = .returned (.tuple #[.agg #[.int .u32 0, .int .i64 0], .iface 35 (.int .i64 2)]) ∧ Below w.heap.size w w' := by
  obtain ⟨h0, h1⟩ := ha
  have HZ := Lib.hid h
  clear h
  go_enter Tryz.func82, Tryz.ntmps82
  go_wp2_with (first
    | (go_at_call 77; refine (Check_ok _ h0 h1 HZ.out).mono ?_; rintro e w1 ⟨rfl, hb1⟩; have d0 : w1.cell? ⟨w.heap.size, 0, none⟩ = some (.int .u32 a) := (hb1.cell (by simp; omega)).trans (by simp); have d1 : w1.cell? ⟨w.heap.size, 1, none⟩ = some (.int .i64 0) := (hb1.cell (by simp; omega)).trans (by simp); obtain ⟨blk0, blk1⟩ := box2 hb1; obtain ⟨r0, r1, f0, f1⟩ := row2 blk1; have BLK := Lib.hid blk1; clear blk0 blk1; have HB1 := Lib.hid ((below_2 w _ _).trans (hb1.mono (by simp; omega))); have hz1 := HB1.out.size; clear hb1)
    | fail)
  exact up_end (set2_block _ _ BLK.out) rfl rfl rfl ⟨rfl, (HB1.out.setCell (by simp) _).setCell (by simp) _⟩
set_option maxHeartbeats 400000 in
theorem Up_ok {a : Int} {k : Nat} (w : World) (ha : is32 a) (hk : k < 32) (h : netF (a, (k : Int) + 1) = 0) :
    Calls Tryz.prog 82 #[.agg #[.int .u32 a, .int .i64 ((k : Int) + 1)]] w fun e w' => e = .returned (.tuple #[.agg #[.int .u32 (fl (lowI k) a), .int .i64 k], .nilIface]) ∧ Below w.heap.size w w' := by
  have HA := Lib.hid ha
  obtain ⟨h0, h1⟩ := ha
  have HZ := Lib.hid h
  have hk1 : IntKind.i64.wrap ((k : Int) + 1 - 1) = k := by rw [show (k : Int) + 1 - 1 = k from by omega]; exact IntWalk.i64_in _ ⟨by omega, by omega⟩
  have t0 : ((k : Int) + 1 == 0) = false := by simp; omega
  clear h
  go_enter Tryz.func82, Tryz.ntmps82
  go_wp2_with (first
    | (go_at_call 77; refine (Check_ok _ h0 h1 HZ.out).mono ?_; rintro e w1 ⟨rfl, hb1⟩; have d0 : w1.cell? ⟨w.heap.size, 0, none⟩ = some (.int .u32 a) := (hb1.cell (by simp; omega)).trans (by simp); have d1 : w1.cell? ⟨w.heap.size, 1, none⟩ = some (.int .i64 ((k : Int) + 1)) := (hb1.cell (by simp; omega)).trans (by simp); obtain ⟨blk0, blk1⟩ := box2 hb1; obtain ⟨r0, r1, f0, f1⟩ := row2 blk1; have BLK := Lib.hid blk1; clear blk0 blk1; have HB1 := Lib.hid ((below_2 w _ _).trans (hb1.mono (by simp; omega))); have hz1 := HB1.out.size; clear hb1)
    | (go_at_call 93; refine (cut_any a _ k _ HA.out (by omega)).mono ?_; rintro e w2 ⟨rfl, hb2⟩; have blk2 := below_block hb2 (size_of_block BLK.out) BLK.out; obtain ⟨q0, q1, g0, g1⟩ := row2 blk2; have BLK2 := Lib.hid blk2; clear blk2; have HB2 := Lib.hid (HB1.out.trans (hb2.mono (by omega))); have hz2 := HB2.out.size; clear hb2)
    | fail)
  exact up_end (set2_block _ _ BLK2.out) rfl rfl rfl ⟨rfl, (HB2.out.setCell (by simp) _).setCell (by simp) _⟩

theorem or_low {a : Int} {k : Nat} (hk : k < 32) (ha : is32 a) (h : a % (lowI (k + 1) * 2) = 0) : bits .or .u32 a (lowI (k + 1)) = a + lowI (k + 1) := by
  obtain ⟨x, rfl⟩ := Int.eq_ofNat_of_zero_le ha.1
  have hx := ha.2
  have e1 : lowI (k + 1) * 2 = ((2 ^ (32 - k) : Nat) : Int) := by rw [← low_succ hk, lowI_nat]
  rw [e1] at h
  have h' : x % 2 ^ (32 - k) = 0 := by
    have : ((x % 2 ^ (32 - k) : Nat) : Int) = 0 := by rw [Int.natCast_emod]; exact h
    omega
  obtain ⟨q, rfl⟩ := Nat.dvd_of_mod_eq_zero h'
  have hb : 2 ^ (32 - (k + 1)) < 2 ^ (32 - k) := Nat.pow_lt_pow_right (by omega) (by omega)
  have h32 : 2 ^ (32 - (k + 1)) ≤ 2 ^ 31 := Nat.pow_le_pow_right (by omega) (by omega)
  have := Nat.two_pow_add_eq_or_of_lt hb q
  rw [lowI_nat, u32_or_nat _ _ (by omega) (by omega), ← this]
  omega
theorem low_shl_fin : ∀ k : Fin 32, IntKind.u32.wrap ((2 : Int) ^ (31 - k.val)) = lowI (k.val + 1) := by decide +kernel
theorem halves_end {W : World} {R : Nat} {a : Act} {v0 v1 u0 u1 e : Value} {t t' : TypeId} {K : Ending → World → Prop} (h : W.heap[R]? = some (.cells #[v0, v1] t (0, 0))) (h' : W.heap[R + 1]? = some (.cells #[u0, u1] t' (0, 0)))
    (h2 : a.tmps[2]?.getD undef = .pointer (some ⟨R, 0, none⟩)) (h3 : a.tmps[3]?.getD undef = .pointer (some ⟨R + 1, 0, none⟩)) (h4 : a.tmps[4]?.getD undef = e) (hd : a.defers = [])
    (hK : K (.returned (.tuple #[.agg #[v0, v1], .agg #[u0, u1], e])) W) : bodyPost Tryz.prog Tryz.f87 K .ret a W := by
  have e0 : W.cell? ⟨R, 0, none⟩ = some v0 := by rw [cell_of_row _ R _ _ _ (0, 0) h]; rfl
  have e1 : W.cell? ⟨R, 1, none⟩ = some v1 := by rw [cell_of_row _ R _ _ _ (0, 0) h]; rfl
  have e2 : W.cell? ⟨R + 1, 0, none⟩ = some u0 := by rw [cell_of_row _ _ _ _ _ (0, 0) h']; rfl
  have e3 : W.cell? ⟨R + 1, 1, none⟩ = some u1 := by rw [cell_of_row _ _ _ _ _ (0, 0) h']; rfl
  exact bodyPost_ret (by simp [results, Tryz.results87, go_sem, h2, h3, h4, e0, e1, e2, e3]) hd hK
theorem set22_block {w : World} {R S : Nat} {c0 c1 d0 d1 : Value} (v0 v1 u0 u1 : Value) {t t' : TypeId} (h : w.heap[R]? = some (.cells #[c0, c1] t (0, 0))) (h' : w.heap[S]? = some (.cells #[d0, d1] t' (0, 0))) (hne : R ≠ S) :
    ((((w.setCell ⟨R, 0, none⟩ v0).setCell ⟨R, 1, none⟩ v1).setCell ⟨S, 0, none⟩ u0).setCell ⟨S, 1, none⟩ u1).heap[R]? = some (.cells #[v0, v1] t (0, 0)) ∧
    ((((w.setCell ⟨R, 0, none⟩ v0).setCell ⟨R, 1, none⟩ v1).setCell ⟨S, 0, none⟩ u0).setCell ⟨S, 1, none⟩ u1).heap[S]? = some (.cells #[u0, u1] t' (0, 0)) := by
  have h1 := set2_block v0 v1 h
  have o : ∀ (w : World) (v : Value) (k : Nat), (w.setCell ⟨S, k, none⟩ v).heap[R]? = w.heap[R]? := fun w v k => heap_setCell_other w ⟨S, k, none⟩ R v (by simpa using hne)
  have o' : ∀ (w : World) (v : Value) (k : Nat), (w.setCell ⟨R, k, none⟩ v).heap[S]? = w.heap[S]? := fun w v k => heap_setCell_other w ⟨R, k, none⟩ S v (by simpa using Ne.symm hne)
  refine ⟨by rw [o, o]; exact h1, set2_block u0 u1 (by rw [o', o']; exact h')⟩
set_option maxHeartbeats 400000 in
theorem Halves_one {a : Int} (w : World) (ha : is32 a) (h : netF (a, 32) = 0) :
    Calls Tryz.prog 87 #[.agg #[.int .u32 a, .int .i64 32]] w fun e w' => e = .returned (.tuple #[.agg #[.int .u32 0, .int .i64 0], .agg #[.int .u32 0, .int .i64 0], .iface 35 (.int .i64 2)]) ∧ Below w.heap.size w w' := by
  obtain ⟨h0, h1⟩ := ha
  have HZ := Lib.hid h
  clear h
  go_enter Tryz.func87, Tryz.ntmps87
  go_wp2_with (first
    | (go_at_call 77; refine (Check_ok _ h0 h1 HZ.out).mono ?_; rintro e w1 ⟨rfl, hb1⟩; obtain ⟨blk0, blk1, blk2⟩ := box3 hb1; obtain ⟨d0, d1, _, _⟩ := row2 blk0; obtain ⟨r0, r1, f0, f1⟩ := row2 blk1; obtain ⟨q0, q1, g0, g1⟩ := row2 blk2; have BLK := Lib.hid blk1; have BLK2 := Lib.hid blk2; clear blk0 blk1 blk2; have HB1 := Lib.hid ((below_3 w _ _ _).trans (hb1.mono (by simp; omega))); have hz1 := HB1.out.size; clear hb1)
    | fail)
  obtain ⟨k1, k2⟩ := set22_block (.int .u32 0) (.int .i64 0) (.int .u32 0) (.int .i64 0) BLK.out BLK2.out (by omega)
  exact halves_end k1 k2 rfl rfl rfl rfl ⟨rfl, (((HB1.out.setCell (by simp) _).setCell (by simp) _).setCell (by simp; omega) _).setCell (by simp; omega) _⟩
set_option maxHeartbeats 1000000 in
theorem Halves_ok {a : Int} {k : Nat} (w : World) (ha : is32 a) (hk : k < 32) (h : netF (a, (k : Int)) = 0) :
    Calls Tryz.prog 87 #[.agg #[.int .u32 a, .int .i64 k]] w fun e w' => e = .returned (.tuple #[.agg #[.int .u32 a, .int .i64 ((k : Int) + 1)], .agg #[.int .u32 (a + lowI (k + 1)), .int .i64 ((k : Int) + 1)], .nilIface]) ∧ Below w.heap.size w w' := by
  have HOR := Lib.hid (or_low hk ha (half_zero hk h))
  have HSH : Hid (IntKind.u32.wrap ((2 : Int) ^ (31 - k)) = lowI (k + 1)) := Lib.hid (low_shl_fin ⟨k, hk⟩)
  obtain ⟨h0, h1⟩ := ha
  have HZ := Lib.hid h
  have hk1 : IntKind.i64.wrap ((k : Int) + 1) = (k : Int) + 1 := IntWalk.i64_in _ ⟨by omega, by omega⟩
  have hk2 : IntKind.i64.wrap (32 - ((k : Int) + 1)) = 31 - (k : Int) := by rw [show (32 : Int) - ((k : Int) + 1) = 31 - k from by omega]; exact IntWalk.i64_in _ ⟨by omega, by omega⟩
  have hk3 : 0 ≤ 31 - (k : Int) := by omega
  have hk4 : (31 - (k : Int)).toNat = 31 - k := by omega
  have t0 : ((k : Int) == 32) = false := by simp; omega
  clear h
  go_enter Tryz.func87, Tryz.ntmps87
  go_wp2_with (first
    | (go_at_call 77; refine (Check_ok _ h0 h1 HZ.out).mono ?_; rintro e w1 ⟨rfl, hb1⟩; obtain ⟨blk0, blk1, blk2⟩ := box3 hb1; obtain ⟨d0, d1, _, _⟩ := row2 blk0; obtain ⟨r0, r1, f0, f1⟩ := row2 blk1; obtain ⟨q0, q1, g0, g1⟩ := row2 blk2; have BLK := Lib.hid blk1; have BLK2 := Lib.hid blk2; clear blk0 blk1 blk2; have HB1 := Lib.hid ((below_3 w _ _ _).trans (hb1.mono (by simp; omega))); have hz1 := HB1.out.size; clear hb1)
    | fail)
  have hn2 : ¬ (w.heap.size + 1 + 1 = w.heap.size) := by omega
  have hn3 : ¬ (w.heap.size = w.heap.size + 1 + 1) := by omega
  refine wp_region_noPanic ?_
  refine wp_region_held_drew (S := (fun w' => w'.cell? ⟨w.heap.size, 0, none⟩ = some (.int .u32 a))) (by kernel_rfl) (by go_keep) (fun hHeld => ?_)
  refine' wpAnyH_take (i := 0) ?hia0 ?hsa0 ?hfa0 ?hra0 ?hQa0 ?hya0 ?hSa0 ?ha0
  case hia0 => (simp only [List.getElem?_toArray, List.getElem?_cons_succ, List.getElem?_cons_zero]; exact rfl)
  case hsa0 => kernel_rfl
  case hfa0 => kernel_rfl
  case hra0 => kernel_rfl
  case hQa0 => exact fun _ _ _ h => h
  case hya0 => (first | (refine Or.inr ⟨by rfl, ?_⟩; rfl) | (refine Or.inl ⟨by rfl, ?_⟩; (intro w hSw; (try dsimp only at hSw); go_simp); try with_reducible rfl))
  case hSa0 => assumption
  try simp only [Act.put, List.setIfInBounds_toArray, List.set_cons_zero, List.set_cons_succ]
  refine' wpAnyH_take (i := 1) ?hia1 ?hsa1 ?hfa1 ?hra1 ?hQa1 ?hya1 ?hSa1 ?ha1
  case hia1 => (simp only [List.getElem?_toArray, List.getElem?_cons_succ, List.getElem?_cons_zero]; exact rfl)
  case hsa1 => kernel_rfl
  case hfa1 => kernel_rfl
  case hra1 => kernel_rfl
  case hQa1 => exact fun _ _ _ h => h
  case hya1 => (first | (refine Or.inr ⟨by rfl, ?_⟩; rfl) | (refine Or.inl ⟨by rfl, ?_⟩; (intro w hSw; (try dsimp only at hSw); go_simp); try with_reducible rfl))
  case hSa1 => assumption
  try simp only [Act.put, List.setIfInBounds_toArray, List.set_cons_zero, List.set_cons_succ]
  refine' wpAnyH_take (i := 2) ?hia2 ?hsa2 ?hfa2 ?hra2 ?hQa2 ?hya2 ?hSa2 ?ha2
  case hia2 => (simp only [List.getElem?_toArray, List.getElem?_cons_succ, List.getElem?_cons_zero]; exact rfl)
  case hsa2 => kernel_rfl
  case hfa2 => kernel_rfl
  case hra2 => kernel_rfl
  case hQa2 => exact fun _ _ _ h => h
  case hya2 => (first | (refine Or.inr ⟨by rfl, ?_⟩; rfl) | (refine Or.inl ⟨by rfl, ?_⟩; (intro w hSw; (try dsimp only at hSw); go_simp); try with_reducible rfl))
  case hSa2 => assumption
  try simp only [Act.put, List.setIfInBounds_toArray, List.set_cons_zero, List.set_cons_succ]
  refine' wpAnyH_take (i := 3) ?hia3 ?hsa3 ?hfa3 ?hra3 ?hQa3 ?hya3 ?hSa3 ?ha3
  case hia3 => (simp only [List.getElem?_toArray, List.getElem?_cons_succ, List.getElem?_cons_zero]; exact rfl)
  case hsa3 => kernel_rfl
  case hfa3 => kernel_rfl
  case hra3 => kernel_rfl
  case hQa3 => exact fun _ _ _ h => h
  case hya3 => (first | (refine Or.inr ⟨by rfl, ?_⟩; rfl) | (refine Or.inl ⟨by rfl, ?_⟩; (intro w hSw; (try dsimp only at hSw); go_simp); try with_reducible rfl))
  case hSa3 => assumption
  try simp only [Act.put, List.setIfInBounds_toArray, List.set_cons_zero, List.set_cons_succ]
  refine' wpAnyH_take (i := 4) ?hia4 ?hsa4 ?hfa4 ?hra4 ?hQa4 ?hya4 ?hSa4 ?ha4
  case hia4 => (simp only [List.getElem?_toArray, List.getElem?_cons_succ, List.getElem?_cons_zero]; exact rfl)
  case hsa4 => kernel_rfl
  case hfa4 => kernel_rfl
  case hra4 => kernel_rfl
  case hQa4 => exact fun _ _ _ h => h
  case hya4 => (first | (refine Or.inr ⟨by rfl, ?_⟩; rfl) | (refine Or.inl ⟨by rfl, ?_⟩; (intro w hSw; (try dsimp only at hSw); go_simp); try with_reducible rfl))
  case hSa4 => assumption
  try simp only [Act.put, List.setIfInBounds_toArray, List.set_cons_zero, List.set_cons_succ]
  refine' wpAnyH_take (i := 5) ?hia5 ?hsa5 ?hfa5 ?hra5 ?hQa5 ?hya5 ?hSa5 ?ha5
  case hia5 => (simp only [List.getElem?_toArray, List.getElem?_cons_succ, List.getElem?_cons_zero]; exact rfl)
  case hsa5 => kernel_rfl
  case hfa5 => kernel_rfl
  case hra5 => kernel_rfl
  case hQa5 => exact fun _ _ _ h => h
  case hya5 => (first | (refine Or.inr ⟨by rfl, ?_⟩; rfl) | (refine Or.inl ⟨by rfl, ?_⟩; (intro w hSw; (try dsimp only at hSw); go_simp); try with_reducible rfl))
  case hSa5 => assumption
  try simp only [Act.put, List.setIfInBounds_toArray, List.set_cons_zero, List.set_cons_succ]
  refine' wpAnyH_take (i := 6) ?hia6 ?hsa6 ?hfa6 ?hra6 ?hQa6 ?hya6 ?hSa6 ?ha6
  case hia6 => (simp only [List.getElem?_toArray, List.getElem?_cons_succ, List.getElem?_cons_zero]; exact rfl)
  case hsa6 => kernel_rfl
  case hfa6 => kernel_rfl
  case hra6 => kernel_rfl
  case hQa6 => exact fun _ _ _ h => h
  case hya6 => (first | (refine Or.inr ⟨by rfl, ?_⟩; rfl) | (refine Or.inl ⟨by rfl, ?_⟩; (intro w hSw; (try dsimp only at hSw); go_simp); try with_reducible rfl))
  case hSa6 => assumption
  try simp only [Act.put, List.setIfInBounds_toArray, List.set_cons_zero, List.set_cons_succ]
  refine' wpAnyH_take (i := 7) ?hia7 ?hsa7 ?hfa7 ?hra7 ?hQa7 ?hya7 ?hSa7 ?ha7
  case hia7 => (simp only [List.getElem?_toArray, List.getElem?_cons_succ, List.getElem?_cons_zero]; exact rfl)
  case hsa7 => kernel_rfl
  case hfa7 => kernel_rfl
  case hra7 => kernel_rfl
  case hQa7 => exact fun _ _ _ h => h
  case hya7 => (first | (refine Or.inr ⟨by rfl, ?_⟩; rfl) | (refine Or.inl ⟨by rfl, ?_⟩; (intro w hSw; (try dsimp only at hSw); go_simp); try with_reducible rfl))
  case hSa7 => assumption
  try simp only [Act.put, List.setIfInBounds_toArray, List.set_cons_zero, List.set_cons_succ]
  refine' wpAnyH_take (i := 8) ?hia8 ?hsa8 ?hfa8 ?hra8 ?hQa8 ?hya8 ?hSa8 ?ha8
  case hia8 => (simp only [List.getElem?_toArray, List.getElem?_cons_succ, List.getElem?_cons_zero]; exact rfl)
  case hsa8 => kernel_rfl
  case hfa8 => kernel_rfl
  case hra8 => kernel_rfl
  case hQa8 => exact fun _ _ _ h => h
  case hya8 => (first | (refine Or.inr ⟨by rfl, ?_⟩; rfl) | (refine Or.inl ⟨by rfl, ?_⟩; (intro w hSw; (try dsimp only at hSw); go_simp); try with_reducible rfl))
  case hSa8 => assumption
  try simp only [Act.put, List.setIfInBounds_toArray, List.set_cons_zero, List.set_cons_succ]
  refine' wpAnyH_take (i := 9) ?hia9 ?hsa9 ?hfa9 ?hra9 ?hQa9 ?hya9 ?hSa9 ?ha9
  case hia9 => (simp only [List.getElem?_toArray, List.getElem?_cons_succ, List.getElem?_cons_zero]; exact rfl)
  case hsa9 => kernel_rfl
  case hfa9 => kernel_rfl
  case hra9 => kernel_rfl
  case hQa9 => exact fun _ _ _ h => h
  case hya9 => (first | (refine Or.inr ⟨by rfl, ?_⟩; rfl) | (refine Or.inl ⟨by rfl, ?_⟩; (intro w hSw; (try dsimp only at hSw); go_simp); try with_reducible rfl))
  case hSa9 => assumption
  try simp only [Act.put, List.setIfInBounds_toArray, List.set_cons_zero, List.set_cons_succ]
  refine' wpAnyH_take (i := 10) ?hia10 ?hsa10 ?hfa10 ?hra10 ?hQa10 ?hya10 ?hSa10 ?ha10
  case hia10 => (simp only [List.getElem?_toArray, List.getElem?_cons_succ, List.getElem?_cons_zero]; exact rfl)
  case hsa10 => kernel_rfl
  case hfa10 => kernel_rfl
  case hra10 => kernel_rfl
  case hQa10 => exact fun _ _ _ h => h
  case hya10 => (first | (refine Or.inr ⟨by rfl, ?_⟩; rfl) | (refine Or.inl ⟨by rfl, ?_⟩; (intro w hSw; (try dsimp only at hSw); go_simp); try with_reducible rfl))
  case hSa10 => assumption
  try simp only [Act.put, List.setIfInBounds_toArray, List.set_cons_zero, List.set_cons_succ]
  refine' wpAnyH_take (i := 11) ?hia11 ?hsa11 ?hfa11 ?hra11 ?hQa11 ?hya11 ?hSa11 ?ha11
  case hia11 => (simp only [List.getElem?_toArray, List.getElem?_cons_succ, List.getElem?_cons_zero]; exact rfl)
  case hsa11 => kernel_rfl
  case hfa11 => kernel_rfl
  case hra11 => kernel_rfl
  case hQa11 => exact fun _ _ _ h => h
  case hya11 => (first | (refine Or.inr ⟨by rfl, ?_⟩; rfl) | (refine Or.inl ⟨by rfl, ?_⟩; (intro w hSw; (try dsimp only at hSw); go_simp); try with_reducible rfl))
  case hSa11 => assumption
  try simp only [Act.put, List.setIfInBounds_toArray, List.set_cons_zero, List.set_cons_succ]
  refine wpAnyH_ready (rs := [12]) (by kernel_rfl) (by simp) ?_
  refine' AllReadyH.cons ?hia12 (fun K hK => ?ha12) AllReadyH.nil
  case hia12 => (simp only [List.getElem?_toArray, List.getElem?_cons_succ, List.getElem?_cons_zero]; exact rfl)
  go_simp
  refine hK.out _ _ (by go_keep) (fun hHeld => ?_)
  clear hK K
  refine wpAnyH_ready (rs := [13]) (by kernel_rfl) (by simp) ?_
  refine' AllReadyH.cons ?hia13 (fun K hK => ?ha13) AllReadyH.nil
  case hia13 => (simp only [List.getElem?_toArray, List.getElem?_cons_succ, List.getElem?_cons_zero]; exact rfl)
  go_simp
  refine hK.out _ _ (by go_keep) (fun hHeld => ?_)
  clear hK K
  refine' wpAnyH_take (i := 14) ?hia14 ?hsa14 ?hfa14 ?hra14 ?hQa14 ?hya14 ?hSa14 ?ha14
  case hia14 => (simp only [List.getElem?_toArray, List.getElem?_cons_succ, List.getElem?_cons_zero]; exact rfl)
  case hsa14 => kernel_rfl
  case hfa14 => kernel_rfl
  case hra14 => kernel_rfl
  case hQa14 => exact fun _ _ _ h => h
  case hya14 => (first | (refine Or.inr ⟨by rfl, ?_⟩; rfl) | (refine Or.inl ⟨by rfl, ?_⟩; (intro w hSw; (try dsimp only at hSw); go_simp); try with_reducible rfl))
  case hSa14 => assumption
  try simp only [Act.put, List.setIfInBounds_toArray, List.set_cons_zero, List.set_cons_succ]
  refine wpAnyH_done (by kernel_rfl) ?_ _
  refine NoPanic.normal ?_
  go_wp2
  obtain ⟨e1, e2⟩ := set22_block (.int .u32 a) (.int .i64 ((k : Int) + 1)) (.int .u32 (bits .or .u32 a (IntKind.u32.wrap (2 ^ (31 - k))))) (.int .i64 ((k : Int) + 1)) BLK.out BLK2.out (by omega)
  exact halves_end (e := .nilIface) e1 e2 rfl rfl rfl rfl ⟨by rw [HSH.out, HOR.out], below_drewN ((((HB1.out.setCell (by simp) _).setCell (by simp) _).setCell (by simp; omega) _).setCell (by simp; omega) _) 1⟩

end Go.Proofs.YtgdlkjahlajcpaaGreatDoor
