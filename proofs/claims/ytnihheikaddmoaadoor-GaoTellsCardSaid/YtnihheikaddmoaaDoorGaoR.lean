/- Who pays whom: valleys; deals as what each is to each; what is wrong with deals; no program in sight. -/
import Derived.Test.YtnihheikaddmoaaDoorGaoQ
namespace Go.Proofs.YtnihheikaddmoaaDoor
set_option linter.unusedVariables false
set_option linter.unusedSimpArgs false
set_option linter.unusedSectionVars false
namespace Ga
/-- up, once across, and down -/
def valB (W : Nat → Nat → Int) : Bool → List Int → Bool
  | d, a :: b :: r => if W a.toNat b.toNat = 0 ∨ (d = true ∧ W a.toNat b.toNat ≠ 1) then false else valB W (d || decide (W a.toNat b.toNat ≠ 3)) (b :: r)
  | _, _ => true
theorem val_dn {W : Nat → Nat → Int} {n to : Nat} {p : List Int} (h : Dn W n to p) : ∀ d, valB W d p = true := by
  induction h with
  | base h => intro d; rfl
  | step h0 hi hw ih =>
    intro d
    unfold valB
    simp only [Int.toNat_natCast, hw]
    rw [if_neg (by omega)]
    exact ih _
section
variable {W : Nat → Nat → Int} {n to : Nat} (ok : OkW W n) (hto : to < n)
include ok hto
omit ok hto in
theorem rest_shape {T : List Way} (h : Rest W n to T) {i : Nat} (hi : i < n) : (i = to ∧ wy T i = (0, [(to : Int)])) ∨ (i ≠ to ∧ wy T i = (0, [])) ∨
    (i ≠ to ∧ ∃ k, k < n ∧ (W i k ≠ 0 ∧ (wy T k).2 ≠ [] ∧ ¬ (i : Int) ∈ (wy T k).2 ∧ ((wy T k).1 = 0 ∨ (wy T k).1 = 1 ∨ W k i = 1)) ∧ wy T i = (W i k, (i : Int) :: (wy T k).2)) := by
  by_cases e : i = to
  · subst e; exact .inl ⟨rfl, h.dest⟩
  · right
    rw [h.best i hi e]
    rcases best_or (offers_ne (W := W) (n := n) (T := T) (i := i)) with ⟨_, e'⟩ | e'
    · exact .inl ⟨e, e'⟩
    · exact .inr ⟨e, mem_offers.1 e'⟩
/-- a way at rest: from its node to the end, no node twice, without a valley -/
structure Right (W : Nat → Nat → Int) (n to i : Nat) (x : Way) : Prop where
  head : ∃ p, x.2 = (i : Int) :: p
  last : x.2.getLast? = some (to : Int)
  once : x.2.Nodup
  mem : ∀ y ∈ x.2, 0 ≤ y ∧ y < n
  what : ∀ a b r, x.2 = a :: b :: r → x.1 = W a.toNat b.toNat
  val : valB W false x.2 = true
theorem rest_right {T : List Way} (h : Rest W n to T) : ∀ (m i : Nat), (wy T i).2.length = m → i < n → (wy T i).2 ≠ [] → Right W n to i (wy T i) := by
  intro m
  induction m using Nat.strongRecOn with
  | _ m ih =>
    intro i hm hi hne
    rcases rest_shape h hi with ⟨rfl, e⟩ | ⟨_, e⟩ | ⟨_, k, hk, ⟨h1, h2, h3, h4⟩, e⟩
    · rw [e]
      exact ⟨⟨[], rfl⟩, rfl, by simp, by intro y hy; simp at hy; subst hy; omega, by intro a b r hr; simp at hr, rfl⟩
    · rw [e] at hne; exact absurd rfl hne
    · have r := ih (wy T k).2.length (by rw [← hm, e]; simp) k rfl hk h2
      obtain ⟨p, hp⟩ := r.head
      have hrev := ok.rev i k h1
      have hv := ok.val i k
      rw [e]
      refine ⟨⟨_, rfl⟩, ?_, ?_, ?_, ?_, ?_⟩
      · simp only; rw [hp, List.getLast?_cons_cons, ← hp]; exact r.last
      · exact List.nodup_cons.2 ⟨h3, r.once⟩
      · intro y hy
        rcases List.mem_cons.1 hy with rfl | hy
        · omega
        · exact r.mem y hy
      · intro a b q hq
        simp only [List.cons.injEq] at hq
        obtain ⟨rfl, hq⟩ := hq
        rw [hp] at hq
        simp only [List.cons.injEq] at hq
        obtain ⟨rfl, _⟩ := hq
        simp
      · simp only
        rw [hp]
        show (if _ then _ else _) = _
        simp only [Int.toNat_natCast]
        rw [if_neg (by simp; exact h1)]
        by_cases hw : W i k = 3
        · have hd : (false || decide (W i k ≠ 3)) = false := by simp [hw]
          rw [hd, ← hp]; exact r.val
        · have ht : (wy T k).1 = 0 ∨ (wy T k).1 = 1 := by rcases h4 with h | h | h; exact .inl h; exact .inr h; omega
          have hdn := dn_of ok hto (rest_inv ok hto h) hk h2 ht
          rw [hp] at hdn
          exact val_dn hdn _
end
/-! ### deals -/
abbrev Deal := Int × Int × Int
def whatL : List Deal → Int → Int → Int
  | [], _, _ => 0
  | x :: r, a, b => if x.1 = a ∧ x.2.1 = b then x.2.2 else if x.1 = b ∧ x.2.1 = a then 4 - x.2.2 else whatL r a b
def pairD (x y : Deal) : Bool := decide (y.1 = x.1 ∧ y.2.1 = x.2.1 ∨ y.1 = x.2.1 ∧ y.2.1 = x.1)
structure OkD (n : Nat) (d : List Deal) : Prop where
  rng : ∀ x ∈ d, 0 ≤ x.1 ∧ x.1 < n ∧ 0 ≤ x.2.1 ∧ x.2.1 < n ∧ 1 ≤ x.2.2 ∧ x.2.2 ≤ 3 ∧ x.1 ≠ x.2.1
  twice : d.Pairwise fun x y => pairD y x = false
def WL (d : List Deal) (i k : Nat) : Int := whatL d i k
theorem what_val {n : Nat} {d : List Deal} (h : ∀ x ∈ d, 0 ≤ x.1 ∧ x.1 < n ∧ 0 ≤ x.2.1 ∧ x.2.1 < n ∧ 1 ≤ x.2.2 ∧ x.2.2 ≤ 3 ∧ x.1 ≠ x.2.1) (a b : Int) : whatL d a b = 0 ∨ whatL d a b = 1 ∨ whatL d a b = 2 ∨ whatL d a b = 3 := by
  induction d with
  | nil => exact .inl rfl
  | cons x r ih =>
    have hx := h x (by simp)
    unfold whatL
    split
    · omega
    · split
      · omega
      · exact ih (fun y hy => h y (by simp [hy]))
theorem what_rev {n : Nat} {d : List Deal} (h : ∀ x ∈ d, 0 ≤ x.1 ∧ x.1 < n ∧ 0 ≤ x.2.1 ∧ x.2.1 < n ∧ 1 ≤ x.2.2 ∧ x.2.2 ≤ 3 ∧ x.1 ≠ x.2.1) (a b : Int) (h0 : whatL d a b ≠ 0) : whatL d b a = 4 - whatL d a b := by
  induction d with
  | nil => exact absurd rfl h0
  | cons x r ih =>
    have hx := h x (by simp)
    unfold whatL at h0 ⊢
    by_cases h1 : x.1 = a ∧ x.2.1 = b
    · rw [if_pos h1, if_neg (by omega), if_pos h1]
    · by_cases h2 : x.1 = b ∧ x.2.1 = a
      · rw [if_pos h2, if_neg h1, if_pos h2]; omega
      · rw [if_neg h1, if_neg h2] at h0
        rw [if_neg h2, if_neg h1, if_neg h1, if_neg h2]
        exact ih (fun y hy => h y (by simp [hy])) h0
theorem what_in {n : Nat} {d : List Deal} (h : ∀ x ∈ d, 0 ≤ x.1 ∧ x.1 < n ∧ 0 ≤ x.2.1 ∧ x.2.1 < n ∧ 1 ≤ x.2.2 ∧ x.2.2 ≤ 3 ∧ x.1 ≠ x.2.1) {a b : Int} (h0 : whatL d a b ≠ 0) : 0 ≤ a ∧ a < n ∧ 0 ≤ b ∧ b < n ∧ a ≠ b := by
  induction d with
  | nil => exact absurd rfl h0
  | cons x r ih =>
    have hx := h x (by simp)
    unfold whatL at h0
    by_cases h1 : x.1 = a ∧ x.2.1 = b
    · omega
    · by_cases h2 : x.1 = b ∧ x.2.1 = a
      · omega
      · rw [if_neg h1, if_neg h2] at h0
        exact ih (fun y hy => h y (by simp [hy])) h0
/-! ### who is done -/
def doneG (D : List Bool) (i : Nat) : Bool := D.getD i false
/-- is some provider of it not done -/
def openB (W : Nat → Nat → Int) (n : Nat) (D : List Bool) (i : Nat) : Bool := (List.range n).any fun k => decide (W i k = 3) && !doneG D k
def doneS (W : Nat → Nat → Int) (n : Nat) (D : List Bool) (i : Nat) : List Bool := D.set i (doneG D i || !openB W n D i)
def doneR (W : Nat → Nat → Int) (n : Nat) (D : List Bool) : List Bool := (List.range n).foldl (doneS W n) D
def doneN (W : Nat → Nat → Int) (n : Nat) : Nat → List Bool → List Bool
  | 0, D => D
  | t + 1, D => doneR W n (doneN W n t D)
theorem doneG_set {D : List Bool} {i j : Nat} {b : Bool} (hj : j < D.length) : doneG (D.set j b) i = if i = j then b else doneG D i := by
  unfold doneG
  by_cases h : i = j
  · subst h; rw [if_pos rfl, List.getD_eq_getElem?_getD, List.getElem?_set_self hj]; rfl
  · rw [if_neg h, List.getD_eq_getElem?_getD, List.getD_eq_getElem?_getD, List.getElem?_set_ne (by omega)]
theorem doneS_len (W : Nat → Nat → Int) (n : Nat) (D : List Bool) (i : Nat) : (doneS W n D i).length = D.length := by simp [doneS]
theorem doneF_len (W : Nat → Nat → Int) (n : Nat) : ∀ (l : List Nat) (D : List Bool), (l.foldl (doneS W n) D).length = D.length
  | [], D => rfl
  | i :: l, D => by rw [List.foldl_cons, doneF_len W n l, doneS_len]
theorem doneN_len (W : Nat → Nat → Int) (n : Nat) (D : List Bool) : ∀ t, (doneN W n t D).length = D.length
  | 0 => rfl
  | t + 1 => by show (doneR W n _).length = _; unfold doneR; rw [doneF_len, doneN_len W n D t]
/-- who is done is so behind all whom it pays to -/
def Ranked (W : Nat → Nat → Int) (n : Nat) (D : List Bool) : Prop := ∃ rk : Nat → Nat, ∀ i, i < n → doneG D i = true → ∀ k, k < n → W i k = 3 → doneG D k = true ∧ rk k < rk i
theorem ranked_step {W : Nat → Nat → Int} {n : Nat} {D : List Bool} (hD : D.length = n) (h : Ranked W n D) {i : Nat} (hi : i < n) : Ranked W n (doneS W n D i) := by
  obtain ⟨rk, hr⟩ := h
  have hs := fun j => doneG_set (D := D) (i := j) (j := i) (b := doneG D i || !openB W n D i) (by rw [hD]; exact hi)
  by_cases hdi : doneG D i = true
  · refine ⟨rk, fun j hj hd k hk hw => ?_⟩
    have he : ∀ j, doneG (doneS W n D i) j = doneG D j := fun j => by
      show doneG (D.set _ _) j = _
      rw [hs]; by_cases e : j = i
      · rw [if_pos e, e, hdi]; rfl
      · rw [if_neg e]
    rw [he] at hd ⊢
    exact hr j hj hd k hk hw
  · obtain ⟨K, hK⟩ := fin_bd rk n
    refine ⟨fun j => if j = i then K else rk j, fun j hj hd k hk hw => ?_⟩
    have hd' : doneG (D.set i (doneG D i || !openB W n D i)) j = true := hd
    show doneG (D.set i (doneG D i || !openB W n D i)) k = true ∧ _
    rw [hs] at hd' ⊢
    by_cases e : j = i
    · subst e
      rw [if_pos rfl] at hd'
      have hop : openB W n D j = false := by
        rw [Bool.not_eq_true] at hdi
        rw [hdi] at hd'
        simpa using hd'
      have hdk : doneG D k = true := by
        have := List.any_eq_false.1 hop k (by simpa using hk)
        simp [hw] at this
        exact this
      have hkj : k ≠ j := fun e => hdi (by rw [← e]; exact hdk)
      rw [if_neg hkj]
      refine ⟨hdk, ?_⟩
      simp only [if_neg hkj, if_true]
      exact hK k hk
    · rw [if_neg e] at hd'
      obtain ⟨h1, h2⟩ := hr j hj hd' k hk hw
      have hki : k ≠ i := fun e' => hdi (by rw [← e']; exact h1)
      rw [if_neg hki]
      refine ⟨h1, ?_⟩
      simp only [if_neg hki, if_neg e]
      exact h2
theorem ranked_fold {W : Nat → Nat → Int} {n : Nat} : ∀ (l : List Nat) {D : List Bool}, D.length = n → (∀ i ∈ l, i < n) → Ranked W n D → Ranked W n (l.foldl (doneS W n) D)
  | [], D, _, _, h => h
  | i :: l, D, hD, hl, h => ranked_fold l (by rw [doneS_len, hD]) (fun k hk => hl k (by simp [hk])) (ranked_step hD h (hl i (by simp)))
theorem ranked_all {W : Nat → Nat → Int} {n : Nat} : ∀ t, Ranked W n (doneN W n t (List.replicate n false))
  | 0 => ⟨fun _ => 0, fun i hi hd => by
      unfold doneG at hd
      rw [List.getD_eq_getElem?_getD] at hd
      have : (doneN W n 0 (List.replicate n false))[i]? = some false := by show (List.replicate n false)[i]? = _; simp [hi]
      rw [this] at hd; cases hd⟩
  | t + 1 => ranked_fold _ (by rw [doneN_len]; simp) (fun i hi => by simpa using hi) (ranked_all t)
/-- the fault of what is left, behind what was seen -/
def badD (n : Int) (x : Deal) : Bool := decide (x.1 < 0 ∨ n ≤ x.1 ∨ x.2.1 < 0 ∨ n ≤ x.2.1 ∨ x.2.2 < 1 ∨ 3 < x.2.2)
def dealR (n : Int) : List Deal → List Deal → Int
  | _, [] => 0
  | seen, x :: r => if badD n x = true then 1 else if x.1 = x.2.1 then 3 else if seen.any (pairD x) = true then 5 else dealR n (seen ++ [x]) r
def allDone (n : Nat) (d : List Deal) : Bool := (doneN (WL d) n n (List.replicate n false)).all id
def dealE (n : Int) (d : List Deal) : Int := if n < 1 ∨ 8 < n then 1 else if dealR n [] d = 0 then (if allDone n.toNat d = true then 0 else 3) else dealR n [] d
theorem dealR_ok {n : Nat} : ∀ (l seen : List Deal), dealR n seen l = 0 → (∀ x ∈ l, 0 ≤ x.1 ∧ x.1 < n ∧ 0 ≤ x.2.1 ∧ x.2.1 < n ∧ 1 ≤ x.2.2 ∧ x.2.2 ≤ 3 ∧ x.1 ≠ x.2.1) ∧ (∀ x ∈ l, ∀ y ∈ seen, pairD x y = false) ∧ l.Pairwise fun x y => pairD y x = false
  | [], seen, _ => ⟨by simp, by simp, List.Pairwise.nil⟩
  | x :: r, seen, h => by
    unfold dealR at h
    by_cases h1 : badD n x = true
    · rw [if_pos h1] at h; cases h
    rw [if_neg h1] at h
    by_cases h2 : x.1 = x.2.1
    · rw [if_pos h2] at h; cases h
    rw [if_neg h2] at h
    by_cases h3 : seen.any (pairD x) = true
    · rw [if_pos h3] at h; cases h
    rw [if_neg h3] at h
    obtain ⟨i1, i2, i3⟩ := dealR_ok r _ h
    have hb : ¬ (x.1 < 0 ∨ (n : Int) ≤ x.1 ∨ x.2.1 < 0 ∨ (n : Int) ≤ x.2.1 ∨ x.2.2 < 1 ∨ 3 < x.2.2) := fun hc => h1 (by unfold badD; exact decide_eq_true hc)
    have hs : ∀ y ∈ seen, pairD x y = false := fun y hy => by
      cases e : pairD x y with
      | false => rfl
      | true => exact absurd (List.any_eq_true.2 ⟨y, hy, e⟩) h3
    refine ⟨fun y hy => ?_, fun y hy z hz => ?_, ?_⟩
    · rcases List.mem_cons.1 hy with rfl | hy
      · exact ⟨by omega, by omega, by omega, by omega, by omega, by omega, h2⟩
      · exact i1 y hy
    · rcases List.mem_cons.1 hy with rfl | hy
      · exact hs z hz
      · exact i2 y hy z (by simp [hz])
    · exact List.pairwise_cons.2 ⟨fun y hy => i2 y hy x (by simp), i3⟩
/-- deals without a fault -/
structure OkG (n : Nat) (d : List Deal) : Prop where
  one : 1 ≤ n
  eight : n ≤ 8
  rng : ∀ x ∈ d, 0 ≤ x.1 ∧ x.1 < n ∧ 0 ≤ x.2.1 ∧ x.2.1 < n ∧ 1 ≤ x.2.2 ∧ x.2.2 ≤ 3 ∧ x.1 ≠ x.2.1
  twice : d.Pairwise fun x y => pairD y x = false
  okw : OkW (WL d) n
theorem dealE_ok {n : Int} {d : List Deal} (h : dealE n d = 0) : ∃ m : Nat, n = (m : Int) ∧ OkG m d := by
  unfold dealE at h
  by_cases h1 : n < 1 ∨ 8 < n
  · rw [if_pos h1] at h; cases h
  rw [if_neg h1] at h
  by_cases h2 : dealR n [] d = 0
  · rw [if_pos h2] at h
    by_cases h3 : allDone n.toNat d = true
    · obtain ⟨m, rfl⟩ := Int.eq_ofNat_of_zero_le (show 0 ≤ n by omega)
      obtain ⟨i1, _, i3⟩ := dealR_ok d [] h2
      refine ⟨m, rfl, by omega, by omega, i1, i3, fun i k => what_val i1 i k, fun i k h0 => what_rev i1 i k h0, ?_⟩
      obtain ⟨rk, hr⟩ := ranked_all (W := WL d) (n := m) m
      refine ⟨rk, fun i k hi hk hw => (hr i hi ?_ k hk hw).2⟩
      have hl : (doneN (WL d) m m (List.replicate m false)).length = m := by rw [doneN_len]; simp
      unfold allDone at h3
      simp only [Int.toNat_natCast] at h3
      unfold doneG
      rw [List.getD_eq_getElem?_getD, List.getElem?_eq_getElem (by omega)]
      exact List.all_eq_true.1 h3 _ (List.getElem_mem (by omega))
    · rw [if_neg h3] at h; cases h
  · rw [if_neg h2] at h; exact absurd h h2
end Ga
end Go.Proofs.YtnihheikaddmoaaDoor
