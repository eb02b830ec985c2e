/- The desk in plain lists: what a line answers and what becomes of the table; whole scripts; no program in sight. What the laws on scripts ask of the plain desk; no program in sight. addr.Parse: of an address's text that address, of every other text ErrForm. -/
import Derived.Test.YtgdlkjahlajcpaaGreatDoorKJ
import Derived.Test.YtgdlkjahlajcpaaGreatDoorKL
import Derived.Test.YtgdlkjahlajcpaaGreatDoorKB
import Derived.Test.YtgdlkjahlajcpaaGreatDoorKD
namespace Go.Proofs.YtgdlkjahlajcpaaGreatDoor
open Go.ChangeShapes Go.WideShapes Go.ChangeAt Go.RowKit
set_option linter.unusedVariables false
set_option linter.unusedSimpArgs false

abbrev Tab := List (Nt × Int)
abbrev Ans := Except Int (List UInt8)
/-! ### words -/
open Classical in
noncomputable def netO (s : List UInt8) : Option Nt :=
  if h : ∃ p : Nat × Nat, p.1 < 4294967296 ∧ netF ((p.1 : Int), (p.2 : Int)) = 0 ∧ s = netT p.1 p.2 then some ((h.choose.1 : Int), (h.choose.2 : Int)) else none
theorem netO_yes {s : List UInt8} {a k : Nat} (ha : a < 4294967296) (hn : netF ((a : Int), (k : Int)) = 0) (hs : s = netT a k) : netO s = some ((a : Int), (k : Int)) := by
  have h : ∃ p : Nat × Nat, p.1 < 4294967296 ∧ netF ((p.1 : Int), (p.2 : Int)) = 0 ∧ s = netT p.1 p.2 := ⟨(a, k), ha, hn, hs⟩
  unfold netO
  rw [dif_pos h]
  obtain ⟨e1, e2⟩ := netT_inj (h.choose_spec.2.2.symm.trans hs)
  rw [e1, e2]
theorem netO_no {s : List UInt8} (h : ∀ a k : Nat, a < 4294967296 → netF ((a : Int), (k : Int)) = 0 → s ≠ netT a k) : netO s = none := by
  unfold netO
  rw [dif_neg]
  rintro ⟨p, h1, h2, h3⟩
  exact h p.1 p.2 h1 h2 h3
theorem netO_cases (s : List UInt8) : (∃ a k : Nat, a < 4294967296 ∧ k ≤ 32 ∧ netF ((a : Int), (k : Int)) = 0 ∧ s = netT a k ∧ netO s = some ((a : Int), (k : Int))) ∨ ((∀ a k : Nat, a < 4294967296 → netF ((a : Int), (k : Int)) = 0 → s ≠ netT a k) ∧ netO s = none) := by
  by_cases h : ∃ p : Nat × Nat, p.1 < 4294967296 ∧ netF ((p.1 : Int), (p.2 : Int)) = 0 ∧ s = netT p.1 p.2
  · obtain ⟨p, h1, h2, h3⟩ := h
    have hk := (netF_zero.1 h2).2.1
    exact .inl ⟨p.1, p.2, h1, by omega, h2, h3, netO_yes h1 h2 h3⟩
  · have h' : ∀ a k : Nat, a < 4294967296 → netF ((a : Int), (k : Int)) = 0 → s ≠ netT a k := fun a k h1 h2 h3 => h ⟨(a, k), h1, h2, h3⟩
    exact .inr ⟨h', netO_no h'⟩
open Classical in
noncomputable def addrO (s : List UInt8) : Option Nat :=
  if h : ∃ a : Nat, a < 4294967296 ∧ s = addrT a then some h.choose else none
theorem addrO_yes {s : List UInt8} {a : Nat} (ha : a < 4294967296) (hs : s = addrT a) : addrO s = some a := by
  have h : ∃ a : Nat, a < 4294967296 ∧ s = addrT a := ⟨a, ha, hs⟩
  unfold addrO
  rw [dif_pos h, addrT_inj (h.choose_spec.2.symm.trans hs)]
theorem addrO_no {s : List UInt8} (h : ∀ a : Nat, a < 4294967296 → s ≠ addrT a) : addrO s = none := by
  unfold addrO
  rw [dif_neg]
  rintro ⟨a, h1, h2⟩
  exact h a h1 h2
theorem addrO_cases (s : List UInt8) : (∃ a : Nat, a < 4294967296 ∧ s = addrT a ∧ addrO s = some a) ∨ ((∀ a : Nat, a < 4294967296 → s ≠ addrT a) ∧ addrO s = none) := by
  by_cases h : ∃ a : Nat, a < 4294967296 ∧ s = addrT a
  · obtain ⟨a, h1, h2⟩ := h
    exact .inl ⟨a, h1, h2, addrO_yes h1 h2⟩
  · have h' : ∀ a : Nat, a < 4294967296 → s ≠ addrT a := fun a h1 h2 => h ⟨a, h1, h2⟩
    exact .inr ⟨h', addrO_no h'⟩
open Classical in
noncomputable def numO (s : List UInt8) : Option Nat :=
  if h : ∃ n : Nat, n ≤ 1073741824 ∧ s = dd n then some h.choose else none
theorem numO_yes {s : List UInt8} {n : Nat} (hn : n ≤ 1073741824) (hs : s = dd n) : numO s = some n := by
  have h : ∃ n : Nat, n ≤ 1073741824 ∧ s = dd n := ⟨n, hn, hs⟩
  unfold numO
  rw [dif_pos h, dd_inj (h.choose_spec.2.symm.trans hs)]
theorem numO_no {s : List UInt8} (h : ∀ n : Nat, n ≤ 1073741824 → s ≠ dd n) : numO s = none := by
  unfold numO
  rw [dif_neg]
  rintro ⟨a, h1, h2⟩
  exact h a h1 h2
theorem numO_cases (s : List UInt8) : (∃ n : Nat, n ≤ 1073741824 ∧ s = dd n ∧ numO s = some n) ∨ ((∀ n : Nat, n ≤ 1073741824 → s ≠ dd n) ∧ numO s = none) := by
  by_cases h : ∃ n : Nat, n ≤ 1073741824 ∧ s = dd n
  · obtain ⟨a, h1, h2⟩ := h
    exact .inl ⟨a, h1, h2, numO_yes h1 h2⟩
  · have h' : ∀ n : Nat, n ≤ 1073741824 → s ≠ dd n := fun a h1 h2 => h ⟨a, h1, h2⟩
    exact .inr ⟨h', numO_no h'⟩

/-! ### answers -/
def netX (x : Nt) : List UInt8 := netT x.1.toNat x.2.toNat
def netsT (l : List Nt) : List UInt8 := Lib.join (l.map netX) [32]
def sumL (a : Int) : List Int := [a / 16777216, a / 65536 % 256, a / 256 % 256, a % 256]
def okT : List UInt8 := [111, 107]
def putX (m : Tab) (x : Option Nt) (v : Option Nat) : Ans × Tab :=
  match x, v with
  | some n, some v => if putE m n = 0 then (.ok okT, putT m n v) else (.error (putE m n), m)
  | _, _ => (.error 7, m)
def dropX (m : Tab) : Option Nt → Ans × Tab
  | some n => if getE m n = 0 then (.ok okT, dropT m n) else (.error (getE m n), m)
  | none => (.error 7, m)
def getX (m : Tab) : Option Nt → Ans
  | some n => if getE m n = 0 then .ok (dd (getV m n).toNat) else .error (getE m n)
  | none => .error 7
def findT (a : Int) : Option (Nat × Int) → Ans
  | none => .error 2
  | some (k, v) => .ok (netT (fl (lowI k) a).toNat k ++ 32 :: dd v.toNat)
def findX (m : Tab) : Option Nat → Ans
  | some a => findT a (fnd m a 33)
  | none => .error 7
def comX (x y : Option Nt) : Ans :=
  match x, y with
  | some a, some b => .ok (netX (comN a b))
  | _, _ => .error 7
def sumX : Option Nat → Ans
  | some a => .ok (dd (S16 (sumL a)).toNat)
  | none => .error 7
def nPut : List UInt8 := [112, 117, 116]
def nDrop : List UInt8 := [100, 114, 111, 112]
def nGet : List UInt8 := [103, 101, 116]
def nFind : List UInt8 := [102, 105, 110, 100]
def nList : List UInt8 := [108, 105, 115, 116]
def nCover : List UInt8 := [99, 111, 118, 101, 114]
def nCommon : List UInt8 := [99, 111, 109, 109, 111, 110]
def nSum : List UInt8 := [115, 117, 109]
def lineW1 (m : Tab) (c : List UInt8) : Ans × Tab := if c = nList then (.ok (netsT (allM m)), m) else if c = nCover then (.ok (netsT (coverV (allM m))), m) else (.error 7, m)
noncomputable def lineW2 (m : Tab) (c x : List UInt8) : Ans × Tab := if c = nDrop then dropX m (netO x) else if c = nGet then (getX m (netO x), m) else if c = nFind then (findX m (addrO x), m) else if c = nSum then (sumX (addrO x), m) else (.error 7, m)
noncomputable def lineW3 (m : Tab) (c x y : List UInt8) : Ans × Tab := if c = nPut then putX m (netO x) (numO y) else if c = nCommon then (comX (netO x) (netO y), m) else (.error 7, m)
noncomputable def lineW (m : Tab) : List (List UInt8) → Ans × Tab
  | [c] => lineW1 m c
  | [c, x] => lineW2 m c x
  | [c, x, y] => lineW3 m c x y
  | _ => (.error 7, m)
noncomputable def lineA (m : Tab) (s : List UInt8) : Ans × Tab := lineW m (segs 32 s)
def ansT : Ans → List UInt8
  | .ok t => t
  | .error k => nameE k
/-- what the desk's table is at all times -/
structure DOk (m : Tab) : Prop where
  ok : MOk m
  num : ∀ e ∈ m, 0 ≤ e.2 ∧ e.2 ≤ 1073741824
theorem DOk.nil : DOk [] := ⟨MOk.nil, by simp⟩
theorem putE_net {m : Tab} {x : Nt} (h : netF x = 0) : putE m x = 0 ∨ putE m x = 4 := by unfold putE; rw [if_pos h]; split <;> simp
theorem getE_net {m : Tab} {x : Nt} (h : netF x = 0) : (getE m x = 0 ∧ ∃ v, look m x = some v) ∨ (getE m x = 2 ∧ look m x = none) := by
  unfold getE; rw [if_pos h]
  cases e : look m x with
  | none => right; simp
  | some v => left; simp
theorem putX_ok {m : Tab} (h : DOk m) (s t : List UInt8) : DOk (putX m (netO s) (numO t)).2 := by
  rcases netO_cases s with ⟨a, k, ha, hk, hn, hs, e⟩ | ⟨_, e⟩
  · rcases numO_cases t with ⟨v, hv, ht, e2⟩ | ⟨_, e2⟩
    · rw [e, e2]
      unfold putX
      simp only
      split
      · rename_i h0
        have hl : look m ((a : Int), (k : Int)) = none → m.length < 64 := fun hl => by
          have := h.ok.len
          unfold putE at h0
          rw [if_pos hn] at h0
          split at h0
          · exact absurd h0 (by decide)
          · rename_i h1
            exact Nat.lt_of_le_of_ne this fun e => h1 ⟨hl, e⟩
        unfold putT
        rw [if_pos h0]
        refine ⟨h.ok.put hn ⟨by omega, by omega⟩ (WalkArith.wf_i64 (by omega)) hl, ?_⟩
        intro e he
        unfold putM at he
        rcases List.mem_append.1 he with he | he
        · exact h.num e (List.mem_filter.1 he).1
        · simp only [List.mem_cons, List.not_mem_nil, or_false] at he
          subst he
          exact ⟨by omega, by omega⟩
      · exact h
    · rw [e, e2]; exact h
  · rw [e]; exact h
theorem dropX_ok {m : Tab} (h : DOk m) (s : List UInt8) : DOk (dropX m (netO s)).2 := by
  rcases netO_cases s with ⟨a, k, ha, hk, hn, hs, e⟩ | ⟨_, e⟩
  · rw [e]
    unfold dropX
    simp only
    split
    · rename_i h0
      unfold dropT
      rw [if_pos h0]
      exact ⟨h.ok.del _, fun e he => h.num e (List.mem_filter.1 he).1⟩
    · exact h
  · rw [e]; exact h
theorem line_ok {m : Tab} (h : DOk m) (s : List UInt8) : DOk (lineA m s).2 := by
  unfold lineA lineW
  split
  · unfold lineW1
    split
    · exact h
    · split <;> exact h
  · unfold lineW2
    split
    · exact dropX_ok h _
    · split
      · exact h
      · split
        · exact h
        · split <;> exact h
  · unfold lineW3
    split
    · exact putX_ok h _ _
    · split <;> exact h
  · exact h
/-- an answer that is an error's name that a line may end in leaves the table -/
def errT (t : List UInt8) : Prop := t = nameE 7 ∨ t = nameE 2 ∨ t = nameE 4
theorem no_ok : ¬ errT (ansT (.ok okT)) := by unfold errT; decide
theorem dropX_keeps (m : Tab) (o : Option Nt) : errT (ansT (dropX m o).1) → (dropX m o).2 = m := by
  cases o with
  | none => exact fun _ => rfl
  | some n =>
    by_cases h0 : getE m n = 0
    · have e : dropX m (some n) = (.ok okT, dropT m n) := by unfold dropX; simp only; rw [if_pos h0]
      rw [e]; exact fun h => (no_ok h).elim
    · have e : dropX m (some n) = (.error (getE m n), m) := by unfold dropX; simp only; rw [if_neg h0]
      rw [e]; exact fun _ => rfl
theorem putX_keeps (m : Tab) (o : Option Nt) (v : Option Nat) : errT (ansT (putX m o v).1) → (putX m o v).2 = m := by
  cases o with
  | none => exact fun _ => rfl
  | some n =>
    cases v with
    | none => exact fun _ => rfl
    | some v =>
      by_cases h0 : putE m n = 0
      · have e : putX m (some n) (some v) = (.ok okT, putT m n v) := by unfold putX; simp only; rw [if_pos h0]
        rw [e]; exact fun h => (no_ok h).elim
      · have e : putX m (some n) (some v) = (.error (putE m n), m) := by unfold putX; simp only; rw [if_neg h0]
        rw [e]; exact fun _ => rfl
theorem lineW_keeps (m : Tab) (ws : List (List UInt8)) : errT (ansT (lineW m ws).1) → (lineW m ws).2 = m := by
  match ws with
  | [] => exact fun _ => rfl
  | [c] =>
    show errT (ansT (lineW1 m c).1) → (lineW1 m c).2 = m
    unfold lineW1
    by_cases h1 : c = nList
    · rw [if_pos h1]; exact fun _ => rfl
    · rw [if_neg h1]
      by_cases h2 : c = nCover
      · rw [if_pos h2]; exact fun _ => rfl
      · rw [if_neg h2]; exact fun _ => rfl
  | [c, x] =>
    show errT (ansT (lineW2 m c x).1) → (lineW2 m c x).2 = m
    unfold lineW2
    by_cases h1 : c = nDrop
    · rw [if_pos h1]; exact dropX_keeps _ _
    · rw [if_neg h1]
      by_cases h2 : c = nGet
      · rw [if_pos h2]; exact fun _ => rfl
      · rw [if_neg h2]
        by_cases h3 : c = nFind
        · rw [if_pos h3]; exact fun _ => rfl
        · rw [if_neg h3]
          by_cases h4 : c = nSum
          · rw [if_pos h4]; exact fun _ => rfl
          · rw [if_neg h4]; exact fun _ => rfl
  | [c, x, y] =>
    show errT (ansT (lineW3 m c x y).1) → (lineW3 m c x y).2 = m
    unfold lineW3
    by_cases h1 : c = nPut
    · rw [if_pos h1]; exact putX_keeps _ _ _
    · rw [if_neg h1]
      by_cases h2 : c = nCommon
      · rw [if_pos h2]; exact fun _ => rfl
      · rw [if_neg h2]; exact fun _ => rfl
  | _ :: _ :: _ :: _ :: _ => exact fun _ => rfl
theorem line_keeps (m : Tab) (s : List UInt8) (h : errT (ansT (lineA m s).1)) : (lineA m s).2 = m := lineW_keeps m _ h

/-! ### scripts -/
noncomputable def runA : Tab → List (List UInt8) → List (List UInt8)
  | _, [] => []
  | m, s :: r => ansT (lineA m s).1 :: runA (lineA m s).2 r
noncomputable def tabA : Tab → List (List UInt8) → Tab
  | m, [] => m
  | m, s :: r => tabA (lineA m s).2 r
theorem runA_length : ∀ (m : Tab) (l : List (List UInt8)), (runA m l).length = l.length
  | _, [] => rfl
  | m, s :: r => by simp only [runA, List.length_cons, runA_length]
theorem runA_append : ∀ (m : Tab) (l r : List (List UInt8)), runA m (l ++ r) = runA m l ++ runA (tabA m l) r
  | _, [], _ => rfl
  | m, s :: l, r => by simp only [List.cons_append, runA, tabA, runA_append _ l r]
theorem tabA_append : ∀ (m : Tab) (l r : List (List UInt8)), tabA m (l ++ r) = tabA (tabA m l) r
  | _, [], _ => rfl
  | m, s :: l, r => by simp only [List.cons_append, tabA, tabA_append _ l r]
theorem tabA_ok : ∀ {m : Tab} (l : List (List UInt8)), DOk m → DOk (tabA m l)
  | _, [], h => h
  | m, s :: r, h => tabA_ok r (line_ok h s)
def linesA (s : List UInt8) : List (List UInt8) := if (segs 10 s).getLast? = some [] then (segs 10 s).dropLast else segs 10 s
noncomputable def deskA (s : List UInt8) : List (List UInt8) := if 100 < (linesA s).length then [nameE 4] else runA [] (linesA s)
theorem segs_cat (c : UInt8) : ∀ (s t : List UInt8), segs c (s ++ c :: t) = segs c s ++ segs c t
  | [], t => by simp [segs]
  | x :: r, t => by
    have ih := segs_cat c r t
    rw [List.cons_append]
    by_cases h : x = c
    · rw [segs, if_pos h, ih]
      conv => rhs; rw [segs, if_pos h]
      rfl
    · rw [segs, if_neg h, ih]
      conv => rhs; rw [segs, if_neg h]
      match e : segs c r, segs_ne c r with
      | p :: q, _ => simp
end Go.Proofs.YtgdlkjahlajcpaaGreatDoor
namespace Go.Proofs.YtgdlkjahlajcpaaGreatDoor
open Go.ChangeShapes Go.WideShapes Go.ChangeAt Go.RowKit
set_option linter.unusedVariables false
set_option linter.unusedSimpArgs false

/-- a line feed, list, a line feed, cover -/
def xLC : List UInt8 := [10, 108, 105, 115, 116, 10, 99, 111, 118, 101, 114]
theorem segs_LC : segs 10 (nList ++ 10 :: nCover) = [nList, nCover] := by decide
theorem lines_last {s : List UInt8} {p : List (List UInt8)} {x : List UInt8} (h : segs 10 s = p ++ [x]) (hx : x ≠ []) : linesA s = p ++ [x] := by
  unfold linesA
  rw [h, if_neg (by simpa using hx)]
theorem lines_a (s : List UInt8) : linesA (s ++ xLC) = segs 10 s ++ [nList, nCover] := by
  have e : segs 10 (s ++ xLC) = (segs 10 s ++ [nList]) ++ [nCover] := by
    show segs 10 (s ++ 10 :: (nList ++ 10 :: nCover)) = _
    rw [segs_cat, segs_LC]; simp
  rw [lines_last e (by decide)]; simp
theorem lines_b (s l : List UInt8) (hl : (10 : UInt8) ∉ l) : linesA (s ++ 10 :: (l ++ xLC)) = segs 10 s ++ [l, nList, nCover] := by
  have e : segs 10 (s ++ 10 :: (l ++ xLC)) = (segs 10 s ++ [l, nList]) ++ [nCover] := by
    rw [segs_cat]
    show segs 10 s ++ segs 10 (l ++ 10 :: (nList ++ 10 :: nCover)) = _
    rw [segs_hit _ hl, segs_LC]; simp
  rw [lines_last e (by decide)]; simp
theorem keeps_plain {s l : List UInt8} (hl : (segs 10 l).length = 1) (h1 : (deskA (s ++ 10 :: (l ++ xLC))).length = (deskA (s ++ xLC)).length + 1) (h2 : 2 ≤ (deskA (s ++ xLC)).length) :
    ∃ P x y z y' z', deskA (s ++ xLC) = P ++ [y, z] ∧ deskA (s ++ 10 :: (l ++ xLC)) = P ++ [x, y', z'] ∧ (errT x → y' = y ∧ z' = z) := by
  have hn : (10 : UInt8) ∉ l := by
    rw [segs_length] at hl
    exact List.count_eq_zero.1 (by omega)
  unfold deskA at h1 h2 ⊢
  rw [lines_a] at h1 h2 ⊢
  rw [lines_b _ _ hn] at h1 ⊢
  by_cases hA : 100 < (segs 10 s ++ [nList, nCover]).length
  · rw [if_pos hA] at h2; simp at h2
  · rw [if_neg hA] at h1 h2 ⊢
    by_cases hB : 100 < (segs 10 s ++ [l, nList, nCover]).length
    · rw [if_pos hB] at h1
      rw [runA_length] at h1 h2
      simp at h1 h2
    · rw [if_neg hB]
      refine ⟨runA [] (segs 10 s), _, _, _, _, _, runA_append _ _ _, runA_append _ _ _, fun he => ?_⟩
      rw [line_keeps _ _ he]
      exact ⟨rfl, rfl⟩
/-! ### the constants -/
theorem d1 {n : Nat} (h : n < 10) : dd n = [UInt8.ofNat (48 + n)] := dd_small h
theorem dd10 : dd 10 = [49, 48] := by rw [dd_big (by decide), dd_small (by decide)]; rfl
def netB : List UInt8 := [49, 48, 46, 48, 46, 48, 46, 48, 47, 56]
theorem netB_is : netB = netT 167772160 8 := by
  have e2 : dd 0 = [48] := by rw [dd_small (by decide)]; rfl
  have e3 : dd 8 = [56] := by rw [dd_small (by decide)]; rfl
  show netB = (dd 10 ++ 46 :: (dd 0 ++ 46 :: (dd 0 ++ 46 :: dd 0))) ++ 47 :: dd 8
  rw [dd10, e2, e3]; rfl
def addrB : List UInt8 := [49, 48, 46, 49, 46, 49, 46, 49]
theorem addrB_is : addrB = addrT 167837953 := by
  have e2 : dd 1 = [49] := by rw [dd_small (by decide)]; rfl
  show addrB = dd 10 ++ 46 :: (dd 1 ++ 46 :: (dd 1 ++ 46 :: dd 1))
  rw [dd10, e2]; rfl
theorem dd5 : dd 5 = [53] := by rw [dd_small (by decide)]; rfl
def put5 : List UInt8 := nPut ++ 32 :: (netB ++ [32, 53])
theorem nf8 : netF ((167772160 : Nat), (8 : Nat)) = 0 := by decide
theorem line_put5 : lineA [] put5 = (.ok okT, [((167772160, 8), 5)]) := by
  have e : segs 32 put5 = [nPut, netB, [53]] := by decide
  unfold lineA
  rw [e]
  show lineW3 [] nPut netB [53] = _
  unfold lineW3
  rw [if_pos rfl, netO_yes (a := 167772160) (k := 8) (by decide) nf8 netB_is, numO_yes (n := 5) (by decide) dd5.symm]
  have e0 : putE [] (((167772160 : Nat) : Int), ((8 : Nat) : Int)) = 0 := by decide
  have e1 : putT [] (((167772160 : Nat) : Int), ((8 : Nat) : Int)) ((5 : Nat) : Int) = [((167772160, 8), 5)] := by unfold putT; rw [if_pos e0]; rfl
  unfold putX
  simp only
  rw [if_pos e0, e1]
theorem ok5 : MOk [(((167772160 : Int), (8 : Int)), (5 : Int))] := by
  have h := (line_ok DOk.nil put5).ok
  rw [line_put5] at h
  exact h
theorem all5 : allM [(((167772160 : Int), (8 : Int)), (5 : Int))] = [(167772160, 8)] := by
  have h1 := all_length ok5
  have h2 := (mem_all ok5 (167772160, 8)).2 (by decide)
  match e : allM [(((167772160 : Int), (8 : Int)), (5 : Int))], h1, h2 with
  | [x], _, h2 => simp at h2; rw [h2]
theorem fact_keeps : deskA (put5 ++ 10 :: nList) = [okT, netB] := by
  have hs : segs 10 (put5 ++ 10 :: nList) = [put5] ++ [nList] := by decide
  unfold deskA
  rw [lines_last hs (by decide), if_neg (by decide)]
  show [ansT (lineA [] put5).1, ansT (lineA (lineA [] put5).2 nList).1] = _
  rw [line_put5]
  have e : segs 32 nList = [nList] := by decide
  have e2 : lineA [(((167772160 : Int), (8 : Int)), (5 : Int))] nList = (.ok (netsT [(167772160, 8)]), [((167772160, 8), 5)]) := by
    unfold lineA
    rw [e]
    show lineW1 _ nList = _
    unfold lineW1
    rw [if_pos rfl, all5]
  rw [e2]
  show [okT, netsT [(167772160, 8)]] = _
  have e3 : netsT [(167772160, 8)] = netB := by rw [netB_is]; simp [netsT, netX, Lib.join, List.intercalate]
  rw [e3]
def find1 : List UInt8 := nFind ++ 32 :: addrB
theorem fact_answers : deskA (put5 ++ 10 :: find1) = [okT, netB ++ [32, 53]] := by
  have hs : segs 10 (put5 ++ 10 :: find1) = [put5] ++ [find1] := by decide
  unfold deskA
  rw [lines_last hs (by decide), if_neg (by decide)]
  show [ansT (lineA [] put5).1, ansT (lineA (lineA [] put5).2 find1).1] = _
  rw [line_put5]
  have e : segs 32 find1 = [nFind, addrB] := by decide
  have ef : fnd [(((167772160 : Int), (8 : Int)), (5 : Int))] ((167837953 : Nat) : Int) 33 = some (8, 5) := by decide +kernel
  have e2 : (lineA [(((167772160 : Int), (8 : Int)), (5 : Int))] find1).1 = .ok (netB ++ [32, 53]) := by
    unfold lineA
    rw [e]
    show (lineW2 _ nFind addrB).1 = _
    unfold lineW2
    rw [if_neg (by decide), if_neg (by decide), if_pos rfl, addrO_yes (a := 167837953) (by decide) addrB_is]
    have e5 : findX [(((167772160 : Int), (8 : Int)), (5 : Int))] (some 167837953) = findT ((167837953 : Nat) : Int) (fnd [(((167772160 : Int), (8 : Int)), (5 : Int))] ((167837953 : Nat) : Int) 33) := rfl
    show findX [(((167772160 : Int), (8 : Int)), (5 : Int))] (some 167837953) = _
    rw [e5, ef]
    show Except.ok (netT (fl (lowI 8) ((167837953 : Nat) : Int)).toNat 8 ++ 32 :: dd (5 : Int).toNat) = _
    have e4 : (fl (lowI 8) ((167837953 : Nat) : Int)).toNat = 167772160 := by decide
    rw [e4, ← netB_is, show (5 : Int).toNat = 5 from rfl, dd5]
  show [okT, ansT (lineA [(((167772160 : Int), (8 : Int)), (5 : Int))] find1).1] = _
  rw [e2]; rfl
end Go.Proofs.YtgdlkjahlajcpaaGreatDoor
namespace Go.Proofs.YtgdlkjahlajcpaaGreatDoor
open Go.ChangeShapes Go.WideShapes Go.ChangeAt Go.RowKit
set_option linter.unusedVariables false
set_option linter.unusedSimpArgs false

theorem Split_r (c : UInt8) (s : ByteArray) (w : World) (h : HStr w) (hs : s.size ≤ 2097152) :
    Calls Tryz.prog 9 #[.string s, .string ⟨#[c]⟩] w fun e w' => ∃ (L : List ByteArray) (g : Nat), L.map (·.data.toList) = segs c s.data.toList ∧ e = .returned (.slice (some ⟨g, 0, none⟩) L.length L.length) ∧
      (∀ (k : Nat) p, L[k]? = some p → w'.cell? ⟨g, k, none⟩ = some (.string p)) ∧ g < w'.heap.size ∧ Below w.heap.size w w' :=
  (Split_c c s w h hs).mono fun e w' ⟨L, h1, h2, h3⟩ => ⟨L, _, h1, h2, by subst h3; exact fun k p hk => by rw [World.cell?_alloc_at _ _ _ _ rfl, List.getElem?_toArray, List.getElem?_map, hk]; rfl, by subst h3; simp, by subst h3; exact (Below.refl _ _).alloc (Nat.le_refl _) _⟩
/-- pieces are no longer than the text -/
theorem segs_len_le (c : UInt8) : ∀ s : List UInt8, ∀ p ∈ segs c s, p.length ≤ s.length
  | [], p, hp => by simp [segs] at hp; simp [hp]
  | x :: r, p, hp => by
    have ih := segs_len_le c r
    rw [segs_split] at ih
    unfold segs at hp
    by_cases h : x = c
    · rw [if_pos h] at hp
      rcases List.mem_cons.1 hp with rfl | hp
      · simp
      · have := segs_len_le c r p hp; simp; omega
    · rw [if_neg h] at hp
      rcases List.mem_cons.1 hp with rfl | hp
      · have := ih _ (List.mem_cons_self ..); simp only [List.length_cons]; omega
      · have := ih p (by simp [hp]); simp; omega
theorem piece_size {c : UInt8} {s : ByteArray} {L : List ByteArray} (h : L.map (·.data.toList) = segs c s.data.toList) {k : Nat} {p : ByteArray} (hp : L[k]? = some p) : p.size ≤ s.size := by
  rw [← size_data, ← size_data]
  refine segs_len_le c _ _ ?_
  rw [← h]
  exact List.mem_map.2 ⟨p, List.mem_of_getElem? hp, rfl⟩
/-- what is told when k pieces are read -/
def accN (a k : Nat) : Nat := a / 2 ^ (32 - 8 * k)
theorem acc_rng {a k : Nat} (ha : a < 4294967296) (hk : k ≤ 4) : accN a k < 4294967296 := Nat.lt_of_le_of_lt (Nat.div_le_self _ _) ha
theorem acc_succ {a k n : Nat} (ha : a < 4294967296) (hk : k < 4) (hn : (quads a)[k]? = some n) : accN a k * 256 + n = accN a (k + 1) ∧ n < 256 := by
  have e0 : accN a 0 = a / 4294967296 := rfl
  have e1 : accN a 1 = a / 16777216 := rfl
  have e2 : accN a 2 = a / 65536 := rfl
  have e3 : accN a 3 = a / 256 := rfl
  have e4 : accN a 4 = a / 1 := rfl
  match k, hk with
  | 0, _ => have hn : a / 16777216 = n := Option.some.inj hn
            rw [e0, e1]; omega
  | 1, _ => have hn : a / 65536 % 256 = n := Option.some.inj hn
            rw [e1, e2]; omega
  | 2, _ => have hn : a / 256 % 256 = n := Option.some.inj hn
            rw [e2, e3]; omega
  | 3, _ => have hn : a % 256 = n := Option.some.inj hn
            rw [e3, e4]; omega
theorem or_byte (x n : Nat) (hx : x * 256 + n < 4294967296) (hn : n < 256) : bits .or .u32 ((x * 256 : Nat) : Int) (n : Int) = ((x * 256 + n : Nat) : Int) := by
  obtain ⟨m, hm⟩ : ∃ m, m = x * 256 := ⟨_, rfl⟩
  rw [← hm] at hx ⊢
  have h0 : m < 4294967296 := by omega
  have h1 : n < 4294967296 := by omega
  have e := u32_or_nat m n h0 h1
  rw [e]
  have h8 : n < 2 ^ 8 := by rw [show (2 : Nat) ^ 8 = 256 from by decide]; exact hn
  have h := Nat.two_pow_add_eq_or_of_lt h8 x
  rw [show (2 : Nat) ^ 8 = 256 from by decide, Nat.mul_comm, ← hm] at h
  rw [h]
theorem list_bytes {L M : List ByteArray} (h : L.map (·.data.toList) = M.map (·.data.toList)) : L = M := by
  have inj : ∀ a b : ByteArray, a.data.toList = b.data.toList → a = b := fun a b h => by
    cases a; cases b; simp at h; simp [h]
  induction L generalizing M with
  | nil => cases M with
    | nil => rfl
    | cons _ _ => simp at h
  | cons x L ih => cases M with
    | nil => simp at h
    | cons y M =>
      simp only [List.map_cons, List.cons.injEq] at h
      rw [inj _ _ h.1, ih h.2]
def quadB (a : Nat) : List ByteArray := (quads a).map fun n => ⟨(dd n).toArray⟩
theorem quadB_at {a k : Nat} (hk : k < 4) : ∃ n, (quads a)[k]? = some n ∧ (quadB a)[k]? = some ⟨(dd n).toArray⟩ := by
  have : k < (quads a).length := by simpa [quads] using hk
  refine ⟨(quads a)[k], List.getElem?_eq_getElem this, ?_⟩
  unfold quadB; rw [List.getElem?_map, List.getElem?_eq_getElem this]; rfl
theorem quadB_of {a : Nat} {L : List ByteArray} (h : L.map (·.data.toList) = segs 46 (addrT a)) : L = quadB a := by
  refine list_bytes ?_
  rw [h, segs_addr]
  simp [quadB, quads]
set_option maxRecDepth 100000 in
set_option maxHeartbeats 1000000 in
theorem Parse_ok (a : Nat) (s : ByteArray) (w : World) (hw : HStr w) (ha : a < 4294967296) (hs : s.data.toList = addrT a) :
    Calls Tryz.prog 83 #[.string s] w fun e w' => e = .returned (.tuple #[.int .u32 a, .nilIface]) ∧ Below w.heap.size w w' := by
  have hsz : s.size ≤ 15 := by rw [← size_data, hs]; exact addrT_length a ha
  have HS := Lib.hid hs
  have HW := Lib.hid hw
  have es : strV (addrT a) = .string s := by rw [← hs]
  have HES := Lib.hid es
  clear hs hw es
  go_enter Tryz.func83, Tryz.ntmps83
  go_wp2_with (first
    | (go_at_call 9; (with_reducible refine (Split_r 46 s w HW.out (by omega)).mono ?_); rintro e w1 ⟨L, g, hL, rfl, hc, hg, hb1⟩; rw [HS.out] at hL; obtain rfl := quadB_of hL; have HC := Lib.hid hc; have HB1 := Lib.hid hb1; have zw1 := hb1.size; have hlen : (quadB a).length = 4 := rfl; rw [hlen]; clear hc hb1 hL hlen)
    | fail)
  generalize hqb : quadB a = Q at *
  have HQB := Lib.hid hqb
  clear hqb
  go_loopw [5, 18] (fun v i wr => ∃ k : Nat, k ≤ 4 ∧ i = .int .i64 k ∧ v = .int .u32 ((accN a k : Nat) : Int) ∧ Below w1.heap.size w1 wr) (fun _ i _ => 4 - (intOf i).toNat)
  case atStart => exact ⟨0, by omega, rfl, by unfold accN; rw [Nat.div_eq_of_lt (by omega)]; rfl, Below.refl _ _⟩
  case round =>
    obtain ⟨k, hk, rfl, rfl, hbel⟩ := hrel
    by_cases hlt : k < 4
    · obtain ⟨n, hn, hq⟩ := quadB_at (a := a) hlt
      obtain ⟨hac, hn256⟩ := acc_succ ha hlt hn
      have hr := acc_rng ha (show k + 1 ≤ 4 by omega)
      have hcell : wr.cell? ⟨g, k, none⟩ = some (.string ⟨(dd n).toArray⟩) := (hbel.cell (p := ⟨g, k, none⟩) hg).trans (HC.out k _ (by rw [← HQB.out]; exact hq))
      have HA := Lib.hid hac
      have HOR : Hid (bits .or .u32 ((accN a k * 256 : Nat) : Int) (n : Int) = ((accN a (k + 1) : Nat) : Int)) := Lib.hid (by rw [or_byte _ _ (by omega) hn256, hac])
      have HBEL := Lib.hid hbel
      have hszr := hbel.size
      have HAT := Lib.hid (atoi_dd n (by omega))
      have hz3 := dd_length_le (n := n) (by omega)
      have hx0 : accN a k * 256 < 4294967296 := by omega
      clear hn hq hac hbel
      go_wp2_with (first
        | (go_at_call 76; (with_reducible refine (Atoi_ok ⟨(dd n).toArray⟩ (n : Int) _ (by have := size_data ⟨(dd n).toArray⟩; simp only at this; omega) HAT.out).mono ?_); rintro e w2 ⟨rfl, hb2⟩; have HB2 := Lib.hid (HBEL.out.trans (hb2.mono hszr)); clear hb2)
        | fail)
      refine ⟨⟨k + 1, by omega, by go_num, ?_, HB2.out⟩, by simp [intOf]; omega⟩
      have e : ((accN a k : Nat) : Int) * 256 = ((accN a k * 256 : Nat) : Int) := by omega
      rw [e, HOR.out]
    · have : k = 4 := by omega
      subst this
      have HA4 : Hid (accN a 4 = a) := Lib.hid (Nat.div_one a)
      go_wp2_with (first
        | (go_at_call 84; rw [HA4.out]; (with_reducible refine (Text_any a _ ((HW.out.on HB1.out).below hbel (Nat.le_refl _)) ha).mono ?_); rintro e w2 ⟨rfl, hb2⟩; rw [HES.out]; have HB2 := Lib.hid (hbel.trans (hb2.mono hbel.size)); clear hb2)
        | fail)
      go_ret2
      exact ⟨rfl, HB1.out.trans (HB2.out.mono zw1)⟩
/-- the least that is told of a piece -/
theorem or_any (x n : Int) (hx : 0 ≤ x ∧ x < 4294967296) (hn : 0 ≤ n ∧ n ≤ 255) : ∃ y : Nat, y < 4294967296 ∧ bits .or .u32 (x * 256 % 4294967296) n = (y : Int) := by
  obtain ⟨m, rfl⟩ := Int.eq_ofNat_of_zero_le hn.1
  have hw : 0 ≤ x * 256 % 4294967296 ∧ x * 256 % 4294967296 < 4294967296 := by omega
  obtain ⟨k, hk⟩ := Int.eq_ofNat_of_zero_le hw.1
  rw [hk] at hw ⊢
  have h0 : k < 4294967296 := by omega
  have h1 : m < 4294967296 := by omega
  refine ⟨k ||| m, Nat.or_lt_two_pow (n := 32) (by omega) (by omega), ?_⟩
  exact u32_or_nat k m h0 h1
set_option maxRecDepth 100000 in
set_option maxHeartbeats 1000000 in
theorem Parse_bad (s : ByteArray) (w : World) (hw : HStr w) (hsz : s.size ≤ 2097152) (hs : ∀ a : Nat, a < 4294967296 → s.data.toList ≠ addrT a) :
    Calls Tryz.prog 83 #[.string s] w fun e w' => e = .returned (.tuple #[.int .u32 0, .iface 35 (.int .i64 3)]) ∧ Below w.heap.size w w' := by
  have HS := Lib.hid hs
  have HW := Lib.hid hw
  clear hs hw
  go_enter Tryz.func83, Tryz.ntmps83
  go_wp2_with fail
  go_at_call 9; (with_reducible refine (Split_r 46 s w HW.out (by omega)).mono ?_); rintro e w1 ⟨L, g, hL, rfl, hc, hg, hb1⟩
  have HLS := Lib.hid (fun (k : Nat) (p : ByteArray) (h : L[k]? = some p) => piece_size hL h)
  have HC := Lib.hid hc; have HB1 := Lib.hid hb1; have zw1 := hb1.size
  have hl1 : L.length ≤ 2097153 := by
    have h1 := congrArg List.length hL
    rw [List.length_map, segs_length] at h1
    have h2 := List.count_le_length (a := (46 : UInt8)) (l := s.data.toList)
    rw [size_data] at h2; omega
  clear hL hc hb1
  obtain ⟨N, hN⟩ : ∃ N, L.length = N := ⟨_, rfl⟩
  rw [hN] at hl1 ⊢
  have HN := Lib.hid hN
  clear hN
  by_cases h4 : N = 4
  · subst h4
    go_wp2
    go_loopw [5, 18] (fun v i wr => ∃ k x : Nat, k ≤ 4 ∧ x < 4294967296 ∧ i = .int .i64 k ∧ v = .int .u32 x ∧ Below w1.heap.size w1 wr) (fun _ i _ => 4 - (intOf i).toNat)
    case atStart => exact ⟨0, 0, by omega, by omega, rfl, rfl, Below.refl _ _⟩
    case round =>
      obtain ⟨k, x, hk, hx, rfl, rfl, hbel⟩ := hrel
      have hszr := hbel.size
      by_cases hlt : k < 4
      · obtain ⟨p, hp⟩ : ∃ p, L[k]? = some p := ⟨L[k]'(by rw [HN.out]; exact hlt), List.getElem?_eq_getElem _⟩
        have hcell : wr.cell? ⟨g, k, none⟩ = some (.string p) := (hbel.cell (p := ⟨g, k, none⟩) hg).trans (HC.out k _ hp)
        have hps := HLS.out k p hp
        have HBEL := Lib.hid hbel
        clear hp hbel
        by_cases hv : ∃ v, Lib.atoiAll p.data.toList = .ok v
        · obtain ⟨v, hv⟩ := hv
          have HV := Lib.hid hv
          have hvb := Lib.atoiAll_bounds hv
          clear hv
          by_cases hr : 0 ≤ v ∧ v ≤ 255
          · obtain ⟨y, hy, ho⟩ := or_any x v (by omega) hr
            have HO := Lib.hid ho
            obtain ⟨hr0, hr1⟩ := hr
            clear ho
            go_wp2_with (first
              | (go_at_call 76; (with_reducible refine (Atoi_ok p v _ (by omega) HV.out).mono ?_); rintro e w2 ⟨rfl, hb2⟩; have HB2 := Lib.hid (HBEL.out.trans (hb2.mono hszr)); clear hb2)
              | fail)
            exact ⟨⟨k + 1, y, by omega, hy, by go_num, by rw [HO.out], HB2.out⟩, by simp [intOf]; omega⟩
          · have hr2 : v < 0 ∨ 255 < v := by omega
            clear hr
            rcases hr2 with hr2 | hr2
            · go_wp2_with (first
                | (go_at_call 76; (with_reducible refine (Atoi_ok p v _ (by omega) HV.out).mono ?_); rintro e w2 ⟨rfl, hb2⟩; have HB2 := Lib.hid (HBEL.out.trans (hb2.mono hszr)); clear hb2)
                | fail)
              go_ret2
              exact ⟨rfl, HB1.out.trans (HB2.out.mono zw1)⟩
            · have hr3 : ¬ v < 0 := by omega
              go_wp2_with (first
                | (go_at_call 76; (with_reducible refine (Atoi_ok p v _ (by omega) HV.out).mono ?_); rintro e w2 ⟨rfl, hb2⟩; have HB2 := Lib.hid (HBEL.out.trans (hb2.mono hszr)); clear hb2)
                | fail)
              go_ret2
              exact ⟨rfl, HB1.out.trans (HB2.out.mono zw1)⟩
        · have HV : Hid (∀ v, Lib.atoiAll p.data.toList ≠ .ok v) := Lib.hid (fun v e => hv ⟨v, e⟩)
          clear hv
          go_wp2_with (first
            | (go_at_call 76; (with_reducible refine (Atoi_bad p _ ((HW.out.on HB1.out).below HBEL.out (Nat.le_refl _)) (by omega) HV.out).mono ?_); rintro e w2 ⟨v, t, q, rfl, hb2⟩; have HB2 := Lib.hid (HBEL.out.trans (hb2.mono hszr)); clear hb2)
            | fail)
          go_ret2
          exact ⟨rfl, HB1.out.trans (HB2.out.mono zw1)⟩
      · have : k = 4 := by omega
        subst this
        have tne : (addrT x == s.toList) = false := by
          have := HS.out x hx
          rw [← ByteArray.toList_eq] at this
          exact beq_eq_false_iff_ne.2 (fun e => this e.symm)
        go_wp2_with (first
          | (go_at_call 84; (with_reducible refine (Text_any x _ ((HW.out.on HB1.out).below hbel (Nat.le_refl _)) hx).mono ?_); rintro e w2 ⟨rfl, hb2⟩; have HB2 := Lib.hid (hbel.trans (hb2.mono hszr)); clear hb2)
          | fail)
        go_ret2
        exact ⟨rfl, HB1.out.trans (HB2.out.mono zw1)⟩
  · have h4' : ((N : Int) != 4) = true := by simp; omega
    go_wp2
    go_ret2
    exact ⟨rfl, HB1.out⟩
end Go.Proofs.YtgdlkjahlajcpaaGreatDoor
