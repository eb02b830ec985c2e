/- The desk's small parts: the errors' names; must and done, which hand back or panic; the deferred function, which recovers. The desk in plain lists: what a line answers and what becomes of the table; whole scripts; no program in sight. addr.Parse: of an address's text that address, of every other tex -/
import Derived.Test.YtgdlkjahlajcpaaGreatDoorAB
import Derived.Test.YtgdlkjahlajcpaaGreatDoorAC
import Derived.Defers
import Derived.Recover
import Derived.Test.YtgdlkjahlajcpaaGreatDoorAF
import Derived.Test.YtgdlkjahlajcpaaGreatDoorAA
import Derived.Test.YtgdlkjahlajcpaaGreatDoorAD
import Derived.Lib.QuietBelow
namespace Go.Proofs.YtgdlkjahlajcpaaGreatDoor
open Go.ChangeShapes Go.WideShapes Go.ChangeAt Go.RowKit
set_option linter.unusedVariables false
set_option linter.unusedSimpArgs false

def nameE (k : Int) : List UInt8 :=
  if k = 0 then [79, 75] else if k = 1 then [69, 114, 114, 82, 97, 110, 103, 101] else if k = 2 then [69, 114, 114, 78, 111, 110, 101] else if k = 3 then [69, 114, 114, 70, 111, 114, 109]
  else if k = 4 then [69, 114, 114, 70, 117, 108, 108] else if k = 5 then [69, 114, 114, 84, 119, 105, 99, 101] else if k = 6 then [69, 114, 114, 83, 104, 111, 114, 116] else if k = 7 then [69, 114, 114, 83, 121, 110, 116, 97, 120] else [69, 114, 114, 110, 111]
abbrev bsV (l : List UInt8) : Value := .string ⟨l.toArray⟩
theorem Name_any (k : Int) (h0 : 0 ≤ k) (h7 : k ≤ 7) (w : World) :
    Calls Tryz.prog 10 #[.int .i64 k] w fun e w' => e = .returned (bsV (nameE k)) ∧ w' = w := by
  have hk : k = 0 ∨ k = 1 ∨ k = 2 ∨ k = 3 ∨ k = 4 ∨ k = 5 ∨ k = 6 ∨ k = 7 := by omega
  rcases hk with rfl | rfl | rfl | rfl | rfl | rfl | rfl | rfl <;>
  · go_enter Tryz.func10, Tryz.ntmps10
    go_wp2
    go_ret
    exact ⟨rfl, rfl⟩
abbrev panE (k : Int) : Ending := .panicked [{ v := .iface 35 (.int .i64 k), recovered := false }]
theorem MustS_ok (s : Value) (w : World) : Calls Tryz.prog 57 #[s, .nilIface] w fun e w' => e = .returned s ∧ w' = w := by
  go_enter Tryz.func57, Tryz.ntmps57
  go_wp2
  go_ret
  exact ⟨rfl, rfl⟩
theorem MustS_bad (s : Value) (k : Int) (w : World) : Calls Tryz.prog 57 #[s, .iface 35 (.int .i64 k)] w fun e w' => e = panE k ∧ w' = w := by
  go_enter Tryz.func57, Tryz.ntmps57
  go_wp2
  exact ⟨rfl, rfl, rfl⟩
theorem MustI_ok (v : Value) (w : World) : Calls Tryz.prog 52 #[v, .nilIface] w fun e w' => e = .returned v ∧ w' = w := by
  go_enter Tryz.func52, Tryz.ntmps52
  go_wp2
  go_ret
  exact ⟨rfl, rfl⟩
theorem MustI_bad (v : Value) (k : Int) (w : World) : Calls Tryz.prog 52 #[v, .iface 35 (.int .i64 k)] w fun e w' => e = panE k ∧ w' = w := by
  go_enter Tryz.func52, Tryz.ntmps52
  go_wp2
  exact ⟨rfl, rfl, rfl⟩
theorem MustL_ok (A : Option Addr) (n c : Nat) (w : World) : Calls Tryz.prog 63 #[.slice A n c, .nilIface] w fun e w' => e = .returned (.slice A n c) ∧ w' = w := by
  go_enter Tryz.func63, Tryz.ntmps63
  go_wp2
  go_ret
  exact ⟨rfl, rfl⟩
theorem Done_ok (w : World) : Calls Tryz.prog 46 #[.nilIface] w fun e w' => e = .returned (bsV [111, 107]) ∧ w' = w := by
  go_enter Tryz.func46, Tryz.ntmps46
  go_wp2_with (first
    | (go_at_call 57; refine (MustS_ok _ _).mono ?_; rintro e w1 ⟨rfl, rfl⟩)
    | fail)
  go_ret
  exact ⟨rfl, rfl⟩
theorem Done_bad (k : Int) (w : World) : Calls Tryz.prog 46 #[.iface 35 (.int .i64 k)] w fun e w' => e = panE k ∧ w' = w := by
  go_enter Tryz.func46, Tryz.ntmps46
  go_wp2_with (first
    | (go_at_call 57; refine (MustS_bad _ k _).mono ?_; rintro e w1 ⟨rfl, rfl⟩)
    | fail)
  exact ⟨rfl, rfl, rfl⟩

/-! ### the deferred function -/
set_option maxRecDepth 100000 in
theorem catch_pan (p : Addr) (k : Int) (old : Value) (older : List PanicEntry) (w : World) (h0 : 0 ≤ k) (h7 : k ≤ 7) (hc : w.cell? p = some old) (hz : w.frozen? p = false) :
    CallsD Tryz.prog 29 #[.pointer (some p)] (.panicking ({ v := .iface 35 (.int .i64 k), recovered := false } :: older)) w fun e u' w' =>
      e = .returned (.tuple #[]) ∧ u' = .panicking ({ v := .iface 35 (.int .i64 k), recovered := true } :: older) ∧ w' = w.setCell p (bsV (nameE k)) := by
  have hta : ∀ w : World, (Instr.typeAssert (.iface 35 (.int .i64 k)) 20 35 true).run Tryz.prog w = .ok (.tuple #[.int .i64 k, .bool true]) w := fun w => by kernel_rfl
  refine callsD_of_wpS Tryz.func29 rfl fun c₀ cs hu => ?_
  apply wpS_seq
  apply wpS_region
  generalize hQ : Exit.thenS _ _ = Q
  simp [wpOpsS, go_sem, recoverD, hu, Tryz.ntmps29]
  rw [← hQ]
  clear hQ Q
  simp only [Exit.thenS]
  refine wpS_of_wp ?_
  generalize hQ : (fun e a' w' => _) = Q
  have HQ := Lib.hid hQ
  clear hQ hu
  change Code.wp _ _ _ { tmps := #[.pointer (some p), .iface 35 (.int .i64 k), undef, undef, .iface 35 (.int .i64 k), undef, undef, undef, undef, undef, undef, undef, undef, undef, undef, undef, undef], defers := [] } _
  go_wp2_with (first
    | (go_at_call 10; (with_reducible refine (Name_any k h0 h7 _).mono ?_); rintro e w1 ⟨rfl, rfl⟩)
    | fail)
  rw [← HQ.out]
  simp [bodyPostS, results, Tryz.results29]
theorem catch_idle (p : Addr) (w : World) :
    CallsD Tryz.prog 29 #[.pointer (some p)] .returning w fun e u' w' => e = .returned (.tuple #[]) ∧ u' = .returning ∧ w' = w := by
  refine callsD_of_wpS Tryz.func29 rfl fun c₀ cs hu => ?_
  apply wpS_seq
  apply wpS_region
  generalize hQ : Exit.thenS _ _ = Q
  simp [wpOpsS, go_sem, recoverD, hu, Tryz.ntmps29]
  rw [← hQ]
  clear hQ Q
  simp only [Exit.thenS]
  refine wpS_of_wp ?_
  have hcs : c₀ = { c₀ with mode := .returning } := by rw [← hu]
  generalize hQ : (fun e a' w' => _) = Q
  have HQ := Lib.hid hQ
  clear hQ hu
  change Code.wp _ _ _ { tmps := #[.pointer (some p), .nilIface, undef, undef, .nilIface, undef, undef, undef, undef, undef, undef, undef, undef, undef, undef, undef, undef], defers := [] } _
  go_wp2
  rw [← HQ.out]
  simp [bodyPostS, results, Tryz.results29]
  exact hcs
end Go.Proofs.YtgdlkjahlajcpaaGreatDoor
namespace Go.Proofs.YtgdlkjahlajcpaaGreatDoor
open Go.ChangeShapes Go.WideShapes Go.ChangeAt Go.RowKit
set_option linter.unusedVariables false
set_option linter.unusedSimpArgs false

abbrev Tab := List (Nt × Int)
abbrev Ans := Except Int (List UInt8)
/-! ### words -/
open Classical in
noncomputable def netO (s : List UInt8) : Option Nt :=
  if h : ∃ p : Nat × Nat, p.1 < 4294967296 ∧ netF ((p.1 : Int), (p.2 : Int)) = 0 ∧ s = netT p.1 p.2 then some ((h.choose.1 : Int), (h.choose.2 : Int)) else none
theorem netO_yes {s : List UInt8} {a k : Nat} (ha : a < 4294967296) (hn : netF ((a : Int), (k : Int)) = 0) (hs : s = netT a k) : netO s = some ((a : Int), (k : Int)) := by
  have h : ∃ p : Nat × Nat, p.1 < 4294967296 ∧ netF ((p.1 : Int), (p.2 : Int)) = 0 ∧ s = netT p.1 p.2 := ⟨(a, k), ha, hn, hs⟩
  unfold netO
  rw [dif_pos h]
  obtain ⟨e1, e2⟩ := netT_inj (h.choose_spec.2.2.symm.trans hs)
  rw [e1, e2]
theorem netO_no {s : List UInt8} (h : ∀ a k : Nat, a < 4294967296 → netF ((a : Int), (k : Int)) = 0 → s ≠ netT a k) : netO s = none := by
  unfold netO
  rw [dif_neg]
  rintro ⟨p, h1, h2, h3⟩
  exact h p.1 p.2 h1 h2 h3
theorem netO_cases (s : List UInt8) : (∃ a k : Nat, a < 4294967296 ∧ k ≤ 32 ∧ netF ((a : Int), (k : Int)) = 0 ∧ s = netT a k ∧ netO s = some ((a : Int), (k : Int))) ∨ ((∀ a k : Nat, a < 4294967296 → netF ((a : Int), (k : Int)) = 0 → s ≠ netT a k) ∧ netO s = none) := by
  by_cases h : ∃ p : Nat × Nat, p.1 < 4294967296 ∧ netF ((p.1 : Int), (p.2 : Int)) = 0 ∧ s = netT p.1 p.2
  · obtain ⟨p, h1, h2, h3⟩ := h
    have hk := (netF_zero.1 h2).2.1
    exact .inl ⟨p.1, p.2, h1, by omega, h2, h3, netO_yes h1 h2 h3⟩
  · have h' : ∀ a k : Nat, a < 4294967296 → netF ((a : Int), (k : Int)) = 0 → s ≠ netT a k := fun a k h1 h2 h3 => h ⟨(a, k), h1, h2, h3⟩
    exact .inr ⟨h', netO_no h'⟩
open Classical in
noncomputable def addrO (s : List UInt8) : Option Nat :=
  if h : ∃ a : Nat, a < 4294967296 ∧ s = addrT a then some h.choose else none
theorem addrO_yes {s : List UInt8} {a : Nat} (ha : a < 4294967296) (hs : s = addrT a) : addrO s = some a := by
  have h : ∃ a : Nat, a < 4294967296 ∧ s = addrT a := ⟨a, ha, hs⟩
  unfold addrO
  rw [dif_pos h, addrT_inj (h.choose_spec.2.symm.trans hs)]
theorem addrO_no {s : List UInt8} (h : ∀ a : Nat, a < 4294967296 → s ≠ addrT a) : addrO s = none := by
  unfold addrO
  rw [dif_neg]
  rintro ⟨a, h1, h2⟩
  exact h a h1 h2
theorem addrO_cases (s : List UInt8) : (∃ a : Nat, a < 4294967296 ∧ s = addrT a ∧ addrO s = some a) ∨ ((∀ a : Nat, a < 4294967296 → s ≠ addrT a) ∧ addrO s = none) := by
  by_cases h : ∃ a : Nat, a < 4294967296 ∧ s = addrT a
  · obtain ⟨a, h1, h2⟩ := h
    exact .inl ⟨a, h1, h2, addrO_yes h1 h2⟩
  · have h' : ∀ a : Nat, a < 4294967296 → s ≠ addrT a := fun a h1 h2 => h ⟨a, h1, h2⟩
    exact .inr ⟨h', addrO_no h'⟩
open Classical in
noncomputable def numO (s : List UInt8) : Option Nat :=
  if h : ∃ n : Nat, n ≤ 1073741824 ∧ s = dd n then some h.choose else none
theorem numO_yes {s : List UInt8} {n : Nat} (hn : n ≤ 1073741824) (hs : s = dd n) : numO s = some n := by
  have h : ∃ n : Nat, n ≤ 1073741824 ∧ s = dd n := ⟨n, hn, hs⟩
  unfold numO
  rw [dif_pos h, dd_inj (h.choose_spec.2.symm.trans hs)]
theorem numO_no {s : List UInt8} (h : ∀ n : Nat, n ≤ 1073741824 → s ≠ dd n) : numO s = none := by
  unfold numO
  rw [dif_neg]
  rintro ⟨a, h1, h2⟩
  exact h a h1 h2
theorem numO_cases (s : List UInt8) : (∃ n : Nat, n ≤ 1073741824 ∧ s = dd n ∧ numO s = some n) ∨ ((∀ n : Nat, n ≤ 1073741824 → s ≠ dd n) ∧ numO s = none) := by
  by_cases h : ∃ n : Nat, n ≤ 1073741824 ∧ s = dd n
  · obtain ⟨a, h1, h2⟩ := h
    exact .inl ⟨a, h1, h2, numO_yes h1 h2⟩
  · have h' : ∀ n : Nat, n ≤ 1073741824 → s ≠ dd n := fun a h1 h2 => h ⟨a, h1, h2⟩
    exact .inr ⟨h', numO_no h'⟩

/-! ### answers -/
def netX (x : Nt) : List UInt8 := netT x.1.toNat x.2.toNat
def netsT (l : List Nt) : List UInt8 := Lib.join (l.map netX) [32]
def sumL (a : Int) : List Int := [a / 16777216, a / 65536 % 256, a / 256 % 256, a % 256]
def okT : List UInt8 := [111, 107]
def putX (m : Tab) (x : Option Nt) (v : Option Nat) : Ans × Tab :=
  match x, v with
  | some n, some v => if putE m n = 0 then (.ok okT, putT m n v) else (.error (putE m n), m)
  | _, _ => (.error 7, m)
def dropX (m : Tab) : Option Nt → Ans × Tab
  | some n => if getE m n = 0 then (.ok okT, dropT m n) else (.error (getE m n), m)
  | none => (.error 7, m)
def getX (m : Tab) : Option Nt → Ans
  | some n => if getE m n = 0 then .ok (dd (getV m n).toNat) else .error (getE m n)
  | none => .error 7
def findT (a : Int) : Option (Nat × Int) → Ans
  | none => .error 2
  | some (k, v) => .ok (netT (fl (lowI k) a).toNat k ++ 32 :: dd v.toNat)
def findX (m : Tab) : Option Nat → Ans
  | some a => findT a (fnd m a 33)
  | none => .error 7
def comX (x y : Option Nt) : Ans :=
  match x, y with
  | some a, some b => .ok (netX (comN a b))
  | _, _ => .error 7
def sumX : Option Nat → Ans
  | some a => .ok (dd (S16 (sumL a)).toNat)
  | none => .error 7
def nPut : List UInt8 := [112, 117, 116]
def nDrop : List UInt8 := [100, 114, 111, 112]
def nGet : List UInt8 := [103, 101, 116]
def nFind : List UInt8 := [102, 105, 110, 100]
def nList : List UInt8 := [108, 105, 115, 116]
def nCover : List UInt8 := [99, 111, 118, 101, 114]
def nCommon : List UInt8 := [99, 111, 109, 109, 111, 110]
def nSum : List UInt8 := [115, 117, 109]
def lineW1 (m : Tab) (c : List UInt8) : Ans × Tab := if c = nList then (.ok (netsT (allM m)), m) else if c = nCover then (.ok (netsT (coverV (allM m))), m) else (.error 7, m)
noncomputable def lineW2 (m : Tab) (c x : List UInt8) : Ans × Tab := if c = nDrop then dropX m (netO x) else if c = nGet then (getX m (netO x), m) else if c = nFind then (findX m (addrO x), m) else if c = nSum then (sumX (addrO x), m) else (.error 7, m)
noncomputable def lineW3 (m : Tab) (c x y : List UInt8) : Ans × Tab := if c = nPut then putX m (netO x) (numO y) else if c = nCommon then (comX (netO x) (netO y), m) else (.error 7, m)
noncomputable def lineW (m : Tab) : List (List UInt8) → Ans × Tab
  | [c] => lineW1 m c
  | [c, x] => lineW2 m c x
  | [c, x, y] => lineW3 m c x y
  | _ => (.error 7, m)
noncomputable def lineA (m : Tab) (s : List UInt8) : Ans × Tab := lineW m (segs 32 s)
def ansT : Ans → List UInt8
  | .ok t => t
  | .error k => nameE k
structure DOk (m : Tab) : Prop where
  ok : MOk m
  num : ∀ e ∈ m, 0 ≤ e.2 ∧ e.2 ≤ 1073741824
theorem DOk.nil : DOk [] := ⟨MOk.nil, by simp⟩
theorem putE_net {m : Tab} {x : Nt} (h : netF x = 0) : putE m x = 0 ∨ putE m x = 4 := by unfold putE; rw [if_pos h]; split <;> simp
theorem getE_net {m : Tab} {x : Nt} (h : netF x = 0) : (getE m x = 0 ∧ ∃ v, look m x = some v) ∨ (getE m x = 2 ∧ look m x = none) := by
  unfold getE; rw [if_pos h]
  cases e : look m x with
  | none => right; simp
  | some v => left; simp
theorem putX_ok {m : Tab} (h : DOk m) (s t : List UInt8) : DOk (putX m (netO s) (numO t)).2 := by
  rcases netO_cases s with ⟨a, k, ha, hk, hn, hs, e⟩ | ⟨_, e⟩
  · rcases numO_cases t with ⟨v, hv, ht, e2⟩ | ⟨_, e2⟩
    · rw [e, e2]
      unfold putX
      simp only
      split
      · rename_i h0
        have hl : look m ((a : Int), (k : Int)) = none → m.length < 64 := fun hl => by
          have := h.ok.len
          unfold putE at h0
          rw [if_pos hn] at h0
          split at h0
          · exact absurd h0 (by decide)
          · rename_i h1
            exact Nat.lt_of_le_of_ne this fun e => h1 ⟨hl, e⟩
        unfold putT
        rw [if_pos h0]
        refine ⟨h.ok.put hn ⟨by omega, by omega⟩ (WalkArith.wf_i64 (by omega)) hl, ?_⟩
        intro e he
        unfold putM at he
        rcases List.mem_append.1 he with he | he
        · exact h.num e (List.mem_filter.1 he).1
        · simp only [List.mem_cons, List.not_mem_nil, or_false] at he
          subst he
          exact ⟨by omega, by omega⟩
      · exact h
    · rw [e, e2]; exact h
  · rw [e]; exact h
theorem dropX_ok {m : Tab} (h : DOk m) (s : List UInt8) : DOk (dropX m (netO s)).2 := by
  rcases netO_cases s with ⟨a, k, ha, hk, hn, hs, e⟩ | ⟨_, e⟩
  · rw [e]
    unfold dropX
    simp only
    split
    · rename_i h0
      unfold dropT
      rw [if_pos h0]
      exact ⟨h.ok.del _, fun e he => h.num e (List.mem_filter.1 he).1⟩
    · exact h
  · rw [e]; exact h
theorem line_ok {m : Tab} (h : DOk m) (s : List UInt8) : DOk (lineA m s).2 := by
  unfold lineA lineW
  split
  · unfold lineW1
    split
    · exact h
    · split <;> exact h
  · unfold lineW2
    split
    · exact dropX_ok h _
    · split
      · exact h
      · split
        · exact h
        · split <;> exact h
  · unfold lineW3
    split
    · exact putX_ok h _ _
    · split <;> exact h
  · exact h
/-! ### scripts -/
noncomputable def runA : Tab → List (List UInt8) → List (List UInt8)
  | _, [] => []
  | m, s :: r => ansT (lineA m s).1 :: runA (lineA m s).2 r
noncomputable def tabA : Tab → List (List UInt8) → Tab
  | m, [] => m
  | m, s :: r => tabA (lineA m s).2 r
theorem runA_length : ∀ (m : Tab) (l : List (List UInt8)), (runA m l).length = l.length
  | _, [] => rfl
  | m, s :: r => by simp only [runA, List.length_cons, runA_length]
theorem runA_append : ∀ (m : Tab) (l r : List (List UInt8)), runA m (l ++ r) = runA m l ++ runA (tabA m l) r
  | _, [], _ => rfl
  | m, s :: l, r => by simp only [List.cons_append, runA, tabA, runA_append _ l r]
theorem tabA_append : ∀ (m : Tab) (l r : List (List UInt8)), tabA m (l ++ r) = tabA (tabA m l) r
  | _, [], _ => rfl
  | m, s :: l, r => by simp only [List.cons_append, tabA, tabA_append _ l r]
theorem tabA_ok : ∀ {m : Tab} (l : List (List UInt8)), DOk m → DOk (tabA m l)
  | _, [], h => h
  | m, s :: r, h => tabA_ok r (line_ok h s)
def linesA (s : List UInt8) : List (List UInt8) := if (segs 10 s).getLast? = some [] then (segs 10 s).dropLast else segs 10 s
noncomputable def deskA (s : List UInt8) : List (List UInt8) := if 100 < (linesA s).length then [nameE 4] else runA [] (linesA s)
end Go.Proofs.YtgdlkjahlajcpaaGreatDoor
namespace Go.Proofs.YtgdlkjahlajcpaaGreatDoor
open Go.ChangeShapes Go.WideShapes Go.ChangeAt Go.RowKit
set_option linter.unusedVariables false
set_option linter.unusedSimpArgs false

theorem Split_r (c : UInt8) (s : ByteArray) (w : World) (h : HStr w) (hs : s.size ≤ 2097152) :
    Calls Tryz.prog 9 #[.string s, .string ⟨#[c]⟩] w fun e w' => ∃ (L : List ByteArray) (g : Nat), L.map (·.data.toList) = segs c s.data.toList ∧ e = .returned (.slice (some ⟨g, 0, none⟩) L.length L.length) ∧
      (∀ (k : Nat) p, L[k]? = some p → w'.cell? ⟨g, k, none⟩ = some (.string p)) ∧ g < w'.heap.size ∧ Below w.heap.size w w' :=
  (Split_c c s w h hs).mono fun e w' ⟨L, h1, h2, h3⟩ => ⟨L, _, h1, h2, by subst h3; exact fun k p hk => by rw [World.cell?_alloc_at _ _ _ _ rfl, List.getElem?_toArray, List.getElem?_map, hk]; rfl, by subst h3; simp, by subst h3; exact (Below.refl _ _).alloc (Nat.le_refl _) _⟩
theorem segs_len_le (c : UInt8) : ∀ s : List UInt8, ∀ p ∈ segs c s, p.length ≤ s.length
  | [], p, hp => by simp [segs] at hp; simp [hp]
  | x :: r, p, hp => by
    have ih := segs_len_le c r
    rw [segs_split] at ih
    unfold segs at hp
    by_cases h : x = c
    · rw [if_pos h] at hp
      rcases List.mem_cons.1 hp with rfl | hp
      · simp
      · have := segs_len_le c r p hp; simp; omega
    · rw [if_neg h] at hp
      rcases List.mem_cons.1 hp with rfl | hp
      · have := ih _ (List.mem_cons_self ..); simp only [List.length_cons]; omega
      · have := ih p (by simp [hp]); simp; omega
theorem piece_size {c : UInt8} {s : ByteArray} {L : List ByteArray} (h : L.map (·.data.toList) = segs c s.data.toList) {k : Nat} {p : ByteArray} (hp : L[k]? = some p) : p.size ≤ s.size := by
  rw [← size_data, ← size_data]
  refine segs_len_le c _ _ ?_
  rw [← h]
  exact List.mem_map.2 ⟨p, List.mem_of_getElem? hp, rfl⟩
def accN (a k : Nat) : Nat := a / 2 ^ (32 - 8 * k)
theorem acc_rng {a k : Nat} (ha : a < 4294967296) (hk : k ≤ 4) : accN a k < 4294967296 := Nat.lt_of_le_of_lt (Nat.div_le_self _ _) ha
theorem acc_succ {a k n : Nat} (ha : a < 4294967296) (hk : k < 4) (hn : (quads a)[k]? = some n) : accN a k * 256 + n = accN a (k + 1) ∧ n < 256 := by
  have e0 : accN a 0 = a / 4294967296 := rfl
  have e1 : accN a 1 = a / 16777216 := rfl
  have e2 : accN a 2 = a / 65536 := rfl
  have e3 : accN a 3 = a / 256 := rfl
  have e4 : accN a 4 = a / 1 := rfl
  match k, hk with
  | 0, _ => have hn : a / 16777216 = n := Option.some.inj hn
            rw [e0, e1]; omega
  | 1, _ => have hn : a / 65536 % 256 = n := Option.some.inj hn
            rw [e1, e2]; omega
  | 2, _ => have hn : a / 256 % 256 = n := Option.some.inj hn
            rw [e2, e3]; omega
  | 3, _ => have hn : a % 256 = n := Option.some.inj hn
            rw [e3, e4]; omega
theorem or_byte (x n : Nat) (hx : x * 256 + n < 4294967296) (hn : n < 256) : bits .or .u32 ((x * 256 : Nat) : Int) (n : Int) = ((x * 256 + n : Nat) : Int) := by
  obtain ⟨m, hm⟩ : ∃ m, m = x * 256 := ⟨_, rfl⟩
  rw [← hm] at hx ⊢
  have h0 : m < 4294967296 := by omega
  have h1 : n < 4294967296 := by omega
  have e := u32_or_nat m n h0 h1
  rw [e]
  have h8 : n < 2 ^ 8 := by rw [show (2 : Nat) ^ 8 = 256 from by decide]; exact hn
  have h := Nat.two_pow_add_eq_or_of_lt h8 x
  rw [show (2 : Nat) ^ 8 = 256 from by decide, Nat.mul_comm, ← hm] at h
  rw [h]
theorem list_bytes {L M : List ByteArray} (h : L.map (·.data.toList) = M.map (·.data.toList)) : L = M := by
  have inj : ∀ a b : ByteArray, a.data.toList = b.data.toList → a = b := fun a b h => by
    cases a; cases b; simp at h; simp [h]
  induction L generalizing M with
  | nil => cases M with
    | nil => rfl
    | cons _ _ => simp at h
  | cons x L ih => cases M with
    | nil => simp at h
    | cons y M =>
      simp only [List.map_cons, List.cons.injEq] at h
      rw [inj _ _ h.1, ih h.2]
def quadB (a : Nat) : List ByteArray := (quads a).map fun n => ⟨(dd n).toArray⟩
theorem quadB_at {a k : Nat} (hk : k < 4) : ∃ n, (quads a)[k]? = some n ∧ (quadB a)[k]? = some ⟨(dd n).toArray⟩ := by
  have : k < (quads a).length := by simpa [quads] using hk
  refine ⟨(quads a)[k], List.getElem?_eq_getElem this, ?_⟩
  unfold quadB; rw [List.getElem?_map, List.getElem?_eq_getElem this]; rfl
theorem quadB_of {a : Nat} {L : List ByteArray} (h : L.map (·.data.toList) = segs 46 (addrT a)) : L = quadB a := by
  refine list_bytes ?_
  rw [h, segs_addr]
  simp [quadB, quads]
set_option maxRecDepth 100000 in
set_option maxHeartbeats 1000000 in
theorem Parse_ok (a : Nat) (s : ByteArray) (w : World) (hw : HStr w) (ha : a < 4294967296) (hs : s.data.toList = addrT a) :
    Calls Tryz.prog 83 #[.string s] w fun e w' => e = .returned (.tuple #[.int .u32 a, .nilIface]) ∧ Below w.heap.size w w' := by
  have hsz : s.size ≤ 15 := by rw [← size_data, hs]; exact addrT_length a ha
  have HS := Lib.hid hs
  have HW := Lib.hid hw
  have es : strV (addrT a) = .string s := by rw [← hs]
  have HES := Lib.hid es
  clear hs hw es
  go_enter Tryz.func83, Tryz.ntmps83
  go_wp2_with (first
    | (go_at_call 9; (with_reducible refine (Split_r 46 s w HW.out (by omega)).mono ?_); rintro e w1 ⟨L, g, hL, rfl, hc, hg, hb1⟩; rw [HS.out] at hL; obtain rfl := quadB_of hL; have HC := Lib.hid hc; have HB1 := Lib.hid hb1; have zw1 := hb1.size; have hlen : (quadB a).length = 4 := rfl; rw [hlen]; clear hc hb1 hL hlen)
    | fail)
  generalize hqb : quadB a = Q at *
  have HQB := Lib.hid hqb
  clear hqb
  go_loopw [5, 18] (fun v i wr => ∃ k : Nat, k ≤ 4 ∧ i = .int .i64 k ∧ v = .int .u32 ((accN a k : Nat) : Int) ∧ Below w1.heap.size w1 wr) (fun _ i _ => 4 - (intOf i).toNat)
  case atStart => exact ⟨0, by omega, rfl, by unfold accN; rw [Nat.div_eq_of_lt (by omega)]; rfl, Below.refl _ _⟩
  case round =>
    obtain ⟨k, hk, rfl, rfl, hbel⟩ := hrel
    by_cases hlt : k < 4
    · obtain ⟨n, hn, hq⟩ := quadB_at (a := a) hlt
      obtain ⟨hac, hn256⟩ := acc_succ ha hlt hn
      have hr := acc_rng ha (show k + 1 ≤ 4 by omega)
      have hcell : wr.cell? ⟨g, k, none⟩ = some (.string ⟨(dd n).toArray⟩) := (hbel.cell (p := ⟨g, k, none⟩) hg).trans (HC.out k _ (by rw [← HQB.out]; exact hq))
      have HA := Lib.hid hac
      have HOR : Hid (bits .or .u32 ((accN a k * 256 : Nat) : Int) (n : Int) = ((accN a (k + 1) : Nat) : Int)) := Lib.hid (by rw [or_byte _ _ (by omega) hn256, hac])
      have HBEL := Lib.hid hbel
      have hszr := hbel.size
      have HAT := Lib.hid (atoi_dd n (by omega))
      have hz3 := dd_length_le (n := n) (by omega)
      have hx0 : accN a k * 256 < 4294967296 := by omega
      clear hn hq hac hbel
      go_wp2_with (first
        | (go_at_call 76; (with_reducible refine (Atoi_ok ⟨(dd n).toArray⟩ (n : Int) _ (by have := size_data ⟨(dd n).toArray⟩; simp only at this; omega) HAT.out).mono ?_); rintro e w2 ⟨rfl, hb2⟩; have HB2 := Lib.hid (HBEL.out.trans (hb2.mono hszr)); clear hb2)
        | fail)
      refine ⟨⟨k + 1, by omega, by go_num, ?_, HB2.out⟩, by simp [intOf]; omega⟩
      have e : ((accN a k : Nat) : Int) * 256 = ((accN a k * 256 : Nat) : Int) := by omega
      rw [e, HOR.out]
    · have : k = 4 := by omega
      subst this
      have HA4 : Hid (accN a 4 = a) := Lib.hid (Nat.div_one a)
      go_wp2_with (first
        | (go_at_call 84; rw [HA4.out]; (with_reducible refine (Text_any a _ ((HW.out.on HB1.out).below hbel (Nat.le_refl _)) ha).mono ?_); rintro e w2 ⟨rfl, hb2⟩; rw [HES.out]; have HB2 := Lib.hid (hbel.trans (hb2.mono hbel.size)); clear hb2)
        | fail)
      go_ret2
      exact ⟨rfl, HB1.out.trans (HB2.out.mono zw1)⟩
theorem or_any (x n : Int) (hx : 0 ≤ x ∧ x < 4294967296) (hn : 0 ≤ n ∧ n ≤ 255) : ∃ y : Nat, y < 4294967296 ∧ bits .or .u32 (x * 256 % 4294967296) n = (y : Int) := by
  obtain ⟨m, rfl⟩ := Int.eq_ofNat_of_zero_le hn.1
  have hw : 0 ≤ x * 256 % 4294967296 ∧ x * 256 % 4294967296 < 4294967296 := by omega
  obtain ⟨k, hk⟩ := Int.eq_ofNat_of_zero_le hw.1
  rw [hk] at hw ⊢
  have h0 : k < 4294967296 := by omega
  have h1 : m < 4294967296 := by omega
  refine ⟨k ||| m, Nat.or_lt_two_pow (n := 32) (by omega) (by omega), ?_⟩
  exact u32_or_nat k m h0 h1
set_option maxRecDepth 100000 in
set_option maxHeartbeats 1000000 in
theorem Parse_bad (s : ByteArray) (w : World) (hw : HStr w) (hsz : s.size ≤ 2097152) (hs : ∀ a : Nat, a < 4294967296 → s.data.toList ≠ addrT a) :
    Calls Tryz.prog 83 #[.string s] w fun e w' => e = .returned (.tuple #[.int .u32 0, .iface 35 (.int .i64 3)]) ∧ Below w.heap.size w w' := by
  have HS := Lib.hid hs
  have HW := Lib.hid hw
  clear hs hw
  go_enter Tryz.func83, Tryz.ntmps83
  go_wp2_with fail
  go_at_call 9; (with_reducible refine (Split_r 46 s w HW.out (by omega)).mono ?_); rintro e w1 ⟨L, g, hL, rfl, hc, hg, hb1⟩
  have HLS := Lib.hid (fun (k : Nat) (p : ByteArray) (h : L[k]? = some p) => piece_size hL h)
  have HC := Lib.hid hc; have HB1 := Lib.hid hb1; have zw1 := hb1.size
  have hl1 : L.length ≤ 2097153 := by
    have h1 := congrArg List.length hL
    rw [List.length_map, segs_length] at h1
    have h2 := List.count_le_length (a := (46 : UInt8)) (l := s.data.toList)
    rw [size_data] at h2; omega
  clear hL hc hb1
  obtain ⟨N, hN⟩ : ∃ N, L.length = N := ⟨_, rfl⟩
  rw [hN] at hl1 ⊢
  have HN := Lib.hid hN
  clear hN
  by_cases h4 : N = 4
  · subst h4
    go_wp2
    go_loopw [5, 18] (fun v i wr => ∃ k x : Nat, k ≤ 4 ∧ x < 4294967296 ∧ i = .int .i64 k ∧ v = .int .u32 x ∧ Below w1.heap.size w1 wr) (fun _ i _ => 4 - (intOf i).toNat)
    case atStart => exact ⟨0, 0, by omega, by omega, rfl, rfl, Below.refl _ _⟩
    case round =>
      obtain ⟨k, x, hk, hx, rfl, rfl, hbel⟩ := hrel
      have hszr := hbel.size
      by_cases hlt : k < 4
      · obtain ⟨p, hp⟩ : ∃ p, L[k]? = some p := ⟨L[k]'(by rw [HN.out]; exact hlt), List.getElem?_eq_getElem _⟩
        have hcell : wr.cell? ⟨g, k, none⟩ = some (.string p) := (hbel.cell (p := ⟨g, k, none⟩) hg).trans (HC.out k _ hp)
        have hps := HLS.out k p hp
        have HBEL := Lib.hid hbel
        clear hp hbel
        by_cases hv : ∃ v, Lib.atoiAll p.data.toList = .ok v
        · obtain ⟨v, hv⟩ := hv
          have HV := Lib.hid hv
          have hvb := Lib.atoiAll_bounds hv
          clear hv
          by_cases hr : 0 ≤ v ∧ v ≤ 255
          · obtain ⟨y, hy, ho⟩ := or_any x v (by omega) hr
            have HO := Lib.hid ho
            obtain ⟨hr0, hr1⟩ := hr
            clear ho
            go_wp2_with (first
              | (go_at_call 76; (with_reducible refine (Atoi_ok p v _ (by omega) HV.out).mono ?_); rintro e w2 ⟨rfl, hb2⟩; have HB2 := Lib.hid (HBEL.out.trans (hb2.mono hszr)); clear hb2)
              | fail)
            exact ⟨⟨k + 1, y, by omega, hy, by go_num, by rw [HO.out], HB2.out⟩, by simp [intOf]; omega⟩
          · have hr2 : v < 0 ∨ 255 < v := by omega
            clear hr
            rcases hr2 with hr2 | hr2
            · go_wp2_with (first
                | (go_at_call 76; (with_reducible refine (Atoi_ok p v _ (by omega) HV.out).mono ?_); rintro e w2 ⟨rfl, hb2⟩; have HB2 := Lib.hid (HBEL.out.trans (hb2.mono hszr)); clear hb2)
                | fail)
              go_ret2
              exact ⟨rfl, HB1.out.trans (HB2.out.mono zw1)⟩
            · have hr3 : ¬ v < 0 := by omega
              go_wp2_with (first
                | (go_at_call 76; (with_reducible refine (Atoi_ok p v _ (by omega) HV.out).mono ?_); rintro e w2 ⟨rfl, hb2⟩; have HB2 := Lib.hid (HBEL.out.trans (hb2.mono hszr)); clear hb2)
                | fail)
              go_ret2
              exact ⟨rfl, HB1.out.trans (HB2.out.mono zw1)⟩
        · have HV : Hid (∀ v, Lib.atoiAll p.data.toList ≠ .ok v) := Lib.hid (fun v e => hv ⟨v, e⟩)
          clear hv
          go_wp2_with (first
            | (go_at_call 76; (with_reducible refine (Atoi_bad p _ ((HW.out.on HB1.out).below HBEL.out (Nat.le_refl _)) (by omega) HV.out).mono ?_); rintro e w2 ⟨v, t, q, rfl, hb2⟩; have HB2 := Lib.hid (HBEL.out.trans (hb2.mono hszr)); clear hb2)
            | fail)
          go_ret2
          exact ⟨rfl, HB1.out.trans (HB2.out.mono zw1)⟩
      · have : k = 4 := by omega
        subst this
        have tne : (addrT x == s.toList) = false := by
          have := HS.out x hx
          rw [← ByteArray.toList_eq] at this
          exact beq_eq_false_iff_ne.2 (fun e => this e.symm)
        go_wp2_with (first
          | (go_at_call 84; (with_reducible refine (Text_any x _ ((HW.out.on HB1.out).below hbel (Nat.le_refl _)) hx).mono ?_); rintro e w2 ⟨rfl, hb2⟩; have HB2 := Lib.hid (hbel.trans (hb2.mono hszr)); clear hb2)
          | fail)
        go_ret2
        exact ⟨rfl, HB1.out.trans (HB2.out.mono zw1)⟩
  · have h4' : ((N : Int) != 4) = true := by simp; omega
    go_wp2
    go_ret2
    exact ⟨rfl, HB1.out⟩
end Go.Proofs.YtgdlkjahlajcpaaGreatDoor
namespace Go.Proofs.YtgdlkjahlajcpaaGreatDoor
open Go.ChangeShapes Go.WideShapes Go.ChangeAt Go.RowKit
set_option linter.unusedVariables false
set_option linter.unusedSimpArgs false

theorem str_size {l : List UInt8} : (⟨l.toArray⟩ : ByteArray).size = l.length := by simp [ByteArray.size]
theorem netT_str {X Y : ByteArray} {a k : Nat} (hX : X.data.toList = addrT a) (hY : Y.data.toList = dd k) : Value.string (X ++ ⟨#[47]⟩ ++ Y) = strV (netT a k) := by
  have e : (X ++ ⟨#[47]⟩ ++ Y).data.toList = netT a k := by rw [Joins.data_append, Joins.data_append, hX, hY]; unfold netT; simp
  rw [← e]
set_option maxRecDepth 100000 in
set_option maxHeartbeats 400000 in
theorem NText_any (a k : Nat) (w : World) (hw : HStr w) (ha : a < 4294967296) (hk : k ≤ 32) :
    Calls Tryz.prog 58 #[.agg #[.int .u32 a, .int .i64 k]] w fun e w' => e = .returned (strV (netT a k)) ∧ Below w.heap.size w w' := by
  have hw1 : HStr (w.alloc (.cells #[.int .u32 a, .int .i64 k] 47)) := hw.alloc _
  obtain ⟨X, hX⟩ : ∃ X : ByteArray, X = ⟨(addrT a).toArray⟩ := ⟨_, rfl⟩
  obtain ⟨Y, hY⟩ : ∃ Y : ByteArray, Y = ⟨(dd k).toArray⟩ := ⟨_, rfl⟩
  have hXl : X.size ≤ 15 := by rw [hX, str_size]; exact addrT_length a ha
  have hYl : Y.size ≤ 3 := by rw [hY, str_size]; exact dd_length_le (by omega)
  have hR : Value.string (X ++ ⟨#[47]⟩ ++ Y) = strV (netT a k) := netT_str (by rw [hX]) (by rw [hY])
  have cT := fun d os => Calls.regrown_of (Text_any a (Sort.grow (redrawn (w.alloc (.cells #[.int .u32 a, .int .i64 k] 47)) d) os) (hw1.on (below_regrown _ d os)) ha)
  have cI := fun d os => Calls.regrown_of (Itoa_n k (Sort.grow (redrawn (w.alloc (.cells #[.int .u32 a, .int .i64 k] 47)) d) os) (hw1.on (below_regrown _ d os)) (by omega))
  have c0 := fun d os => cell_regrown (w := w.alloc (.cells #[.int .u32 a, .int .i64 k] 47)) (a := ⟨w.heap.size, 0, none⟩) (v := .int .u32 a) (by simp) d os
  have c1 := fun d os => cell_regrown (w := w.alloc (.cells #[.int .u32 a, .int .i64 k] 47)) (a := ⟨w.heap.size, 1, none⟩) (v := .int .i64 k) (by simp) d os
  unfold strV at cT cI
  rw [← hX] at cT
  rw [← hY] at cI
  have CT := Lib.hid cT
  have CI := Lib.hid cI
  have HR := Lib.hid hR
  have n1 : ¬ 9223372036854775807 < X.size + 1 := by omega
  have n2 : ¬ 9223372036854775807 < X.size + 1 + Y.size := by omega
  clear cT cI hw hw1 hX hY hR
  go_enter Tryz.func58, Tryz.ntmps58
  go_wp2
  refine wp_region_quiet_below (by kernel_rfl) (by kernel_rfl) ?_
  repeat (quiet_step (first | exact CT.out _ _ | exact CI.out _ _))
  refine wpQuiet_nil ?_
  intro _ hw'
  obtain ⟨⟨dq, osq⟩, hw''⟩ := hw'
  subst hw''
  go_wp2
  go_ret
  exact ⟨by rw [HR.out]; rfl, ((Below.refl _ _).alloc (Nat.le_refl _) _).trans ((below_regrown _ dq osq).mono (by simp))⟩
theorem cut_len1 (c : UInt8) (s : List UInt8) : (Lib.cut s [c]).1.length ≤ s.length := by
  unfold Lib.cut; split
  · simp only [List.length_take]; omega
  · simp
theorem cut_len2 (c : UInt8) (s : List UInt8) : (Lib.cut s [c]).2.1.length ≤ s.length := by
  unfold Lib.cut; split
  · simp only [List.length_drop]; omega
  · simp
theorem nparse_end {W : World} {R : Nat} {a : Act} {v0 v1 e : Value} {t : TypeId} {K : Ending → World → Prop} (h : W.heap[R]? = some (.cells #[v0, v1] t (0, 0))) (h2 : a.tmps[2]?.getD undef = .pointer (some ⟨R, 0, none⟩)) (h3 : a.tmps[3]?.getD undef = e) (hd : a.defers = [])
    (hK : K (.returned (.tuple #[.agg #[v0, v1], e])) W) : bodyPost Tryz.prog Tryz.f75 K .ret a W := by
  have e0 : W.cell? ⟨R, 0, none⟩ = some v0 := by rw [cell_of_row _ R _ _ _ (0, 0) h]; rfl
  have e1 : W.cell? ⟨R, 1, none⟩ = some v1 := by rw [cell_of_row _ R _ _ _ (0, 0) h]; rfl
  exact bodyPost_ret (by simp [results, Tryz.results75, go_sem, h2, h3, e0, e1]) hd hK
set_option maxRecDepth 100000 in
set_option maxHeartbeats 2000000 in
theorem NParse_ok (a k : Nat) (s : ByteArray) (w : World) (hw : HStr w) (ha : a < 4294967296) (hn : netF ((a : Int), (k : Int)) = 0) (hs : s.data.toList = netT a k) :
    Calls Tryz.prog 75 #[.string s] w fun e w' => e = .returned (.tuple #[.agg #[.int .u32 a, .int .i64 k], .nilIface]) ∧ Below w.heap.size w w' := by
  have hk : k ≤ 32 := by have := (netF_zero.1 hn).2.1; omega
  have hsz : s.size ≤ 19 := by rw [← size_data, hs]; exact netT_length a k ha hk
  have HCUT : Hid (Lib.cut s.data.toList [47] = (addrT a, dd k, true)) := Lib.hid (by rw [hs]; exact cut_net a k)
  have HES : Hid (strV (netT a k) = .string s) := Lib.hid (by rw [← hs])
  have HW := Lib.hid hw
  have HN := Lib.hid hn
  have HAT := Lib.hid (atoi_dd k (by omega))
  have hdl := dd_length_le (n := k) (by omega)
  clear hs hw hn
  go_enter Tryz.func75, Tryz.ntmps75
  go_wp2_with (first
    | (go_at_call 101; (with_reducible refine (Cut_c 47 s _ (HW.out.alloc _) (by omega)).mono ?_); rintro e w1 ⟨rfl, hb1⟩; rw [HCUT.out]; have blk1 := below_block hb1 (by simp) (heap_alloc_new w _); obtain ⟨r0, r1, f0, f1⟩ := row2 blk1; have BLK1 := Lib.hid blk1; have HB1 := Lib.hid (((Below.refl w.heap.size w).alloc (Nat.le_refl _) _).trans (hb1.mono (by simp))); have zw1 := HB1.out.size; clear hb1 blk1 r0 r1 f0 f1)
    | (go_at_call 83; (with_reducible refine (Parse_ok a ⟨(addrT a).toArray⟩ _ (HW.out.on HB1.out) ha rfl).mono ?_); rintro e w2 ⟨rfl, hb2⟩; have blk2 := below_block hb2 (size_of_block BLK1.out) BLK1.out; obtain ⟨r0, r1, f0, f1⟩ := row2 blk2; have BLK2 := Lib.hid blk2; have HB2 := Lib.hid (HB1.out.trans (hb2.mono zw1)); have zw2 := HB2.out.size; clear hb2 blk2; clear r0 r1 f0 f1)
    | (go_at_call 76; (with_reducible refine (Atoi_ok ⟨(dd k).toArray⟩ (k : Int) _ (by rw [str_size]; omega) HAT.out).mono ?_); rintro e w3 ⟨rfl, hb3⟩; have blk3 := below_block hb3 (size_of_block BLK2.out) BLK2.out; obtain ⟨r0, r1, f0, f1⟩ := row2 blk3; have BLK3 := Lib.hid blk3; have HB3 := Lib.hid (HB2.out.trans (hb3.mono zw2)); have zw3 := HB3.out.size; clear hb3 blk3; clear r0 r1 f0 f1)
    | (go_at_call 77; (with_reducible refine (Check_ok _ (by omega) (by omega) HN.out).mono ?_); rintro e w4 ⟨rfl, hb4⟩; have nlk := below_block hb4 (by simp) (heap_alloc_new w3 _); obtain ⟨d0, d1, _, _⟩ := row2 nlk; have NLK := Lib.hid nlk; have hb5 : Below w3.heap.size w3 w4 := ((Below.refl _ _).alloc (Nat.le_refl _) _).trans (hb4.mono (by simp)); have blk4 := below_block hb5 (size_of_block BLK3.out) BLK3.out; obtain ⟨r0, r1, f0, f1⟩ := row2 blk4; have BLK4 := Lib.hid blk4; have HB4 := Lib.hid (HB3.out.trans (hb5.mono zw3)); have zw4 := HB4.out.size; clear hb5 blk4; clear hb4 nlk r0 r1 f0 f1)
    | (go_at_call 58; (with_reducible refine (NText_any a k _ (HW.out.on HB4.out) ha hk).mono ?_); rintro e w5 ⟨rfl, hb5⟩; rw [HES.out]; have nlk := below_block hb5 (size_of_block NLK.out) NLK.out; obtain ⟨d0, d1, _, _⟩ := row2 nlk; clear nlk; have blk5 := below_block hb5 (size_of_block BLK4.out) BLK4.out; obtain ⟨r0, r1, f0, f1⟩ := row2 blk5; have BLK5 := Lib.hid blk5; have HB5 := Lib.hid (HB4.out.trans (hb5.mono zw4)); have zw5 := HB5.out.size; clear hb5 blk5)
    | fail)
  exact nparse_end (e := .nilIface) (set2_block _ _ BLK5.out) rfl rfl rfl ⟨rfl, (HB5.out.setCell (by simp) _).setCell (by simp) _⟩
set_option maxRecDepth 100000 in
set_option maxHeartbeats 4000000 in
theorem NParse_bad (s : ByteArray) (w : World) (hw : HStr w) (hsz : s.size ≤ 2097152) (hs : ∀ a k : Nat, a < 4294967296 → netF ((a : Int), (k : Int)) = 0 → s.data.toList ≠ netT a k) :
    Calls Tryz.prog 75 #[.string s] w fun e w' => e = .returned (.tuple #[.agg #[.int .u32 0, .int .i64 0], .iface 35 (.int .i64 3)]) ∧ Below w.heap.size w w' := by
  have hl1 := cut_len1 47 s.data.toList
  have hl2 := cut_len2 47 s.data.toList
  rw [size_data] at hl1 hl2
  obtain ⟨h, hh⟩ : ∃ h, (Lib.cut s.data.toList [47]).1 = h := ⟨_, rfl⟩
  obtain ⟨t, ht⟩ : ∃ t, (Lib.cut s.data.toList [47]).2.1 = t := ⟨_, rfl⟩
  rw [hh] at hl1
  rw [ht] at hl2
  have HC1 := Lib.hid hh
  have HC2 := Lib.hid ht
  have HW := Lib.hid hw
  have HS := Lib.hid hs
  clear hh ht hw hs
  by_cases hA : ∃ a : Nat, a < 4294967296 ∧ h = addrT a
  · obtain ⟨a, ha, hha⟩ := hA
    have HH : Hid ((⟨h.toArray⟩ : ByteArray).data.toList = addrT a) := Lib.hid hha
    clear hha
    by_cases hv : ∃ v, Lib.atoiAll t = .ok v
    · obtain ⟨v, hv⟩ := hv
      have HV := Lib.hid hv
      clear hv
      by_cases hn : netF ((a : Int), v) = 0
      · obtain ⟨k, hk, ek, _⟩ := net_ok hn
        simp only at ek
        subst ek
        have tne : (netT a k == s.toList) = false := by
          have := HS.out a k ha hn
          rw [← ByteArray.toList_eq] at this
          exact beq_eq_false_iff_ne.2 (fun e => this e.symm)
        have HN := Lib.hid hn
        clear hn
        go_enter Tryz.func75, Tryz.ntmps75
        go_wp2_with (first
          | (go_at_call 101; (with_reducible refine (Cut_c 47 s _ (HW.out.alloc _) (by omega)).mono ?_); rintro e w1 ⟨rfl, hb1⟩; rw [HC1.out, HC2.out]; have blk1 := below_block hb1 (by simp) (heap_alloc_new w _); obtain ⟨r0, r1, f0, f1⟩ := row2 blk1; have BLK1 := Lib.hid blk1; have HB1 := Lib.hid (((Below.refl w.heap.size w).alloc (Nat.le_refl _) _).trans (hb1.mono (by simp))); have zw1 := HB1.out.size; clear hb1 blk1 r0 r1 f0 f1)
          | (go_at_call 83; (with_reducible refine (Parse_ok a ⟨h.toArray⟩ _ (HW.out.on HB1.out) ha HH.out).mono ?_); rintro e w2 ⟨rfl, hb2⟩; have blk2 := below_block hb2 (size_of_block BLK1.out) BLK1.out; obtain ⟨r0, r1, f0, f1⟩ := row2 blk2; have BLK2 := Lib.hid blk2; have HB2 := Lib.hid (HB1.out.trans (hb2.mono zw1)); have zw2 := HB2.out.size; clear hb2 blk2; clear r0 r1 f0 f1)
          | (go_at_call 76; (with_reducible refine (Atoi_ok ⟨t.toArray⟩ (k : Int) _ (by rw [str_size]; omega) HV.out).mono ?_); rintro e w3 ⟨rfl, hb3⟩; have blk3 := below_block hb3 (size_of_block BLK2.out) BLK2.out; obtain ⟨r0, r1, f0, f1⟩ := row2 blk3; have BLK3 := Lib.hid blk3; have HB3 := Lib.hid (HB2.out.trans (hb3.mono zw2)); have zw3 := HB3.out.size; clear hb3 blk3; clear r0 r1 f0 f1)
          | (go_at_call 77; (with_reducible refine (Check_ok _ (by omega) (by omega) HN.out).mono ?_); rintro e w4 ⟨rfl, hb4⟩; have nlk := below_block hb4 (by simp) (heap_alloc_new w3 _); obtain ⟨d0, d1, _, _⟩ := row2 nlk; have NLK := Lib.hid nlk; have hb5 : Below w3.heap.size w3 w4 := ((Below.refl _ _).alloc (Nat.le_refl _) _).trans (hb4.mono (by simp)); have blk4 := below_block hb5 (size_of_block BLK3.out) BLK3.out; obtain ⟨r0, r1, f0, f1⟩ := row2 blk4; have BLK4 := Lib.hid blk4; have HB4 := Lib.hid (HB3.out.trans (hb5.mono zw3)); have zw4 := HB4.out.size; clear hb5 blk4; clear hb4 nlk r0 r1 f0 f1)
          | (go_at_call 58; (with_reducible refine (NText_any a k _ (HW.out.on HB4.out) ha hk).mono ?_); rintro e w5 ⟨rfl, hb5⟩; have blk5 := below_block hb5 (size_of_block BLK4.out) BLK4.out; obtain ⟨r0, r1, f0, f1⟩ := row2 blk5; have BLK5 := Lib.hid blk5; have HB5 := Lib.hid (HB4.out.trans (hb5.mono zw4)); have zw5 := HB5.out.size; clear hb5 blk5)
          | fail)
        exact nparse_end (e := .iface 35 (.int .i64 3)) (set2_block _ _ BLK5.out) rfl rfl rfl ⟨rfl, (HB5.out.setCell (by simp) _).setCell (by simp) _⟩
      · have HN := Lib.hid hn
        clear hn
        go_enter Tryz.func75, Tryz.ntmps75
        go_wp2_with (first
          | (go_at_call 101; (with_reducible refine (Cut_c 47 s _ (HW.out.alloc _) (by omega)).mono ?_); rintro e w1 ⟨rfl, hb1⟩; rw [HC1.out, HC2.out]; have blk1 := below_block hb1 (by simp) (heap_alloc_new w _); obtain ⟨r0, r1, f0, f1⟩ := row2 blk1; have BLK1 := Lib.hid blk1; have HB1 := Lib.hid (((Below.refl w.heap.size w).alloc (Nat.le_refl _) _).trans (hb1.mono (by simp))); have zw1 := HB1.out.size; clear hb1 blk1 r0 r1 f0 f1)
          | (go_at_call 83; (with_reducible refine (Parse_ok a ⟨h.toArray⟩ _ (HW.out.on HB1.out) ha HH.out).mono ?_); rintro e w2 ⟨rfl, hb2⟩; have blk2 := below_block hb2 (size_of_block BLK1.out) BLK1.out; obtain ⟨r0, r1, f0, f1⟩ := row2 blk2; have BLK2 := Lib.hid blk2; have HB2 := Lib.hid (HB1.out.trans (hb2.mono zw1)); have zw2 := HB2.out.size; clear hb2 blk2; clear r0 r1 f0 f1)
          | (go_at_call 76; (with_reducible refine (Atoi_ok ⟨t.toArray⟩ v _ (by rw [str_size]; omega) HV.out).mono ?_); rintro e w3 ⟨rfl, hb3⟩; have blk3 := below_block hb3 (size_of_block BLK2.out) BLK2.out; obtain ⟨r0, r1, f0, f1⟩ := row2 blk3; have BLK3 := Lib.hid blk3; have HB3 := Lib.hid (HB2.out.trans (hb3.mono zw2)); have zw3 := HB3.out.size; clear hb3 blk3; clear r0 r1 f0 f1)
          | (go_at_call 77; (with_reducible refine (Check_bad _ (by omega) (by omega) HN.out).mono ?_); rintro e w4 ⟨rfl, hb4⟩; have hb5 : Below w3.heap.size w3 w4 := ((Below.refl _ _).alloc (Nat.le_refl _) _).trans (hb4.mono (by simp)); have blk4 := below_block hb5 (size_of_block BLK3.out) BLK3.out; obtain ⟨r0, r1, f0, f1⟩ := row2 blk4; have BLK4 := Lib.hid blk4; have HB4 := Lib.hid (HB3.out.trans (hb5.mono zw3)); have zw4 := HB4.out.size; clear hb5 blk4; clear hb4)
          | fail)
        exact nparse_end (e := .iface 35 (.int .i64 3)) (set2_block _ _ BLK4.out) rfl rfl rfl ⟨rfl, (HB4.out.setCell (by simp) _).setCell (by simp) _⟩
    · have HV : Hid (∀ v, Lib.atoiAll t ≠ .ok v) := Lib.hid (fun v e => hv ⟨v, e⟩)
      clear hv
      go_enter Tryz.func75, Tryz.ntmps75
      go_wp2_with (first
        | (go_at_call 101; (with_reducible refine (Cut_c 47 s _ (HW.out.alloc _) (by omega)).mono ?_); rintro e w1 ⟨rfl, hb1⟩; rw [HC1.out, HC2.out]; have blk1 := below_block hb1 (by simp) (heap_alloc_new w _); obtain ⟨r0, r1, f0, f1⟩ := row2 blk1; have BLK1 := Lib.hid blk1; have HB1 := Lib.hid (((Below.refl w.heap.size w).alloc (Nat.le_refl _) _).trans (hb1.mono (by simp))); have zw1 := HB1.out.size; clear hb1 blk1 r0 r1 f0 f1)
        | (go_at_call 83; (with_reducible refine (Parse_ok a ⟨h.toArray⟩ _ (HW.out.on HB1.out) ha HH.out).mono ?_); rintro e w2 ⟨rfl, hb2⟩; have blk2 := below_block hb2 (size_of_block BLK1.out) BLK1.out; obtain ⟨r0, r1, f0, f1⟩ := row2 blk2; have BLK2 := Lib.hid blk2; have HB2 := Lib.hid (HB1.out.trans (hb2.mono zw1)); have zw2 := HB2.out.size; clear hb2 blk2; clear r0 r1 f0 f1)
        | (go_at_call 76; (with_reducible refine (Atoi_bad ⟨t.toArray⟩ _ (HW.out.on HB2.out) (by rw [str_size]; omega) HV.out).mono ?_); rintro e w3 ⟨v, ty, pv, rfl, hb3⟩; have blk3 := below_block hb3 (size_of_block BLK2.out) BLK2.out; obtain ⟨r0, r1, f0, f1⟩ := row2 blk3; have BLK3 := Lib.hid blk3; have HB3 := Lib.hid (HB2.out.trans (hb3.mono zw2)); have zw3 := HB3.out.size; clear hb3 blk3; have hR3 := size_of_block BLK3.out)
        | fail)
      exact nparse_end (e := .iface 35 (.int .i64 3)) (below_block ((Below.refl _ _).alloc (Nat.le_refl _) _) (by simpa using hR3) (set2_block _ _ BLK3.out)) rfl rfl rfl ⟨rfl, ((HB3.out.setCell (by simp) _).setCell (by simp) _).alloc (by simp; omega) _⟩
  · have HNA : Hid (∀ a : Nat, a < 4294967296 → (⟨h.toArray⟩ : ByteArray).data.toList ≠ addrT a) := Lib.hid (fun a ha e => hA ⟨a, ha, e⟩)
    clear hA
    by_cases hv : ∃ v, Lib.atoiAll t = .ok v
    · obtain ⟨v, hv⟩ := hv
      have HV := Lib.hid hv
      clear hv
      go_enter Tryz.func75, Tryz.ntmps75
      go_wp2_with (first
        | (go_at_call 101; (with_reducible refine (Cut_c 47 s _ (HW.out.alloc _) (by omega)).mono ?_); rintro e w1 ⟨rfl, hb1⟩; rw [HC1.out, HC2.out]; have blk1 := below_block hb1 (by simp) (heap_alloc_new w _); obtain ⟨r0, r1, f0, f1⟩ := row2 blk1; have BLK1 := Lib.hid blk1; have HB1 := Lib.hid (((Below.refl w.heap.size w).alloc (Nat.le_refl _) _).trans (hb1.mono (by simp))); have zw1 := HB1.out.size; clear hb1 blk1 r0 r1 f0 f1)
        | (go_at_call 83; (with_reducible refine (Parse_bad ⟨h.toArray⟩ _ (HW.out.on HB1.out) (by rw [str_size]; omega) HNA.out).mono ?_); rintro e w2 ⟨rfl, hb2⟩; have blk2 := below_block hb2 (size_of_block BLK1.out) BLK1.out; obtain ⟨r0, r1, f0, f1⟩ := row2 blk2; have BLK2 := Lib.hid blk2; have HB2 := Lib.hid (HB1.out.trans (hb2.mono zw1)); have zw2 := HB2.out.size; clear hb2 blk2; clear r0 r1 f0 f1)
        | (go_at_call 76; (with_reducible refine (Atoi_ok ⟨t.toArray⟩ v _ (by rw [str_size]; omega) HV.out).mono ?_); rintro e w3 ⟨rfl, hb3⟩; have blk3 := below_block hb3 (size_of_block BLK2.out) BLK2.out; obtain ⟨r0, r1, f0, f1⟩ := row2 blk3; have BLK3 := Lib.hid blk3; have HB3 := Lib.hid (HB2.out.trans (hb3.mono zw2)); have zw3 := HB3.out.size; clear hb3 blk3; have hR3 := size_of_block BLK3.out)
        | fail)
      exact nparse_end (e := .iface 35 (.int .i64 3)) (below_block ((Below.refl _ _).alloc (Nat.le_refl _) _) (by simpa using hR3) (set2_block _ _ BLK3.out)) rfl rfl rfl ⟨rfl, ((HB3.out.setCell (by simp) _).setCell (by simp) _).alloc (by simp; omega) _⟩
    · have HV : Hid (∀ v, Lib.atoiAll t ≠ .ok v) := Lib.hid (fun v e => hv ⟨v, e⟩)
      clear hv
      go_enter Tryz.func75, Tryz.ntmps75
      go_wp2_with (first
        | (go_at_call 101; (with_reducible refine (Cut_c 47 s _ (HW.out.alloc _) (by omega)).mono ?_); rintro e w1 ⟨rfl, hb1⟩; rw [HC1.out, HC2.out]; have blk1 := below_block hb1 (by simp) (heap_alloc_new w _); obtain ⟨r0, r1, f0, f1⟩ := row2 blk1; have BLK1 := Lib.hid blk1; have HB1 := Lib.hid (((Below.refl w.heap.size w).alloc (Nat.le_refl _) _).trans (hb1.mono (by simp))); have zw1 := HB1.out.size; clear hb1 blk1 r0 r1 f0 f1)
        | (go_at_call 83; (with_reducible refine (Parse_bad ⟨h.toArray⟩ _ (HW.out.on HB1.out) (by rw [str_size]; omega) HNA.out).mono ?_); rintro e w2 ⟨rfl, hb2⟩; have blk2 := below_block hb2 (size_of_block BLK1.out) BLK1.out; obtain ⟨r0, r1, f0, f1⟩ := row2 blk2; have BLK2 := Lib.hid blk2; have HB2 := Lib.hid (HB1.out.trans (hb2.mono zw1)); have zw2 := HB2.out.size; clear hb2 blk2; clear r0 r1 f0 f1)
        | (go_at_call 76; (with_reducible refine (Atoi_bad ⟨t.toArray⟩ _ (HW.out.on HB2.out) (by rw [str_size]; omega) HV.out).mono ?_); rintro e w3 ⟨v, ty, pv, rfl, hb3⟩; have blk3 := below_block hb3 (size_of_block BLK2.out) BLK2.out; obtain ⟨r0, r1, f0, f1⟩ := row2 blk3; have BLK3 := Lib.hid blk3; have HB3 := Lib.hid (HB2.out.trans (hb3.mono zw2)); have zw3 := HB3.out.size; clear hb3 blk3; have hR3 := size_of_block BLK3.out)
        | fail)
      exact nparse_end (e := .iface 35 (.int .i64 3)) (below_block ((Below.refl _ _).alloc (Nat.le_refl _) _) (by simpa using hR3) (set2_block _ _ BLK3.out)) rfl rfl rfl ⟨rfl, ((HB3.out.setCell (by simp) _).setCell (by simp) _).alloc (by simp; omega) _⟩
end Go.Proofs.YtgdlkjahlajcpaaGreatDoor
