/- The table's functions as contracts for laws: one for each function, whatever is asked. -/
import Derived.Test.YtplojnlmofbneaaDoorTrieF
namespace Go.Proofs.YtplojnlmofbneaaDoor
open Go.ChangeShapes Go.WideShapes Go.ChangeAt Go.RowKit
set_option linter.unusedVariables false
set_option linter.unusedSimpArgs false
/-- a law's world: a table that the law made, and blocks of the law's own beside it -/
structure Tk (W : World) (T : Nat) (m : List (Nt × Int)) (S : Nat → Prop) (w : World) : Prop where
  ex : ∃ N, Tri w T W.heap.size N m ∧ ∀ g, S g → g < w.heap.size ∧ ∀ x, N x ≠ some g
  bel : Below W.heap.size W w
def NoB : Nat → Prop := fun _ => False
theorem Tk.ok {W w : World} {T : Nat} {m : List (Nt × Int)} {S : Nat → Prop} (h : Tk W T m S w) : MOk m := by
  obtain ⟨N, hT, _⟩ := h.ex
  exact hT.ok
theorem Tk.below {W w w' : World} {T : Nat} {m : List (Nt × Int)} {S : Nat → Prop} (h : Tk W T m S w) (hb : Below w.heap.size w w') : Tk W T m S w' := by
  obtain ⟨N, hT, hS⟩ := h.ex
  exact ⟨⟨N, hT.below hb, fun g hg => ⟨Nat.lt_of_lt_of_le (hS g hg).1 hb.size, (hS g hg).2⟩⟩, h.bel.trans (hb.mono h.bel.size)⟩
theorem Tk.fewer {W w : World} {T : Nat} {m : List (Nt × Int)} {S S' : Nat → Prop} (h : Tk W T m S w) (hs : ∀ g, S' g → S g) : Tk W T m S' w := by
  obtain ⟨N, hT, hS⟩ := h.ex
  exact ⟨⟨N, hT, fun g hg => hS g (hs g hg)⟩, h.bel⟩
/-- what has come since is kept too -/
theorem Tk.more {W w w' : World} {T : Nat} {m : List (Nt × Int)} {S : Nat → Prop} (h : Tk W T m S w) (hb : Below w.heap.size w w') : Tk W T m (fun g => S g ∨ w.heap.size ≤ g ∧ g < w'.heap.size) w' := by
  obtain ⟨N, hT, hS⟩ := h.ex
  refine ⟨⟨N, hT.below hb, fun g hg => ?_⟩, h.bel.trans (hb.mono h.bel.size)⟩
  rcases hg with hg | hg
  · exact ⟨Nat.lt_of_lt_of_le (hS g hg).1 hb.size, (hS g hg).2⟩
  · exact ⟨hg.2, hT.fresh hg.1⟩
theorem Tk.old {W w : World} {T : Nat} {m : List (Nt × Int)} {S : Nat → Prop} (h : Tk W T m S w) : Tk W T m (fun g => S g ∨ g < W.heap.size) w := by
  obtain ⟨N, hT, hS⟩ := h.ex
  refine ⟨⟨N, hT, fun g hg => ?_⟩, h.bel⟩
  rcases hg with hg | hg
  · exact hS g hg
  · exact ⟨Nat.lt_of_lt_of_le hg h.bel.size, fun x hx => by have := hT.base x g hx; omega⟩
/-- a store into one of the law's own -/
theorem Tk.setCell {W w : World} {T : Nat} {m : List (Nt × Int)} {S : Nat → Prop} (h : Tk W T m S w) {g o : Nat} (hg : S g) (hW : W.heap.size ≤ g) (u : Value) : Tk W T m S (w.setCell ⟨g, o, none⟩ u) := by
  obtain ⟨N, hT, hS⟩ := h.ex
  exact ⟨⟨N, hT.setCell (hS g hg).2 u, fun g' hg' => by simpa using hS g' hg'⟩, h.bel.setCell hW u⟩
/-- what is kept -/
def KeptS (S : Nat → Prop) (w w' : World) : Prop := ∀ g, S g → w'.heap[g]? = w.heap[g]?
def putE (m : List (Nt × Int)) (x : Nt) : Int := if netF x = 0 then (if look m x = none ∧ m.length = 64 then 4 else 0) else netF x
def putT (m : List (Nt × Int)) (x : Nt) (v : Int) : List (Nt × Int) := if putE m x = 0 then putM m x v else m
def getE (m : List (Nt × Int)) (x : Nt) : Int := if netF x = 0 then (if look m x = none then 2 else 0) else netF x
def getV (m : List (Nt × Int)) (x : Nt) : Int := if netF x = 0 then (look m x).getD 0 else 0
def dropT (m : List (Nt × Int)) (x : Nt) : List (Nt × Int) := if getE m x = 0 then delM m x else m
theorem netF_ne {x : Nt} (h : netF x ≠ 0) : netF x = 1 ∨ netF x = 3 := by
  unfold netF at h ⊢
  split
  · exact .inl rfl
  · rw [if_neg (by assumption)] at h
    split
    · rename_i h1; rw [if_pos h1] at h; exact absurd rfl h
    · exact .inr rfl
section
variable {W w : World} {T : Nat} {m : List (Nt × Int)} {S : Nat → Prop} {a n v : Int}
theorem Tk.new (W : World) : Tk W W.heap.size [] NoB (W.alloc (.cells #[.bool false, .int .i64 0, .pointer none, .pointer none, .int .i64 0] 75)) := by
  refine ⟨⟨fun x => if x = (0, 0) then some W.heap.size else none, ⟨MOk.nil, by simp, ?_, ?_, ?_, ?_, ?_, ?_⟩, fun g hg => hg.elim⟩, below_1 _ _⟩
  · intro x b hx
    split at hx
    · rename_i e; subst e; exact ⟨by decide, by decide, by decide⟩
    · cases hx
  · intro x b hx
    split at hx
    · simp at hx; omega
    · cases hx
  · intro x y b hx hy
    split at hx <;> split at hy
    · rename_i e e'; rw [e, e']
    · cases hy
    · cases hx
    · cases hx
  · intro x k hx hk
    split at hx
    · rename_i e; subst e; simp at hk; omega
    · exact absurd rfl hx
  · intro x hx; simp [look] at hx
  · intro x b hx
    split at hx
    · rename_i e
      subst e
      simp only [Option.some.injEq] at hx
      subst hx
      refine ⟨0, fun u hu => by simp [look] at hu, ?_⟩
      rw [heap_alloc_new]
      rfl
    · cases hx
theorem Put_t (h : Tk W T m S w) (ha : is32 a) (hv : (Lit.int .i64 v).wf = true) :
    Calls Tryd.prog 10 #[.pointer (some ⟨T, 0, none⟩), .agg #[.int .u32 a, .int .i64 n], .int .i64 v] w fun e w' => e = .returned (errV (putE m (a, n))) ∧ Tk W T (putT m (a, n) v) S w' ∧ KeptS S w w' ∧ Below W.heap.size W w' := by
  obtain ⟨N, hT, hS⟩ := h.ex
  have hsz := h.bel.size
  by_cases hF : netF (a, n) = 0
  · obtain ⟨k, hk, e, _⟩ := net_ok hF
    simp only at e
    subst e
    have fin : ∀ w' N', Tri w' T W.heap.size N' (putM m (a, (k : Int)) v) → Keeps W.heap.size N w w' → (∀ z g, N' z = some g → N z = some g ∨ w.heap.size ≤ g) → putE m (a, (k : Int)) = 0 → Tk W T (putT m (a, (k : Int)) v) S w' ∧ KeptS S w w' ∧ Below W.heap.size W w' := by
      intro w' N' h1 h2 h3 h4
      unfold putT
      rw [if_pos h4]
      have hb := h.bel.trans h2.bel
      refine ⟨⟨⟨N', h1, fun g hg => ⟨Nat.lt_of_lt_of_le (hS g hg).1 h2.bel.size, fun x hx => ?_⟩⟩, hb⟩, fun g hg => h2.oth g (hS g hg).1 (hS g hg).2, hb⟩
      rcases h3 x g hx with h5 | h5
      · exact (hS g hg).2 x h5
      · have := (hS g hg).1; omega
    by_cases hl : look m (a, (k : Int)) = none
    · by_cases h64 : m.length = 64
      · have hE : putE m (a, (k : Int)) = 4 := by unfold putE; rw [if_pos hF, if_pos ⟨hl, h64⟩]
        refine (Put_full hT ha hF hl h64 hsz).mono fun e w' hh => ?_
        have hP : putT m (a, (k : Int)) v = m := by unfold putT; rw [if_neg (by rw [hE]; decide)]
        have h2 := h.below hh.2
        refine ⟨by rw [hE]; exact hh.1, by rw [hP]; exact h2, fun g hg => hh.2.block g (hS g hg).1, h2.bel⟩
      · have hE : putE m (a, (k : Int)) = 0 := by unfold putE; rw [if_pos hF, if_neg (fun e => h64 e.2)]
        refine (Put_new hT ha hv hF hl (by have := hT.ok.len; omega) hsz).mono fun e w' hh => ?_
        obtain ⟨h1, N', h2, h3, h4⟩ := hh
        exact ⟨by rw [hE]; exact h1, fin w' N' h2 h3 h4 hE⟩
    · have hE : putE m (a, (k : Int)) = 0 := by unfold putE; rw [if_pos hF, if_neg (fun e => hl e.1)]
      refine (Put_renew hT ha hv hF hl hsz).mono fun e w' hh => ?_
      obtain ⟨h1, h2, h3⟩ := hh
      exact ⟨by rw [hE]; exact h1, fin w' N h2 h3 (fun z g hz => .inl hz) hE⟩
  · have hE : putE m (a, n) = netF (a, n) := by unfold putE; rw [if_neg hF]
    have hP : putT m (a, n) v = m := by unfold putT; rw [if_neg (by rw [hE]; exact hF)]
    refine (Put_bad ha hF).mono fun e w' hh => ?_
    have h2 := h.below hh.2
    exact ⟨by rw [hE, errV_ne hF]; exact hh.1, by rw [hP]; exact h2, fun g hg => hh.2.block g (hS g hg).1, h2.bel⟩
theorem Get_t (h : Tk W T m S w) (ha : is32 a) :
    Calls Tryd.prog 17 #[.pointer (some ⟨T, 0, none⟩), .agg #[.int .u32 a, .int .i64 n]] w fun e w' => e = .returned (.tuple #[.int .i64 (getV m (a, n)), errV (getE m (a, n))]) ∧ Below w.heap.size w w' := by
  obtain ⟨N, hT, hS⟩ := h.ex
  have hsz := h.bel.size
  by_cases hF : netF (a, n) = 0
  · obtain ⟨k, hk, e, _⟩ := net_ok hF
    simp only at e
    subst e
    cases hl : look m (a, (k : Int)) with
    | none =>
      refine (Get_none hT ha hF hl hsz).mono fun e w' hh => ⟨?_, hh.2⟩
      unfold getE getV
      rw [if_pos hF, if_pos hF, if_pos hl, hl]
      exact hh.1
    | some u =>
      refine (Get_some hT ha hF hl hsz).mono fun e w' hh => ⟨?_, hh.2⟩
      unfold getE getV
      rw [if_pos hF, if_pos hF, if_neg (by rw [hl]; simp), hl]
      exact hh.1
  · refine (Get_bad ha hF).mono fun e w' hh => ⟨?_, hh.2⟩
    unfold getE getV
    rw [if_neg hF, if_neg hF, errV_ne hF]
    exact hh.1
theorem Drop_t (h : Tk W T m S w) (ha : is32 a) :
    Calls Tryd.prog 11 #[.pointer (some ⟨T, 0, none⟩), .agg #[.int .u32 a, .int .i64 n]] w fun e w' => e = .returned (errV (getE m (a, n))) ∧ Tk W T (dropT m (a, n)) S w' ∧ KeptS S w w' ∧ Below W.heap.size W w' := by
  obtain ⟨N, hT, hS⟩ := h.ex
  have hsz := h.bel.size
  by_cases hF : netF (a, n) = 0
  · obtain ⟨k, hk, e, _⟩ := net_ok hF
    simp only at e
    subst e
    cases hl : look m (a, (k : Int)) with
    | none =>
      have hE : getE m (a, (k : Int)) = 2 := by unfold getE; rw [if_pos hF, if_pos hl]
      have hP : dropT m (a, (k : Int)) = m := by unfold dropT; rw [if_neg (by rw [hE]; decide)]
      refine (Drop_none hT ha hF hl hsz).mono fun e w' hh => ?_
      have h2 := h.below hh.2
      exact ⟨by rw [hE]; exact hh.1, by rw [hP]; exact h2, fun g hg => hh.2.block g (hS g hg).1, h2.bel⟩
    | some u =>
      have hE : getE m (a, (k : Int)) = 0 := by unfold getE; rw [if_pos hF, if_neg (by rw [hl]; simp)]
      have hP : dropT m (a, (k : Int)) = delM m (a, (k : Int)) := by unfold dropT; rw [if_pos hE]
      refine (Drop_some hT ha hF hl hsz).mono fun e w' hh => ?_
      obtain ⟨h1, h2, h3⟩ := hh
      have hb := h.bel.trans h3.bel
      refine ⟨by rw [hE]; exact h1, by rw [hP]; exact ⟨⟨N, h2, fun g hg => ⟨Nat.lt_of_lt_of_le (hS g hg).1 h3.bel.size, (hS g hg).2⟩⟩, hb⟩, fun g hg => h3.oth g (hS g hg).1 (hS g hg).2, hb⟩
  · have hE : getE m (a, n) = netF (a, n) := by unfold getE; rw [if_neg hF]
    have hP : dropT m (a, n) = m := by unfold dropT; rw [if_neg (by rw [hE]; exact hF)]
    refine (Drop_bad ha hF).mono fun e w' hh => ?_
    have h2 := h.below hh.2
    exact ⟨by rw [hE, errV_ne hF]; exact hh.1, by rw [hP]; exact h2, fun g hg => hh.2.block g (hS g hg).1, h2.bel⟩
theorem Find_t (h : Tk W T m S w) (ha : is32 a) {r : Option (Nat × Int)} (hr : fnd m a 33 = r) :
    Calls Tryd.prog 12 #[.pointer (some ⟨T, 0, none⟩), .int .u32 a] w fun e w' => e = .returned (findV a r) ∧ Below w.heap.size w w' := by
  obtain ⟨N, hT, hS⟩ := h.ex
  rw [← hr]
  exact Find_any hT ha h.bel.size
theorem List_t (h : Tk W T m S w) : Calls Tryd.prog 23 #[.pointer (some ⟨T, 0, none⟩)] w (ListPost w m) := by
  obtain ⟨N, hT, hS⟩ := h.ex
  exact List_any hT
theorem New_t (W : World) : Calls Tryd.prog 9 #[] W fun e w' => e = .returned (.pointer (some ⟨W.heap.size, 0, none⟩)) ∧ Tk W W.heap.size [] NoB w' :=
  (New_any W).mono fun e w' hh => ⟨hh.1, by rw [hh.2]; exact Tk.new W⟩
end
/-- a list of puts, numbered -/
def puts : List Nt → Nat → List (Nt × Int) → List (Nt × Int)
  | [], _, m => m
  | x :: r, i, m => puts r (i + 1) (putT m x i)
end Go.Proofs.YtplojnlmofbneaaDoor
