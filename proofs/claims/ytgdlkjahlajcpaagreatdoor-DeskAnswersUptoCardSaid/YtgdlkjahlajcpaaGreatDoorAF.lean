/- trie.List, as a contract. The table's functions as contracts for laws: one for each function, whatever is asked. Covers of nets in plain numbers: the stack of a cover, that it is the one list of the greatest nets, how many addresses it has; no program in sight. Covers in plain numbers, continued: wh -/
import Derived.Test.YtgdlkjahlajcpaaGreatDoorAE
import Derived.Laws.EntriesVeiled
import Derived.Test.YtgdlkjahlajcpaaGreatDoorAB
import Derived.Test.YtgdlkjahlajcpaaGreatDoorAA
namespace Go.Proofs.YtgdlkjahlajcpaaGreatDoor
open Go.ChangeShapes Go.WideShapes Go.ChangeAt Go.RowKit
set_option linter.unusedVariables false
set_option linter.unusedSimpArgs false
section
variable {w : World} {T B : Nat} {N : NM} {m : List (Nt × Int)}
theorem walk_all (hT : Tri w T B N m) : ∀ k, WalkC w N m k
  | 0 => walk_zero hT
  | k + 1 => walk_succ hT (walk_all hT k)
def ListPost (w : World) (m : List (Nt × Int)) (e : Ending) (w' : World) : Prop := ∃ v, e = .returned v ∧ OwnN w' (w.heap.size + 2) v (allM m) ∧ Below w.heap.size w w'
set_option maxRecDepth 100000 in
set_option maxHeartbeats 1000000 in
theorem List_any (h : Tri w T B N m) :
    Calls Tryz.prog 61 #[.pointer (some ⟨T, 0, none⟩)] w (ListPost w m) := by
  have hA : (allM m).length ≤ 64 := by rw [all_length h.ok]; exact h.ok.len
  have hR : N (0, ((0 : Nat) : Int)) = some T := h.root
  have key : ∀ K : Nat, K = 32 → (lst m K (0, 0)).length ≤ 64 → ∀ w1, LInv w [] w1 → Calls Tryz.prog 86 #[.pointer (some ⟨T, 0, none⟩), .agg #[.int .u32 0, .int .i64 0], .pointer (some ⟨w.heap.size, 0, none⟩), .pointer (some ⟨w.heap.size + 1, 0, none⟩)] w1 fun e w' => e = .returned (.tuple #[]) ∧ LInv w (lst m K (0, 0)) w' ∧ Frm w w1 w' := by
    intro K hK hl w1 h1
    have h2 := walk_all h K (a := 0) (n := 0) (by omega) net00 ⟨by omega, by omega⟩ h1 (by simpa using hl)
    rw [hR] at h2
    exact h2
  have HW : Hid (∀ w1, LInv w [] w1 → Calls Tryz.prog 86 #[.pointer (some ⟨T, 0, none⟩), .agg #[.int .u32 0, .int .i64 0], .pointer (some ⟨w.heap.size, 0, none⟩), .pointer (some ⟨w.heap.size + 1, 0, none⟩)] w1 fun e w' => e = .returned (.tuple #[]) ∧ LInv w (allM m) w' ∧ Frm w w1 w') := Lib.hid (key 32 rfl hA)
  clear key hR hA
  clear h
  go_enter Tryz.func61, Tryz.ntmps61
  go_wp2
  have hI : LInv w [] ((w.alloc (.cells #[.slice none 0 0] 26)).alloc (.cells #[.func (.func 86) #[] #[.pointer (some ⟨w.heap.size, 0, none⟩), .pointer (some ⟨w.heap.size + 1, 0, none⟩)]] 128)) := by
    refine ⟨below_2 _ _ _, ⟨_, below_block (below_1 _ _) (by simp) (heap_alloc_new w _), (OwnN.nil_ _ _)⟩, 128, ?_⟩
    have h := heap_alloc_new (w.alloc (.cells #[.slice none 0 0] 26)) (.cells #[.func (.func 86) #[] #[.pointer (some ⟨w.heap.size, 0, none⟩), .pointer (some ⟨w.heap.size + 1, 0, none⟩)]] 128)
    rwa [World.size_alloc] at h
  generalize (w.alloc (.cells #[.slice none 0 0] 26)).alloc (.cells #[.func (.func 86) #[] #[.pointer (some ⟨w.heap.size, 0, none⟩), .pointer (some ⟨w.heap.size + 1, 0, none⟩)]] 128) = w1 at *
  obtain ⟨tf, hf⟩ := hI.fn
  have kf : w1.cell? ⟨w.heap.size + 1, 0, none⟩ = some (.func (.func 86) #[] #[.pointer (some ⟨w.heap.size, 0, none⟩), .pointer (some ⟨w.heap.size + 1, 0, none⟩)]) := by rw [cell_of_row _ _ _ _ _ (0, 0) hf]; rfl
  have HI := Lib.hid (hI.below (w' := w1.drew) ((Below.refl _ _).drew))
  clear hI hf
  go_still_tail 5, (by kernel_rfl)
  change wpList _ _ _ _ _ w1.drew
  go_wp2_with fail
  (with_reducible refine (HW.out _ HI.out).mono ?_)
  rintro e w2 ⟨rfl, hI2, -⟩
  obtain ⟨vo, ho, hown⟩ := hI2.out
  have ho0 : w2.cell? ⟨w.heap.size, 0, none⟩ = some vo := by rw [cell_of_row _ _ _ _ _ (0, 0) ho]; rfl
  obtain ⟨A2, c2, rfl⟩ := hown.form
  have HO := Lib.hid hown
  have HB := Lib.hid hI2.bel
  obtain ⟨L2, hL2⟩ : ∃ L2, (allM m).length = L2 := ⟨_, rfl⟩
  rw [hL2] at HO ho0
  clear hown ho hI2 hL2 kf
  go_wp2
  go_ret
  exact ⟨_, rfl, HO.out, HB.out⟩
end
end Go.Proofs.YtgdlkjahlajcpaaGreatDoor
namespace Go.Proofs.YtgdlkjahlajcpaaGreatDoor
open Go.ChangeShapes Go.WideShapes Go.ChangeAt Go.RowKit
set_option linter.unusedVariables false
set_option linter.unusedSimpArgs false
structure Tk (W : World) (T : Nat) (m : List (Nt × Int)) (S : Nat → Prop) (w : World) : Prop where
  ex : ∃ N, Tri w T W.heap.size N m ∧ ∀ g, S g → g < w.heap.size ∧ ∀ x, N x ≠ some g
  bel : Below W.heap.size W w
def NoB : Nat → Prop := fun _ => False
theorem Tk.ok {W w : World} {T : Nat} {m : List (Nt × Int)} {S : Nat → Prop} (h : Tk W T m S w) : MOk m := by
  obtain ⟨N, hT, _⟩ := h.ex
  exact hT.ok
theorem Tk.below {W w w' : World} {T : Nat} {m : List (Nt × Int)} {S : Nat → Prop} (h : Tk W T m S w) (hb : Below w.heap.size w w') : Tk W T m S w' := by
  obtain ⟨N, hT, hS⟩ := h.ex
  exact ⟨⟨N, hT.below hb, fun g hg => ⟨Nat.lt_of_lt_of_le (hS g hg).1 hb.size, (hS g hg).2⟩⟩, h.bel.trans (hb.mono h.bel.size)⟩
theorem Tk.fewer {W w : World} {T : Nat} {m : List (Nt × Int)} {S S' : Nat → Prop} (h : Tk W T m S w) (hs : ∀ g, S' g → S g) : Tk W T m S' w := by
  obtain ⟨N, hT, hS⟩ := h.ex
  exact ⟨⟨N, hT, fun g hg => hS g (hs g hg)⟩, h.bel⟩
theorem Tk.more {W w w' : World} {T : Nat} {m : List (Nt × Int)} {S : Nat → Prop} (h : Tk W T m S w) (hb : Below w.heap.size w w') : Tk W T m (fun g => S g ∨ w.heap.size ≤ g ∧ g < w'.heap.size) w' := by
  obtain ⟨N, hT, hS⟩ := h.ex
  refine ⟨⟨N, hT.below hb, fun g hg => ?_⟩, h.bel.trans (hb.mono h.bel.size)⟩
  rcases hg with hg | hg
  · exact ⟨Nat.lt_of_lt_of_le (hS g hg).1 hb.size, (hS g hg).2⟩
  · exact ⟨hg.2, hT.fresh hg.1⟩
theorem Tk.old {W w : World} {T : Nat} {m : List (Nt × Int)} {S : Nat → Prop} (h : Tk W T m S w) : Tk W T m (fun g => S g ∨ g < W.heap.size) w := by
  obtain ⟨N, hT, hS⟩ := h.ex
  refine ⟨⟨N, hT, fun g hg => ?_⟩, h.bel⟩
  rcases hg with hg | hg
  · exact hS g hg
  · exact ⟨Nat.lt_of_lt_of_le hg h.bel.size, fun x hx => by have := hT.base x g hx; omega⟩
theorem Tk.setCell {W w : World} {T : Nat} {m : List (Nt × Int)} {S : Nat → Prop} (h : Tk W T m S w) {g o : Nat} (hg : S g) (hW : W.heap.size ≤ g) (u : Value) : Tk W T m S (w.setCell ⟨g, o, none⟩ u) := by
  obtain ⟨N, hT, hS⟩ := h.ex
  exact ⟨⟨N, hT.setCell (hS g hg).2 u, fun g' hg' => by simpa using hS g' hg'⟩, h.bel.setCell hW u⟩
def KeptS (S : Nat → Prop) (w w' : World) : Prop := ∀ g, S g → w'.heap[g]? = w.heap[g]?
def putE (m : List (Nt × Int)) (x : Nt) : Int := if netF x = 0 then (if look m x = none ∧ m.length = 64 then 4 else 0) else netF x
def putT (m : List (Nt × Int)) (x : Nt) (v : Int) : List (Nt × Int) := if putE m x = 0 then putM m x v else m
def getE (m : List (Nt × Int)) (x : Nt) : Int := if netF x = 0 then (if look m x = none then 2 else 0) else netF x
def getV (m : List (Nt × Int)) (x : Nt) : Int := if netF x = 0 then (look m x).getD 0 else 0
def dropT (m : List (Nt × Int)) (x : Nt) : List (Nt × Int) := if getE m x = 0 then delM m x else m
section
variable {W w : World} {T : Nat} {m : List (Nt × Int)} {S : Nat → Prop} {a n v : Int}
theorem Tk.new (W : World) : Tk W W.heap.size [] NoB (W.alloc (.cells #[.bool false, .int .i64 0, .pointer none, .pointer none, .int .i64 0] 70)) := by
  refine ⟨⟨fun x => if x = (0, 0) then some W.heap.size else none, ⟨MOk.nil, by simp, ?_, ?_, ?_, ?_, ?_, ?_⟩, fun g hg => hg.elim⟩, below_1 _ _⟩
  · intro x b hx
    split at hx
    · rename_i e; subst e; exact ⟨by decide, by decide, by decide⟩
    · cases hx
  · intro x b hx
    split at hx
    · simp at hx; omega
    · cases hx
  · intro x y b hx hy
    split at hx <;> split at hy
    · rename_i e e'; rw [e, e']
    · cases hy
    · cases hx
    · cases hx
  · intro x k hx hk
    split at hx
    · rename_i e; subst e; simp at hk; omega
    · exact absurd rfl hx
  · intro x hx; simp [look] at hx
  · intro x b hx
    split at hx
    · rename_i e
      subst e
      simp only [Option.some.injEq] at hx
      subst hx
      refine ⟨0, fun u hu => by simp [look] at hu, ?_⟩
      rw [heap_alloc_new]
      rfl
    · cases hx
theorem Put_t (h : Tk W T m S w) (ha : is32 a) (hv : (Lit.int .i64 v).wf = true) :
    Calls Tryz.prog 47 #[.pointer (some ⟨T, 0, none⟩), .agg #[.int .u32 a, .int .i64 n], .int .i64 v] w fun e w' => e = .returned (errV (putE m (a, n))) ∧ Tk W T (putT m (a, n) v) S w' ∧ KeptS S w w' ∧ Below W.heap.size W w' := by
  obtain ⟨N, hT, hS⟩ := h.ex
  have hsz := h.bel.size
  by_cases hF : netF (a, n) = 0
  · obtain ⟨k, hk, e, _⟩ := net_ok hF
    simp only at e
    subst e
    have fin : ∀ w' N', Tri w' T W.heap.size N' (putM m (a, (k : Int)) v) → Keeps W.heap.size N w w' → (∀ z g, N' z = some g → N z = some g ∨ w.heap.size ≤ g) → putE m (a, (k : Int)) = 0 → Tk W T (putT m (a, (k : Int)) v) S w' ∧ KeptS S w w' ∧ Below W.heap.size W w' := by
      intro w' N' h1 h2 h3 h4
      unfold putT
      rw [if_pos h4]
      have hb := h.bel.trans h2.bel
      refine ⟨⟨⟨N', h1, fun g hg => ⟨Nat.lt_of_lt_of_le (hS g hg).1 h2.bel.size, fun x hx => ?_⟩⟩, hb⟩, fun g hg => h2.oth g (hS g hg).1 (hS g hg).2, hb⟩
      rcases h3 x g hx with h5 | h5
      · exact (hS g hg).2 x h5
      · have := (hS g hg).1; omega
    by_cases hl : look m (a, (k : Int)) = none
    · by_cases h64 : m.length = 64
      · have hE : putE m (a, (k : Int)) = 4 := by unfold putE; rw [if_pos hF, if_pos ⟨hl, h64⟩]
        refine (Put_full hT ha hF hl h64 hsz).mono fun e w' hh => ?_
        have hP : putT m (a, (k : Int)) v = m := by unfold putT; rw [if_neg (by rw [hE]; decide)]
        have h2 := h.below hh.2
        refine ⟨by rw [hE]; exact hh.1, by rw [hP]; exact h2, fun g hg => hh.2.block g (hS g hg).1, h2.bel⟩
      · have hE : putE m (a, (k : Int)) = 0 := by unfold putE; rw [if_pos hF, if_neg (fun e => h64 e.2)]
        refine (Put_new hT ha hv hF hl (by have := hT.ok.len; omega) hsz).mono fun e w' hh => ?_
        obtain ⟨h1, N', h2, h3, h4⟩ := hh
        exact ⟨by rw [hE]; exact h1, fin w' N' h2 h3 h4 hE⟩
    · have hE : putE m (a, (k : Int)) = 0 := by unfold putE; rw [if_pos hF, if_neg (fun e => hl e.1)]
      refine (Put_renew hT ha hv hF hl hsz).mono fun e w' hh => ?_
      obtain ⟨h1, h2, h3⟩ := hh
      exact ⟨by rw [hE]; exact h1, fin w' N h2 h3 (fun z g hz => .inl hz) hE⟩
  · have hE : putE m (a, n) = netF (a, n) := by unfold putE; rw [if_neg hF]
    have hP : putT m (a, n) v = m := by unfold putT; rw [if_neg (by rw [hE]; exact hF)]
    refine (Put_bad ha hF).mono fun e w' hh => ?_
    have h2 := h.below hh.2
    exact ⟨by rw [hE, errV_ne hF]; exact hh.1, by rw [hP]; exact h2, fun g hg => hh.2.block g (hS g hg).1, h2.bel⟩
theorem Get_t (h : Tk W T m S w) (ha : is32 a) :
    Calls Tryz.prog 53 #[.pointer (some ⟨T, 0, none⟩), .agg #[.int .u32 a, .int .i64 n]] w fun e w' => e = .returned (.tuple #[.int .i64 (getV m (a, n)), errV (getE m (a, n))]) ∧ Below w.heap.size w w' := by
  obtain ⟨N, hT, hS⟩ := h.ex
  have hsz := h.bel.size
  by_cases hF : netF (a, n) = 0
  · obtain ⟨k, hk, e, _⟩ := net_ok hF
    simp only at e
    subst e
    cases hl : look m (a, (k : Int)) with
    | none =>
      refine (Get_none hT ha hF hl hsz).mono fun e w' hh => ⟨?_, hh.2⟩
      unfold getE getV
      rw [if_pos hF, if_pos hF, if_pos hl, hl]
      exact hh.1
    | some u =>
      refine (Get_some hT ha hF hl hsz).mono fun e w' hh => ⟨?_, hh.2⟩
      unfold getE getV
      rw [if_pos hF, if_pos hF, if_neg (by rw [hl]; simp), hl]
      exact hh.1
  · refine (Get_bad ha hF).mono fun e w' hh => ⟨?_, hh.2⟩
    unfold getE getV
    rw [if_neg hF, if_neg hF, errV_ne hF]
    exact hh.1
theorem Drop_t (h : Tk W T m S w) (ha : is32 a) :
    Calls Tryz.prog 49 #[.pointer (some ⟨T, 0, none⟩), .agg #[.int .u32 a, .int .i64 n]] w fun e w' => e = .returned (errV (getE m (a, n))) ∧ Tk W T (dropT m (a, n)) S w' ∧ KeptS S w w' ∧ Below W.heap.size W w' := by
  obtain ⟨N, hT, hS⟩ := h.ex
  have hsz := h.bel.size
  by_cases hF : netF (a, n) = 0
  · obtain ⟨k, hk, e, _⟩ := net_ok hF
    simp only at e
    subst e
    cases hl : look m (a, (k : Int)) with
    | none =>
      have hE : getE m (a, (k : Int)) = 2 := by unfold getE; rw [if_pos hF, if_pos hl]
      have hP : dropT m (a, (k : Int)) = m := by unfold dropT; rw [if_neg (by rw [hE]; decide)]
      refine (Drop_none hT ha hF hl hsz).mono fun e w' hh => ?_
      have h2 := h.below hh.2
      exact ⟨by rw [hE]; exact hh.1, by rw [hP]; exact h2, fun g hg => hh.2.block g (hS g hg).1, h2.bel⟩
    | some u =>
      have hE : getE m (a, (k : Int)) = 0 := by unfold getE; rw [if_pos hF, if_neg (by rw [hl]; simp)]
      have hP : dropT m (a, (k : Int)) = delM m (a, (k : Int)) := by unfold dropT; rw [if_pos hE]
      refine (Drop_some hT ha hF hl hsz).mono fun e w' hh => ?_
      obtain ⟨h1, h2, h3⟩ := hh
      have hb := h.bel.trans h3.bel
      refine ⟨by rw [hE]; exact h1, by rw [hP]; exact ⟨⟨N, h2, fun g hg => ⟨Nat.lt_of_lt_of_le (hS g hg).1 h3.bel.size, (hS g hg).2⟩⟩, hb⟩, fun g hg => h3.oth g (hS g hg).1 (hS g hg).2, hb⟩
  · have hE : getE m (a, n) = netF (a, n) := by unfold getE; rw [if_neg hF]
    have hP : dropT m (a, n) = m := by unfold dropT; rw [if_neg (by rw [hE]; exact hF)]
    refine (Drop_bad ha hF).mono fun e w' hh => ?_
    have h2 := h.below hh.2
    exact ⟨by rw [hE, errV_ne hF]; exact hh.1, by rw [hP]; exact h2, fun g hg => hh.2.block g (hS g hg).1, h2.bel⟩
theorem Find_t (h : Tk W T m S w) (ha : is32 a) {r : Option (Nat × Int)} (hr : fnd m a 33 = r) :
    Calls Tryz.prog 55 #[.pointer (some ⟨T, 0, none⟩), .int .u32 a] w fun e w' => e = .returned (findV a r) ∧ Below w.heap.size w w' := by
  obtain ⟨N, hT, hS⟩ := h.ex
  rw [← hr]
  exact Find_any hT ha h.bel.size
theorem List_t (h : Tk W T m S w) : Calls Tryz.prog 61 #[.pointer (some ⟨T, 0, none⟩)] w (ListPost w m) := by
  obtain ⟨N, hT, hS⟩ := h.ex
  exact List_any hT
theorem New_t (W : World) : Calls Tryz.prog 11 #[] W fun e w' => e = .returned (.pointer (some ⟨W.heap.size, 0, none⟩)) ∧ Tk W W.heap.size [] NoB w' :=
  (New_any W).mono fun e w' hh => ⟨hh.1, by rw [hh.2]; exact Tk.new W⟩
end
end Go.Proofs.YtgdlkjahlajcpaaGreatDoor
namespace Go.Proofs.YtgdlkjahlajcpaaGreatDoor
open Go.ChangeShapes Go.WideShapes Go.ChangeAt Go.RowKit
set_option linter.unusedVariables false

abbrev Nn := Int × Int
def szN (x : Nn) : Int := lowI x.2.toNat
def hasL (l : List Nn) (y : Int) : Bool := l.any fun x => hasB x y
def upN (x : Nn) : Nn := (fl (lowI (x.2.toNat - 1)) x.1, x.2 - 1)
def sibB (t n : Nn) : Bool := decide (n.2 ≠ 0) && decide (t.2 = n.2) && inB t (upN n)
def joinS : Nn → List Nn → List Nn
  | n, [] => [n]
  | n, t :: r => bif sibB t n then joinS (upN n) r else n :: t :: r
def stepS (st : List Nn) (n : Nn) : List Nn :=
  match st with
  | [] => [n]
  | t :: r => bif inB n t then t :: r else joinS n (t :: r)
def covS (s : List Nn) : List Nn := s.foldl stepS []
def HeadOk (n : Nn) (r : List Nn) : Prop := ∀ t, r.head? = some t → t.1 + szN t ≤ n.1 ∧ sibB t n = false
def Can : List Nn → Prop
  | [] => True
  | n :: r => netF n = 0 ∧ HeadOk n r ∧ Can r

theorem szN_pos (x : Nn) : 0 < szN x := lowI_pos _
theorem has_iff {x : Nn} {y : Int} : hasB x y = true ↔ netF x = 0 ∧ x.1 ≤ y ∧ y < x.1 + szN x := by
  rw [hasB_iff]
  constructor
  · rintro ⟨h, e⟩
    have hp := lowI_pos x.2.toNat
    have h1 := Int.emod_nonneg y (Int.ne_of_gt hp)
    have h2 := Int.emod_lt_of_pos y hp
    unfold fl at e
    unfold szN
    exact ⟨h, by omega, by omega⟩
  · rintro ⟨h, h1, h2⟩
    refine ⟨h, ?_⟩
    obtain ⟨k, hk, ek, hf⟩ := net_ok h
    unfold szN at h2
    rw [ek] at h2 ⊢
    simp only [Int.toNat_natCast] at h2 ⊢
    have hp := lowI_pos k
    have hm := fl_mod hf
    obtain ⟨q, hq⟩ := Int.dvd_of_emod_eq_zero hm
    rw [fl_mul _ _ hp]
    have : y / lowI k = q := by
      have e1 : y = (y - x.1) + lowI k * q := by omega
      rw [e1, Int.add_mul_ediv_left _ _ (Int.ne_of_gt hp), Int.ediv_eq_zero_of_lt (by omega) (by omega)]
      omega
    rw [this, hq]
theorem has_self {x : Nn} (h : netF x = 0) : hasB x x.1 = true := has_iff.2 ⟨h, by omega, by have := szN_pos x; omega⟩
theorem in_self {x : Nn} (h : netF x = 0) : inB x x = true := in_of_has (has_self h) (has_self h) (Int.le_refl _)
theorem share {a b : Nn} {y : Int} (h1 : hasB a y = true) (h2 : hasB b y = true) : inB a b = true ∨ inB b a = true := by
  rcases Int.le_total b.2 a.2 with h | h
  · exact .inl (in_of_has h1 h2 h)
  · exact .inr (in_of_has h2 h1 h)
theorem hasL_cons (x : Nn) (l : List Nn) (y : Int) : hasL (x :: l) y = (hasB x y || hasL l y) := rfl
theorem hasL_iff {l : List Nn} {y : Int} : hasL l y = true ↔ ∃ x ∈ l, hasB x y = true := by unfold hasL; rw [List.any_eq_true]
theorem hasL_append (l m : List Nn) (y : Int) : hasL (l ++ m) y = (hasL l y || hasL m y) := by unfold hasL; rw [List.any_append]
theorem hasL_of_mem {l m : List Nn} (h : ∀ x, x ∈ l ↔ x ∈ m) (y : Int) : hasL l y = hasL m y := by
  rw [Bool.eq_iff_iff, hasL_iff, hasL_iff]
  exact ⟨fun ⟨x, h1, h2⟩ => ⟨x, (h x).1 h1, h2⟩, fun ⟨x, h1, h2⟩ => ⟨x, (h x).2 h1, h2⟩⟩
theorem hasL_rev (l : List Nn) (y : Int) : hasL l.reverse y = hasL l y := hasL_of_mem (fun x => List.mem_reverse) y

theorem up_ok {n : Nn} (h : netF n = 0) (h0 : n.2 ≠ 0) : ∃ k : Nat, k < 32 ∧ n.2 = (k : Int) + 1 ∧ upN n = (fl (lowI k) n.1, (k : Int)) ∧ netF (upN n) = 0 ∧ (n.1 = (upN n).1 ∨ n.1 = (upN n).1 + lowI (k + 1)) ∧ szN (upN n) = lowI (k + 1) * 2 ∧ szN n = lowI (k + 1) := by
  obtain ⟨j, hj, ej, hf⟩ := net_ok h
  obtain ⟨k, rfl⟩ : ∃ k, j = k + 1 := ⟨j - 1, by omega⟩
  have e2 : n.2 = (k : Int) + 1 := by omega
  have eu : upN n = (fl (lowI k) n.1, (k : Int)) := by
    unfold upN; rw [e2]
    have : ((k : Int) + 1).toNat - 1 = k := by omega
    rw [this]; congr 1; omega
  refine ⟨k, by omega, e2, eu, ?_, ?_, ?_, ?_⟩
  · rw [eu]; exact net_of (by omega) (fl_of (fl_idem _ _ (lowI_pos k)))
  · rw [eu]
    have := fl_half (lowI (k + 1)) n.1 (lowI_pos _)
    rw [hf, ← low_succ (by omega)] at this
    exact this
  · rw [eu]; unfold szN; simp only [Int.toNat_natCast]; exact low_succ (by omega)
  · unfold szN; rw [ej]; simp only [Int.toNat_natCast]
theorem sib_iff {t n : Nn} : sibB t n = true ↔ n.2 ≠ 0 ∧ t.2 = n.2 ∧ inB t (upN n) = true := by
  unfold sibB; simp only [Bool.and_eq_true, decide_eq_true_iff]; exact ⟨fun ⟨⟨a, b⟩, c⟩ => ⟨a, b, c⟩, fun ⟨a, b, c⟩ => ⟨⟨a, b⟩, c⟩⟩
theorem sib_parts {t n : Nn} (hn : netF n = 0) (h : sibB t n = true) (hd : t.1 + szN t ≤ n.1) :
    t.1 = (upN n).1 ∧ n.1 = t.1 + szN t ∧ netF (upN n) = 0 ∧ netF t = 0 ∧ szN n = szN t ∧ szN (upN n) = szN t + szN n ∧ (upN n).2 = n.2 - 1 ∧ t.2 = n.2 := by
  obtain ⟨h0, e, hi⟩ := sib_iff.1 h
  obtain ⟨k, hk, e2, eu, hu, hor, hs, hs2⟩ := up_ok hn h0
  obtain ⟨ht, _, _, hf⟩ := inB_iff.1 hi
  obtain ⟨k', hk', e2', eu', hu', hor', hs', hs2'⟩ := up_ok ht (by omega)
  obtain rfl : k = k' := by omega
  have hup : (upN t).1 = (upN n).1 := by
    rw [eu', eu]; rw [eu] at hf; simpa using hf
  have hp := lowI_pos (k + 1)
  rw [hup] at hor'
  refine ⟨by omega, by omega, hu, ht, by omega, by omega, by rw [eu]; simp only; omega, e⟩
theorem sib_has {t n : Nn} (hn : netF n = 0) (h : sibB t n = true) (hd : t.1 + szN t ≤ n.1) (y : Int) : hasB (upN n) y = (hasB n y || hasB t y) := by
  obtain ⟨e1, e2, hu, ht, e3, e4, _, _⟩ := sib_parts hn h hd
  rw [Bool.eq_iff_iff, Bool.or_eq_true, has_iff, has_iff, has_iff]
  constructor
  · rintro ⟨_, h1, h2⟩
    by_cases hy : y < n.1
    · exact .inr ⟨ht, by omega, by omega⟩
    · exact .inl ⟨hn, by omega, by omega⟩
  · rintro (⟨_, h1, h2⟩ | ⟨_, h1, h2⟩)
    · exact ⟨hu, by omega, by have := szN_pos t; omega⟩
    · exact ⟨hu, by omega, by have := szN_pos n; omega⟩

/-! ### the stack -/
theorem join_all : ∀ (r : List Nn) (n : Nn), netF n = 0 → Can r → (∀ t, r.head? = some t → t.1 + szN t ≤ n.1) →
    Can (joinS n r) ∧ (∀ y, hasL (joinS n r) y = hasL (n :: r) y) ∧ (∀ m, lessB m n = false → (∀ t ∈ r, lessB m t = false) → ∀ t ∈ joinS n r, lessB m t = false) ∧ (joinS n r).length ≤ r.length + 1 ∧ (joinS n r) ≠ []
  | [], n, hn, _, _ => ⟨⟨hn, fun _ h => by simp at h, trivial⟩, fun _ => rfl, fun m h1 _ t ht => by simp [joinS] at ht; rw [ht]; exact h1, by simp [joinS], by simp [joinS]⟩
  | t :: r, n, hn, hc, hd => by
    have hd1 := hd t rfl
    unfold joinS
    cases hs : sibB t n with
    | false =>
      rw [cond_false]
      refine ⟨⟨hn, fun x hx => ?_, hc⟩, fun _ => rfl, fun m h1 h2 x hx => ?_, by simp, by simp⟩
      · simp only [List.head?_cons, Option.some.injEq] at hx; subst hx; exact ⟨hd1, hs⟩
      · rcases List.mem_cons.1 hx with rfl | hx
        · exact h1
        · exact h2 x hx
    | true =>
      rw [cond_true]
      obtain ⟨e1, e2, hu, ht, e3, e4, e5, e6⟩ := sib_parts hn hs hd1
      obtain ⟨_, hh, hc'⟩ := hc
      obtain ⟨i1, i2, i3, i4, i5⟩ := join_all r (upN n) hu hc' (fun x hx => by have := (hh x hx).1; omega)
      refine ⟨i1, fun y => ?_, fun m h1 h2 => i3 m ?_ (fun x hx => h2 x (List.mem_cons_of_mem _ hx)), by simp only [List.length_cons]; omega, i5⟩
      · rw [i2, hasL_cons, sib_has hn hs hd1, hasL_cons, hasL_cons, Bool.or_assoc]
      · have := h2 t (by simp)
        cases hb : lessB m (upN n)
        · rfl
        · have h3 := lessB_iff.1 hb
          have : lessB m t = true := lessB_iff.2 (by omega)
          simp_all
theorem apart_of {t n : Nn} (hn : netF n = 0) (ht : netF t = 0) (hl : lessB n t = false) (hi : inB n t = false) : t.1 + szN t ≤ n.1 := by
  have hnl : ¬ (n.1 < t.1 ∨ n.1 = t.1 ∧ n.2 < t.2) := fun h => by rw [lessB_iff.2 h] at hl; cases hl
  by_cases h : n.1 < t.1 + szN t
  · exfalso
    have h1 : hasB t n.1 = true := has_iff.2 ⟨ht, by omega, h⟩
    rcases Int.le_total t.2 n.2 with h2 | h2
    · rw [in_of_has (has_self hn) h1 h2] at hi; cases hi
    · have h3 := in_of_has h1 (has_self hn) h2
      obtain ⟨_, _, _, h4⟩ := inB_iff.1 h3
      have h5 : hasB n t.1 = true := hasB_iff.2 ⟨hn, h4⟩
      have h6 := (has_iff.1 h5).2.1
      have h7 : t = n ∨ t ≠ n := by by_cases e : t = n <;> simp [e]
      rcases h7 with rfl | h7
      · rw [in_self hn] at hi; cases hi
      · have h8 := lessB_iff.1 (less_in h3 h7)
        omega
  · omega
theorem step_all {st : List Nn} {n : Nn} (hn : netF n = 0) (hc : Can st) (hl : ∀ t ∈ st, lessB n t = false) :
    Can (stepS st n) ∧ (∀ y, hasL (stepS st n) y = (hasL st y || hasB n y)) ∧ (∀ m, lessB m n = false → (∀ t ∈ st, lessB m t = false) → ∀ t ∈ stepS st n, lessB m t = false) ∧ (stepS st n).length ≤ st.length + 1 := by
  cases st with
  | nil => exact ⟨⟨hn, fun _ h => by simp at h, trivial⟩, fun y => by simp [stepS, hasL], fun m h1 _ t ht => by simp [stepS] at ht; rw [ht]; exact h1, by simp [stepS]⟩
  | cons t r =>
    unfold stepS
    simp only
    cases hi : inB n t with
    | true =>
      rw [cond_true]
      refine ⟨hc, fun y => ?_, fun m _ h2 => h2, by simp⟩
      rw [hasL_cons]
      cases h : hasB n y
      · simp
      · rw [nests_four hi h]; simp
    | false =>
      rw [cond_false]
      obtain ⟨i1, i2, i3, i4, i5⟩ := join_all (t :: r) n hn hc (fun x hx => by
        simp only [List.head?_cons, Option.some.injEq] at hx; subst hx
        exact apart_of hn hc.1 (hl t (by simp)) hi)
      exact ⟨i1, fun y => by rw [i2, hasL_cons, Bool.or_comm], i3, by simpa using i4⟩
def Srt (s : List Nn) : Prop := s.Pairwise fun a b => lessB b a = false
theorem cov_go : ∀ (s st : List Nn), Can st → (∀ x ∈ s, netF x = 0) → Srt s → (∀ x ∈ s, ∀ t ∈ st, lessB x t = false) →
    Can (s.foldl stepS st) ∧ (∀ y, hasL (s.foldl stepS st) y = (hasL st y || hasL s y)) ∧ (s.foldl stepS st).length ≤ st.length + s.length
  | [], st, hc, _, _, _ => ⟨hc, fun y => by simp [hasL], by simp⟩
  | n :: s, st, hc, hv, hs, hl => by
    have hs' := List.pairwise_cons.1 hs
    obtain ⟨a1, a2, a3, a4⟩ := step_all (hv n (by simp)) hc (hl n (by simp))
    obtain ⟨b1, b2, b3⟩ := cov_go s (stepS st n) a1 (fun x hx => hv x (by simp [hx])) hs'.2 (fun x hx t ht => a3 x (hs'.1 x hx) (fun t' ht' => hl x (by simp [hx]) t' ht') t ht)
    refine ⟨b1, fun y => ?_, ?_⟩
    · rw [List.foldl_cons, b2, a2, hasL_cons, Bool.or_assoc]
    · rw [List.foldl_cons]; simp only [List.length_cons]; omega
theorem cov_all {s : List Nn} (hv : ∀ x ∈ s, netF x = 0) (hs : Srt s) : Can (covS s) ∧ (∀ y, hasL (covS s) y = hasL s y) ∧ (covS s).length ≤ s.length := by
  obtain ⟨a, b, c⟩ := cov_go s [] trivial hv hs (fun _ _ _ h => by cases h)
  exact ⟨a, fun y => by rw [covS, b]; simp [hasL], by simpa [covS] using c⟩

/-! ### there is but one -/
theorem Can.valid : ∀ {c : List Nn}, Can c → ∀ x ∈ c, netF x = 0
  | [], _, _, h => by cases h
  | n :: r, ⟨h1, _, h3⟩, x, h => by
    rcases List.mem_cons.1 h with rfl | h
    · exact h1
    · exact Can.valid h3 x h
theorem Can.below : ∀ {r : List Nn} {n : Nn}, Can (n :: r) → ∀ t ∈ r, t.1 + szN t ≤ n.1
  | [], _, _, _, h => by cases h
  | p :: r, n, ⟨_, h2, h3⟩, t, h => by
    have h4 := (h2 p rfl).1
    rcases List.mem_cons.1 h with rfl | h
    · exact h4
    · have := Can.below h3 t h
      have := szN_pos p
      omega
theorem Can.same : ∀ {c : List Nn}, Can c → ∀ {x z : Nn} {y : Int}, x ∈ c → z ∈ c → hasB x y = true → hasB z y = true → x = z
  | [], _, _, _, _, h, _, _, _ => by cases h
  | n :: r, hc, x, z, y, hx, hz, h1, h2 => by
    have h1' := has_iff.1 h1
    have h2' := has_iff.1 h2
    rcases List.mem_cons.1 hx with ex | hx <;> rcases List.mem_cons.1 hz with ez | hz
    · rw [ex, ez]
    · have := Can.below hc z hz; subst ex; omega
    · have := Can.below hc x hx; subst ez; omega
    · exact Can.same hc.2.2 hx hz h1 h2
theorem Can.sib : ∀ {c : List Nn}, Can c → ∀ {t n : Nn}, t ∈ c → n ∈ c → t.1 + szN t ≤ n.1 → sibB t n = false
  | [], _, _, _, h, _, _ => by cases h
  | p :: r, hc, t, n, ht, hn, hd => by
    have hcn := hc.valid n hn
    have hb := Can.below hc
    have hp := szN_pos p
    have hpn := szN_pos n
    have hpt := szN_pos t
    rcases List.mem_cons.1 hn with en | hn2
    · subst en
      rcases List.mem_cons.1 ht with et | ht
      · subst et; omega
      · cases r with
        | nil => cases ht
        | cons q r =>
          rcases List.mem_cons.1 ht with et | ht
          · subst et; exact (hc.2.1 t rfl).2
          · cases hs : sibB t n
            · rfl
            · have h1 := sib_parts hcn hs hd
              have h2 := hb q (by simp)
              have h3 := Can.below hc.2.2 t ht
              have := szN_pos q
              omega
    · rcases List.mem_cons.1 ht with et | ht
      · subst et; have := hb n hn2; omega
      · exact Can.sib hc.2.2 ht hn2 hd
theorem Can.whole {c : List Nn} (hc : Can c) : ∀ (k : Nat) (n : Nn), netF n = 0 → n.2 = 32 - (k : Int) → k ≤ 32 → (∀ y, hasB n y = true → hasL c y = true) → ∃ x ∈ c, inB n x = true
  | 0, n, hn, e, _, h => by
    obtain ⟨x, hx, hy⟩ := hasL_iff.1 (h n.1 (has_self hn))
    obtain ⟨j, hj, ej, _⟩ := net_ok (hc.valid x hx)
    exact ⟨x, hx, in_of_has (has_self hn) hy (by omega)⟩
  | k + 1, n, hn, e, hk, h => by
    obtain ⟨a, l⟩ := n
    simp only at e
    obtain ⟨j, rfl⟩ : ∃ j : Nat, l = (j : Int) := ⟨l.toNat, by omega⟩
    have hj : j < 32 := by omega
    have hh := half_has hj hn
    have hp := half_p hj hn
    have hq := half_q hj hn
    obtain ⟨x0, hx0, h0⟩ := Can.whole hc k (a, (j : Int) + 1) hp (by simp only; omega) (by omega) (fun y hy => h y (by rw [← (hh y).1, hy]; rfl))
    obtain ⟨x1, hx1, h1⟩ := Can.whole hc k (a + lowI (j + 1), (j : Int) + 1) hq (by simp only; omega) (by omega) (fun y hy => h y (by rw [← (hh y).1, hy]; simp))
    have hm := lowI_pos (j + 1)
    have ha0 : hasB x0 a = true := nests_four h0 (has_self hp)
    have ha1 : hasB x1 (a + lowI (j + 1)) = true := nests_four h1 (has_self hq)
    have hn0 : hasB (a, (j : Int)) a = true := has_self hn
    have hn1 : hasB (a, (j : Int)) (a + lowI (j + 1)) = true := by rw [← (hh _).1, has_self hq (x := (a + lowI (j + 1), (j : Int) + 1))]; simp
    by_cases e0 : x0.2 ≤ (j : Int)
    · exact ⟨x0, hx0, in_of_has hn0 ha0 e0⟩
    · by_cases e1 : x1.2 ≤ (j : Int)
      · exact ⟨x1, hx1, in_of_has hn1 ha1 e1⟩
      · exfalso
        have l0 := (inB_iff.1 h0).2.1
        have l1 := (inB_iff.1 h1).2.1
        simp only at l0 l1
        have i0 := nests_two h0 (in_of_has ha0 (has_self hp) (by simp only; omega))
        have i1 := nests_two h1 (in_of_has ha1 (has_self hq) (by simp only; omega))
        subst i0 i1
        have hsz : szN (a, (j : Int) + 1) = lowI (j + 1) := by unfold szN; simp only; congr 1
        have hs := Can.sib hc hx0 hx1 (by rw [hsz]; simp only; omega)
        have : sibB (a, (j : Int) + 1) (a + lowI (j + 1), (j : Int) + 1) = true := by
          refine sib_iff.2 ⟨by simp only; omega, rfl, ?_⟩
          have eu : upN (a + lowI (j + 1), (j : Int) + 1) = (a, (j : Int)) := by
            unfold upN
            have : ((j : Int) + 1).toNat - 1 = j := by omega
            simp only [this]
            rw [half_up_q hj hn]; congr 1; omega
          rw [eu]
          exact in_of_has (has_self hp) hn0 (by simp only; omega)
        rw [this] at hs; cases hs
theorem Can.within {c d : List Nn} (hc : Can c) (hd : Can d) (h : ∀ y, hasL c y = true → hasL d y = true) {x : Nn} (hx : x ∈ c) : ∃ z ∈ d, inB x z = true := by
  have hv := hc.valid x hx
  obtain ⟨k, hk, ek, _⟩ := net_ok hv
  exact hd.whole (32 - k) x hv (by omega) (by omega) (fun y hy => h y (hasL_iff.2 ⟨x, hx, hy⟩))
theorem Can.sub {c d : List Nn} (hc : Can c) (hd : Can d) (h : ∀ y, hasL c y = hasL d y) {x : Nn} (hx : x ∈ c) : x ∈ d := by
  obtain ⟨y, hy, h1⟩ := hc.within hd (fun y hy => by rw [← h]; exact hy) hx
  obtain ⟨z, hz, h2⟩ := hd.within hc (fun y hy => by rw [h]; exact hy) hy
  have hv := has_self (hc.valid x hx)
  have e := hc.same hx hz hv (nests_four (nests_three h1 h2) hv)
  subst e
  rw [nests_two h1 h2]; exact hy
theorem Can.sorted : ∀ {c : List Nn}, Can c → c.Pairwise fun a b => b.1 < a.1
  | [], _ => List.Pairwise.nil
  | n :: r, h => List.pairwise_cons.2 ⟨fun t ht => by have := Can.below h t ht; have := szN_pos t; omega, Can.sorted h.2.2⟩
theorem desc_ext : ∀ {l l' : List Nn}, (l.Pairwise fun a b => b.1 < a.1) → (l'.Pairwise fun a b => b.1 < a.1) → (∀ x, x ∈ l ↔ x ∈ l') → l = l'
  | [], [], _, _, _ => rfl
  | [], y :: r, _, _, h => by have := (h y).2 (by simp); cases this
  | x :: r, [], _, _, h => by have := (h x).1 (by simp); cases this
  | x :: r, y :: s, h1, h2, h => by
    have h1' := List.pairwise_cons.1 h1
    have h2' := List.pairwise_cons.1 h2
    have e : x = y := by
      rcases List.mem_cons.1 ((h x).1 (by simp)) with e | hx
      · exact e
      · rcases List.mem_cons.1 ((h y).2 (by simp)) with e | hy
        · exact e.symm
        · have a := h2'.1 x hx
          have b := h1'.1 y hy
          omega
    subst e
    congr 1
    refine desc_ext h1'.2 h2'.2 fun z => ?_
    have hz := h z
    simp only [List.mem_cons] at hz
    constructor
    · intro h3
      rcases hz.1 (.inr h3) with e | h4
      · subst e; have := h1'.1 z h3; omega
      · exact h4
    · intro h3
      rcases hz.2 (.inr h3) with e | h4
      · subst e; have := h2'.1 z h3; omega
      · exact h4
theorem Can.one {c d : List Nn} (hc : Can c) (hd : Can d) (h : ∀ y, hasL c y = hasL d y) : c = d :=
  desc_ext hc.sorted hd.sorted fun x => ⟨hc.sub hd h, hd.sub hc (fun y => (h y).symm)⟩

end Go.Proofs.YtgdlkjahlajcpaaGreatDoor
namespace Go.Proofs.YtgdlkjahlajcpaaGreatDoor
open Go.ChangeShapes Go.WideShapes Go.ChangeAt Go.RowKit
set_option linter.unusedVariables false

def sortN (l : List Nn) : List Nn := l.mergeSort fun x y => !lessB y x
def coverV (l : List Nn) : List Nn := (covS (sortN l)).reverse
theorem sortN_perm (l : List Nn) : (sortN l).Perm l := List.mergeSort_perm l _
theorem sortN_srt (l : List Nn) : Srt (sortN l) := by
  have h := List.pairwise_mergeSort (le := fun x y : Nn => !lessB y x) (fun a b c h1 h2 => by
    simp only [Bool.not_eq_true'] at h1 h2 ⊢
    cases h : lessB c a
    · rfl
    · have h' := lessB_iff.1 h
      have n1 : ¬ (b.1 < a.1 ∨ b.1 = a.1 ∧ b.2 < a.2) := fun e => by rw [lessB_iff.2 e] at h1; cases h1
      have n2 : ¬ (c.1 < b.1 ∨ c.1 = b.1 ∧ c.2 < b.2) := fun e => by rw [lessB_iff.2 e] at h2; cases h2
      omega) (fun a b => by
    cases h : lessB b a
    · simp
    · cases h2 : lessB a b
      · simp
      · have := lessB_iff.1 h; have := lessB_iff.1 h2; omega) l
  exact h.imp fun h => by simpa using h
theorem cover_all {l : List Nn} (hv : ∀ x ∈ l, netF x = 0) : Can (coverV l).reverse ∧ (∀ y, hasL (coverV l) y = hasL l y) ∧ (coverV l).length ≤ l.length := by
  have hp := sortN_perm l
  obtain ⟨a, b, c⟩ := cov_all (s := sortN l) (fun x hx => hv x (hp.mem_iff.1 hx)) (sortN_srt l)
  unfold coverV
  refine ⟨by rw [List.reverse_reverse]; exact a, fun y => ?_, ?_⟩
  · rw [hasL_rev, b]; exact hasL_of_mem (fun x => hp.mem_iff) y
  · rw [List.length_reverse]; have := hp.length_eq; omega
theorem cover_valid {l : List Nn} (hv : ∀ x ∈ l, netF x = 0) : ∀ x ∈ coverV l, netF x = 0 := fun x hx => (cover_all hv).1.valid x (List.mem_reverse.2 hx)
theorem cover_one {l c : List Nn} (hv : ∀ x ∈ l, netF x = 0) (hc : Can c.reverse) (h : ∀ y, hasL l y = hasL c y) : coverV l = c := by
  obtain ⟨a, b, _⟩ := cover_all hv
  have := a.one hc (fun y => by rw [hasL_rev, hasL_rev, b, h])
  rw [← List.reverse_reverse (coverV l), this, List.reverse_reverse]
theorem cover_same {l m : List Nn} (hv : ∀ x ∈ l, netF x = 0) (hm : ∀ x ∈ m, netF x = 0) (h : ∀ y, hasL l y = hasL m y) : coverV l = coverV m :=
  cover_one hv (cover_all hm).1 fun y => by rw [h, (cover_all hm).2.1]
theorem net_end {x : Nn} (h : netF x = 0) (h32 : is32 x.1) : x.1 + szN x ≤ 4294967296 := by
  obtain ⟨k, hk, ek, hf⟩ := net_ok h
  have hp := lowI_pos k
  have hm := fl_mod hf
  obtain ⟨q, hq⟩ := Int.dvd_of_emod_eq_zero hm
  have hs : szN x = lowI k := by unfold szN; rw [ek, Int.toNat_natCast]
  have h0 : lowI 0 = lowI k * 2 ^ k := by have := low_split (k := 0) (l := k) (by omega) hk; simpa using this
  have h1 : lowI 0 = 4294967296 := by decide
  have : q < 2 ^ k := by
    rcases Int.lt_or_le q (2 ^ k) with h | h
    · exact h
    · have := Int.mul_le_mul_of_nonneg_left h (Int.le_of_lt hp)
      have := h32.2
      omega
  have h2 : lowI k * (q + 1) ≤ lowI k * 2 ^ k := Int.mul_le_mul_of_nonneg_left (by omega) (Int.le_of_lt hp)
  rw [Int.mul_add] at h2
  omega
theorem has_32 {x : Nn} {y : Int} (h32 : is32 x.1) (h : hasB x y = true) : is32 y := by
  obtain ⟨h1, h2, h3⟩ := has_iff.1 h
  have := net_end h1 h32
  have := h32.1
  exact ⟨by omega, by omega⟩
theorem join_mem32 : ∀ (r : List Nn) (n : Nn), is32 n.1 → (∀ x ∈ r, is32 x.1) → ∀ x ∈ joinS n r, is32 x.1
  | [], n, hn, _, x, h => by simp [joinS] at h; rw [h]; exact hn
  | t :: r, n, hn, hr, x, h => by
    unfold joinS at h
    cases hs : sibB t n with
    | false =>
      rw [hs, cond_false] at h
      rcases List.mem_cons.1 h with rfl | h
      · exact hn
      · exact hr x h
    | true =>
      rw [hs, cond_true] at h
      exact join_mem32 r (upN n) (fl_32 (lowI_pos _) hn) (fun y hy => hr y (List.mem_cons_of_mem _ hy)) x h
theorem step_mem32 {st : List Nn} {n : Nn} (hn : is32 n.1) (hs : ∀ x ∈ st, is32 x.1) : ∀ x ∈ stepS st n, is32 x.1 := by
  cases st with
  | nil => intro x h; simp [stepS] at h; rw [h]; exact hn
  | cons t r =>
    intro x h
    unfold stepS at h
    simp only at h
    cases hi : inB n t with
    | true => rw [hi, cond_true] at h; exact hs x h
    | false => rw [hi, cond_false] at h; exact join_mem32 _ n hn hs x h
theorem fold_mem32 : ∀ (s st : List Nn), (∀ x ∈ s, is32 x.1) → (∀ x ∈ st, is32 x.1) → ∀ x ∈ s.foldl stepS st, is32 x.1
  | [], _, _, h2 => h2
  | n :: s, st, h1, h2 => fold_mem32 s _ (fun x hx => h1 x (List.mem_cons_of_mem _ hx)) (step_mem32 (h1 n (by simp)) h2)
theorem cover_32 {l : List Nn} (h : ∀ x ∈ l, is32 x.1) : ∀ x ∈ coverV l, is32 x.1 := fun x hx =>
  fold_mem32 _ _ (fun y hy => h y ((sortN_perm l).mem_iff.1 hy)) (fun _ h => by cases h) x (List.mem_reverse.1 hx)

/-! ### how many addresses -/
def sizL (l : List Nn) : Int := (l.map szN).foldr (· + ·) 0
/-! ### what the reference tells -/
theorem Can.append : ∀ {r s : List Nn}, Can r → Can s → (∀ n ∈ r, ∀ t ∈ s, t.1 + szN t ≤ n.1 ∧ sibB t n = false) → Can (r ++ s)
  | [], s, _, h, _ => h
  | [n], s, hr, hs, h => ⟨hr.1, fun t ht => h n (by simp) t (by cases s with
      | nil => simp at ht
      | cons a b => simp at ht; rw [ht]; simp), hs⟩
  | n :: m :: r, s, hr, hs, h => ⟨hr.1, fun t ht => hr.2.1 t (by simpa using ht), Can.append hr.2.2 hs (fun a ha => h a (List.mem_cons_of_mem _ ha))⟩
def someR (l : List Nn) (n : Nn) : Bool := l.any fun x => inB x n || inB n x
def inR (l : List Nn) (n : Nn) : Bool := l.any fun x => inB n x
def fullR (l : List Nn) : Nat → Nn → Bool
  | 0, n => inR l n
  | k + 1, n => inR l n || ((l.any fun x => inB x n) && fullR l k (halfP n) && fullR l k (halfQ n))
def covR (l : List Nn) : Nat → Nn → List Nn
  | 0, n => bif someR l n then [n] else []
  | k + 1, n => bif someR l n then (bif fullR l (k + 1) n then [n] else covR l k (halfP n) ++ covR l k (halfQ n)) else []
section
variable {l : List Nn} (hl : ∀ x ∈ l, netF x = 0)
include hl
theorem full_iff : ∀ (k : Nat) (n : Nn), netF n = 0 → n.2 = 32 - (k : Int) → k ≤ 32 → (fullR l k n = true ↔ ∀ y, hasB n y = true → hasL l y = true)
  | 0, n, hn, e, _ => by
    unfold fullR inR
    rw [List.any_eq_true]
    constructor
    · rintro ⟨x, hx, h⟩ y hy
      exact hasL_iff.2 ⟨x, hx, nests_four h hy⟩
    · intro h
      obtain ⟨x, hx, hy⟩ := hasL_iff.1 (h n.1 (has_self hn))
      obtain ⟨j, hj, ej, _⟩ := net_ok (hl x hx)
      exact ⟨x, hx, in_of_has (has_self hn) hy (by omega)⟩
  | k + 1, n, hn, e, hk => by
    obtain ⟨a, ln⟩ := n
    simp only at e
    obtain ⟨j, rfl⟩ : ∃ j : Nat, ln = (j : Int) := ⟨ln.toNat, by omega⟩
    have hj : j < 32 := by omega
    have hh := half_has hj hn
    have hp := half_p hj hn
    have hq := half_q hj hn
    have ip := full_iff k (a, (j : Int) + 1) hp (by simp only; omega) (by omega)
    have iq := full_iff k (a + lowI (j + 1), (j : Int) + 1) hq (by simp only; omega) (by omega)
    have ep : halfP (a, (j : Int)) = (a, (j : Int) + 1) := rfl
    have eq : halfQ (a, (j : Int)) = (a + lowI (j + 1), (j : Int) + 1) := by unfold halfQ; simp
    unfold fullR
    rw [ep, eq]
    simp only [Bool.or_eq_true, Bool.and_eq_true]
    constructor
    · rintro (h | ⟨⟨_, h1⟩, h2⟩) y hy
      · obtain ⟨x, hx, h⟩ := List.any_eq_true.1 h
        exact hasL_iff.2 ⟨x, hx, nests_four h hy⟩
      · rw [← (hh y).1, Bool.or_eq_true] at hy
        exact hy.elim (ip.1 h1 y) (iq.1 h2 y)
    · intro h
      obtain ⟨x, hx, hy⟩ := hasL_iff.1 (h a (has_self hn (x := (a, (j : Int)))))
      rcases share (has_self hn) hy with h1 | h1
      · exact .inl (List.any_eq_true.2 ⟨x, hx, h1⟩)
      · exact .inr ⟨⟨List.any_eq_true.2 ⟨x, hx, h1⟩, ip.2 fun y hy => h y (by rw [← (hh y).1, hy]; rfl)⟩, iq.2 fun y hy => h y (by rw [← (hh y).1, hy]; simp)⟩
omit hl in
theorem some_no {n : Nn} (h : someR l n = false) {y : Int} (hy : hasB n y = true) : hasL l y = false := by
  cases h1 : hasL l y
  · rfl
  · obtain ⟨x, hx, h2⟩ := hasL_iff.1 h1
    have : someR l n = true := List.any_eq_true.2 ⟨x, hx, by
      rw [Bool.or_eq_true]
      exact (share hy h2).symm⟩
    rw [this] at h; cases h
theorem covR_all : ∀ (k : Nat) (n : Nn), netF n = 0 → n.2 = 32 - (k : Int) → k ≤ 32 →
    (∀ x ∈ covR l k n, inB x n = true) ∧ Can (covR l k n).reverse ∧ (∀ y, hasL (covR l k n) y = (hasL l y && hasB n y))
  | 0, n, hn, e, hk => by
    unfold covR
    cases hs : someR l n with
    | false =>
      rw [cond_false]
      refine ⟨fun _ h => (by cases h), trivial, fun y => ?_⟩
      cases hy : hasB n y
      · simp [hasL]
      · rw [some_no hs hy]; rfl
    | true =>
      rw [cond_true]
      refine ⟨fun x h => ?_, ⟨hn, fun _ h => by simp at h, trivial⟩, fun y => ?_⟩
      · simp at h; rw [h]; exact in_self hn
      · have : fullR l 0 n = true := by
          obtain ⟨x, hx, h⟩ := List.any_eq_true.1 hs
          refine List.any_eq_true.2 ⟨x, hx, ?_⟩
          rcases Bool.or_eq_true_iff.1 h with h | h
          · have h1 := (inB_iff.1 h)
            obtain ⟨j, hj, ej, _⟩ := net_ok h1.1
            have h2 : x.2 = n.2 := by omega
            have h3 : hasB n x.1 = true := hasB_iff.2 ⟨hn, h1.2.2.2⟩
            exact in_of_has h3 (has_self h1.1) (by omega)
          · exact h
        have h2 := (full_iff hl 0 n hn e hk).1 this y
        rw [hasL_cons]
        cases hy : hasB n y
        · simp [hasL]
        · rw [h2 hy]; rfl
  | k + 1, n, hn, e, hk => by
    cases hs : someR l n with
    | false =>
      unfold covR
      rw [hs, cond_false]
      refine ⟨fun _ h => (by cases h), trivial, fun y => ?_⟩
      cases hy : hasB n y
      · simp [hasL]
      · rw [some_no hs hy]; rfl
    | true =>
      cases hf : fullR l (k + 1) n with
      | true =>
        unfold covR
        rw [hs, hf, cond_true, cond_true]
        refine ⟨fun x h => ?_, ⟨hn, fun _ h => by simp at h, trivial⟩, fun y => ?_⟩
        · simp at h; rw [h]; exact in_self hn
        · have h2 := (full_iff hl (k + 1) n hn e hk).1 hf y
          rw [hasL_cons]
          cases hy : hasB n y
          · simp [hasL]
          · rw [h2 hy]; rfl
      | false =>
        have hnf : ¬ ∀ y, hasB n y = true → hasL l y = true := fun h => by rw [(full_iff hl (k + 1) n hn e hk).2 h] at hf; cases hf
        unfold covR
        rw [hs, hf, cond_true, cond_false]
        obtain ⟨a, ln⟩ := n
        simp only at e
        obtain ⟨j, rfl⟩ : ∃ j : Nat, ln = (j : Int) := ⟨ln.toNat, by omega⟩
        have hj : j < 32 := by omega
        have hh := half_has hj hn
        have hp := half_p hj hn
        have hq := half_q hj hn
        have ep : halfP (a, (j : Int)) = (a, (j : Int) + 1) := rfl
        have eq : halfQ (a, (j : Int)) = (a + lowI (j + 1), (j : Int) + 1) := by unfold halfQ; simp
        rw [ep, eq]
        obtain ⟨p1, p2, p3⟩ := covR_all k (a, (j : Int) + 1) hp (by simp only; omega) (by omega)
        obtain ⟨q1, q2, q3⟩ := covR_all k (a + lowI (j + 1), (j : Int) + 1) hq (by simp only; omega) (by omega)
        have hup : ∀ x, inB x (a, (j : Int) + 1) = true ∨ inB x (a + lowI (j + 1), (j : Int) + 1) = true → inB x (a, (j : Int)) = true := fun x h => by
          have hx : netF x = 0 := h.elim (fun h => (inB_iff.1 h).1) (fun h => (inB_iff.1 h).1)
          have hl2 : (j : Int) + 1 ≤ x.2 := h.elim (fun h => (inB_iff.1 h).2.1) (fun h => (inB_iff.1 h).2.1)
          refine in_of_has (has_self hx) ?_ (by simp only; omega)
          rw [← (hh x.1).1, Bool.or_eq_true]
          exact h.imp (fun h => nests_four h (has_self hx)) (fun h => nests_four h (has_self hx))
        refine ⟨fun x hx => hup x ((List.mem_append.1 hx).imp (p1 x) (q1 x)), ?_, fun y => ?_⟩
        · rw [List.reverse_append]
          refine q2.append p2 fun n hn' t ht => ?_
          have hm := lowI_pos (j + 1)
          have hnq := q1 n (List.mem_reverse.1 hn')
          have htp := p1 t (List.mem_reverse.1 ht)
          have vn := (inB_iff.1 hnq).1
          have vt := (inB_iff.1 htp).1
          have szp : szN (a, (j : Int) + 1) = lowI (j + 1) := by unfold szN; simp only; congr 1
          have szq : szN (a + lowI (j + 1), (j : Int) + 1) = lowI (j + 1) := by unfold szN; simp only; congr 1
          have b1 := has_iff.1 (nests_four hnq (has_self vn))
          have b2 : hasB t (t.1 + szN t - 1) = true := has_iff.2 ⟨vt, by have := szN_pos t; omega, by omega⟩
          have b3 := has_iff.1 (nests_four htp b2)
          have hd : t.1 + szN t ≤ n.1 := by rw [szp] at b3; simp only at b1 b3; omega
          refine ⟨hd, ?_⟩
          cases hsb : sibB t n
          · rfl
          · exfalso
            obtain ⟨e1, e2, hu, _, e3, e4, e5, e6⟩ := sib_parts vn hsb hd
            -- the net above both is within the whole, and has an address of each half: it is the whole
            have hut : hasB (upN n) t.1 = true := has_iff.2 ⟨hu, by omega, by have := szN_pos t; have := szN_pos n; omega⟩
            have hun : hasB (upN n) n.1 = true := has_iff.2 ⟨hu, by have := szN_pos t; omega, by have := szN_pos t; have := szN_pos n; omega⟩
            have hq2 : hasB (a + lowI (j + 1), (j : Int) + 1) n.1 = true := nests_four hnq (has_self vn)
            have hp2 : hasB (a, (j : Int) + 1) t.1 = true := nests_four htp (has_self vt)
            have hlow : (upN n).2 ≤ (j : Int) := by
              rcases Int.lt_or_le (j : Int) (upN n).2 with h | h
              · exfalso
                have h1 := in_of_has hun hq2 (by simp only; omega)
                have h2 := nests_four h1 hut
                have := (hh t.1).2
                rw [hp2, h2] at this; cases this
              · exact h
            have hl2 := (inB_iff.1 hnq).2.1
            simp only at hl2
            have hqn : inB (a + lowI (j + 1), (j : Int) + 1) n = true := in_of_has hq2 (has_self vn) (by simp only; omega)
            have hpt : inB (a, (j : Int) + 1) t = true := in_of_has hp2 (has_self vt) (by simp only; omega)
            have en := nests_two hqn hnq
            have et := nests_two hpt htp
            refine hnf fun y hy => ?_
            rw [← (hh y).1, Bool.or_eq_true] at hy
            rcases hy with hy | hy
            · have := p3 y
              rw [hasL_iff.2 ⟨t, List.mem_reverse.1 ht, by rw [← et]; exact hy⟩] at this
              have := this.symm; rw [Bool.and_eq_true] at this; exact this.1
            · have := q3 y
              rw [hasL_iff.2 ⟨n, List.mem_reverse.1 hn', by rw [← en]; exact hy⟩] at this
              have := this.symm; rw [Bool.and_eq_true] at this; exact this.1
        · rw [hasL_append, p3, q3, ← (hh y).1]
          cases hasL l y <;> rfl
end
theorem has_top {y : Int} (h : is32 y) : hasB (0, 0) y = true := by
  have h1 : szN (0, 0) = 4294967296 := by decide
  refine has_iff.2 ⟨by decide, h.1, ?_⟩
  rw [h1]; have := h.2; simp only; omega
theorem cover_ref {l : List Nn} (hv : ∀ x ∈ l, netF x = 0) (h32 : ∀ x ∈ l, is32 x.1) : covR l 32 (0, 0) = coverV l := by
  obtain ⟨_, h2, h3⟩ := covR_all hv 32 (0, 0) (by decide) (by decide) (Nat.le_refl _)
  refine (cover_one hv h2 fun y => ?_).symm
  rw [h3]
  cases h : hasL l y
  · rfl
  · obtain ⟨x, hx, hy⟩ := hasL_iff.1 h
    rw [has_top (has_32 (h32 x hx) hy)]; rfl
end Go.Proofs.YtgdlkjahlajcpaaGreatDoor
namespace Go.Proofs.YtgdlkjahlajcpaaGreatDoor
open Go.ChangeShapes Go.WideShapes Go.ChangeAt Go.RowKit

def fo (n : Int) : Int := if n = 0 then 0 else (n - 1) % 65535 + 1
theorem fo_small (n : Int) (h0 : 0 ≤ n) (h : n ≤ 65535) : fo n = n := by unfold fo; split <;> omega
theorem fo_step (n : Int) (h : 65535 < n) : fo (n / 65536 + n % 65536) = fo n := by
  unfold fo; split <;> split <;> omega
theorem fo_rng (n : Int) : 0 ≤ fo n ∧ fo n ≤ 65535 := by unfold fo; split <;> omega

theorem and16 (m : Int) (h0 : 0 ≤ m) (h1 : m ≤ 9223372036854775807) : bits BinOp.and IntKind.u64 m 65535 = m % 65536 := by
  have := u64_and m 65535 h0 (by omega) (by omega) (by omega)
  rw [this]
  have e : m.toNat &&& (65535 : Int).toNat = m.toNat % 65536 := nat_mask16 m.toNat
  rw [e]
  omega

set_option maxHeartbeats 400000 in
theorem folded_any (n : Int) (w : World) (h0 : 0 ≤ n) (h1 : n ≤ 9223372036854775807) :
    Calls Tryz.prog 95 #[.int .u64 n] w fun e w' => e = .returned (.int .u16 (fo n)) ∧ w = w' := by
  go_enter Tryz.func95, Tryz.ntmps95
  go_wp2
  go_loop [0] (fun v => ∃ m : Int, 0 ≤ m ∧ m ≤ 9223372036854775807 ∧ fo m = fo n ∧ v = .int .u64 m) (fun v => (intOf v).toNat)
  case atStart => exact ⟨n, h0, h1, rfl, rfl⟩
  case round =>
    obtain ⟨m, hm0, hm1, hf, rfl⟩ := hrel
    have HF := Lib.hid hf; clear hf
    by_cases hlt : 65535 < m
    · have ha := and16 m hm0 hm1
      have hw : IntKind.u64.wrap (m / 65536 + m % 65536) = m / 65536 + m % 65536 := IntWalk.u64_in _ ⟨by omega, by omega⟩
      go_wp2
      exact ⟨⟨m / 65536 + m % 65536, by omega, by omega, (fo_step m hlt).trans HF.out, rfl⟩, by simp [intOf]; omega⟩
    · go_wp2
      go_ret
      exact ⟨by simp only [Array.getD]; exact ret_int ((fo_small m hm0 (by omega)).symm.trans HF.out), rfl⟩

def bsum : Bool → List Int → Int
  | _, [] => 0
  | true, x :: r => 256 * x + bsum false r
  | false, x :: r => x + bsum true r
def wsum (l : List Int) : Int := bsum true l

theorem bsum_snoc (b : Bool) (l : List Int) (x : Int) : bsum b (l ++ [x]) = bsum b l + bsum (if l.length % 2 = 0 then b else !b) [x] := by
  induction l generalizing b with
  | nil => cases b <;> simp [bsum]
  | cons y r ih =>
    have e : (if (y :: r).length % 2 = 0 then b else !b) = (if r.length % 2 = 0 then !b else b) := by
      simp only [List.length_cons]
      by_cases h : r.length % 2 = 0
      · rw [if_pos h, if_neg (by omega)]
      · rw [if_neg h, if_pos (by omega)]
    have e2 : (if r.length % 2 = 0 then !b else !!b) = (if r.length % 2 = 0 then !b else b) := by simp
    rw [e, List.cons_append]
    cases b
    · simp only [bsum, ih]; simp only [Bool.not_false, Bool.not_true]; omega
    · simp only [bsum, ih]; simp only [Bool.not_false, Bool.not_true]; omega
theorem take_snoc {l : List Int} {k : Nat} {x : Int} (h : l[k]? = some x) : l.take (k + 1) = l.take k ++ [x] := by
  rw [List.take_add_one, h]; rfl
theorem wsum_take {l : List Int} {k : Nat} {x : Int} (h : l[k]? = some x) : wsum (l.take (k + 1)) = wsum (l.take k) + if k % 2 = 0 then 256 * x else x := by
  have hk : k < l.length := (List.getElem?_eq_some_iff.1 h).1
  rw [take_snoc h]
  unfold wsum
  rw [bsum_snoc, List.length_take, Nat.min_eq_left (by omega)]
  by_cases hk : k % 2 = 0 <;> simp [hk, bsum]
theorem bsum_rng (b : Bool) (l : List Int) (h : ∀ x ∈ l, 0 ≤ x ∧ x ≤ 255) : 0 ≤ bsum b l ∧ bsum b l ≤ 65280 * l.length := by
  induction l generalizing b with
  | nil => cases b <;> simp [bsum]
  | cons y r ih =>
    have h1 := h y (by simp)
    have h2 := ih (!b) (fun x hx => h x (by simp [hx]))
    cases b <;> simp only [bsum, List.length_cons, Bool.not_true, Bool.not_false] at * <;> omega
theorem wsum_rng (l : List Int) (k : Nat) (hk : k ≤ l.length) (h : ∀ x ∈ l, 0 ≤ x ∧ x ≤ 255) : 0 ≤ wsum (l.take k) ∧ wsum (l.take k) ≤ 65280 * k := by
  have := bsum_rng true (l.take k) (fun x hx => h x (List.mem_of_mem_take hx))
  rw [List.length_take, Nat.min_eq_left hk] at this
  exact this

theorem xor16 (m : Int) (h0 : 0 ≤ m) (h1 : m ≤ 65535) : bits BinOp.xor IntKind.u16 IntKind.u16.max m = 65535 - m := by
  obtain ⟨n, rfl⟩ := Int.eq_ofNat_of_zero_le h0
  have e := u16_xor_nat 65535 n (by omega) (by omega)
  have e2 : IntKind.u16.max = ((65535 : Nat) : Int) := by decide
  rw [e2, e]
  have h : n < 2 ^ 16 := by omega
  have e3 : 65535 ^^^ n = 65535 - n := by
    apply Nat.eq_of_testBit_eq
    intro i
    rw [show (65535 : Nat) - n = 2 ^ 16 - (n + 1) from by omega, Nat.testBit_two_pow_sub_succ h, Nat.testBit_xor, show (65535 : Nat) = 2 ^ 16 - 1 from by decide, Nat.testBit_two_pow_sub_one]
    by_cases hi : i < 16
    · simp [hi]
    · have : n.testBit i = false := Nat.testBit_lt_two_pow (Nat.lt_of_lt_of_le h (Nat.pow_le_pow_right (by omega) (by omega)))
      simp [hi, this]
  rw [e3]
  omega

set_option maxHeartbeats 400000 in
theorem sum_any (A : Option Addr) (c : Nat) (l : List Int) (w : World) (B : Nat) (hb : Bytes w B A l) (hl : l.length ≤ 140737488355328) :
    Calls Tryz.prog 69 #[.slice A l.length c] w fun e w' => e = .returned (.int .u16 (65535 - fo (wsum l))) ∧ w = w' := by
  go_enter Tryz.func69, Tryz.ntmps69
  go_wp2
  go_loop [3, 8] (fun n i => ∃ k : Nat, k ≤ l.length ∧ i = .int .i64 k ∧ n = .int .u64 (wsum (l.take k))) (fun _ i => l.length - (intOf i).toNat)
  case atStart => exact ⟨0, Nat.zero_le _, rfl, rfl⟩
  case round =>
    obtain ⟨k, hk, rfl, rfl⟩ := hrel
    have hr := wsum_rng l k hk hb.2
    by_cases hlt : k < l.length
    · obtain ⟨ad, x, rfl, _, hc, h0, h1, HX⟩ := hb.at_ hlt
      have hs := Lib.hid (wsum_take HX.out)
      generalize wsum (l.take k) = S at *
      by_cases hp : k % 2 = 0
      · go_wp2
        refine ⟨⟨k + 1, by omega, by go_num, ?_⟩, by simp [intOf]; omega⟩
        rw [hs.out, if_pos hp]; go_num
      · go_wp2
        refine ⟨⟨k + 1, by omega, by go_num, ?_⟩, by simp [intOf]; omega⟩
        rw [hs.out, if_neg hp]
    · have e : l.take k = l := List.take_of_length_le (by omega)
      have E := Lib.hid e; clear e
      go_wp2_with (go_at_call 95; refine (folded_any _ _ (by omega) (by omega)).mono ?_; rintro e w' ⟨rfl, rfl⟩)
      go_ret
      exact ⟨ret_int (by rw [E.out]; exact xor16 _ (fo_rng _).1 (fo_rng _).2), rfl⟩
end Go.Proofs.YtgdlkjahlajcpaaGreatDoor
namespace Go.Proofs.YtgdlkjahlajcpaaGreatDoor
open Go.ChangeShapes Go.WideShapes Go.ChangeAt Go.RowKit

def S16 (l : List Int) : Int := 65535 - fo (wsum l)
theorem S16_rng (l : List Int) : 0 ≤ S16 l ∧ S16 l ≤ 65535 := by have := fo_rng (wsum l); unfold S16; omega
theorem Sum_any (A : Option Addr) (n : Nat) (c : Nat) (l : List Int) (w : World) (B : Nat) (hb : Bytes w B A l) (hn : n = l.length) (hl : n ≤ 140737488355328) :
    Calls Tryz.prog 69 #[.slice A n c] w fun e w' => e = .returned (.int .u16 (S16 l)) ∧ w = w' := by
  subst hn; exact sum_any A c l w B hb hl

set_option maxHeartbeats 400000 in
theorem Folded_any (n : Int) (w : World) (h0 : 0 ≤ n) (h1 : n ≤ 9223372036854775807) :
    Calls Tryz.prog 35 #[.int .i64 n] w fun e w' => e = .returned (.int .i64 (fo n)) ∧ w = w' := by
  go_enter Tryz.func35, Tryz.ntmps35
  go_wp2
  go_loop [0] (fun v => ∃ m : Int, 0 ≤ m ∧ m ≤ 9223372036854775807 ∧ fo m = fo n ∧ v = .int .i64 m) (fun v => (intOf v).toNat)
  case atStart => exact ⟨n, h0, h1, rfl, rfl⟩
  case round =>
    obtain ⟨m, hm0, hm1, hf, rfl⟩ := hrel
    have HF := Lib.hid hf; clear hf
    by_cases hlt : 65535 < m
    · go_wp2
      exact ⟨⟨m % 65536 + m / 65536, by omega, by omega, by rw [Int.add_comm]; exact (fo_step m hlt).trans HF.out, rfl⟩, by simp [intOf]; omega⟩
    · go_wp2
      go_ret
      exact ⟨by simp only [Array.getD]; exact ret_int ((fo_small m hm0 (by omega)).symm.trans HF.out), rfl⟩

set_option maxHeartbeats 400000 in
theorem SumOf_any (A : Option Addr) (n : Nat) (c : Nat) (l : List Int) (w : World) (B : Nat) (hb : Bytes w B A l) (hn : n = l.length) (hl : n ≤ 140737488355328) :
    Calls Tryz.prog 18 #[.slice A n c] w fun e w' => e = .returned (.int .i64 (S16 l)) ∧ w = w' := by
  subst hn
  go_enter Tryz.func18, Tryz.ntmps18
  go_wp2
  go_loop [3, 4] (fun n i => ∃ k : Nat, k ≤ l.length ∧ i = .int .i64 k ∧ n = .int .i64 (wsum (l.take k))) (fun _ i => l.length - (intOf i).toNat)
  case atStart => exact ⟨0, Nat.zero_le _, rfl, rfl⟩
  case round =>
    obtain ⟨k, hk, rfl, rfl⟩ := hrel
    have hr := wsum_rng l k hk hb.2
    by_cases hlt : k < l.length
    · obtain ⟨ad, x, rfl, _, hc, h0, h1, HX⟩ := hb.at_ hlt
      have hs := Lib.hid (wsum_take HX.out)
      generalize wsum (l.take k) = S at *
      by_cases hp : k % 2 = 0
      · go_wp2
        refine ⟨⟨k + 1, by omega, by go_num, ?_⟩, by simp [intOf]; omega⟩
        rw [hs.out, if_pos hp]
      · go_wp2
        refine ⟨⟨k + 1, by omega, by go_num, ?_⟩, by simp [intOf]; omega⟩
        rw [hs.out, if_neg hp]
    · have e : l.take k = l := List.take_of_length_le (by omega)
      have E := Lib.hid e; clear e
      have hf := fo_rng (wsum (l.take k))
      go_wp2_with (go_at_call 35; refine (Folded_any _ _ (by omega) (by omega)).mono ?_; rintro e w' ⟨rfl, rfl⟩)
      go_ret
      exact ⟨ret_int (by rw [E.out]; rfl), rfl⟩

end Go.Proofs.YtgdlkjahlajcpaaGreatDoor
