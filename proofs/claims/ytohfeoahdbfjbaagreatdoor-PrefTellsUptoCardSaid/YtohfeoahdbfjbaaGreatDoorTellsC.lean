/- Contracts restated for PrefTells' walk. -/
import Derived.Test.YtohfeoahdbfjbaaGreatDoorRefO
import Derived.Test.YtohfeoahdbfjbaaGreatDoorBl
import Derived.Test.YtohfeoahdbfjbaaGreatDoorErr
namespace Go.Proofs.YtohfeoahdbfjbaaGreatDoor
open Go.ChangeShapes Go.WideShapes Go.ChangeAt Go.RowKit
set_option linter.unusedVariables false
set_option linter.unusedSimpArgs false

theorem BL.grow {W w : World} {L : List (Nat × Obj)} (h : BL W L w) (d : Nat) (os : Array Obj) : BL W L (Sort.grow (redrawn w d) os) := h.below (below_regrown w d os)
theorem BL.set {W w : World} {L L' : List (Nat × Obj)} {g : Nat} {c0 c1 v0 v1 : Value} {t : TypeId} (h : BL W L w) (hW : W.heap.size ≤ g) (hm : (g, .cells #[c0, c1] t (0, 0)) ∈ L)
    (hL : ∀ e ∈ L', e = (g, .cells #[v0, v1] t (0, 0)) ∨ (e.1 ≠ g ∧ e ∈ L)) : BL W L' ((w.setCell ⟨g, 0, none⟩ v0).setCell ⟨g, 1, none⟩ v1) := by
  refine ⟨(h.bel.setCell hW _).setCell hW _, fun g' o' hm' => ?_⟩
  rcases hL _ hm' with e | ⟨hne, hm2⟩
  · cases e; exact set2_block v0 v1 (h.blk _ _ hm)
  · have o : ∀ (w : World) (v : Value) (k : Nat), (w.setCell ⟨g, k, none⟩ v).heap[g']? = w.heap[g']? := fun w v k => heap_setCell_other w ⟨g, k, none⟩ g' v (by simpa using hne)
    rw [o, o]; exact h.blk _ _ hm2
theorem BL.push4 {W w : World} {L : List (Nat × Obj)} (h : BL W L w) (o o2 o3 o4 : Obj) : BL W ((w.heap.size + 1 + 1 + 1, o4) :: (w.heap.size + 1 + 1, o3) :: (w.heap.size + 1, o2) :: (w.heap.size, o) :: L) ((((w.alloc o).alloc o2).alloc o3).alloc o4) := by
  have := (((h.push o).push o2).push o3).push o4
  rwa [World.size_alloc, World.size_alloc, World.size_alloc] at this
theorem BL.start2 (W : World) (o1 o2 : Obj) : BL W [(W.heap.size + 1, o2), (W.heap.size, o1)] ((W.alloc o1).alloc o2) := (BL.start W).push2 o1 o2

theorem has_c {w : World} {a l x : Int} {r : Bool} (h : hasB (a, l) x = r) (ha : is32 a) (hx : is32 x) (d : Nat) (os : Array Obj) :
    Calls Tryz.prog 10 #[.agg #[.int .u32 a, .int .i64 l], .int .u32 x] (Sort.grow (redrawn w d) os) fun e w'' => e = .returned (.bool r) ∧ ∃ p : Regrown, w'' = Sort.grow (redrawn w p.d) p.os := Calls.regrown_of (has_is h ha hx _)
theorem rhas_c {w : World} {a l x : Int} {r : Bool} (h : hasB (a, l) x = r) (ha : is32 a) (hx : is32 x) (d : Nat) (os : Array Obj) :
    Calls Tryz.prog 11 #[.agg #[.int .u32 a, .int .i64 l], .int .u32 x] (Sort.grow (redrawn w d) os) fun e w'' => e = .returned (.bool r) ∧ ∃ p : Regrown, w'' = Sort.grow (redrawn w p.d) p.os :=
  Calls.regrown_of ((RHas_any a l x _ ha hx).mono fun e w' ⟨he, hb⟩ => ⟨by rw [he, h], hb⟩)
theorem in_c {w : World} {a l b m : Int} {r : Bool} (h : inB (a, l) (b, m) = r) (ha : is32 a) (hb : is32 b) (d : Nat) (os : Array Obj) :
    Calls Tryz.prog 12 #[.agg #[.int .u32 a, .int .i64 l], .agg #[.int .u32 b, .int .i64 m]] (Sort.grow (redrawn w d) os) fun e w'' => e = .returned (.bool r) ∧ ∃ p : Regrown, w'' = Sort.grow (redrawn w p.d) p.os := Calls.regrown_of (in_is h ha hb _)
theorem rin_c {w : World} {a l b m : Int} {r : Bool} (h : inB (a, l) (b, m) = r) (ha : is32 a) (hb : is32 b) (d : Nat) (os : Array Obj) :
    Calls Tryz.prog 13 #[.agg #[.int .u32 a, .int .i64 l], .agg #[.int .u32 b, .int .i64 m]] (Sort.grow (redrawn w d) os) fun e w'' => e = .returned (.bool r) ∧ ∃ p : Regrown, w'' = Sort.grow (redrawn w p.d) p.os :=
  Calls.regrown_of ((RIn_any a l b m _ ha hb).mono fun e w' ⟨he, hb⟩ => ⟨by rw [he, h], hb⟩)
theorem rless_c {w : World} {a l b m : Int} {r : Bool} (h : lessB (a, l) (b, m) = r) (d : Nat) (os : Array Obj) :
    Calls Tryz.prog 15 #[.agg #[.int .u32 a, .int .i64 l], .agg #[.int .u32 b, .int .i64 m]] (Sort.grow (redrawn w d) os) fun e w'' => e = .returned (.bool r) ∧ ∃ p : Regrown, w'' = Sort.grow (redrawn w p.d) p.os :=
  Calls.regrown_of ((RLess_any a l b m _).mono fun e w' ⟨he, hb⟩ => ⟨by rw [he, h], hb⟩)
/-- the text of a net, as the program and as the reference tell it -/
theorem ntext_c {W w : World} {a : Nat} {k : Nat} {i : Int} (hg : HStr W) (hb : Below W.heap.size W w) (ha : a < 4294967296) (hk : k ≤ 32) (hi : (k : Int) = i) (d : Nat) (os : Array Obj) :
    Calls Tryz.prog 16 #[.agg #[.int .u32 a, .int .i64 i]] (Sort.grow (redrawn w d) os) fun e w'' => e = .returned (strV (netT a k)) ∧ ∃ p : Regrown, w'' = Sort.grow (redrawn w p.d) p.os := by
  subst hi
  exact Calls.regrown_of (NText_any a k _ (hg.on (hb.trans ((below_regrown w d os).mono hb.size))) ha hk)
theorem rntext_c {w : World} {a : Nat} {k : Nat} {i : Int} (ha : a < 4294967296) (hk : k ≤ 32) (hi : (k : Int) = i) (d : Nat) (os : Array Obj) :
    Calls Tryz.prog 17 #[.agg #[.int .u32 a, .int .i64 i]] (Sort.grow (redrawn w d) os) fun e w'' => e = .returned (strV (netT a k)) ∧ ∃ p : Regrown, w'' = Sort.grow (redrawn w p.d) p.os := by
  subst hi
  exact Calls.regrown_of (RNetText_any a k _ ha hk)
theorem trim_is {a n i x : Int} {k : Nat} (hi : (k : Int) = i) (hk : k ≤ 32) (hx : fl (lowI k) a = x) (ha : is32 a) (w : World) :
    Calls Tryz.prog 18 #[.agg #[.int .u32 a, .int .i64 n], .int .i64 i] w fun e w' => e = .returned (.agg #[.int .u32 x, .int .i64 i]) ∧ Below w.heap.size w w' := by
  subst hi; subst hx; exact Trim_any a n k w ha hk
theorem up_is {a l i x : Int} {k : Nat} (hl : (k : Int) + 1 = l) (hi : (k : Int) = i) (hk : k < 32) (hx : fl (lowI k) a = x) (ha : is32 a) (hz : netF (a, l) = 0) (w : World) :
    Calls Tryz.prog 21 #[.agg #[.int .u32 a, .int .i64 l]] w fun e w' => e = .returned (.tuple #[.agg #[.int .u32 x, .int .i64 i], .nilIface]) ∧ Below w.heap.size w w' := by
  subst hl; subst hi; subst hx; exact Up_ok w ha hk hz
theorem uptop_is {a l : Int} (hl : l = 0) (ha : is32 a) (hz : netF (a, l) = 0) (w : World) :
    Calls Tryz.prog 21 #[.agg #[.int .u32 a, .int .i64 l]] w fun e w' => e = .returned (.tuple #[.agg #[.int .u32 0, .int .i64 0], .iface 26 (.int .i64 2)]) ∧ Below w.heap.size w w' := by
  subst hl; exact Up_top w ha hz
theorem halvesone_is {a l : Int} (hl : l = 32) (ha : is32 a) (hz : netF (a, l) = 0) (w : World) :
    Calls Tryz.prog 22 #[.agg #[.int .u32 a, .int .i64 l]] w fun e w' => e = .returned (.tuple #[.agg #[.int .u32 0, .int .i64 0], .agg #[.int .u32 0, .int .i64 0], .iface 26 (.int .i64 2)]) ∧ Below w.heap.size w w' := by
  subst hl; exact Halves_one w ha hz
theorem halves_is {a l j y : Int} {k : Nat} (hl : (k : Int) = l) (hj : (k : Int) + 1 = j) (hk : k < 32) (hy : a + lowI (k + 1) = y) (ha : is32 a) (hz : netF (a, l) = 0) (w : World) :
    Calls Tryz.prog 22 #[.agg #[.int .u32 a, .int .i64 l]] w fun e w' => e = .returned (.tuple #[.agg #[.int .u32 a, .int .i64 j], .agg #[.int .u32 y, .int .i64 j], .nilIface]) ∧ Below w.heap.size w w' := by
  subst hl; subst hj; subst hy; exact Halves_ok w ha hk hz
theorem half0_is {a l j : Int} {k : Nat} (hl : (k : Int) = l) (hj : (k : Int) + 1 = j) (hk : k < 32) (w : World) :
    Calls Tryz.prog 19 #[.agg #[.int .u32 a, .int .i64 l], .int .i64 0] w fun e w' => e = .returned (.agg #[.int .u32 a, .int .i64 j]) ∧ Below w.heap.size w w' := by
  subst hl; subst hj; exact Half0 a k w hk
theorem half1_is {a l j y : Int} {k : Nat} (hl : (k : Int) = l) (hj : (k : Int) + 1 = j) (hk : k < 32) (hy : a + lowI (k + 1) = y) (ha : is32 a) (hz : netF (a, l) = 0) (w : World) :
    Calls Tryz.prog 19 #[.agg #[.int .u32 a, .int .i64 l], .int .i64 1] w fun e w' => e = .returned (.agg #[.int .u32 y, .int .i64 j]) ∧ Below w.heap.size w w' := by
  subst hl; subst hj; subst hy; exact Half1 a k w hk ha hz
theorem common_is {a l b m u v : Int} (h : comN (a, l) (b, m) = (u, v)) (ha : is32 a) (hb : is32 b) (hz : netF (a, l) = 0) (hy : netF (b, m) = 0) (w : World) :
    Calls Tryz.prog 23 #[.agg #[.int .u32 a, .int .i64 l], .agg #[.int .u32 b, .int .i64 m]] w fun e w' => e = .returned (.tuple #[.agg #[.int .u32 u, .int .i64 v], .nilIface]) ∧ Below w.heap.size w w' := by
  obtain ⟨k, hk, ek, _⟩ := net_ok hz
  obtain ⟨j, hj, ej, _⟩ := net_ok hy
  simp only at ek ej
  subst ek; subst ej
  have := Common_ok w ha hb hz hy
  rwa [h] at this
theorem commonof_is {a l b m u v : Int} (h : comN (a, l) (b, m) = (u, v)) (ha : is32 a) (hb : is32 b) (hz : netF (a, l) = 0) (hy : netF (b, m) = 0) (w : World) :
    Calls Tryz.prog 20 #[.agg #[.int .u32 a, .int .i64 l], .agg #[.int .u32 b, .int .i64 m]] w fun e w' => e = .returned (.agg #[.int .u32 u, .int .i64 v]) ∧ Below w.heap.size w w' := by
  obtain ⟨k, hk, ek, _⟩ := net_ok hz
  obtain ⟨j, hj, ej, _⟩ := net_ok hy
  simp only at ek ej
  subst ek; subst ej
  have := CommonOf_any a b k j w ha hb hk hj
  rwa [h] at this
theorem NetOf_yes (a k : Nat) (s : ByteArray) (w : World) (ha : a < 4294967296) (hz : netF ((a : Int), (k : Int)) = 0) (hs : s.data.toList = netT a k) :
    Calls Tryz.prog 8 #[.string s] w fun e w' => e = .returned (.tuple #[.agg #[.int .u32 a, .int .i64 k], .bool true]) ∧ Below w.heap.size w w' :=
  (NetOf_any s w (by have := netT_length a k ha (by have := (netF_zero.1 hz).2.1; omega); rw [← size_data, hs]; omega)).mono fun e w' ⟨h, hb⟩ => by
    rcases h with ⟨a', k', _, _, e1, e2⟩ | ⟨h, _⟩
    · rw [hs] at e1
      obtain ⟨rfl, rfl⟩ := netT_inj e1
      exact ⟨e2, hb⟩
    · exact absurd hs (h a k ha hz)
theorem NetOf_no (s : ByteArray) (w : World) (hsz : s.size ≤ 1048576) (hs : ∀ a k : Nat, a < 4294967296 → netF ((a : Int), (k : Int)) = 0 → s.data.toList ≠ netT a k) :
    Calls Tryz.prog 8 #[.string s] w fun e w' => e = .returned (.tuple #[.agg #[.int .u32 0, .int .i64 0], .bool false]) ∧ Below w.heap.size w w' :=
  (NetOf_any s w hsz).mono fun e w' ⟨h, hb⟩ => by
    rcases h with ⟨a, k, ha, hz, e1, _⟩ | ⟨_, h⟩
    · exact absurd e1 (hs a k ha hz)
    · exact ⟨h, hb⟩
end Go.Proofs.YtohfeoahdbfjbaaGreatDoor
