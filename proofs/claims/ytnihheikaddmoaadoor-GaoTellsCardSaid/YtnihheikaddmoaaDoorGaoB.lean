/- gao: nodes; the closures of Check, and ContainsFunc by them; Contains at bools; tables. -/
import Derived.Test.YtnihheikaddmoaaDoorGaoA
import Derived.Test.YtnihheikaddmoaaDoorBlkL
namespace Go.Proofs.YtnihheikaddmoaaDoor
open Go.ChangeShapes Go.WideShapes Go.ChangeAt Go.RowKit Ga
set_option linter.unusedVariables false
set_option linter.unusedSimpArgs false
theorem RdSlice.atD {w : World} {ok : Nat → Prop} {A : Option Addr} {n c : Nat} {xs : List (Int × Int × Int)} (h : rdDeals w ok [.slice A n c] xs) {k : Nat} (hk : k < n) :
    ∃ b o x y z, A = some ⟨b, o, none⟩ ∧ ok b ∧ Hid (xs[k]? = some (x, y, z)) ∧ ((Lit.int .i64 x).wf = true ∧ (Lit.int .i64 y).wf = true ∧ (Lit.int .i64 z).wf = true) ∧ w.cell? ⟨b, o + k * 3, none⟩ = some (.int .i64 x) ∧ w.cell? ⟨b, o + k * 3 + 1, none⟩ = some (.int .i64 y) ∧ w.cell? ⟨b, o + k * 3 + 2, none⟩ = some (.int .i64 z) := by
  obtain ⟨b, o, x, cs, hA, hb, hx, _, hr, hc⟩ := h.at_ hk
  obtain ⟨x, y, z⟩ := x
  obtain ⟨_, _, rfl, ⟨rfl, w0⟩, ⟨_, _, rfl, ⟨rfl, w1⟩, ⟨rfl, w2⟩⟩⟩ := hr
  exact ⟨b, o, x, y, z, hA, hb, hx, ⟨w0, w1, w2⟩, hc 0 _ rfl, (by rw [Nat.add_assoc]; exact hc 1 _ rfl), (by rw [Nat.add_assoc]; exact hc 2 _ rfl)⟩
theorem row3 {w : World} {R : Nat} {v0 v1 v2 : Value} {t : TypeId} (h : w.heap[R]? = some (.cells #[v0, v1, v2] t (0, 0))) :
    w.cell? ⟨R, 0, none⟩ = some v0 ∧ w.cell? ⟨R, 1, none⟩ = some v1 ∧ w.cell? ⟨R, 2, none⟩ = some v2 := by
  refine ⟨?_, ?_, ?_⟩ <;> rw [cell_of_row _ R _ _ _ (0, 0) h] <;> rfl
theorem row1 {w : World} {R : Nat} {v0 : Value} {t : TypeId} (h : w.heap[R]? = some (.cells #[v0] t (0, 0))) : w.cell? ⟨R, 0, none⟩ = some v0 := by
  rw [cell_of_row _ R _ _ _ (0, 0) h]; rfl
theorem pairD_eq (x0 x1 x2 y0 y1 y2 : Int) : pairD (x0, x1, x2) (y0, y1, y2) = ((y0 == x0) && (y1 == x1) || (y0 == x1) && (y1 == x0)) := by
  unfold pairD
  rw [Bool.eq_iff_iff, decide_eq_true_iff]
  simp only [Bool.or_eq_true, Bool.and_eq_true, beq_iff_eq]
set_option maxRecDepth 100000 in
set_option maxHeartbeats 2000000 in
theorem clos1 {w : World} {g : Nat} {x0 x1 x2 y0 y1 y2 : Int} {t : TypeId} (hg : w.heap[g]? = some (.cells #[.int .i64 x0, .int .i64 x1, .int .i64 x2] t (0, 0))) {r : Bool} (hr : pairD (x0, x1, x2) (y0, y1, y2) = r) :
    Calls Tryd.prog 18 #[.agg #[.int .i64 y0, .int .i64 y1, .int .i64 y2], .pointer (some ⟨g, 0, none⟩)] w fun e w' => e = .returned (.bool r) ∧ Below w.heap.size w w' := by
  have hgl := size_of_block hg
  obtain ⟨c0, c1, c2⟩ := row3 hg
  have hne : ¬ g = w.heap.size := by omega
  have hne' : ¬ w.heap.size = g := by omega
  rw [pairD_eq] at hr
  have HR := Lib.hid hr
  clear hr hg
  cases t1 : (y0 == x0) <;> cases t2 : (y1 == x1) <;> cases t3 : (y0 == x1) <;> cases t4 : (y1 == x0)
  all_goals
    rw [t1, t2, t3, t4] at HR
    go_enter Tryd.func18, Tryd.ntmps18
    go_wp2
    go_ret
    exact ⟨by rw [← HR.out]; rfl, (Below.refl _ _).alloc (Nat.le_refl _) _⟩
def IdxD (w : World) (p : Deal → Bool) (l : List Deal) (e : Ending) (w' : World) : Prop := ∃ r : Int, e = .returned (.int .i64 r) ∧ decide (0 ≤ r) = l.any p ∧ -1 ≤ r ∧ Below w.heap.size w w'
theorem any_take {α : Type} {l : List α} {k : Nat} {x : α} (h : l[k]? = some x) (p : α → Bool) : (l.take (k + 1)).any p = ((l.take k).any p || p x) := by rw [take_succ_of h]; simp
theorem any_of {α : Type} {l : List α} {k : Nat} {x : α} (h : l[k]? = some x) {p : α → Bool} (hp : p x = true) : l.any p = true := List.any_eq_true.2 ⟨x, List.mem_of_getElem? h, hp⟩
set_option maxRecDepth 100000 in
set_option maxHeartbeats 2000000 in
theorem IndexFunc_D {w : World} {ok : Nat → Prop} {A : Option Addr} {m c g : Nat} {x0 x1 x2 : Int} {t : TypeId} {l : List Deal} (hl : rdDeals w ok [.slice A m c] l) (hok : ∀ b, ok b → b < w.heap.size) (hg : w.heap[g]? = some (.cells #[.int .i64 x0, .int .i64 x1, .int .i64 x2] t (0, 0))) :
    Calls Tryd.prog 31 #[.slice A m c, .func (Fn.func 18) #[] #[.pointer (some ⟨g, 0, none⟩)]] w (IdxD w (pairD (x0, x1, x2)) l) := by
  obtain ⟨hm, hle, hcm⟩ := RdSlice.len hl
  have hm0 : m ≤ 9223372036854775807 := by unfold maxLen at hcm; omega
  have hgl := size_of_block hg
  have HL := Lib.hid hl
  have HM := Lib.hid hm
  have HG := Lib.hid hg
  have HK := Lib.hid hok
  clear hl hm hg hok hle hcm
  go_enter Tryd.func31, Tryd.ntmps31
  go_wp2
  go_loopw [8] (fun t wr => ∃ k : Nat, k ≤ m ∧ t = .int .i64 k ∧ (l.take k).any (pairD (x0, x1, x2)) = false ∧ Below w.heap.size w wr) (fun t _ => m - (intOf t).toNat)
  case atStart => exact ⟨0, Nat.zero_le _, rfl, rfl, Below.refl _ _⟩
  case round =>
    obtain ⟨k, hk, rfl, he, hb⟩ := hrel
    have HE := Lib.hid he
    have HB := Lib.hid hb
    have s1 := hb.size
    clear he hb
    by_cases hlt : k < m
    · obtain ⟨b, o, y0, y1, y2, rfl, hbb, HX, -, d0, d1, d2⟩ := RdSlice.atD HL.out hlt
      have c0 := (HB.out.cell (HK.out _ hbb)).trans d0
      have c1 := (HB.out.cell (HK.out _ hbb)).trans d1
      have c2 := (HB.out.cell (HK.out _ hbb)).trans d2
      have HS := Lib.hid ((any_take HX.out (pairD (x0, x1, x2))).trans (by rw [HE.out, Bool.false_or]))
      have HA := Lib.hid (fun h => any_of HX.out (p := pairD (x0, x1, x2)) h)
      have HG2 := Lib.hid (below_block HB.out hgl HG.out)
      obtain ⟨r, hr⟩ : ∃ r, pairD (x0, x1, x2) (y0, y1, y2) = r := ⟨_, rfl⟩
      rw [hr] at HS HA
      have HR := Lib.hid hr
      clear hr d0 d1 d2
      go_wp2_with fail
      go_at_call 18
      (with_reducible refine (clos1 HG2.out HR.out).mono ?_)
      rintro e w1 ⟨rfl, hb1⟩
      have HB1 := Lib.hid (HB.out.trans (hb1.mono s1))
      clear hb1
      cases r
      · go_wp2
        go_roundw
        case rel => exact ⟨k + 1, by omega, by go_num, HS.out, HB1.out⟩
        case measure => simp [intOf]; omega
      · have HA2 := Lib.hid (HA.out rfl)
        go_wp2
        go_ret
        exact ⟨k, rfl, by rw [HA2.out]; simp, by omega, HB1.out⟩
    · have ek : k = m := by omega
      subst ek
      have e : l.take k = l := List.take_of_length_le (by rw [HM.out]; exact Nat.le_refl _)
      have HE2 : Hid (l.any (pairD (x0, x1, x2)) = false) := Lib.hid (by have := HE.out; rw [e] at this; exact this)
      clear e
      go_wp2
      go_ret
      exact ⟨-1, rfl, by rw [HE2.out]; rfl, by omega, HB.out⟩
set_option maxRecDepth 100000 in
theorem ContainsFunc_D {w : World} {ok : Nat → Prop} {A : Option Addr} {m c g : Nat} {x0 x1 x2 : Int} {t : TypeId} {l : List Deal} {r : Bool} (hl : rdDeals w ok [.slice A m c] l) (hok : ∀ b, ok b → b < w.heap.size) (hg : w.heap[g]? = some (.cells #[.int .i64 x0, .int .i64 x1, .int .i64 x2] t (0, 0))) (hr : l.any (pairD (x0, x1, x2)) = r) :
    Calls Tryd.prog 17 #[.slice A m c, .func (Fn.func 18) #[] #[.pointer (some ⟨g, 0, none⟩)]] w fun e w' => e = .returned (.bool r) ∧ Below w.heap.size w w' := by
  have HL := Lib.hid hl
  have HG := Lib.hid hg
  have HK := Lib.hid hok
  have HR := Lib.hid hr
  clear hl hg hok hr
  go_enter Tryd.func17, Tryd.ntmps17
  go_wp2_with fail
  go_at_call 31
  (with_reducible refine (IndexFunc_D HL.out HK.out HG.out).mono ?_)
  rintro e w1 ⟨z, rfl, hz, hz1, hb⟩
  have HZ := Lib.hid hz
  clear hz
  go_wp2
  go_ret
  exact ⟨ret_bool (HZ.out.trans HR.out), hb⟩
/-! ### tables -/
def tabL (n : Nat) (W : Nat → Nat → Int) : List (List Int) := (List.range n).map fun i => (List.range n).map fun k => W i k
theorem tab_row {w : World} {ok : Nat → Prop} {A : Option Addr} {n c : Nat} {W : Nat → Nat → Int} (h : RdSlice 1 (RdSlice 1 (rdInt .i64)) w ok [.slice A n c] (tabL n W)) {i : Nat} (hi : i < n) :
    ∃ b o b' o' c', A = some ⟨b, o, none⟩ ∧ ok b ∧ ok b' ∧ n ≤ c' ∧ c' ≤ maxLen ∧ w.cell? ⟨b, o + i, none⟩ = some (.slice (some ⟨b', o', none⟩) n c') ∧ ∀ k, k < n → w.cell? ⟨b', o' + k, none⟩ = some (.int .i64 (W i k)) := by
  obtain ⟨b, o, x, A', c', rfl, hb, HX, hx, hc⟩ := h.atS hi
  have e : x = (List.range n).map fun k => W i k := by
    have := HX.out
    unfold tabL at this
    rw [List.getElem?_map, List.getElem?_range hi] at this
    simpa using this.symm
  subst e
  obtain ⟨hl, h1, h2⟩ := hx.len
  have hl' : ((List.range n).map fun k => W i k).length = n := by simp
  rw [hl'] at hx hc h1
  obtain ⟨b', o', rfl, hb'⟩ := hx.where_ (by omega)
  refine ⟨b, o, b', o', c', rfl, hb, hb', h1, h2, hc, fun k hk => hx.cellI ?_⟩
  rw [List.getElem?_map, List.getElem?_range hk]; rfl
def bL (R : List Bool) : List Value := R.map Value.bool
theorem bL_get {R : List Bool} {i : Nat} (h : i < R.length) : (bL R)[i]? = some (.bool (doneG R i)) := by
  unfold bL doneG; rw [List.getElem?_map, List.getD_eq_getElem?_getD, List.getElem?_eq_getElem h]; rfl
theorem bL_set (R : List Bool) (i : Nat) (b : Bool) : (bL R).set i (.bool b) = bL (R.set i b) := by unfold bL; rw [List.map_set]
theorem bL_rep (n : Nat) : List.replicate n (Value.bool false) = bL (List.replicate n false) := by unfold bL; rw [List.map_replicate]
/-- what the second closure holds -/
structure Cap2 (w : World) (gw gi gd : Nat) (A : Option Addr) (n c g : Nat) (i : Nat) (W : Nat → Nat → Int) (D : List Bool) : Prop where
  tab : RdSlice 1 (RdSlice 1 (rdInt .i64)) w (· < w.heap.size) [.slice A n c] (tabL n W)
  boxw : w.cell? ⟨gw, 0, none⟩ = some (.slice A n c)
  boxi : w.cell? ⟨gi, 0, none⟩ = some (.int .i64 i)
  boxd : w.cell? ⟨gd, 0, none⟩ = some (.slice (some ⟨g, 0, none⟩) n n)
  done : Blk w g 4 (bL D)
  len : D.length = n
theorem Cap2.below {w w' : World} {gw gi gd : Nat} {A : Option Addr} {n c g i : Nat} {W : Nat → Nat → Int} {D : List Bool} (h : Cap2 w gw gi gd A n c g i W D) (hb : Below w.heap.size w w') : Cap2 w' gw gi gd A n c g i W D :=
  ⟨(show R1 (RdSlice 1 (RdSlice 1 (rdInt .i64))) w (.slice A n c) (tabL n W) from h.tab).below hb, (hb.cell (World.block_lt_of_cell? w _ h.boxw)).trans h.boxw, (hb.cell (World.block_lt_of_cell? w _ h.boxi)).trans h.boxi, (hb.cell (World.block_lt_of_cell? w _ h.boxd)).trans h.boxd, h.done.below hb h.done.lt, h.len⟩
set_option maxRecDepth 100000 in
set_option maxHeartbeats 1000000 in
theorem clos2 {w : World} {gw gi gd : Nat} {A : Option Addr} {n c g i k : Nat} {W : Nat → Nat → Int} {D : List Bool} (h : Cap2 w gw gi gd A n c g i W D) (hi : i < n) (hk : k < n) {r : Bool} (hr : (decide (W i k = 3) && !doneG D k) = r) :
    Calls Tryd.prog 20 #[.int .i64 k, .pointer (some ⟨gw, 0, none⟩), .pointer (some ⟨gi, 0, none⟩), .pointer (some ⟨gd, 0, none⟩)] w fun e w' => e = .returned (.bool r) ∧ w = w' := by
  obtain ⟨b, o, b', o', c', rfl, hb, hb', h1, h2, c0, ck⟩ := tab_row h.tab hi
  have c1 := ck k hk
  have d0 := h.boxw
  have d1 := h.boxi
  have d2 := h.boxd
  have e0 := h.done.get (bL_get (i := k) (by rw [h.len]; exact hk))
  obtain ⟨z, hz⟩ : ∃ z, W i k = z := ⟨_, rfl⟩
  obtain ⟨q, hq⟩ : ∃ q, doneG D k = q := ⟨_, rfl⟩
  rw [hz] at c1 hr
  rw [hq] at e0 hr
  have hr2 : ((z == 3) && !q) = r := by rw [← hr]; congr 1
  have HR := Lib.hid hr2
  have hc1 : c' ≤ 9223372036854775807 := by unfold maxLen at h2; omega
  have hc2 : c ≤ 9223372036854775807 := by have := h.tab.len.2.2; unfold maxLen at this; omega
  clear hr hr2 hz hq ck h h2
  cases t1 : (z == 3) <;> cases q
  all_goals
    rw [t1] at HR
    go_enter Tryd.func20, Tryd.ntmps20
    go_wp2
    go_ret
    exact ⟨by rw [← HR.out]; rfl, rfl⟩
end Go.Proofs.YtnihheikaddmoaaDoor
