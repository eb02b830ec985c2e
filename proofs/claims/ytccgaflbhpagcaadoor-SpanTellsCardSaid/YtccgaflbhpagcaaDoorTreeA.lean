/- span.Tree: its closure, and IndexFunc by it. -/
import Derived.Test.YtccgaflbhpagcaaDoorUps
import Derived.Test.YtccgaflbhpagcaaDoorInts
namespace Go.Proofs.YtccgaflbhpagcaaDoor
open Go.ChangeShapes Go.WideShapes Go.ChangeAt Go.RowKit Sp
set_option linter.unusedVariables false
set_option linter.unusedSimpArgs false
/-- what the closure holds: the ways up -/
structure Cap (w : World) (base gp : Nat) (A : Option Addr) (n c : Nat) (B : List Bel) : Prop where
  lt : gp < base
  le : base ≤ w.heap.size
  box : w.cell? ⟨gp, 0, none⟩ = some (.slice A n c)
  ups : RdSlice 1 (rdInt .i64) w (· < base) [.slice A n c] (B.map fun x => x.2.2)
theorem Cap.below {w w' : World} {base gp : Nat} {A : Option Addr} {n c : Nat} {B : List Bel} (h : Cap w base gp A n c B) (hb : Below base w w') : Cap w' base gp A n c B :=
  ⟨h.lt, Nat.le_trans h.le (by have := hb.size; exact this), (hb.cell h.lt).trans h.box, RdLaw.keep h.ups (fun p hp => hb.cell hp)⟩
theorem map_at2 {B : List Bel} {f : Bel → Int} {v : Nat} (h : v < B.length) : (B.map f)[v]? = some (f (at_ B v)) := by rw [List.getElem?_map, at_get h]; rfl
def InL (n : Nat) (x : Lnk) : Prop := 0 ≤ x.1 ∧ x.1 < n ∧ 0 ≤ x.2.1 ∧ x.2.1 < n
theorem used_of {B : List Bel} {a b : Nat} {c : Int} : usedB B ((a : Int), (b : Int), c) = (decide ((at_ B a).2.2 = (b : Int)) || decide ((at_ B b).2.2 = (a : Int))) := rfl
set_option maxRecDepth 100000 in
set_option maxHeartbeats 2000000 in
theorem clos_tree {w : World} {base gp : Nat} {A : Option Addr} {n cc : Nat} {B : List Bel} (hc : Cap w base gp A n cc B) {a b : Nat} {c : Int} (ha : a < n) (hb : b < n) {r : Bool} (hr : (!usedB B ((a : Int), (b : Int), c)) = r) :
    Calls Tryd.prog 20 #[.agg #[.int .i64 a, .int .i64 b, .int .i64 c], .pointer (some ⟨gp, 0, none⟩)] w fun e w' => e = .returned (.bool r) ∧ Below w.heap.size w w' := by
  obtain ⟨b2, o2, rfl, hbb⟩ := hc.ups.where_ (by omega)
  have hlen := hc.ups.len.1
  rw [List.length_map] at hlen
  have hcm : cc ≤ 9223372036854775807 := by have := hc.ups.len.2.2; unfold maxLen at this; omega
  have hnc := hc.ups.len.2.1
  have hbw : b2 < w.heap.size := Nat.lt_of_lt_of_le hbb hc.le
  have hgw : gp < w.heap.size := Nat.lt_of_lt_of_le hc.lt hc.le
  have c0 := hc.box
  have c1 := hc.ups.cellI (map_at2 (f := fun x => x.2.2) (v := a) (B := B) (by omega))
  have c2 := hc.ups.cellI (map_at2 (f := fun x => x.2.2) (v := b) (B := B) (by omega))
  have n1 : ¬ (b2 = w.heap.size) := by omega
  have n2 : ¬ (gp = w.heap.size) := by omega
  have n3 : ¬ (w.heap.size = b2) := by omega
  have n4 : ¬ (w.heap.size = gp) := by omega
  rw [used_of] at hr
  generalize (at_ B a).2.2 = ua at *
  generalize (at_ B b).2.2 = ub at *
  clear hlen hc
  have HR := Lib.hid hr
  clear hr
  cases t1 : (ua != (b : Int)) <;> cases t2 : (ub != (a : Int))
  all_goals
    have HR2 : Hid (r = ((ua != (b : Int)) && (ub != (a : Int)))) := Lib.hid (by rw [← HR.out]; simp only [bne, Bool.not_or]; congr 1 <;> congr 1 <;> exact (Bool.eq_iff_iff.2 (by simp)))
    rw [t1, t2] at HR2
    go_enter Tryd.func20, Tryd.ntmps20
    go_wp2
    go_quiet (fail)
    go_wp2
    go_ret
    exact ⟨by rw [HR2.out]; rfl, below_drewN ((Below.refl _ _).alloc (Nat.le_refl _) _) _⟩
end Go.Proofs.YtccgaflbhpagcaaDoor
