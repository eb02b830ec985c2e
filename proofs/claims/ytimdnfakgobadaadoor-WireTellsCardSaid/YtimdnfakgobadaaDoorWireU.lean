/- The reference's number of four bytes. -/
import Derived.Test.YtimdnfakgobadaaDoorWireE
namespace Go.Proofs.YtimdnfakgobadaaDoor
open Go.ChangeShapes Go.WideShapes Go.ChangeAt Go.RowKit
set_option linter.unusedVariables false
set_option linter.unusedSimpArgs false

theorem or_mul (y b : Int) (k : Nat) (h0 : 0 ≤ y) (b0 : 0 ≤ b) (b1 : b < 2 ^ k) (hs : y * 2 ^ k + b ≤ 4294967295) : bits .or .u32 (y * 2 ^ k) b = y * 2 ^ k + b := by
  obtain ⟨a, rfl⟩ := Int.eq_ofNat_of_zero_le h0
  obtain ⟨c, rfl⟩ := Int.eq_ofNat_of_zero_le b0
  have e : ((a : Int) * 2 ^ k) = ((a * 2 ^ k : Nat) : Int) := by simp
  have hc : c < 2 ^ k := by have : ((c : Int)) < ((2 ^ k : Nat) : Int) := by simpa using b1
                            omega
  rw [e] at hs ⊢
  rw [u32_or_nat _ _ (by omega) (by omega)]
  have h1 := Nat.two_pow_add_eq_or_of_lt (i := k) (b := c) hc a
  have : a * 2 ^ k ||| c = a * 2 ^ k + c := by rw [Nat.mul_comm a]; omega
  omega
theorem or_four (x0 x1 x2 x3 : Int) (b0 : 0 ≤ x0 ∧ x0 ≤ 255) (b1 : 0 ≤ x1 ∧ x1 ≤ 255) (b2 : 0 ≤ x2 ∧ x2 ≤ 255) (b3 : 0 ≤ x3 ∧ x3 ≤ 255) :
    bits .or .u32 (bits .or .u32 (bits .or .u32 (x0 * 16777216) (x1 * 65536)) (x2 * 256)) x3 = num4 x0 x1 x2 x3 := by
  have e1 := or_mul x0 (x1 * 65536) 24 (by omega) (by omega) (by omega) (by omega)
  rw [show (2 : Int) ^ 24 = 16777216 from by decide] at e1
  have e2 := or_mul (x0 * 256 + x1) (x2 * 256) 16 (by omega) (by omega) (by omega) (by omega)
  rw [show (2 : Int) ^ 16 = 65536 from by decide] at e2
  have e3 := or_mul ((x0 * 256 + x1) * 256 + x2) x3 8 (by omega) (by omega) (by omega) (by omega)
  rw [show (2 : Int) ^ 8 = 256 from by decide] at e3
  rw [e1, show x0 * 16777216 + x1 * 65536 = (x0 * 256 + x1) * 65536 from by omega, e2, show (x0 * 256 + x1) * 65536 + x2 * 256 = ((x0 * 256 + x1) * 256 + x2) * 256 from by omega, e3]
  rfl

set_option maxHeartbeats 1000000 in
theorem refnum_4 {w : World} {A : Option Addr} {c : Nat} {p : List Int} (hr : R1 rdBytes w (.slice A 20 c) p) :
    Calls Tryd.prog 33 #[.slice A 20 c, .int .i64 4] w fun e w' => e = .returned (.int .u32 (n4 p 4)) ∧ ∃ j, w' = w.drewN j := by
  obtain ⟨b, o, rfl, hbk⟩ := RdSlice.some_ hr (by omega)
  have at_ : ∀ i, i < 20 → ∃ x, g p i = x ∧ w.cell? ⟨b, o + i, none⟩ = some (.int .u8 x) ∧ 0 ≤ x ∧ x ≤ 255 := fun i hi => by
    obtain ⟨b', o', x, e, _, HX, wx, hc⟩ := RdSlice.atI hr (i := i) hi
    simp only [Option.some.injEq, Addr.mk.injEq] at e
    obtain ⟨rfl, rfl, _⟩ := e
    exact ⟨x, by unfold g; simp [HX.out], hc, bounds_u8 wx⟩
  obtain ⟨x0, i0, c0, b0⟩ := at_ 4 (by omega)
  obtain ⟨x1, i1, c1, b1⟩ := at_ 5 (by omega)
  obtain ⟨x2, i2, c2, b2⟩ := at_ 6 (by omega)
  obtain ⟨x3, i3, c3, b3⟩ := at_ 7 (by omega)
  have HV : Hid (n4 p 4 = num4 x0 x1 x2 x3) := Lib.hid (by unfold n4; rw [i0, i1, i2, i3])
  have hnc := (RdSlice.len hr).2.1
  clear at_ i0 i1 i2 i3 hr
  go_enter Tryd.func33, Tryd.ntmps33
  go_wp2
  go_quiet (fail)
  go_wp2
  go_ret
  exact ⟨ret_int (by rw [HV.out]; exact or_four x0 x1 x2 x3 b0 b1 b2 b3), _, rfl⟩

set_option maxHeartbeats 1000000 in
theorem refnum_8 {w : World} {A : Option Addr} {c : Nat} {p : List Int} (hr : R1 rdBytes w (.slice A 20 c) p) :
    Calls Tryd.prog 33 #[.slice A 20 c, .int .i64 8] w fun e w' => e = .returned (.int .u32 (n4 p 8)) ∧ ∃ j, w' = w.drewN j := by
  obtain ⟨b, o, rfl, hbk⟩ := RdSlice.some_ hr (by omega)
  have at_ : ∀ i, i < 20 → ∃ x, g p i = x ∧ w.cell? ⟨b, o + i, none⟩ = some (.int .u8 x) ∧ 0 ≤ x ∧ x ≤ 255 := fun i hi => by
    obtain ⟨b', o', x, e, _, HX, wx, hc⟩ := RdSlice.atI hr (i := i) hi
    simp only [Option.some.injEq, Addr.mk.injEq] at e
    obtain ⟨rfl, rfl, _⟩ := e
    exact ⟨x, by unfold g; simp [HX.out], hc, bounds_u8 wx⟩
  obtain ⟨x0, i0, c0, b0⟩ := at_ 8 (by omega)
  obtain ⟨x1, i1, c1, b1⟩ := at_ 9 (by omega)
  obtain ⟨x2, i2, c2, b2⟩ := at_ 10 (by omega)
  obtain ⟨x3, i3, c3, b3⟩ := at_ 11 (by omega)
  have HV : Hid (n4 p 8 = num4 x0 x1 x2 x3) := Lib.hid (by unfold n4; rw [i0, i1, i2, i3])
  have hnc := (RdSlice.len hr).2.1
  clear at_ i0 i1 i2 i3 hr
  go_enter Tryd.func33, Tryd.ntmps33
  go_wp2
  go_quiet (fail)
  go_wp2
  go_ret
  exact ⟨ret_int (by rw [HV.out]; exact or_four x0 x1 x2 x3 b0 b1 b2 b3), _, rfl⟩

set_option maxHeartbeats 1000000 in
theorem refnum_12 {w : World} {A : Option Addr} {c : Nat} {p : List Int} (hr : R1 rdBytes w (.slice A 20 c) p) :
    Calls Tryd.prog 33 #[.slice A 20 c, .int .i64 12] w fun e w' => e = .returned (.int .u32 (n4 p 12)) ∧ ∃ j, w' = w.drewN j := by
  obtain ⟨b, o, rfl, hbk⟩ := RdSlice.some_ hr (by omega)
  have at_ : ∀ i, i < 20 → ∃ x, g p i = x ∧ w.cell? ⟨b, o + i, none⟩ = some (.int .u8 x) ∧ 0 ≤ x ∧ x ≤ 255 := fun i hi => by
    obtain ⟨b', o', x, e, _, HX, wx, hc⟩ := RdSlice.atI hr (i := i) hi
    simp only [Option.some.injEq, Addr.mk.injEq] at e
    obtain ⟨rfl, rfl, _⟩ := e
    exact ⟨x, by unfold g; simp [HX.out], hc, bounds_u8 wx⟩
  obtain ⟨x0, i0, c0, b0⟩ := at_ 12 (by omega)
  obtain ⟨x1, i1, c1, b1⟩ := at_ 13 (by omega)
  obtain ⟨x2, i2, c2, b2⟩ := at_ 14 (by omega)
  obtain ⟨x3, i3, c3, b3⟩ := at_ 15 (by omega)
  have HV : Hid (n4 p 12 = num4 x0 x1 x2 x3) := Lib.hid (by unfold n4; rw [i0, i1, i2, i3])
  have hnc := (RdSlice.len hr).2.1
  clear at_ i0 i1 i2 i3 hr
  go_enter Tryd.func33, Tryd.ntmps33
  go_wp2
  go_quiet (fail)
  go_wp2
  go_ret
  exact ⟨ret_int (by rw [HV.out]; exact or_four x0 x1 x2 x3 b0 b1 b2 b3), _, rfl⟩

set_option maxHeartbeats 1000000 in
theorem refnum_16 {w : World} {A : Option Addr} {c : Nat} {p : List Int} (hr : R1 rdBytes w (.slice A 20 c) p) :
    Calls Tryd.prog 33 #[.slice A 20 c, .int .i64 16] w fun e w' => e = .returned (.int .u32 (n4 p 16)) ∧ ∃ j, w' = w.drewN j := by
  obtain ⟨b, o, rfl, hbk⟩ := RdSlice.some_ hr (by omega)
  have at_ : ∀ i, i < 20 → ∃ x, g p i = x ∧ w.cell? ⟨b, o + i, none⟩ = some (.int .u8 x) ∧ 0 ≤ x ∧ x ≤ 255 := fun i hi => by
    obtain ⟨b', o', x, e, _, HX, wx, hc⟩ := RdSlice.atI hr (i := i) hi
    simp only [Option.some.injEq, Addr.mk.injEq] at e
    obtain ⟨rfl, rfl, _⟩ := e
    exact ⟨x, by unfold g; simp [HX.out], hc, bounds_u8 wx⟩
  obtain ⟨x0, i0, c0, b0⟩ := at_ 16 (by omega)
  obtain ⟨x1, i1, c1, b1⟩ := at_ 17 (by omega)
  obtain ⟨x2, i2, c2, b2⟩ := at_ 18 (by omega)
  obtain ⟨x3, i3, c3, b3⟩ := at_ 19 (by omega)
  have HV : Hid (n4 p 16 = num4 x0 x1 x2 x3) := Lib.hid (by unfold n4; rw [i0, i1, i2, i3])
  have hnc := (RdSlice.len hr).2.1
  clear at_ i0 i1 i2 i3 hr
  go_enter Tryd.func33, Tryd.ntmps33
  go_wp2
  go_quiet (fail)
  go_wp2
  go_ret
  exact ⟨ret_int (by rw [HV.out]; exact or_four x0 x1 x2 x3 b0 b1 b2 b3), _, rfl⟩
end Go.Proofs.YtimdnfakgobadaaDoor
