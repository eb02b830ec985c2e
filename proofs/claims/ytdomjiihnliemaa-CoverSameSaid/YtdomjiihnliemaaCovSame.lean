/- waywardenlaw1.CoverSame: its walk. -/
import Derived.Test.YtdomjiihnliemaaCovK
namespace Go.Proofs.Ytdomjiihnliemaa
open Go.ChangeShapes Go.WideShapes Go.ChangeAt Go.RowKit
set_option linter.unusedVariables false
set_option linter.unusedSimpArgs false
theorem drop_rev {α : Type} {l : List α} {k : Nat} {x : α} (h : l[k]? = some x) : (l.drop k).reverse = (l.drop (k + 1)).reverse ++ [x] := by
  obtain ⟨hk', e⟩ := List.getElem?_eq_some_iff.1 h
  rw [List.drop_eq_getElem_cons hk', e, List.reverse_cons]
set_option maxRecDepth 100000 in
set_option maxHeartbeats 8000000 in
theorem CoverSame_any {W : World} {A : Option Addr} {n c : Nat} {l : List Nn} {a : Int} (hl : R1 rdNets W (.slice A n c) l) (ha : is32 a) :
    Calls Try.prog 5 #[.slice A n c, .int .u32 a] W fun e w' => e = .returned (.bool true) ∧ Below W.heap.size W w' := by
  have hln := sl_form hl
  have HL := Lib.hid hl
  have HA := Lib.hid ha
  have HLN := Lib.hid hln
  clear hl ha hln
  go_enter Try.func5, Try.ntmps5
  go_wp2_with fail
  (with_reducible refine (covered_any _).mono ?_)
  rintro e w1 ⟨rfl, hb1⟩
  have HB1 := Lib.hid hb1
  have HL1 := Lib.hid (HL.out.below hb1)
  clear hb1
  go_wp2_with fail
  (with_reducible refine (Cover_any HL1.out).mono ?_)
  intro e w2 hp
  rcases hp.cases with ⟨hF, rfl, hb2⟩ | ⟨hF, A2, L, c2, hL, rfl, ho2, hb2⟩
  · have HB2 := Lib.hid (HB1.out.trans (hb2.mono HB1.out.size))
    clear hp hF hb2
    go_wp2
    go_ret
    exact ⟨rfl, HB2.out⟩
  · have HF := Lib.hid hF
    have HV := Lib.hid (covF_zero.1 hF)
    have HLL := Lib.hid hL
    have HO2 := Lib.hid ho2
    have HB2 := Lib.hid (HB1.out.trans (hb2.mono HB1.out.size))
    have HL2 := Lib.hid (HL1.out.below hb2)
    have hn64 : n ≤ 64 := by rw [← HLN.out]; exact HV.out.2
    have hLn : L ≤ n := by rw [hL, ← HLN.out]; exact (cover_all HV.out.1).2.2
    have hq : IntKind.i64.wrap ((n : Int) - 1) = (n : Int) - 1 := IntWalk.i64_in _ ⟨by omega, by omega⟩
    clear hp hF hL ho2 hb2
    go_wp2
    go_loopw [8, 9] (fun vv iv wr => ∃ (k : Nat) (z : Int) (A8 : Option Addr) (L8 c8 : Nat), k ≤ n ∧ vv = .slice A8 L8 c8 ∧ iv = .int .i64 z ∧ Hid (z = (k : Int) - 1) ∧ Hid (OwnN wr w2.heap.size (.slice A8 L8 c8) (l.drop k).reverse) ∧ Below w2.heap.size w2 wr) (fun _ iv _ => (intOf iv + 1).toNat)
    case atStart => exact ⟨n, (n : Int) - 1, none, 0, 0, Nat.le_refl _, rfl, rfl, Lib.hid rfl, Lib.hid (by rw [List.drop_eq_nil_of_le (by rw [HLN.out]; exact Nat.le_refl _)]; exact OwnN.nil_ _ _), Below.refl _ _⟩
    case round =>
      obtain ⟨k, z, A8, L8, c8, hk, rfl, rfl, HZ, HO8, hbr⟩ := hrel
      have HB := Lib.hid hbr
      have s1 := hbr.size
      cases k with
      | succ j =>
        obtain rfl : z = (j : Int) := by have := HZ.out; omega
        obtain ⟨b, o, ⟨x, x'⟩, rfl, hb, HX, hwf, e0, e1⟩ := RdSlice.atN HL2.out (k := j) (by omega)
        have d0 := (hbr.cell (p := ⟨b, o + j * 2, none⟩) hb).trans e0
        have d1 := (hbr.cell (p := ⟨b, o + j * 2 + 1, none⟩) hb).trans e1
        have i0 : (0 : Int) ≤ (j : Int) := by omega
        have i1 : (j : Int) < (n : Int) := by omega
        have q1 : IntKind.i64.wrap ((j : Int) - 1) = (j : Int) - 1 := IntWalk.i64_in _ ⟨by omega, by omega⟩
        have HWF := Lib.hid hwf
        have HD := Lib.hid (drop_rev HX.out)
        have hlen : (l.drop (j + 1)).reverse.length ≤ 8796093022000 := by rw [List.length_reverse, List.length_drop, HLN.out]; omega
        clear hbr e0 e1 hwf
        go_wp2_with (first
          | (at_builtin; go_loud (refine wpList_append_net rfl _ _ 22 Try.underlying22 rfl w2.heap.size _ _ rfl (HO8.out.alloc _) wr.heap.size (x, x') 31 rfl (heap_alloc_new wr _) HWF.out hlen (by simp; omega) ?_); intro v9 w9 hown9 hgrow9; have HB9 := Lib.hid (hgrow9.below (HB.out.trans ((below_a1 wr _).mono s1)) (HO8.out.alloc _).1 (Nat.le_refl _) (by simp; omega)); rw [← HD.out] at hown9; obtain ⟨A9, c9, rfl⟩ := hown9.form; obtain ⟨L9, hL9⟩ : ∃ L9, (l.drop j).reverse.length = L9 := ⟨_, rfl⟩; rw [hL9] at hown9 ⊢; have HO9 := Lib.hid hown9; clear hown9 hgrow9 hL9)
          | fail)
        go_roundw
        case rel => exact ⟨j, (j : Int) - 1, A9, L9, c9, by omega, rfl, rfl, Lib.hid rfl, HO9, HB9.out⟩
        case measure => simp [intOf]; try omega
      | zero =>
        obtain rfl : z = -1 := by have := HZ.out; omega
        have HOB : Hid (OwnN wr w2.heap.size (.slice A8 L8 c8) l.reverse) := HO8
        have hLB : L8 = n := by have := sl_form HOB.out.read; rw [List.length_reverse, HLN.out] at this; exact this.symm
        subst hLB
        have HOC := Lib.hid (show R1 rdNets wr (.slice A2 L c2) (coverV l) from HO2.out.read.below HB.out)
        have HRB := Lib.hid (show R1 rdNets wr (.slice A8 L8 c8) l.reverse from HOB.out.read)
        have HBW := Lib.hid (HB2.out.trans (hbr.mono HB2.out.size))
        have HC2 : Hid (covF (coverV l) = 0) := Lib.hid (cov_of_cov HF.out)
        have HC3 : Hid (covF l.reverse = 0) := Lib.hid (covF_zero.2 ⟨fun x hx => HV.out.1 x (List.mem_reverse.1 hx), by rw [List.length_reverse]; exact HV.out.2⟩)
        clear hbr HZ HO8 hq
        go_wp2_with fail
        (with_reducible refine (Cover_any HOC.out).mono ?_)
        intro e w3 hp
        rcases hp.cases with ⟨hF, -, -⟩ | ⟨-, A3, L3, c3, -, rfl, ho3, hb3⟩
        · exact absurd HC2.out hF
        rw [cover_again HV.out.1] at ho3
        have hL3 : L3 = L := by have := sl_form ho3.read; rw [← this, HLL.out]
        subst hL3
        have HB3 := Lib.hid (HBW.out.trans (hb3.mono HBW.out.size))
        have HO3 := Lib.hid ho3
        have HRB3 := Lib.hid (HRB.out.below hb3)
        have HOC3 := Lib.hid (HOC.out.below hb3)
        clear hp ho3 hb3
        go_wp2_with fail
        (with_reducible refine (Cover_any HRB3.out).mono ?_)
        intro e w4 hp
        rcases hp.cases with ⟨hF, -, -⟩ | ⟨-, A4, L4, c4, -, rfl, ho4, hb4⟩
        · exact absurd HC3.out hF
        rw [cover_back HV.out.1] at ho4
        have hL4 : L4 = L3 := by have := sl_form ho4.read; rw [← this, HLL.out]
        subst hL4
        have HB4 := Lib.hid (HB3.out.trans (hb4.mono HB3.out.size))
        have HO4 := Lib.hid (show rdNets w4 (· < w4.heap.size) [.slice A4 L4 c4] (coverV l) from ho4.read)
        have HO34 := Lib.hid (show rdNets w4 (· < w4.heap.size) [.slice A3 L4 c3] (coverV l) from HO3.out.read.below hb4)
        have HOC4 := Lib.hid (show rdNets w4 (· < w4.heap.size) [.slice A2 L4 c2] (coverV l) from HOC3.out.below hb4)
        clear hp ho4 hb4
        go_wp2_with fail
        (with_reducible refine (Nets_any HO34.out HOC4.out (by simp : decide (coverV l = coverV l) = true)).mono ?_)
        rintro e w5 ⟨rfl, d5, hw5⟩
        have hb5 : Below w4.heap.size w4 w5 := by rw [hw5]; exact below_drewN (Below.refl _ _) _
        have HB5 := Lib.hid (HB4.out.trans (hb5.mono HB4.out.size))
        have HO45 := Lib.hid (show rdNets w5 (· < w5.heap.size) [.slice A4 L4 c4] (coverV l) from rd_below HO4.out hb5)
        have HOC5 := Lib.hid (show rdNets w5 (· < w5.heap.size) [.slice A2 L4 c2] (coverV l) from rd_below HOC4.out hb5)
        clear hb5 hw5
        go_wp2_with fail
        (with_reducible refine (Nets_any HO45.out HOC5.out (by simp : decide (coverV l = coverV l) = true)).mono ?_)
        rintro e w6 ⟨rfl, d6, hw6⟩
        have hb6 : Below w5.heap.size w5 w6 := by rw [hw6]; exact below_drewN (Below.refl _ _) _
        have HB6 := Lib.hid (HB5.out.trans (hb6.mono HB5.out.size))
        have HOC6 := Lib.hid (show R1 rdNets w6 (.slice A2 L4 c2) (coverV l) from rd_below HOC5.out hb6)
        have HL6 := Lib.hid (HL.out.below HB6.out)
        clear hb6 hw6
        go_wp2_with fail
        (with_reducible refine (CHas_any HA.out HOC6.out).mono ?_)
        rintro e w7 ⟨rfl, hb7⟩
        have HB7 := Lib.hid (HB6.out.trans (hb7.mono HB6.out.size))
        have HL7 := Lib.hid (HL6.out.below hb7)
        have HH := Lib.hid ((cover_all HV.out.1).2.1 a)
        obtain ⟨h, hh⟩ : ∃ h, hasL l a = h := ⟨_, rfl⟩
        rw [HH.out, hh]
        have HHH := Lib.hid hh
        clear hb7 hh HH
        go_wp2_with fail
        (with_reducible refine (CHas_any HA.out HL7.out).mono ?_)
        rw [HHH.out]
        rintro e w8 ⟨rfl, hb8⟩
        have HB8 := Lib.hid (HB7.out.trans (hb8.mono HB7.out.size))
        have t1 : (h == h) = true := by simp
        have t2 : (L4 : Int) ≤ (L8 : Int) := by omega
        clear hb8
        go_wp2
        go_ret
        exact ⟨rfl, HB8.out⟩
theorem CoverSame_walk (w : World) (A : Option Addr) (n c : Nat) (l : List Nn) (rr : RV rdNets w (.slice A n c) l) (q : l.length * 16 ≤ reachBytes ∧ ∀ x ∈ l, True ∧ True) (a : Int) (ba : 0 ≤ a ∧ a ≤ 4294967295) :
    Calls Try.prog 5 #[.slice A n c, .int .u32 a] w fun e w' => e = .returned (.bool true) ∧ Below w.heap.size w w' :=
  CoverSame_any rr ba
end Go.Proofs.Ytdomjiihnliemaa
