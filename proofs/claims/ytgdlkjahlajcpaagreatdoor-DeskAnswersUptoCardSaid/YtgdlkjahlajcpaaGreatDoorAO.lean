/- What the law on tables holds beside the table: the reference's table in a block of the law's own. cover.Has and cover.Size. waywardenlaw1.covered, and what the laws on covers share. The reference's covers: In, Half, NetsFault, Full and CoverOf, as contracts. The reference's CoverOf, as a contract. W -/
import Derived.Test.YtgdlkjahlajcpaaGreatDoorAN
import Derived.Test.YtgdlkjahlajcpaaGreatDoorAK
import Derived.Test.YtgdlkjahlajcpaaGreatDoorAL
import Derived.Test.YtgdlkjahlajcpaaGreatDoorAJ
import Derived.Lib.QuietBelow
import Derived.BigQuiet
import Derived.Deep.RegionHeld3
import Derived.Deep.DeepCutAuto
import Derived.Test.YtgdlkjahlajcpaaGreatDoorAH
namespace Go.Proofs.YtgdlkjahlajcpaaGreatDoor
open Go.ChangeShapes Go.WideShapes Go.ChangeAt Go.RowKit
set_option linter.unusedVariables false
set_option linter.unusedSimpArgs false
theorem OwnI.readS {w : World} {base : Nat} {v : Value} {xs : List Int} (h : OwnI 3 w base v xs) {S : Nat → Prop} (hS : ∀ g, base ≤ g → g < w.heap.size → S g) : RdSlice 1 (rdInt .i64) w S [v] xs := by
  obtain ⟨A, c, rfl⟩ := h.form
  refine RdSlice.of_own (xs := xs) h.1 rfl (fun g hg => hS g (own_blk h.1 g hg).1 (own_blk h.1 g hg).2) (fun i x hi => ⟨[.int .i64 x], rfl, ⟨rfl, h.2 x (List.mem_of_getElem? hi)⟩, fun j u hu => ?_⟩)
  have hj : j < 1 := by have := (List.getElem?_eq_some_iff.1 hu).1; simpa using this
  obtain rfl : j = 0 := by omega
  simp at hu ⊢
  rw [hi]; simpa using hu
structure RwS (M : Nat) (S : Nat → Prop) (w : World) (m : List (Nt × Int)) (A : Option Addr) (n c : Nat) (A' : Option Addr) (n' c' : Nat) : Prop where
  nets : rdNets w (fun g => S g ∧ M < g) [.slice A n c] (keysM m)
  vals : RdSlice 1 (rdInt .i64) w (fun g => S g ∧ M < g) [.slice A' n' c'] (valsM m)
structure RB (M : Nat) (S : Nat → Prop) (w : World) (P : Nat) (m : List (Nt × Int)) (A : Option Addr) (n c : Nat) (A' : Option Addr) (n' c' : Nat) : Prop where
  inS : S P
  blk : w.heap[P]? = some (.cells #[.slice A n c, .slice A' n' c'] 29 (0, 0))
  row : RwS M S w m A n c A' n' c'
section
variable {M P : Nat} {S S' : Nat → Prop} {w w' W : World} {m m0 mt : List (Nt × Int)} {A A' B B' : Option Addr} {n c n' c' k d k' d' T : Nat}
theorem RwS.kept (h : RwS M S w m A n c A' n' c') (k : KeptS S w w') : RwS M S w' m A n c A' n' c' :=
  ⟨RdLaw.keep h.nets fun p hp => World.cell?_of_block (k p.block hp.1), RdLaw.keep h.vals fun p hp => World.cell?_of_block (k p.block hp.1)⟩
theorem RwS.more (h : RwS M S w m A n c A' n' c') (hs : ∀ g, S g → S' g) : RwS M S' w m A n c A' n' c' :=
  ⟨RdLaw.mono h.nets fun g hg => ⟨hs g hg.1, hg.2⟩, RdLaw.mono h.vals fun g hg => ⟨hs g hg.1, hg.2⟩⟩
theorem RB.kept (h : RB M S w P m A n c A' n' c') (k : KeptS S w w') : RB M S w' P m A n c A' n' c' :=
  ⟨h.inS, k.blk h.inS h.blk, h.row.kept k⟩
theorem RB.more (h : RB M S w P m A n c A' n' c') (hs : ∀ g, S g → S' g) : RB M S' w P m A n c A' n' c' := ⟨hs _ h.inS, h.blk, h.row.more hs⟩
theorem RwS.r1 (h : RwS M S w m A n c A' n' c') (hS : ∀ g, S g → g < w.heap.size) : R1 rdNets w (.slice A n c) (keysM m) := RdLaw.mono h.nets fun g hg => hS g hg.1
theorem RwS.v1 (h : RwS M S w m A n c A' n' c') (hS : ∀ g, S g → g < w.heap.size) : R1 (RdSlice 1 (rdInt .i64)) w (.slice A' n' c') (valsM m) := RdLaw.mono h.vals fun g hg => hS g hg.1
theorem RwS.own {base : Nat} (h1 : OwnN w base (.slice A n c) (keysM m)) (h2 : OwnI 3 w base (.slice A' n' c') (valsM m)) (hS : ∀ g, base ≤ g → g < w.heap.size → S g) (hM : M < base) : RwS M S w m A n c A' n' c' :=
  ⟨h1.readS fun g hg hl => ⟨hS g hg hl, by omega⟩, h2.readS fun g hg hl => ⟨hS g hg hl, by omega⟩⟩
theorem RB.store (h : RwS M S w m B k d B' k' d') (hM : RB M S w M m0 A n c A' n' c') : RB M S ((w.setCell ⟨M, 0, none⟩ (.slice B k d)).setCell ⟨M, 1, none⟩ (.slice B' k' d')) M m B k d B' k' d' := by
  have e : ∀ p : Addr, S p.block ∧ M < p.block → ((w.setCell ⟨M, 0, none⟩ (.slice B k d)).setCell ⟨M, 1, none⟩ (.slice B' k' d')).cell? p = w.cell? p := fun p hp => by
    have hne : p.block ≠ M := by omega
    exact World.cell?_of_block ((heap_setCell_other _ _ _ _ hne).trans (heap_setCell_other _ _ _ _ hne))
  exact ⟨hM.inS, set2_block _ _ hM.blk, RdLaw.keep h.nets e, RdLaw.keep h.vals e⟩
theorem Tk.store {u v : Value} (h : Tk W T mt S w) (hM : S M) (hW : W.heap.size ≤ M) : Tk W T mt S ((w.setCell ⟨M, 0, none⟩ u).setCell ⟨M, 1, none⟩ v) := (h.setCell hM hW u).setCell hM hW v
theorem RB.cells (h : RB M S w P m A n c A' n' c') : w.cell? ⟨P, 0, none⟩ = some (.slice A n c) ∧ w.cell? ⟨P, 1, none⟩ = some (.slice A' n' c') := by
  obtain ⟨e0, e1, _, _⟩ := row2 h.blk
  exact ⟨e0, e1⟩
end
theorem put_eq {m : List (Nt × Int)} {x : Nt} {v : Int} (h : netF x = 0) (h2 : ¬ (look m x = none ∧ m.length = 64)) : putE m x = 0 ∧ putT m x v = putM m x v := by
  have e : putE m x = 0 := by unfold putE; rw [if_pos h, if_neg h2]
  exact ⟨e, by unfold putT; rw [if_pos e]⟩
theorem put_full4 {m : List (Nt × Int)} {x : Nt} {v : Int} (h : netF x = 0) (h2 : look m x = none ∧ m.length = 64) : putE m x = 4 ∧ putT m x v = m := by
  have e : putE m x = 4 := by unfold putE; rw [if_pos h, if_pos h2]
  exact ⟨e, by unfold putT; rw [if_neg (by rw [e]; decide)]⟩
theorem get_none {m : List (Nt × Int)} {x : Nt} (h : netF x = 0) (h2 : look m x = none) : getE m x = 2 ∧ getV m x = 0 ∧ dropT m x = m := by
  have e : getE m x = 2 := by unfold getE; rw [if_pos h, if_pos h2]
  exact ⟨e, by unfold getV; rw [if_pos h, h2]; rfl, by unfold dropT; rw [if_neg (by rw [e]; decide)]⟩
theorem get_some {m : List (Nt × Int)} {x : Nt} {v : Int} (h : netF x = 0) (h2 : look m x = some v) : getE m x = 0 ∧ getV m x = v ∧ dropT m x = delM m x := by
  have e : getE m x = 0 := by unfold getE; rw [if_pos h, if_neg (by rw [h2]; simp)]
  exact ⟨e, by unfold getV; rw [if_pos h, h2]; rfl, by unfold dropT; rw [if_pos e]⟩
section
variable {M P : Nat} {S S' : Nat → Prop} {w w' W : World} {m m0 mt mP : List (Nt × Int)} {A A' B B' : Option Addr} {n c n' c' k d k' d' T : Nat} {e : Ending}
end
end Go.Proofs.YtgdlkjahlajcpaaGreatDoor
namespace Go.Proofs.YtgdlkjahlajcpaaGreatDoor
open Go.ChangeShapes Go.WideShapes Go.ChangeAt Go.RowKit
set_option linter.unusedVariables false
set_option linter.unusedSimpArgs false
def sizV (l : List Nn) : Int := if covF l = 0 then sizL (coverV l) else 0
def SizePost (w : World) (l : List Nn) (e : Ending) (w' : World) : Prop := e = .returned (.tuple #[.int .i64 (sizV l), errV (covF l)]) ∧ Below w.heap.size w w'
theorem SizePost.mk {w w' : World} {l : List Nn} {q : Int} {u v : Value} (hu : u = .int .i64 q) (hv : v = errV (covF l)) (hq : sizV l = q) (hb : Below w.heap.size w w') : SizePost w l (.returned (.tuple #[u, v])) w' := by
  subst hu; subst hv; subst hq; exact ⟨rfl, hb⟩
end Go.Proofs.YtgdlkjahlajcpaaGreatDoor
namespace Go.Proofs.YtgdlkjahlajcpaaGreatDoor
open Go.ChangeShapes Go.WideShapes Go.ChangeAt Go.RowKit
set_option linter.unusedVariables false
set_option linter.unusedSimpArgs false
theorem new_nets {w : World} {us : Array Value} {l : List Nn} {n : Nat} (h : us.toList = l.flatMap nC) (hn : l.length = n) (hm : n ≤ 1000) (hw : ∀ x ∈ l, wfN x) :
    OwnN (w.alloc (.cells us 47)) w.heap.size (.slice (some ⟨w.heap.size, 0, none⟩) n n) l := by
  subst hn
  have hs : us.size = l.length * 2 := by rw [← Array.length_toList, h, nC_len]
  refine ⟨⟨nC_len l, .inr ⟨w.heap.size, l.length, us, rfl, Nat.le_refl _, heap_alloc_new w _, Nat.le_refl _, by simp only [maxLen]; omega, hs, ?_⟩⟩, hw⟩
  rw [h, List.take_of_length_le (by rw [nC_len]; exact Nat.le_refl _)]
theorem CovPost.cases {w w' : World} {l : List Nn} {e : Ending} (h : CovPost w l e w') : (covF l ≠ 0 ∧ e = .returned (.tuple #[.slice none 0 0, .iface 35 (.int .i64 (covF l))]) ∧ Below w.heap.size w w') ∨
    (covF l = 0 ∧ ∃ A L c, L = (coverV l).length ∧ e = .returned (.tuple #[.slice A L c, .nilIface]) ∧ OwnN w' w.heap.size (.slice A L c) (coverV l) ∧ Below w.heap.size w w') := by
  obtain ⟨v, he, h1, h2, hb⟩ := h
  by_cases hF : covF l = 0
  · right
    have ho := h2 hF
    obtain ⟨A, c, rfl⟩ := ho.form
    exact ⟨hF, A, _, c, rfl, by rw [he, hF]; rfl, ho, hb⟩
  · left
    rw [h1 hF, errV_ne hF] at he
    exact ⟨hF, he, hb⟩
end Go.Proofs.YtgdlkjahlajcpaaGreatDoor
namespace Go.Proofs.YtgdlkjahlajcpaaGreatDoor
open Go.ChangeShapes Go.WideShapes Go.ChangeAt Go.RowKit
set_option linter.unusedVariables false
set_option linter.unusedSimpArgs false
theorem rin_c {w : World} {a n b m : Int} {r : Bool} (ha : is32 a) (hb : is32 b) (hr : inB (a, n) (b, m) = r) (d : Nat) (os : Array Obj) :
    Calls Tryz.prog 32 #[.agg #[.int .u32 a, .int .i64 n], .agg #[.int .u32 b, .int .i64 m]] (Sort.grow (redrawn w d) os) fun e w'' => e = .returned (.bool r) ∧ ∃ p : Regrown, w'' = Sort.grow (redrawn w p.d) p.os :=
  Calls.regrown_of ((RIn_any a n b m _ ha hb).mono fun e w' ⟨he, hb⟩ => ⟨by rw [he, hr], hb⟩)
theorem dropC {l : List Nn} {k : Nat} {x : Nn} (h : l[k]? = some x) : l.drop k = x :: l.drop (k + 1) := by
  obtain ⟨hk', e⟩ := List.getElem?_eq_some_iff.1 h
  rw [List.drop_eq_getElem_cons hk', e]
theorem full_zero (l : List Nn) (x : Nn) : fullR l 0 x = inR l x := rfl
theorem full_succ (l : List Nn) (k : Nat) (x : Nn) : fullR l (k + 1) x = (inR l x || ((l.any fun y => inB y x) && fullR l k (halfP x) && fullR l k (halfQ x))) := rfl
theorem halfQ_lit (a : Int) (j : Nat) : halfQ (a, (j : Int)) = (a + lowI (j + 1), (j : Int) + 1) := by unfold halfQ; simp
abbrev FullC (l : List Nn) (n c : Nat) (k : Nat) : Prop := ∀ (w : World) (A : Option Addr) (a m : Int), R1 rdNets w (.slice A n c) l → is32 a → netF (a, m) = 0 → m = 32 - (k : Int) → k ≤ 32 →
    Calls Tryz.prog 33 #[.slice A n c, .agg #[.int .u32 a, .int .i64 m]] w fun e w' => e = .returned (.bool (fullR l k (a, m))) ∧ Below w.heap.size w w'
set_option maxRecDepth 100000 in
set_option maxHeartbeats 8000000 in
theorem Full_body {l : List Nn} {n c : Nat} (k : Nat) (ih : ∀ j, k = j + 1 → FullC l n c j) : FullC l n c k := by
  intro w A a m hr ha hn hm hk
  obtain ⟨hln, hnc, hcm⟩ := RdSlice.len hr
  have hnm : n ≤ 9223372036854775807 := by unfold maxLen at hcm; omega
  have HR := Lib.hid hr
  have HA := Lib.hid ha
  have HZ := Lib.hid hn
  have HM := Lib.hid hm
  have HK32 := Lib.hid hk
  have HLN := Lib.hid hln
  have HIH := Lib.hid ih
  obtain ⟨IN, hIN⟩ : ∃ IN, inR l (a, m) = IN := ⟨_, rfl⟩
  obtain ⟨SO, hSO⟩ : ∃ SO, (l.any fun x => inB x (a, m)) = SO := ⟨_, rfl⟩
  have HIN := Lib.hid hIN
  have HSO := Lib.hid hSO
  obtain ⟨R, hR⟩ : ∃ R, fullR l k (a, m) = R := ⟨_, rfl⟩
  have HRR := Lib.hid hR
  rw [hR]
  have HFi : Hid (IN = true → R = true) := Lib.hid (fun h => by
    rw [← hR]
    cases k with
    | zero => rw [full_zero, hIN, h]
    | succ j => rw [full_succ, hIN, h]; rfl)
  have HB0 := Lib.hid (below_a1 w (.cells #[.int .u32 a, .int .i64 m] 47))
  have HX0 := Lib.hid (heap_alloc_new w (.cells #[.int .u32 a, .int .i64 m] 47))
  clear hr ha hn hm hk hln hnc hcm ih hIN hSO hR
  go_enter Tryz.func33, Tryz.ntmps33
  go_wp2
  go_loopw [5, 6] (fun sv iv wr => ∃ (i : Nat) (s : Bool), i ≤ n ∧ iv = .int .i64 i ∧ sv = .bool s ∧ Hid ((s || (l.drop i).any fun x => inB x (a, m)) = SO) ∧ Hid (inR (l.drop i) (a, m) = IN) ∧ Below (w.heap.size + 1) (w.alloc (.cells #[.int .u32 a, .int .i64 m] 47)) wr) (fun _ iv _ => n - (intOf iv).toNat)
  case atStart => exact ⟨0, false, Nat.zero_le _, rfl, rfl, Lib.hid (by simpa using HSO.out), Lib.hid (by simpa using HIN.out), Below.refl _ _⟩
  case round =>
    obtain ⟨i, s, hi, rfl, rfl, HS, HI, hbr⟩ := hrel
    have HBR := Lib.hid hbr
    have HB := Lib.hid (HB0.out.trans (hbr.mono (by omega)))
    have s1 := hbr.size
    rw [World.size_alloc] at s1
    have hXr := below_block hbr (Nat.lt_succ_self _) HX0.out
    obtain ⟨z0, z1, _, _⟩ := row2 hXr
    have hzz := size_of_block hXr
    by_cases hlt : i < n
    · obtain ⟨b, o, ⟨x, x'⟩, rfl, hb, HX, ⟨wx, wy⟩, c0, c1⟩ := RdSlice.atN HR.out hlt
      have d0 := (HB.out.cell (p := ⟨b, o + i * 2, none⟩) hb).trans c0
      have d1 := (HB.out.cell (p := ⟨b, o + i * 2 + 1, none⟩) hb).trans c1
      have D0 := Lib.hid d0
      have D1 := Lib.hid d1
      have Z0 := Lib.hid z0
      have Z1 := Lib.hid z1
      have hbw : b < wr.heap.size := by omega
      have i0 : (0 : Int) ≤ (i : Int) := by omega
      have i1 : (i : Int) < (n : Int) := by omega
      have HIx : Hid (is32 x) := Lib.hid (bounds_u32 wx)
      have HD := Lib.hid (dropC HX.out)
      obtain ⟨p, hp⟩ : ∃ p, inB (a, m) (x, x') = p := ⟨_, rfl⟩
      obtain ⟨q, hq⟩ : ∃ q, inB (x, x') (a, m) = q := ⟨_, rfl⟩
      have HP := Lib.hid hp
      have HQ := Lib.hid hq
      have j0 := fun d os => cell_regrown d0 d os
      have j1 := fun d os => cell_regrown d1 d os
      have j2 := fun d os => cell_regrown z0 d os
      have j3 := fun d os => cell_regrown z1 d os
      clear c0 c1 wx wy hbr hp hq d0 d1 z0 z1 hXr
      go_wp2
      refine wp_region_quiet_below (by kernel_rfl) (by kernel_rfl) ?_
      repeat (go_big_quiet_step (first | (with_reducible exact rin_c HA.out HIx.out HP.out _ _) | fail))
      refine wpQuiet_nil ?_
      intro w6 hw'
      obtain ⟨⟨dq, osq⟩, hw''⟩ := hw'
      have hb6 := (show Below wr.heap.size wr w6 by rw [hw'']; exact below_regrown wr dq osq)
      have HB6 := Lib.hid (HB.out.trans (hb6.mono (by omega)))
      have HBR6 := Lib.hid (HBR.out.trans (hb6.mono (by omega)))
      clear hw'' j0 j1 j2 j3
      cases p with
      | true =>
        have HRT : Hid (R = true) := Lib.hid (HFi.out (by
          rw [← HI.out, HD.out]; unfold inR; rw [List.any_cons, HP.out]; rfl))
        clear hb6
        go_wp2
        go_ret
        exact ⟨by rw [HRT.out]; rfl, HB6.out⟩
      | false =>
        have HI2 : Hid (inR (l.drop (i + 1)) (a, m) = IN) := Lib.hid (by
          rw [← HI.out, HD.out]; unfold inR; rw [List.any_cons, HP.out]; rfl)
        have d0 := (hb6.cell (p := ⟨b, o + i * 2, none⟩) hbw).trans D0.out
        have d1 := (hb6.cell (p := ⟨b, o + i * 2 + 1, none⟩) hbw).trans D1.out
        have z0 := (hb6.cell (p := ⟨w.heap.size, 0, none⟩) hzz).trans Z0.out
        have z1 := (hb6.cell (p := ⟨w.heap.size, 1, none⟩) hzz).trans Z1.out
        have j0 := fun d os => cell_regrown d0 d os
        have j1 := fun d os => cell_regrown d1 d os
        have j2 := fun d os => cell_regrown z0 d os
        have j3 := fun d os => cell_regrown z1 d os
        have s6 : w.heap.size + 1 ≤ w6.heap.size := by have := hb6.size; omega
        clear hb6 d0 d1 z0 z1
        cases s with
        | true =>
          have HS2 : Hid ((true || (l.drop (i + 1)).any fun x => inB x (a, m)) = SO) := Lib.hid (by rw [← HS.out]; rfl)
          go_wp2
          refine wp_region_quiet_below (by kernel_rfl) (by kernel_rfl) ?_
          repeat (go_big_quiet_step (first | (with_reducible exact rin_c HIx.out HA.out HQ.out _ _) | fail))
          refine wpQuiet_nil ?_
          intro w7 hw'
          obtain ⟨⟨dq, osq⟩, hw''⟩ := hw'
          have hb7 := (show Below w6.heap.size w6 w7 by rw [hw'']; exact below_regrown w6 dq osq)
          have HBR7 := Lib.hid (HBR6.out.trans (hb7.mono s6))
          clear hw'' j0 j1 j2 j3 hb7
          go_wp2
          go_roundw
          case rel => exact ⟨i + 1, true, by omega, by go_num, rfl, HS2, HI2, HBR7.out⟩
          case measure => simp [intOf]; omega
        | false =>
          have HS2 : Hid ((q || (l.drop (i + 1)).any fun x => inB x (a, m)) = SO) := Lib.hid (by rw [← HS.out, HD.out, List.any_cons, HQ.out]; rfl)
          go_wp2
          refine wp_region_quiet_below (by kernel_rfl) (by kernel_rfl) ?_
          repeat (go_big_quiet_step (first | (with_reducible exact rin_c HIx.out HA.out HQ.out _ _) | fail))
          refine wpQuiet_nil ?_
          intro w7 hw'
          obtain ⟨⟨dq, osq⟩, hw''⟩ := hw'
          have hb7 := (show Below w6.heap.size w6 w7 by rw [hw'']; exact below_regrown w6 dq osq)
          have HBR7 := Lib.hid (HBR6.out.trans (hb7.mono s6))
          clear hw'' j0 j1 j2 j3 hb7
          go_wp2
          go_roundw
          case rel => exact ⟨i + 1, q, by omega, by go_num, rfl, HS2, HI2, HBR7.out⟩
          case measure => simp [intOf]; omega
    · have HSE : Hid (s = SO) := Lib.hid (by
        have h := HS.out
        rw [List.drop_eq_nil_of_le (by rw [← HLN.out]; omega)] at h
        simpa using h)
      have HIE : Hid (IN = false) := Lib.hid (by
        have h := HI.out
        rw [List.drop_eq_nil_of_le (by rw [← HLN.out]; omega)] at h
        rw [← h]; rfl)
      clear hbr
      cases s with
      | false =>
        have HRF : Hid (R = false) := Lib.hid (by
          rw [← HRR.out]
          cases k with
          | zero => rw [full_zero, HIN.out, HIE.out]
          | succ j => rw [full_succ, HIN.out, HIE.out, HSO.out, ← HSE.out]; rfl)
        go_wp2
        go_ret
        exact ⟨by rw [HRF.out]; rfl, HB.out⟩
      | true =>
        cases k with
        | zero =>
          obtain rfl : m = 32 := by have := HM.out; omega
          have HRF : Hid (R = false) := Lib.hid (by rw [← HRR.out, full_zero, HIN.out, HIE.out])
          go_wp2
          go_ret
          exact ⟨by rw [HRF.out]; rfl, HB.out⟩
        | succ j =>
          obtain ⟨t, rfl⟩ : ∃ t : Nat, m = (t : Int) := ⟨m.toNat, by have := HM.out; have := HK32.out; omega⟩
          have ht : t < 32 := by have := HM.out; omega
          have hm32 : (t : Int) < 32 := by omega
          have HT := Lib.hid ht
          have HP1 : Hid (netF (a, (t : Int) + 1) = 0) := Lib.hid (half_p ht HZ.out)
          have HQ1 : Hid (netF (a + lowI (t + 1), (t : Int) + 1) = 0) := Lib.hid (half_q ht HZ.out)
          have HIq : Hid (is32 (a + lowI (t + 1))) := Lib.hid (by
            have h1 := HA.out
            have h2 := net_end HZ.out h1
            have h3 : szN (a, (t : Int)) = lowI t := by unfold szN; simp
            have h4 := low_succ ht
            have h5 := lowI_pos (t + 1)
            rw [h3] at h2
            simp only at h2
            have := h1.1
            exact ⟨by omega, by omega⟩)
          have HMt : Hid ((t : Int) + 1 = 32 - (j : Int)) := Lib.hid (by have := HM.out; omega)
          have HJ : Hid (j ≤ 32) := Lib.hid (by have := HK32.out; omega)
          have HFJ : Hid (FullC l n c j) := Lib.hid (HIH.out j rfl)
          obtain ⟨r1, hr1⟩ : ∃ r1, fullR l j (a, (t : Int) + 1) = r1 := ⟨_, rfl⟩
          obtain ⟨r2, hr2⟩ : ∃ r2, fullR l j (a + lowI (t + 1), (t : Int) + 1) = r2 := ⟨_, rfl⟩
          have HR1 := Lib.hid hr1
          have HR2 := Lib.hid hr2
          have HRE : Hid (R = (r1 && r2)) := Lib.hid (by
            have hP : halfP (a, (t : Int)) = (a, (t : Int) + 1) := rfl
            rw [← HRR.out, full_succ, HIN.out, HIE.out, HSO.out, ← HSE.out, halfQ_lit, hP, hr1, hr2]; rfl)
          have HRr := Lib.hid (HR.out.below HB.out)
          have Z0 := Lib.hid z0
          have Z1 := Lib.hid z1
          clear hr1 hr2 ht
          go_wp2_with fail
          go_at_call 34
          (with_reducible refine (Half0 a t _ HT.out).mono ?_)
          rintro e w2 ⟨rfl, hb2⟩
          have HB2 := Lib.hid (HB.out.trans (hb2.mono (by omega)))
          have HR2w := Lib.hid (HRr.out.below hb2)
          have s2 := hb2.size
          have z0 := (hb2.cell (p := ⟨w.heap.size, 0, none⟩) hzz).trans Z0.out
          have z1 := (hb2.cell (p := ⟨w.heap.size, 1, none⟩) hzz).trans Z1.out
          have Z2 := Lib.hid z0
          have Z3 := Lib.hid z1
          clear hb2
          go_wp2_with fail
          go_at_call 33
          (with_reducible refine (HFJ.out _ _ _ _ HR2w.out HA.out HP1.out HMt.out HJ.out).mono ?_)
          rw [HR1.out]
          rintro e w3 ⟨rfl, hb3⟩
          have HB3 := Lib.hid (HB2.out.trans (hb3.mono (by omega)))
          have HR3w := Lib.hid (HR2w.out.below hb3)
          have s3 := hb3.size
          have z0 := (hb3.cell (p := ⟨w.heap.size, 0, none⟩) (by simp only; omega)).trans Z2.out
          have z1 := (hb3.cell (p := ⟨w.heap.size, 1, none⟩) (by simp only; omega)).trans Z3.out
          clear hb3
          cases r1 with
          | false =>
            have HRF : Hid (R = false) := HRE
            go_wp2
            go_ret
            exact ⟨by rw [HRF.out]; rfl, HB3.out⟩
          | true =>
            have HRF : Hid (R = r2) := HRE
            go_wp2_with fail
            go_at_call 34
            (with_reducible refine (Half1 a t _ HT.out HA.out HZ.out).mono ?_)
            rintro e w4 ⟨rfl, hb4⟩
            have HB4 := Lib.hid (HB3.out.trans (hb4.mono (by omega)))
            have HR4w := Lib.hid (HR3w.out.below hb4)
            have s4 := hb4.size
            clear hb4
            go_wp2_with fail
            go_at_call 33
            (with_reducible refine (HFJ.out _ _ _ _ HR4w.out HIq.out HQ1.out HMt.out HJ.out).mono ?_)
            rw [HR2.out]
            rintro e w5 ⟨rfl, hb5⟩
            have HB5 := Lib.hid (HB4.out.trans (hb5.mono (by omega)))
            clear hb5
            go_wp2
            go_ret
            exact ⟨by rw [HRF.out]; rfl, HB5.out⟩
theorem Full_any {l : List Nn} {n c : Nat} : ∀ (k : Nat), FullC l n c k
  | 0 => Full_body 0 (fun j h => absurd h (by omega))
  | k + 1 => Full_body (k + 1) (fun j h => by obtain rfl : k = j := by omega
                                              exact Full_any k)
end Go.Proofs.YtgdlkjahlajcpaaGreatDoor
namespace Go.Proofs.YtgdlkjahlajcpaaGreatDoor
open Go.ChangeShapes Go.WideShapes Go.ChangeAt Go.RowKit
set_option linter.unusedVariables false
set_option linter.unusedSimpArgs false
theorem covR_len (l : List Nn) : ∀ (k : Nat) (x : Nn), (covR l k x).length ≤ 2 ^ k
  | 0, x => by unfold covR; cases someR l x <;> simp
  | k + 1, x => by
    unfold covR
    cases someR l x
    · simp
    · cases fullR l (k + 1) x
      · have h1 := covR_len l k (halfP x)
        have h2 := covR_len l k (halfQ x)
        rw [cond_true, cond_false, List.length_append, Nat.pow_succ]; omega
      · rw [cond_true, cond_true]; have := Nat.one_le_two_pow (n := k + 1); simp; omega
theorem covR_len32 (l : List Nn) {k : Nat} (hk : k ≤ 32) (x : Nn) : (covR l k x).length ≤ 4294967296 := by
  have h1 := covR_len l k x
  have h2 : 2 ^ k ≤ 2 ^ 32 := Nat.pow_le_pow_right (by omega) hk
  have h3 : (2 : Nat) ^ 32 = 4294967296 := by decide
  omega
theorem full_leaf {l : List Nn} (hl : ∀ x ∈ l, netF x = 0) {n : Nn} (hn : netF n = 0) (e : n.2 = 32) (hs : someR l n = true) : fullR l 0 n = true := by
  obtain ⟨x, hx, h⟩ := List.any_eq_true.1 hs
  refine List.any_eq_true.2 ⟨x, hx, ?_⟩
  rcases Bool.or_eq_true_iff.1 h with h | h
  · have h1 := (inB_iff.1 h)
    obtain ⟨j, hj, ej, _⟩ := net_ok h1.1
    have h3 : hasB n x.1 = true := hasB_iff.2 ⟨hn, h1.2.2.2⟩
    exact in_of_has h3 (has_self h1.1) (by omega)
  · exact h
theorem covR_no {l : List Nn} {k : Nat} {x : Nn} (h : someR l x = false) : covR l k x = [] := by
  cases k <;> (unfold covR; rw [h]; rfl)
theorem covR_full {l : List Nn} {k : Nat} {x : Nn} (h : someR l x = true) (h2 : fullR l k x = true) : covR l k x = [x] := by
  cases k with
  | zero => unfold covR; rw [h]; rfl
  | succ k => unfold covR; rw [h, h2]; rfl
theorem covR_both {l : List Nn} {k : Nat} {x : Nn} (h : someR l x = true) (h2 : fullR l (k + 1) x = false) : covR l (k + 1) x = covR l k (halfP x) ++ covR l k (halfQ x) := by
  conv => lhs; unfold covR
  rw [h, h2]; rfl
theorem step_append_nets {w : World} {ops : Array Oper} {o : Oper} {a : Act} {K : Act → World → Prop} {Q : Exit → Act → World → Prop} {E : Prop} (hgd : o.guard = none) (s x : Operand) (t : TypeId) (ht : Tryz.prog.underlying t = some (.slice 47))
    (ho : o.op = .call { callee := .builtin .append, args := #[s, x], argTypes := #[t, t] })
    (base : Nat) (v : Value) (xs : List (Int × Int)) (hs : a.eval s = v) (hown : OwnN w base v xs)
    (A : Option Addr) (m c : Nat) (ys : List (Int × Int)) (hx : a.eval x = .slice A m c) (hr : R1 rdNets w (.slice A m c) ys)
    (hl : xs.length + ys.length ≤ 8796093022000) (hbase : base ≤ w.heap.size)
    (h : ∀ v' w', OwnN w' base v' (xs ++ ys) → Grow w v w' v' → K (a.put o.dst v') w') : if Region.wanted o (yielded ops a.tmps) = true then Oper.wp Tryz.prog o a w K Q else E := by
  obtain ⟨i0, hi, hz0, hz1, hz2⟩ := info_parts net_info
  obtain ⟨hm, _, _⟩ := RdSlice.len hr
  refine step_append_any w hgd s x t ho base _ i0 _ 2 16 ht hi hz0 hz1 hz2 (by rfl) (by omega) v xs.length _ hs hown.1 w.heap.size A m c (ys.flatMap nC) hx (reads_nets hr (fun b h => h)) (one_nCs ys) (by simp only [maxLen]; omega) (by omega) hbase ?_
  intro v' w' h1 h2 h3
  refine h v' w' ⟨by rw [List.length_append, List.flatMap_append, ← hm]; exact h1, fun q hq => ?_⟩ ⟨h2, ?_⟩
  · rcases List.mem_append.1 hq with hq | hq
    · exact hown.2 q hq
    · exact nets_wf hr q hq
  · rcases h3 with h3 | h3
    · exact .inl h3
    · exact .inr ⟨_, h3, Nat.le_refl _⟩
abbrev CovC (l : List Nn) (n c : Nat) (k : Nat) : Prop := ∀ (w : World) (A : Option Addr) (a m : Int), R1 rdNets w (.slice A n c) l → is32 a → netF (a, m) = 0 → m = 32 - (k : Int) → k ≤ 32 →
    Calls Tryz.prog 15 #[.slice A n c, .agg #[.int .u32 a, .int .i64 m]] w fun e w' => ∃ v, e = .returned v ∧ OwnN w' w.heap.size v (covR l k (a, m)) ∧ Below w.heap.size w w'
set_option maxRecDepth 100000 in
set_option maxHeartbeats 8000000 in
theorem CoverOf_body {l : List Nn} {n c : Nat} (hl : ∀ x ∈ l, netF x = 0) (k : Nat) (ih : ∀ j, k = j + 1 → CovC l n c j) : CovC l n c k := by
  intro w A a m hr ha hn hm hk
  obtain ⟨hln, hnc, hcm⟩ := RdSlice.len hr
  have hnm : n ≤ 9223372036854775807 := by unfold maxLen at hcm; omega
  have HR := Lib.hid hr
  have HA := Lib.hid ha
  have HZ := Lib.hid hn
  have HM := Lib.hid hm
  have HK32 := Lib.hid hk
  have HLN := Lib.hid hln
  have HIH := Lib.hid ih
  have HLV := Lib.hid hl
  obtain ⟨SO, hSO⟩ : ∃ SO, someR l (a, m) = SO := ⟨_, rfl⟩
  have HSO := Lib.hid hSO
  obtain ⟨FU, hFU⟩ : ∃ FU, fullR l k (a, m) = FU := ⟨_, rfl⟩
  have HFU := Lib.hid hFU
  obtain ⟨R, hR⟩ : ∃ R, covR l k (a, m) = R := ⟨_, rfl⟩
  have HRR := Lib.hid hR
  rw [hR]
  have HB0 := Lib.hid (below_a1 w (.cells #[.int .u32 a, .int .i64 m] 47))
  have HX0 := Lib.hid (heap_alloc_new w (.cells #[.int .u32 a, .int .i64 m] 47))
  clear hr ha hn hm hk hln hnc hcm ih hSO hR hFU hl
  go_enter Tryz.func15, Tryz.ntmps15
  go_wp2
  go_loopw [5, 6] (fun sv iv wr => ∃ (i : Nat) (s : Bool), i ≤ n ∧ iv = .int .i64 i ∧ sv = .bool s ∧ Hid ((s || someR (l.drop i) (a, m)) = SO) ∧ Below (w.heap.size + 1) (w.alloc (.cells #[.int .u32 a, .int .i64 m] 47)) wr) (fun _ iv _ => n - (intOf iv).toNat)
  case atStart => exact ⟨0, false, Nat.zero_le _, rfl, rfl, Lib.hid (by simpa using HSO.out), Below.refl _ _⟩
  case round =>
    obtain ⟨i, s, hi, rfl, rfl, HS, hbr⟩ := hrel
    have HBR := Lib.hid hbr
    have HB := Lib.hid (HB0.out.trans (hbr.mono (by omega)))
    have s1 := hbr.size
    rw [World.size_alloc] at s1
    have hXr := below_block hbr (Nat.lt_succ_self _) HX0.out
    obtain ⟨z0, z1, _, _⟩ := row2 hXr
    have hzz := size_of_block hXr
    by_cases hlt : i < n
    · obtain ⟨b, o, ⟨x, x'⟩, rfl, hb, HX, ⟨wx, wy⟩, c0, c1⟩ := RdSlice.atN HR.out hlt
      have d0 := (HB.out.cell (p := ⟨b, o + i * 2, none⟩) hb).trans c0
      have d1 := (HB.out.cell (p := ⟨b, o + i * 2 + 1, none⟩) hb).trans c1
      have i0 : (0 : Int) ≤ (i : Int) := by omega
      have i1 : (i : Int) < (n : Int) := by omega
      have HIx : Hid (is32 x) := Lib.hid (bounds_u32 wx)
      have HD := Lib.hid (dropC HX.out)
      obtain ⟨p, hp⟩ : ∃ p, inB (a, m) (x, x') = p := ⟨_, rfl⟩
      obtain ⟨q, hq⟩ : ∃ q, inB (x, x') (a, m) = q := ⟨_, rfl⟩
      have HP := Lib.hid hp
      have HQ := Lib.hid hq
      have j0 := fun d os => cell_regrown d0 d os
      have j1 := fun d os => cell_regrown d1 d os
      have j2 := fun d os => cell_regrown z0 d os
      have j3 := fun d os => cell_regrown z1 d os
      have HS2 : Hid ((s || (q || p) || someR (l.drop (i + 1)) (a, m)) = SO) := Lib.hid (by
        rw [← HS.out, HD.out]; unfold someR; rw [List.any_cons, HP.out, HQ.out, Bool.or_assoc])
      clear c0 c1 wx wy hbr hp hq d0 d1 z0 z1 hXr
      cases s with
      | true =>
        go_wp2
        refine wp_region_quiet_below (by kernel_rfl) (by kernel_rfl) ?_
        repeat (go_big_quiet_step (first | (with_reducible exact rin_c HIx.out HA.out HQ.out _ _) | (with_reducible exact rin_c HA.out HIx.out HP.out _ _) | fail))
        refine wpQuiet_nil ?_
        intro w6 hw'
        obtain ⟨⟨dq, osq⟩, hw''⟩ := hw'
        have hb6 := (show Below wr.heap.size wr w6 by rw [hw'']; exact below_regrown wr dq osq)
        have HBR6 := Lib.hid (HBR.out.trans (hb6.mono (by omega)))
        clear hw'' j0 j1 j2 j3 hb6
        go_wp2
        go_roundw
        case rel => exact ⟨i + 1, true, by omega, by go_num, rfl, Lib.hid (by rw [← HS2.out]; rfl), HBR6.out⟩
        case measure => simp [intOf]; omega
      | false =>
        cases q with
        | true =>
          go_wp2
          refine wp_region_quiet_below (by kernel_rfl) (by kernel_rfl) ?_
          repeat (go_big_quiet_step (first | (with_reducible exact rin_c HIx.out HA.out HQ.out _ _) | (with_reducible exact rin_c HA.out HIx.out HP.out _ _) | fail))
          refine wpQuiet_nil ?_
          intro w6 hw'
          obtain ⟨⟨dq, osq⟩, hw''⟩ := hw'
          have hb6 := (show Below wr.heap.size wr w6 by rw [hw'']; exact below_regrown wr dq osq)
          have HBR6 := Lib.hid (HBR.out.trans (hb6.mono (by omega)))
          clear hw'' j0 j1 j2 j3 hb6
          go_wp2
          go_roundw
          case rel => exact ⟨i + 1, true, by omega, by go_num, rfl, Lib.hid (by rw [← HS2.out]; rfl), HBR6.out⟩
          case measure => simp [intOf]; omega
        | false =>
          go_wp2
          refine wp_region_quiet_below (by kernel_rfl) (by kernel_rfl) ?_
          repeat (go_big_quiet_step (first | (with_reducible exact rin_c HIx.out HA.out HQ.out _ _) | (with_reducible exact rin_c HA.out HIx.out HP.out _ _) | fail))
          refine wpQuiet_nil ?_
          intro w6 hw'
          obtain ⟨⟨dq, osq⟩, hw''⟩ := hw'
          have hb6 := (show Below wr.heap.size wr w6 by rw [hw'']; exact below_regrown wr dq osq)
          have HBR6 := Lib.hid (HBR.out.trans (hb6.mono (by omega)))
          clear hw'' j0 j1 j2 j3 hb6
          go_wp2
          go_roundw
          case rel => exact ⟨i + 1, p, by omega, by go_num, rfl, Lib.hid (by rw [← HS2.out]; rfl), HBR6.out⟩
          case measure => simp [intOf]; omega
    · have HSE : Hid (s = SO) := Lib.hid (by
        have h := HS.out
        rw [List.drop_eq_nil_of_le (by rw [← HLN.out]; omega)] at h
        simpa [someR] using h)
      have HRr := Lib.hid (HR.out.below HB.out)
      clear hbr
      cases s with
      | false =>
        have HRE : Hid (R = []) := Lib.hid (by rw [← HRR.out, covR_no (by rw [HSO.out, ← HSE.out])])
        go_wp2
        go_ret
        exact ⟨_, rfl, by rw [HRE.out]; exact OwnN.nil_ _ _, HB.out⟩
      | true =>
        have HFC := Lib.hid (Full_any (l := l) (n := n) (c := c) k wr A a m HRr.out HA.out HZ.out HM.out HK32.out)
        have Z0 := Lib.hid z0
        have Z1 := Lib.hid z1
        go_wp2_with fail
        go_at_call 33
        (with_reducible refine HFC.out.mono ?_)
        rw [HFU.out]
        rintro e w2 ⟨rfl, hb2⟩
        have HB2 := Lib.hid (HB.out.trans (hb2.mono (by omega)))
        have HR2w := Lib.hid (HRr.out.below hb2)
        have s2 := hb2.size
        have z0 := (hb2.cell (p := ⟨w.heap.size, 0, none⟩) hzz).trans Z0.out
        have z1 := (hb2.cell (p := ⟨w.heap.size, 1, none⟩) hzz).trans Z1.out
        clear hb2
        cases FU with
        | true =>
          have HRE : Hid (R = [(a, m)]) := Lib.hid (by rw [← HRR.out, covR_full (by rw [HSO.out, ← HSE.out]) HFU.out])
          have hm0 := (netF_zero.1 HZ.out)
          have HWF : Hid (∀ x ∈ [(a, m)], wfN x) := Lib.hid (fun x hx => by
            simp at hx; rw [hx]
            exact ⟨WalkArith.wf_u32 HA.out, WalkArith.wf_i64 (by simp only; omega)⟩)
          clear hm0
          go_wp2
          go_ret
          exact ⟨_, rfl, by rw [HRE.out]; exact (new_nets (w := w2) (us := #[.int .u32 a, .int .i64 m]) (n := 1) rfl rfl (by omega) HWF.out).mono (by omega), HB2.out.trans ((below_a1 w2 _).mono HB2.out.size)⟩
        | false =>
          cases k with
          | zero =>
            exact absurd (full_leaf HLV.out HZ.out (by have := HM.out; simpa using this) (by rw [HSO.out, ← HSE.out])) (by rw [HFU.out]; decide)
          | succ j =>
            obtain ⟨t, rfl⟩ : ∃ t : Nat, m = (t : Int) := ⟨m.toNat, by have := HM.out; have := HK32.out; omega⟩
            have ht : t < 32 := by have := HM.out; omega
            have HT := Lib.hid ht
            have HP1 : Hid (netF (a, (t : Int) + 1) = 0) := Lib.hid (half_p ht HZ.out)
            have HQ1 : Hid (netF (a + lowI (t + 1), (t : Int) + 1) = 0) := Lib.hid (half_q ht HZ.out)
            have HIq : Hid (is32 (a + lowI (t + 1))) := Lib.hid (by
              have h1 := HA.out
              have h2 := net_end HZ.out h1
              have h3 : szN (a, (t : Int)) = lowI t := by unfold szN; simp
              have h4 := low_succ ht
              have h5 := lowI_pos (t + 1)
              rw [h3] at h2
              simp only at h2
              have := h1.1
              exact ⟨by omega, by omega⟩)
            have HMt : Hid ((t : Int) + 1 = 32 - (j : Int)) := Lib.hid (by have := HM.out; omega)
            have HJ : Hid (j ≤ 32) := Lib.hid (by have := HK32.out; omega)
            have HFJ : Hid (CovC l n c j) := Lib.hid (HIH.out j rfl)
            have HRE : Hid (R = covR l j (a, (t : Int) + 1) ++ covR l j (a + lowI (t + 1), (t : Int) + 1)) := Lib.hid (by
              rw [← HRR.out, covR_both (by rw [HSO.out, ← HSE.out]) HFU.out, halfQ_lit]; rfl)
            have HL1 := Lib.hid (covR_len32 l HJ.out (a, (t : Int) + 1))
            have HL2 := Lib.hid (covR_len32 l HJ.out (a + lowI (t + 1), (t : Int) + 1))
            have hw2 : w.heap.size < w2.heap.size := by omega
            have HHW : Hid (w.heap.size ≤ w2.heap.size) := Lib.hid (by omega)
            obtain ⟨gx, hgx⟩ : ∃ gx, w.heap.size = gx := ⟨_, rfl⟩
            have HGX := Lib.hid hgx
            clear ht
            go_upto_region 10 with (fail)
            try rw [hgx] at z0
            try rw [hgx] at z1
            try rw [hgx] at hw2
            clear hgx Z0 Z1 hzz
            refine wp_region_noPanic ?_
            refine wp_region_held_drew (S := (fun w' => w'.cell? ⟨gx, 0, none⟩ = some (.int .u32 a) ∧ w'.cell? ⟨gx, 1, none⟩ = some (.int .i64 (t : Int)))) (by kernel_rfl) (by go_keep) (fun hHeld => ?_)
            refine' wpAnyH_take (i := 0) ?hia0 ?hsa0 ?hfa0 ?hra0 ?hQa0 ?hya0 ?hSa0 ?ha0
            case hia0 => (simp only [List.getElem?_toArray, List.getElem?_cons_succ, List.getElem?_cons_zero]; exact rfl)
            case hsa0 => kernel_rfl
            case hfa0 => kernel_rfl
            case hra0 => kernel_rfl
            case hQa0 => exact fun _ _ _ h => h
            case hya0 => (first | (refine Or.inr ⟨by rfl, ?_⟩; rfl) | (refine Or.inl ⟨by rfl, ?_⟩; (intro w hSw; (try dsimp only at hSw); go_simp); try with_reducible rfl))
            case hSa0 => assumption
            try simp only [Act.put, List.setIfInBounds_toArray, List.set_cons_zero, List.set_cons_succ]
            refine' wpAnyH_take (i := 1) ?hia1 ?hsa1 ?hfa1 ?hra1 ?hQa1 ?hya1 ?hSa1 ?ha1
            case hia1 => (simp only [List.getElem?_toArray, List.getElem?_cons_succ, List.getElem?_cons_zero]; exact rfl)
            case hsa1 => kernel_rfl
            case hfa1 => kernel_rfl
            case hra1 => kernel_rfl
            case hQa1 => exact fun _ _ _ h => h
            case hya1 => (first | (refine Or.inr ⟨by rfl, ?_⟩; rfl) | (refine Or.inl ⟨by rfl, ?_⟩; (intro w hSw; (try dsimp only at hSw); go_simp); try with_reducible rfl))
            case hSa1 => assumption
            try simp only [Act.put, List.setIfInBounds_toArray, List.set_cons_zero, List.set_cons_succ]
            refine' wpAnyH_take (i := 4) ?hia4 ?hsa4 ?hfa4 ?hra4 ?hQa4 ?hya4 ?hSa4 ?ha4
            case hia4 => (simp only [List.getElem?_toArray, List.getElem?_cons_succ, List.getElem?_cons_zero]; exact rfl)
            case hsa4 => kernel_rfl
            case hfa4 => kernel_rfl
            case hra4 => kernel_rfl
            case hQa4 => exact fun _ _ _ h => h
            case hya4 => (first | (refine Or.inr ⟨by rfl, ?_⟩; rfl) | (refine Or.inl ⟨by rfl, ?_⟩; (intro w hSw; (try dsimp only at hSw); go_simp); try with_reducible rfl))
            case hSa4 => assumption
            try simp only [Act.put, List.setIfInBounds_toArray, List.set_cons_zero, List.set_cons_succ]
            refine' wpAnyH_take (i := 5) ?hia5 ?hsa5 ?hfa5 ?hra5 ?hQa5 ?hya5 ?hSa5 ?ha5
            case hia5 => (simp only [List.getElem?_toArray, List.getElem?_cons_succ, List.getElem?_cons_zero]; exact rfl)
            case hsa5 => kernel_rfl
            case hfa5 => kernel_rfl
            case hra5 => kernel_rfl
            case hQa5 => exact fun _ _ _ h => h
            case hya5 => (first | (refine Or.inr ⟨by rfl, ?_⟩; rfl) | (refine Or.inl ⟨by rfl, ?_⟩; (intro w hSw; (try dsimp only at hSw); go_simp); try with_reducible rfl))
            case hSa5 => assumption
            try simp only [Act.put, List.setIfInBounds_toArray, List.set_cons_zero, List.set_cons_succ]
            have HRD := Lib.hid (show R1 rdNets w2.drew (.slice A n c) l from HR2w.out)
            clear z0 z1
            obtain ⟨k0, k1⟩ := hHeld
            refine wpAnyH_ready (rs := [2]) (by kernel_rfl) (by simp) ?_
            refine' AllReadyH.cons ?hia2 (fun K hK => ?ha2) AllReadyH.nil
            case hia2 => (simp only [List.getElem?_toArray, List.getElem?_cons_succ, List.getElem?_cons_zero]; exact rfl)
            go_simp
            go_at_call 34
            (with_reducible refine (Half0 a t _ HT.out).mono ?_)
            rintro e w3 ⟨rfl, hb3⟩
            have r0 := (hb3.cell (p := ⟨gx, 0, none⟩) hw2).trans k0
            have r1 := (hb3.cell (p := ⟨gx, 1, none⟩) hw2).trans k1
            have HB3 := Lib.hid (HB2.out.trans (((below_drewN (Below.refl w2.heap.size w2) 1).trans hb3).mono HHW.out))
            have HR3 := Lib.hid (HRD.out.below hb3)
            have hw3 : gx < w3.heap.size := Nat.lt_of_lt_of_le hw2 hb3.size
            clear hb3 k0 k1
            refine hK.out _ _ (by go_keep) (fun hHeld => ?_)
            clear hK K
            clear r0 r1
            obtain ⟨k0, k1⟩ := hHeld
            refine wpAnyH_ready (rs := [3]) (by kernel_rfl) (by simp) ?_
            refine' AllReadyH.cons ?hia3 (fun K hK => ?ha3) AllReadyH.nil
            case hia3 => (simp only [List.getElem?_toArray, List.getElem?_cons_succ, List.getElem?_cons_zero]; exact rfl)
            go_simp
            go_at_call 15
            (with_reducible refine (HFJ.out _ _ _ _ HR3.out HA.out HP1.out HMt.out HJ.out).mono ?_)
            rintro e w4 ⟨v4, rfl, ho4, hb4⟩
            have HO4 := Lib.hid ho4
            obtain ⟨A4, c4, rfl⟩ := ho4.form
            have r0 := (hb4.cell (p := ⟨gx, 0, none⟩) hw3).trans k0
            have r1 := (hb4.cell (p := ⟨gx, 1, none⟩) hw3).trans k1
            have HB4 := Lib.hid (HB3.out.trans (hb4.mono HB3.out.size))
            have HR4 := Lib.hid (HR3.out.below hb4)
            have z4 : w3.heap.size ≤ w4.heap.size := hb4.size
            have hw4 : gx < w4.heap.size := Nat.lt_of_lt_of_le hw3 z4
            clear hb4 ho4 k0 k1
            refine hK.out _ _ (by go_keep) (fun hHeld => ?_)
            clear hK K
            clear r0 r1
            obtain ⟨k0, k1⟩ := hHeld
            refine wpAnyH_ready (rs := [6]) (by kernel_rfl) (by simp) ?_
            refine' AllReadyH.cons ?hia6 (fun K hK => ?ha6) AllReadyH.nil
            case hia6 => (simp only [List.getElem?_toArray, List.getElem?_cons_succ, List.getElem?_cons_zero]; exact rfl)
            go_simp
            go_at_call 34
            (with_reducible refine (Half1 a t _ HT.out HA.out HZ.out).mono ?_)
            rintro e w5 ⟨rfl, hb5⟩
            have r0 := (hb5.cell (p := ⟨gx, 0, none⟩) hw4).trans k0
            have r1 := (hb5.cell (p := ⟨gx, 1, none⟩) hw4).trans k1
            have HB5 := Lib.hid (HB4.out.trans (hb5.mono HB4.out.size))
            have HR5 := Lib.hid (HR4.out.below hb5)
            have HO5 := Lib.hid (HO4.out.below hb5)
            have z5 : w3.heap.size ≤ w5.heap.size := Nat.le_trans z4 hb5.size
            have hw5 : gx < w5.heap.size := Nat.lt_of_lt_of_le hw3 z5
            clear hb5 k0 k1
            refine hK.out _ _ (by go_keep) (fun hHeld => ?_)
            clear hK K
            clear r0 r1
            obtain ⟨k0, k1⟩ := hHeld
            refine wpAnyH_ready (rs := [7]) (by kernel_rfl) (by simp) ?_
            refine' AllReadyH.cons ?hia7 (fun K hK => ?ha7) AllReadyH.nil
            case hia7 => (simp only [List.getElem?_toArray, List.getElem?_cons_succ, List.getElem?_cons_zero]; exact rfl)
            go_simp
            go_at_call 15
            (with_reducible refine (HFJ.out _ _ _ _ HR5.out HIq.out HQ1.out HMt.out HJ.out).mono ?_)
            rintro e w6 ⟨v6, rfl, ho6, hb6⟩
            have hr6 := ho6.read
            obtain ⟨A6, c6, rfl⟩ := ho6.form
            have r0 := (hb6.cell (p := ⟨gx, 0, none⟩) hw5).trans k0
            have r1 := (hb6.cell (p := ⟨gx, 1, none⟩) hw5).trans k1
            have HB6 := Lib.hid (HB5.out.trans (hb6.mono HB5.out.size))
            have HO6 := Lib.hid (HO5.out.below hb6)
            have HRD6 := Lib.hid hr6
            have z6 : w3.heap.size ≤ w6.heap.size := Nat.le_trans z5 hb6.size
            have hw6 : gx < w6.heap.size := Nat.lt_of_lt_of_le hw3 z6
            clear hb6 ho6 hr6 k0 k1
            refine hK.out _ _ (by go_keep) (fun hHeld => ?_)
            clear hK K
            clear r0 r1
            obtain ⟨k0, k1⟩ := hHeld
            have HLL : Hid ((covR l j (a, (t : Int) + 1)).length + (covR l j (a + lowI (t + 1), (t : Int) + 1)).length ≤ 8796093022000) := Lib.hid (by have := HL1.out; have := HL2.out; omega)
            refine wpAnyH_ready (rs := [8]) (by kernel_rfl) (by simp) ?_
            refine' AllReadyH.cons ?hia8 (fun K hK => ?ha8) AllReadyH.nil
            case hia8 => (simp only [List.getElem?_toArray, List.getElem?_cons_succ, List.getElem?_cons_zero]; exact rfl)
            (refine step_append_nets rfl (.tmp 40) (.tmp 44) 26 Tryz.underlying26 rfl w3.heap.size _ _ rfl HO6.out A6 _ c6 _ rfl HRD6.out HLL.out z6 ?_)
            intro v8 w8 hown8 hgrow8
            have r0 := (hgrow8.cell (p := ⟨gx, 0, none⟩) (B := 0) HO6.out.1 hw6 (fun g e => by have := (own_blk HO6.out.1 g e).1; simp only; omega)).trans k0
            have r1 := (hgrow8.cell (p := ⟨gx, 1, none⟩) (B := 0) HO6.out.1 hw6 (fun g e => by have := (own_blk HO6.out.1 g e).1; simp only; omega)).trans k1
            have HO8 := Lib.hid hown8
            have HB8 := Lib.hid (hgrow8.below HB6.out HO6.out.1 HB3.out.size HB6.out.size)
            obtain ⟨A8, c8, rfl⟩ := hown8.form
            obtain ⟨L8, hL8⟩ : ∃ L8, (covR l j (a, (t : Int) + 1) ++ covR l j (a + lowI (t + 1), (t : Int) + 1)).length = L8 := ⟨_, rfl⟩
            rw [hL8] at HO8 ⊢
            clear hown8 hgrow8 k0 k1 hL8
            refine hK.out _ _ (by go_keep) (fun hHeld => ?_)
            clear hK K
            refine' wpAnyH_take (i := 9) ?hia9 ?hsa9 ?hfa9 ?hra9 ?hQa9 ?hya9 ?hSa9 ?ha9
            case hia9 => (simp only [List.getElem?_toArray, List.getElem?_cons_succ, List.getElem?_cons_zero]; exact rfl)
            case hsa9 => kernel_rfl
            case hfa9 => kernel_rfl
            case hra9 => kernel_rfl
            case hQa9 => exact fun _ _ _ h => h
            case hya9 => (first | (refine Or.inr ⟨by rfl, ?_⟩; rfl) | (refine Or.inl ⟨by rfl, ?_⟩; (intro w hSw; (try dsimp only at hSw); go_simp); try with_reducible rfl))
            case hSa9 => assumption
            try simp only [Act.put, List.setIfInBounds_toArray, List.set_cons_zero, List.set_cons_succ]
            refine wpAnyH_done (by kernel_rfl) ?_ _
            refine NoPanic.normal ?_
            have HB38 : Hid (w.heap.size ≤ w3.heap.size) := Lib.hid HB3.out.size
            clear r0 r1 hHeld
            go_wp2
            go_ret
            exact ⟨_, rfl, by rw [HRE.out]; exact HO8.out.mono HB38.out, HB8.out⟩
theorem CoverOf_any {l : List Nn} {n c : Nat} (hl : ∀ x ∈ l, netF x = 0) : ∀ (k : Nat), CovC l n c k
  | 0 => CoverOf_body hl 0 (fun j h => absurd h (by omega))
  | k + 1 => CoverOf_body hl (k + 1) (fun j h => by obtain rfl : k = j := by omega
                                                    exact CoverOf_any hl k)
end Go.Proofs.YtgdlkjahlajcpaaGreatDoor
namespace Go.Proofs.YtgdlkjahlajcpaaGreatDoor
open Go.ChangeShapes Go.WideShapes Go.ChangeAt Go.RowKit
set_option linter.unusedVariables false
set_option linter.unusedSimpArgs false

theorem join_snoc (l : List (List UInt8)) (x : List UInt8) (h : l ≠ []) : Lib.join (l ++ [x]) [32] = Lib.join l [32] ++ 32 :: x := by
  unfold Lib.join
  induction l with
  | nil => exact absurd rfl h
  | cons y r ih =>
    cases r with
    | nil => simp [List.intercalate, List.intersperse]
    | cons z r =>
      have e := ih (by simp)
      have e1 : List.intercalate [32] (y :: z :: r ++ [x]) = y ++ 32 :: List.intercalate [32] (z :: r ++ [x]) := by simp [List.intercalate, List.intersperse]
      have e2 : List.intercalate [32] (y :: z :: r) = y ++ 32 :: List.intercalate [32] (z :: r) := by simp [List.intercalate, List.intersperse]
      rw [e1, e2, e]; simp
theorem netsT_zero (l : List Nt) : netsT (l.take 0) = [] := by simp [netsT, Lib.join, List.intercalate]
theorem netsT_one {l : List Nt} {x : Nt} (h : l[0]? = some x) : netsT (l.take 1) = netX x := by
  have e : l.take 1 = [x] := by rw [List.take_add_one, h]; rfl
  rw [e]; simp [netsT, Lib.join, List.intercalate]
theorem netsT_succ {l : List Nt} {k : Nat} {x : Nt} (h : l[k]? = some x) (hk : 0 < k) : netsT (l.take (k + 1)) = netsT (l.take k) ++ 32 :: netX x := by
  unfold netsT
  rw [List.take_add_one, h, List.map_append]
  refine join_snoc _ _ fun e => ?_
  have h2 := congrArg List.length e
  have h3 := (List.getElem?_eq_some_iff.1 h).1
  rw [List.length_map, List.length_take] at h2
  simp only [List.length_nil] at h2
  omega
theorem netsT_take_len {l : List Nt} {k : Nat} (hl : k ≤ 1000) (hv : ∀ x ∈ l, netF x = 0 ∧ is32 x.1) : (netsT (l.take k)).length ≤ 20000 :=
  netsT_len (by rw [List.length_take]; omega) fun x hx => hv x (List.mem_of_mem_take hx)
theorem cat_sp {X Y : ByteArray} {t u r : List UInt8} (hX : X.data.toList = t) (hY : Y.data.toList = u) (hr : r = t ++ 32 :: u) : (X ++ ⟨#[32]⟩ ++ Y).data.toList = r := by
  rw [Joins.data_append, Joins.data_append, hX, hY, hr]; simp
theorem cat_0 {X Y : ByteArray} {u r : List UInt8} (hX : X.data.toList = []) (hY : Y.data.toList = u) (hr : r = u) : (X ++ Y).data.toList = r := by
  rw [Joins.data_append, hX, hY, hr]; simp
set_option maxRecDepth 100000 in
set_option maxHeartbeats 4000000 in
theorem RTexts_any {w : World} {A : Option Addr} {n c : Nat} {l : List Nt} (hr : R1 rdNets w (.slice A n c) l) (hl : l.length ≤ 1000) (hv : ∀ x ∈ l, netF x = 0 ∧ is32 x.1) :
    Calls Tryz.prog 13 #[.slice A n c] w fun e w' => e = .returned (strV (netsT l)) ∧ Below w.heap.size w w' := by
  obtain ⟨hn, hnc, hcm⟩ := RdSlice.len hr
  have hn1 : n ≤ 1000 := by omega
  have HR := Lib.hid hr
  have HN := Lib.hid hn
  have HV := Lib.hid hv
  clear hr hcm hnc hn hv hl
  go_enter Tryz.func13, Tryz.ntmps13
  go_wp2
  go_loopw [3, 4] (fun v j wr => ∃ (k : Nat) (X : ByteArray), k ≤ n ∧ j = .int .i64 k ∧ v = .string X ∧ Hid (X.data.toList = netsT (l.take k)) ∧ Below w.heap.size w wr) (fun _ j _ => n - (intOf j).toNat)
  case atStart => exact ⟨0, _, Nat.zero_le _, rfl, rfl, Lib.hid (by rw [netsT_zero]), Below.refl _ _⟩
  case round =>
    obtain ⟨k, X, hk, rfl, rfl, HX, hbel⟩ := hrel
    have hsz := hbel.size
    by_cases hlt : k < n
    · obtain ⟨b, o, ⟨x, x'⟩, rfl, hb, HXL, ⟨wx, wy⟩, c0, c1⟩ := RdSlice.atN HR.out hlt
      have d0 := (hbel.cell (p := ⟨b, o + k * 2, none⟩) hb).trans c0
      have d1 := (hbel.cell (p := ⟨b, o + k * 2 + 1, none⟩) hb).trans c1
      obtain ⟨hz, h32⟩ := HV.out (x, x') (List.mem_of_getElem? HXL.out)
      obtain ⟨p, rfl⟩ := Int.eq_ofNat_of_zero_le h32.1
      obtain ⟨q, hq, e, _⟩ := net_ok hz
      simp only at e h32
      subst e
      have hp : p < 4294967296 := by have := h32.2; omega
      have HS : Hid (netX ((p : Int), (q : Int)) = netT p q) := Lib.hid rfl
      have hXl : X.size ≤ 20000 := by rw [← size_data, HX.out]; exact netsT_take_len (by omega) HV.out
      obtain ⟨Y, hY⟩ : ∃ Y : ByteArray, Y = ⟨(netT p q).toArray⟩ := ⟨_, rfl⟩
      have hYl : Y.size ≤ 19 := by rw [hY, str_size]; exact netT_length p q hp hq
      have HY := Lib.hid hY
      have HBEL := Lib.hid hbel
      clear c0 c1 wx wy hbel hz h32 hY
      by_cases h0 : k = 0
      · subst h0
        rw [show o + 0 * 2 = o from by omega] at d0
        rw [show o + 0 * 2 + 1 = o + 1 from by omega] at d1
        have HC : Hid ((X ++ Y).data.toList = netsT (l.take (0 + 1))) := Lib.hid (cat_0 (by rw [HX.out, netsT_zero]) (by rw [HY.out]) (by rw [netsT_one HXL.out, HS.out]))
        go_wp2_with (first
          | (go_at_call 21; (with_reducible refine (RNetText_any p q _ hp hq).mono ?_); rintro e w1 ⟨rfl, hb1⟩; rw [show strV (netT p q) = .string Y from by rw [HY.out]]; have HB1 := Lib.hid (HBEL.out.trans (hb1.mono hsz)); clear hb1)
          | fail)
        exact ⟨⟨1, _, by omega, by go_num, rfl, HC, HB1.out⟩, by simp [intOf]; omega⟩
      · have h0' : 0 < (k : Int) := by omega
        have HC : Hid ((X ++ ⟨#[32]⟩ ++ Y).data.toList = netsT (l.take (k + 1))) := Lib.hid (cat_sp HX.out (by rw [HY.out]) (by rw [netsT_succ HXL.out (by omega), HS.out]))
        clear h0
        go_wp2_with (first
          | (go_at_call 21; (with_reducible refine (RNetText_any p q _ hp hq).mono ?_); rintro e w1 ⟨rfl, hb1⟩; rw [show strV (netT p q) = .string Y from by rw [HY.out]]; have HB1 := Lib.hid (HBEL.out.trans (hb1.mono hsz)); clear hb1)
          | fail)
        exact ⟨⟨k + 1, _, by omega, by go_num, rfl, HC, HB1.out⟩, by simp [intOf]; omega⟩
    · have : k = n := by omega
      subst this
      have hE : Value.string X = strV (netsT l) := by
        have e : l.take k = l := List.take_of_length_le (by rw [← HN.out]; exact Nat.le_refl _)
        have e2 := HX.out
        rw [e] at e2
        rw [← e2]
      have HE := Lib.hid hE
      have HBEL := Lib.hid hbel
      clear hE hbel
      go_wp2
      go_ret
      exact ⟨congrArg Ending.returned HE.out, HBEL.out⟩
set_option maxRecDepth 100000 in
theorem Four_b (a : Int) (w : World) (h : is32 a) :
    Calls Tryz.prog 19 #[.int .u32 a] w fun e w' => e = .returned (.slice (some ⟨w.heap.size, 0, none⟩) 4 4) ∧ w' = w.alloc (.cells #[.int .u8 (a / 16777216), .int .u8 (a / 65536 % 256), .int .u8 (a / 256 % 256), .int .u8 (a % 256)] 5) := by
  obtain ⟨h0, h1⟩ := h
  go_enter Tryz.func19, Tryz.ntmps19
  go_wp2
  go_ret
  exact ⟨rfl, rfl⟩
theorem NetOf_yes (a k : Nat) (s : ByteArray) (w : World) (hsz : s.size ≤ 2097152) (ha : a < 4294967296) (hn : netF ((a : Int), (k : Int)) = 0) (hs : s.data.toList = netT a k) :
    Calls Tryz.prog 22 #[.string s] w fun e w' => e = .returned (.tuple #[.agg #[.int .u32 a, .int .i64 k], .bool true]) ∧ Below w.heap.size w w' :=
  (NetOf_any s w hsz).mono fun e w' hh => by
    obtain ⟨h, hb⟩ := hh
    rcases h with ⟨a', k', _, _, e1, he⟩ | ⟨hno, _⟩
    · rw [hs] at e1
      obtain ⟨rfl, rfl⟩ := netT_inj e1
      exact ⟨he, hb⟩
    · exact absurd hs (hno a k ha hn)
theorem NetOf_no (s : ByteArray) (w : World) (hsz : s.size ≤ 2097152) (hs : ∀ a k : Nat, a < 4294967296 → netF ((a : Int), (k : Int)) = 0 → s.data.toList ≠ netT a k) :
    Calls Tryz.prog 22 #[.string s] w fun e w' => e = .returned (.tuple #[.agg #[.int .u32 0, .int .i64 0], .bool false]) ∧ Below w.heap.size w w' :=
  (NetOf_any s w hsz).mono fun e w' hh => by
    obtain ⟨h, hb⟩ := hh
    rcases h with ⟨a', k', h1, h2, e1, _⟩ | ⟨_, he⟩
    · exact absurd e1 (hs a' k' h1 h2)
    · exact ⟨he, hb⟩
theorem Whole_n (n : Nat) (s : ByteArray) (w : World) (hsz : s.size ≤ 2097152) (hn : n ≤ 1073741824) (hs : s.data.toList = dd n) :
    Calls Tryz.prog 26 #[.string s] w fun e w' => e = .returned (.int .i64 n) ∧ Below w.heap.size w w' :=
  (Whole_any s w hsz).mono fun e w' ⟨r, he, hr, hb⟩ => by
    rcases hr with ⟨m, _, h1, h2⟩ | ⟨h1, _⟩
    · rw [hs] at h1
      have := dd_inj h1
      subst this; subst h2
      exact ⟨he, hb⟩
    · exact absurd hs (h1 n hn)
theorem Whole_no (s : ByteArray) (w : World) (hsz : s.size ≤ 2097152) (hs : ∀ n : Nat, n ≤ 1073741824 → s.data.toList ≠ dd n) :
    Calls Tryz.prog 26 #[.string s] w fun e w' => e = .returned (.int .i64 (-1)) ∧ Below w.heap.size w w' :=
  (Whole_any s w hsz).mono fun e w' ⟨r, he, hr, hb⟩ => by
    rcases hr with ⟨m, hm, h1, _⟩ | ⟨_, h2⟩
    · exact absurd h1 (hs m hm)
    · subst h2; exact ⟨he, hb⟩
theorem keys_mem {m : Tab} (h : MOk m) (x : Nt) : x ∈ keysM m ↔ x ∈ allM m := by
  rw [mem_all h]
  constructor
  · intro hx e; exact look_none.1 e hx
  · intro hx
    by_cases hk : x ∈ keysM m
    · exact hk
    · exact absurd (look_none.2 hk) hx
theorem keys_nets {m : Tab} (h : MOk m) : ∀ x ∈ keysM m, netF x = 0 ∧ is32 x.1 := fun x hx => (all_nets h).1 x ((keys_mem h x).1 hx)
theorem cover_keys {m : Tab} (h : MOk m) : covR (keysM m) 32 (0, 0) = coverV (allM m) := by
  rw [cover_ref (fun x hx => (keys_nets h x hx).1) (fun x hx => (keys_nets h x hx).2)]
  exact cover_same (fun x hx => (keys_nets h x hx).1) (fun x hx => ((all_nets h).1 x hx).1) (hasL_of_mem (keys_mem h))
end Go.Proofs.YtgdlkjahlajcpaaGreatDoor
