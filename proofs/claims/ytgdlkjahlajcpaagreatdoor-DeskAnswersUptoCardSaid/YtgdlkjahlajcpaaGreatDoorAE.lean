/- trie.Put, as contracts. trie.Find, as a contract. Rows of nets of the call's own: what they read as, and append of one and of many. trie.List: its closure, as a contract. -/
import Derived.Test.YtgdlkjahlajcpaaGreatDoorAD
import Derived.Deep.DeepCutAuto
import Derived.Deep.CutBlock
import Derived.Test.YtgdlkjahlajcpaaGreatDoorAB
import Derived.StillTailTactics
import Derived.WalkArith
namespace Go.Proofs.YtgdlkjahlajcpaaGreatDoor
open Go.ChangeShapes Go.WideShapes Go.ChangeAt Go.RowKit
set_option linter.unusedVariables false
set_option linter.unusedSimpArgs false
section
variable {w : World} {T B : Nat} {N : NM} {m : List (Nt × Int)} {a : Int} {v : Int}
theorem Put_bad {n : Int} (ha : is32 a) (h : netF (a, n) ≠ 0) :
    Calls Tryz.prog 47 #[.pointer (some ⟨T, 0, none⟩), .agg #[.int .u32 a, .int .i64 n], .int .i64 v] w fun e w' => e = .returned (.iface 35 (.int .i64 (netF (a, n)))) ∧ Below w.heap.size w w' := by
  have HZ := Lib.hid h
  obtain ⟨h0, h1⟩ := ha
  clear h
  go_enter Tryz.func47, Tryz.ntmps47
  go_wp2_with fail
  go_at_call 77; (with_reducible refine (Check_bad _ h0 h1 HZ.out).mono ?_); rintro e w1 ⟨rfl, hb1⟩
  have HB1 := Lib.hid ((below_1 w _).trans (hb1.mono (by simp)))
  clear hb1
  go_wp2
  go_ret
  exact ⟨rfl, HB1.out⟩
theorem Put_renew {n : Nat} (h : Tri w T B N m) (ha : is32 a) (hv : (Lit.int .i64 v).wf = true) (hF : netF (a, (n : Int)) = 0) (hl : look m (a, (n : Int)) ≠ none) (hB : B ≤ w.heap.size) :
    Calls Tryz.prog 47 #[.pointer (some ⟨T, 0, none⟩), .agg #[.int .u32 a, .int .i64 n], .int .i64 v] w fun e w' => e = .returned .nilIface ∧ Tri w' T B N (putM m (a, (n : Int)) v) ∧ Keeps B N w w' := by
  have HZ := Lib.hid hF
  have HA := Lib.hid ha
  have hn : n ≤ 32 := by have := (netF_zero.1 hF).2.1; omega
  have HN := Lib.hid hn
  have HW : Hid (fl (lowI n) a = a) := Lib.hid (by simpa using (netF_zero.1 hF).2.2)
  have hM := h.ok.put hF ha hv (fun e => absurd e hl)
  have HM := Lib.hid hM
  obtain ⟨h0, h1⟩ := ha
  have HT := Lib.hid h
  have hs := Option.isSome_iff_ne_none.2 hl
  have HS := Lib.hid hs
  have HLn : Hid ((putM m (a, (n : Int)) v).length = m.length) := Lib.hid (by rw [put_length h.ok.nodup, if_neg hl])
  obtain ⟨b, hN⟩ := Option.ne_none_iff_exists'.1 (h.has (a, (n : Int)) hl)
  have HP : Hid (ptrO (N (a, (n : Int))) = .pointer (some ⟨b, 0, none⟩)) := Lib.hid (by rw [hN]; rfl)
  have HNb := Lib.hid hN
  have HBr := Lib.hid hB
  have HL := Lib.hid hl
  clear h hF hl hN hM hs
  go_enter Tryz.func47, Tryz.ntmps47
  go_wp2_with fail
  go_at_call 77; (with_reducible refine (Check_ok _ h0 h1 HZ.out).mono ?_); rintro e w1 ⟨rfl, hb1⟩
  obtain ⟨d0, d1, _, _⟩ := row2 (box1 hb1)
  have HT1 := Lib.hid ((HT.out.alloc _).below hb1)
  have HB1 := Lib.hid ((below_1 w _).trans (hb1.mono (by simp)))
  have hz1 := HB1.out.size
  clear hb1
  go_wp2_with fail
  go_at_call 78; (with_reducible refine (at_any HT1.out HN.out HA.out (by omega) HW.out).mono ?_); rintro e w2 ⟨rfl, hb2⟩
  rw [HP.out]
  have HT2 := Lib.hid (HT1.out.below hb2)
  obtain ⟨u, -, ⟨c0, c1, -, -⟩, f0, f1, -⟩ := HT2.out.cells HNb.out
  rw [HS.out] at c0
  have HB2 := Lib.hid (HB1.out.trans (hb2.mono (by omega)))
  clear hb2
  go_wp2
  go_ret
  exact ⟨rfl, HT2.out.renewed HNb.out HM.out (fun y hy => by rw [look_put, if_neg hy]) (by rw [look_put, if_pos rfl]) HL.out HLn.out, (Keeps.of_below HB2.out HBr.out).setCell HNb.out (HT2.out.base _ _ HNb.out) _⟩
theorem at_absent {n : Nat} (h : Tri w T B N m) (hl : look m (a, (n : Int)) = none) :
    N (a, (n : Int)) = none ∨ ∃ b, N (a, (n : Int)) = some b ∧ w.cell? ⟨b, 0, none⟩ = some (.bool false) := by
  cases hN : N (a, (n : Int)) with
  | none => exact .inl rfl
  | some b =>
    obtain ⟨u, -, ⟨c0, -, -, -⟩, -⟩ := h.cells hN
    rw [hl] at c0
    exact .inr ⟨b, rfl, c0⟩
theorem Put_full {n : Nat} (h : Tri w T B N m) (ha : is32 a) (hF : netF (a, (n : Int)) = 0) (hl : look m (a, (n : Int)) = none) (hm : m.length = 64) (hB : B ≤ w.heap.size) :
    Calls Tryz.prog 47 #[.pointer (some ⟨T, 0, none⟩), .agg #[.int .u32 a, .int .i64 n], .int .i64 v] w fun e w' => e = .returned (.iface 35 (.int .i64 4)) ∧ Below w.heap.size w w' := by
  have HZ := Lib.hid hF
  have HA := Lib.hid ha
  have hn : n ≤ 32 := by have := (netF_zero.1 hF).2.1; omega
  have HN := Lib.hid hn
  have HW : Hid (fl (lowI n) a = a) := Lib.hid (by simpa using (netF_zero.1 hF).2.2)
  obtain ⟨h0, h1⟩ := ha
  have HT := Lib.hid h
  have HL := Lib.hid hl
  have HM := Lib.hid hm
  have HBr := Lib.hid hB
  clear h hF hl hm
  go_enter Tryz.func47, Tryz.ntmps47
  go_wp2_with fail
  go_at_call 77; (with_reducible refine (Check_ok _ h0 h1 HZ.out).mono ?_); rintro e w1 ⟨rfl, hb1⟩
  obtain ⟨d0, d1, _, _⟩ := row2 (box1 hb1)
  have HT1 := Lib.hid ((HT.out.alloc _).below hb1)
  have HB1 := Lib.hid ((below_1 w _).trans (hb1.mono (by simp)))
  have hz1 := HB1.out.size
  clear hb1
  go_wp2_with fail
  go_at_call 78; (with_reducible refine (at_any HT1.out HN.out HA.out (by omega) HW.out).mono ?_); rintro e w2 ⟨rfl, hb2⟩
  have HT2 := Lib.hid (HT1.out.below hb2)
  have HB2 := Lib.hid (HB1.out.trans (hb2.mono (by omega)))
  have t4 := HT2.out.top.1
  rw [HM.out] at t4
  clear hb2
  rcases at_absent HT2.out HL.out with hN | ⟨b, hN, c0⟩
  all_goals
    rw [hN]
    first | rw [ptrO_none] | rw [ptrO_some]
    clear hN
    go_wp2
    go_ret
    exact ⟨rfl, HB2.out⟩
structure PutR (w : World) (T B : Nat) (N : NM) (m : List (Nt × Int)) (a : Int) (n k : Nat) (N' : NM) (b : Nat) (wr : World) : Prop where
  tri : Tri wr T B N' m
  here : N' (trimN (a, (n : Int)) k) = some b
  keeps : Keeps B N w wr
  new : ∀ z g, N' z = some g → N z = some g ∨ w.heap.size + 1 ≤ g
  box : wr.heap[w.heap.size]? = some (.cells #[.int .u32 a, .int .i64 n] 47 (0, 0))
theorem PutR.drewN {n k : Nat} {N' : NM} {b : Nat} {wr : World} (h : PutR w T B N m a n k N' b wr) (d : Nat) : PutR w T B N m a n k N' b (wr.drewN d) :=
  ⟨h.tri.drewN d, h.here, ⟨below_drewN h.keeps.bel d, h.keeps.oth⟩, h.new, h.box⟩
theorem PutR.step {n k : Nat} {N' : NM} {b c : Nat} {wr : World} (h : PutR w T B N m a n k N' b wr) (q : Bool) (hq : trimN (a, (n : Int)) (k + 1) = kidN (trimN (a, (n : Int)) k) q) (hc : N' (kidN (trimN (a, (n : Int)) k) q) = some c) : PutR w T B N m a n (k + 1) N' c wr :=
  ⟨h.tri, by rw [hq]; exact hc, h.keeps, h.new, h.box⟩
theorem PutR.grow {n k : Nat} {N' : NM} {b : Nat} {wr : World} (h : PutR w T B N m a n k N' b wr) (hk : k < 32) (hB : B ≤ w.heap.size) (hT : Tri w T B N m) (q : Bool) (hq : trimN (a, (n : Int)) (k + 1) = kidN (trimN (a, (n : Int)) k) q) (hc : N' (kidN (trimN (a, (n : Int)) k) q) = none) :
    PutR w T B N m a n (k + 1) (updN N' (kidN (trimN (a, (n : Int)) k) q) wr.heap.size) wr.heap.size ((wr.alloc (.cells #[.bool false, .int .i64 0, .pointer none, .pointer none] 68)).setCell ⟨b, if q then 3 else 2, none⟩ (.pointer (some ⟨wr.heap.size, 0, none⟩))) := by
  have hsz := h.keeps.bel.size
  have hbx := size_of_block h.box
  refine ⟨h.tri.grow h.here rfl hk q hc (by omega), by rw [hq]; unfold updN; rw [if_pos rfl], ?_, ?_, ?_⟩
  · refine ⟨(h.keeps.bel.alloc (by omega) _).setCell (h.tri.base _ _ h.here) _, fun g hg hn => ?_⟩
    have hgb : g ≠ b := by
      rcases h.new _ _ h.here with h1 | h1
      · intro e; exact hn _ (by rw [h1, e])
      · omega
    rw [heap_setCell_other _ _ _ _ hgb]
    exact (((Below.refl wr.heap.size wr).alloc (Nat.le_refl _) _).block g (by omega)).trans (h.keeps.oth g hg hn)
  · intro z g hz
    unfold updN at hz
    split at hz
    · simp at hz; right; omega
    · exact h.new z g hz
  · have hgb : w.heap.size ≠ b := by
      rcases h.new _ _ h.here with h1 | h1
      · have := hT.lt h1; omega
      · omega
    rw [heap_setCell_other _ _ _ _ hgb]
    exact (((Below.refl wr.heap.size wr).alloc (Nat.le_refl _) _).block _ hbx).trans h.box
set_option maxHeartbeats 4000000 in
theorem Put_new {n : Nat} (h : Tri w T B N m) (ha : is32 a) (hv : (Lit.int .i64 v).wf = true) (hF : netF (a, (n : Int)) = 0) (hl : look m (a, (n : Int)) = none) (hm : m.length < 64) (hB : B ≤ w.heap.size) :
    Calls Tryz.prog 47 #[.pointer (some ⟨T, 0, none⟩), .agg #[.int .u32 a, .int .i64 n], .int .i64 v] w fun e w' => e = .returned .nilIface ∧ ∃ N', Tri w' T B N' (putM m (a, (n : Int)) v) ∧ Keeps B N w w' ∧ ∀ z g, N' z = some g → N z = some g ∨ w.heap.size ≤ g := by
  have HZ := Lib.hid hF
  have HA := Lib.hid ha
  have hn : n ≤ 32 := by have := (netF_zero.1 hF).2.1; omega
  have HN := Lib.hid hn
  have HW : Hid (fl (lowI n) a = a) := Lib.hid (by simpa using (netF_zero.1 hF).2.2)
  have HMo := Lib.hid (h.ok.put hF ha hv (fun e => hm))
  have HLn : Hid (((putM m (a, (n : Int)) v).length : Int) = (m.length : Int) + 1) := Lib.hid (by rw [put_length h.ok.nodup, if_pos hl]; simp)
  have HT := Lib.hid h
  have HL := Lib.hid hl
  have HBr := Lib.hid hB
  have HE : Hid (trimN (a, (n : Int)) n = (a, (n : Int))) := Lib.hid (trim_self rfl (by simpa using (netF_zero.1 hF).2.2))
  have H00 : Hid (N (trimN (a, (n : Int)) 0) = some T) := Lib.hid (by rw [trim_zero ha]; exact h.root)
  obtain ⟨h0, h1⟩ := ha
  have hne : ((m.length : Int) == 64) = false := by rw [beq_eq_false_iff_ne]; omega
  clear h hF hl
  go_enter Tryz.func47, Tryz.ntmps47
  go_wp2_with fail
  go_at_call 77; (with_reducible refine (Check_ok _ h0 h1 HZ.out).mono ?_); rintro e w1 ⟨rfl, hb1⟩
  have bx1 := box1 hb1
  have HX1 := Lib.hid bx1
  obtain ⟨d0, d1, _, _⟩ := row2 bx1
  have HT1 := Lib.hid ((HT.out.alloc _).below hb1)
  have HB1 := Lib.hid ((below_1 w _).trans (hb1.mono (by simp)))
  have hz1 := HB1.out.size
  clear hb1 bx1
  go_wp2_with fail
  go_at_call 78; (with_reducible refine (at_any HT1.out HN.out HA.out (by omega) HW.out).mono ?_); rintro e w2 ⟨rfl, hb2⟩
  have hT2 := HT1.out.below hb2
  have hB2 := HB1.out.trans (hb2.mono (by omega))
  have bx2 := below_block hb2 (size_of_block HX1.out) HX1.out
  obtain ⟨e0, e1, _, _⟩ := row2 bx2
  have HP : Hid (PutR w T B N m a n 0 N T w2) := Lib.hid ⟨hT2, H00.out, Keeps.of_below hB2 HBr.out, fun _ _ h => .inl h, bx2⟩
  have t4 := hT2.top.1
  have hab := at_absent hT2 HL.out
  clear hb2 hT2 hB2 bx2
  rcases hab with hN | ⟨b, hN, c0⟩
  all_goals
    rw [hN]
    first | rw [ptrO_none] | rw [ptrO_some]
    clear hN
    go_wp2
    try clear c0
    go_loopw [9, 43] (fun x c wr => ∃ (k : Nat) (N' : NM) (b : Nat), k ≤ n ∧ c = .int .i64 k ∧ x = .pointer (some ⟨b, 0, none⟩) ∧ PutR w T B N m a n k N' b wr) (fun _ c _ => n - (intOf c).toNat)
    case atStart => exact ⟨0, N, T, by omega, rfl, rfl, HP.out⟩
    case round =>
      obtain ⟨k, N', b', hk, rfl, rfl, hP⟩ := hrel
      have hT := hP.tri
      have hbx := hP.box
      obtain ⟨x0, x1, _, _⟩ := row2 hbx
      obtain ⟨u, -, ⟨c0, c1, c2, c3⟩, f0, f1, f2, f3⟩ := hT.cells hP.here
      obtain ⟨t4', f4⟩ := hT.top
      have HP' := Lib.hid hP
      have hbl := hT.lt hP.here
      have hbn : ¬ b' = wr.heap.size := by omega
      have hbn2 : ¬ wr.heap.size = b' := by omega
      by_cases hlt : k < n
      · have hk32 : k < 32 := by omega
        have HS := Lib.hid (trim_step (a, (n : Int)) k hk32)
        rcases bitI_01 a k with hb | hb
        · have HBit := Lib.hid hb
          have HS2 : Hid (trimN (a, (n : Int)) (k + 1) = kidN (trimN (a, (n : Int)) k) false) := Lib.hid (by rw [HS.out]; simp [hb, kidN])
          clear HS hb hT hP hbx
          cases hc : N' (halfP (trimN (a, (n : Int)) k)) with
          | some c =>
            rw [hc, ptrO_some] at c2
            have HC := Lib.hid hc
            clear hc
            go_wp2
            go_quiet ((go_at_call 79; exact quiet_left (bit_is _ HA.out hk32 HBit.out)))
            go_wp2
            go_roundw
            case rel => exact ⟨k + 1, N', c, by omega, by go_num, rfl, (HP'.out.step false HS2.out HC.out).drewN _⟩
            case measure => simp [intOf]; omega
          | none =>
            rw [hc, ptrO_none] at c2
            have HC := Lib.hid hc
            clear hc
            go_wp2
            go_quiet ((go_at_call 79; exact quiet_left (bit_is _ HA.out hk32 HBit.out)))
            have HP3 := Lib.hid (HP'.out.drewN nq)
            generalize wr.drewN nq = w3 at *
            obtain ⟨u3, -, ⟨-, -, b2, -⟩, -, -, g2, -⟩ := HP3.out.tri.cells HP3.out.here
            have hbl3 := HP3.out.tri.lt HP3.out.here
            rw [HC.out, ptrO_none] at b2
            have k2 := ((World.cell?_alloc_lt w3 (.cells #[.bool false, .int .i64 0, .pointer none, .pointer none] 68) ⟨b', 2, none⟩ hbl3).trans b2)
            have hbn3 : ¬ b' = w3.heap.size := by omega
            have hbn4 : ¬ w3.heap.size = b' := by omega
            go_wp2
            go_roundw
            case rel => exact ⟨k + 1, _, _, by omega, by go_num, rfl, by have hg := HP3.out.grow hk32 HBr.out HT.out false HS2.out HC.out; rwa [World.setCell_alloc_past _ _ _ _ hbl3] at hg⟩
            case measure => simp [intOf]; omega
        · have HBit := Lib.hid hb
          have HS2 : Hid (trimN (a, (n : Int)) (k + 1) = kidN (trimN (a, (n : Int)) k) true) := Lib.hid (by rw [HS.out]; simp [hb, kidN])
          clear HS hb hT hP hbx
          cases hc : N' (halfQ (trimN (a, (n : Int)) k)) with
          | some c =>
            rw [hc, ptrO_some] at c3
            have HC := Lib.hid hc
            clear hc
            go_wp2
            go_quiet ((go_at_call 79; exact quiet_left (bit_is _ HA.out hk32 HBit.out)))
            go_wp2
            go_roundw
            case rel => exact ⟨k + 1, N', c, by omega, by go_num, rfl, (HP'.out.step true HS2.out HC.out).drewN _⟩
            case measure => simp [intOf]; omega
          | none =>
            rw [hc, ptrO_none] at c3
            have HC := Lib.hid hc
            clear hc
            go_wp2
            go_quiet ((go_at_call 79; exact quiet_left (bit_is _ HA.out hk32 HBit.out)))
            have HP3 := Lib.hid (HP'.out.drewN nq)
            generalize wr.drewN nq = w3 at *
            obtain ⟨u3, -, ⟨-, -, -, b2⟩, -, -, -, g2⟩ := HP3.out.tri.cells HP3.out.here
            have hbl3 := HP3.out.tri.lt HP3.out.here
            rw [HC.out, ptrO_none] at b2
            have k2 := ((World.cell?_alloc_lt w3 (.cells #[.bool false, .int .i64 0, .pointer none, .pointer none] 68) ⟨b', 3, none⟩ hbl3).trans b2)
            have hbn3 : ¬ b' = w3.heap.size := by omega
            have hbn4 : ¬ w3.heap.size = b' := by omega
            go_wp2
            go_roundw
            case rel => exact ⟨k + 1, _, _, by omega, by go_num, rfl, by have hg := HP3.out.grow hk32 HBr.out HT.out true HS2.out HC.out; rwa [World.setCell_alloc_past _ _ _ _ hbl3] at hg⟩
            case measure => simp [intOf]; omega
      · obtain rfl : k = n := by omega
        have HN' : Hid (N' (a, (k : Int)) = some b') := Lib.hid (by have h := HP'.out.here; rwa [HE.out] at h)
        clear hP hT hbx
        go_wp2
        go_ret
        rw [← HLn.out]
        exact ⟨rfl, N', HP'.out.tri.store3 HN'.out HMo.out (fun y hy => by rw [look_put, if_neg hy]) (by rw [look_put, if_pos rfl]),
          ⟨((HP'.out.keeps.bel.setCell (HP'.out.tri.base _ _ HN'.out) _).setCell (HP'.out.tri.base _ _ HN'.out) _).setCell (HP'.out.tri.base _ _ HP'.out.tri.root) _, fun g hg hn => by
            have hgb : g ≠ b' := by
              rcases HP'.out.new _ _ HN'.out with h1 | h1
              · intro e; exact hn _ (by rw [h1, e])
              · omega
            have hgT : g ≠ T := fun e => hn _ (by rw [HT.out.root, e])
            rw [heap_setCell_other _ _ _ _ hgT, heap_setCell_other _ _ _ _ hgb, heap_setCell_other _ _ _ _ hgb]
            exact HP'.out.keeps.oth g hg hn⟩,
          fun z g hz => (HP'.out.new z g hz).imp id (fun h => by omega)⟩
end
end Go.Proofs.YtgdlkjahlajcpaaGreatDoor
namespace Go.Proofs.YtgdlkjahlajcpaaGreatDoor
open Go.ChangeShapes Go.WideShapes Go.ChangeAt Go.RowKit
set_option linter.unusedVariables false
set_option linter.unusedSimpArgs false
def fB (r : Option (Nat × Int)) : Int := match r with | none => 0 | some p => (p.1 : Int)
def fV (r : Option (Nat × Int)) : Int := match r with | none => 0 | some p => p.2
def fF (r : Option (Nat × Int)) : Bool := r.isSome
def findV (a : Int) (r : Option (Nat × Int)) : Value := match r with
  | none => .tuple #[netV (0, 0), .int .i64 0, .iface 35 (.int .i64 2)]
  | some p => .tuple #[netV (trimN (a, 32) p.1), .int .i64 p.2, .nilIface]
section
variable {w : World} {T B : Nat} {N : NM} {m : List (Nt × Int)} {a : Int} {v : Int}
theorem find_end {W : World} {R : Nat} {a : Act} {v0 v1 x e : Value} {t : TypeId} {K : Ending → World → Prop} (h : W.heap[R]? = some (.cells #[v0, v1] t (0, 0))) (h2 : a.tmps[4]?.getD undef = .pointer (some ⟨R, 0, none⟩)) (h3 : a.tmps[5]?.getD undef = x) (h4 : a.tmps[6]?.getD undef = e) (hd : a.defers = [])
    (hK : K (.returned (.tuple #[.agg #[v0, v1], x, e])) W) : bodyPost Tryz.prog Tryz.f55 K .ret a W := by
  have e0 : W.cell? ⟨R, 0, none⟩ = some v0 := by rw [cell_of_row _ R _ _ _ (0, 0) h]; rfl
  have e1 : W.cell? ⟨R, 1, none⟩ = some v1 := by rw [cell_of_row _ R _ _ _ (0, 0) h]; rfl
  exact bodyPost_ret (by simp [results, Tryz.results55, go_sem, h2, h3, h4, e0, e1]) hd hK
theorem com_self {a : Int} (h : is32 a) : comN (a, ((32 : Nat) : Int)) (a, ((32 : Nat) : Int)) = (a, 32) := by
  have e : comL (a, ((32 : Nat) : Int)) (a, ((32 : Nat) : Int)) = 32 := by
    unfold comL lzN
    simp [Nat.xor_self, blen]
  unfold comN
  rw [e]
  exact trim_32 h
set_option maxHeartbeats 4000000 in
theorem Find_any (h : Tri w T B N m) (ha : is32 a) (hB : B ≤ w.heap.size) :
    Calls Tryz.prog 55 #[.pointer (some ⟨T, 0, none⟩), .int .u32 a] w fun e w' => e = .returned (findV a (fnd m a 33)) ∧ Below w.heap.size w w' := by
  have HA := Lib.hid ha
  have HT := Lib.hid h
  obtain ⟨r, hr⟩ : ∃ r, fnd m a 33 = r := ⟨_, rfl⟩
  rw [hr]
  have HR := Lib.hid hr
  have H00 : Hid (N (trimN (a, 32) 0) = some T) := Lib.hid (by rw [trim_zero ha]; exact h.root)
  clear h hr
  go_enter Tryz.func55, Tryz.ntmps55
  go_upto_block 0 with fail
  go_cut [7, 8, 9] (fun s t u wx => s = .int .i64 (fB r) ∧ t = .int .i64 (fV r) ∧ u = .bool (fF r) ∧ ∃ d, wx = (w.alloc (.cells #[.int .u32 0, .int .i64 0] 47)).drewN d)
  case first =>
    go_wp2
    go_loopw [7, 8, 9, 10, 11] (fun s t u x i wr => ∃ k d : Nat, k ≤ 32 ∧ i = .int .i64 k ∧ s = .int .i64 (fB (fnd m a k)) ∧ t = .int .i64 (fV (fnd m a k)) ∧ u = .bool (fF (fnd m a k)) ∧ x = ptrO (N (trimN (a, 32) k)) ∧ wr = (w.alloc (.cells #[.int .u32 0, .int .i64 0] 47)).drewN d) (fun _ _ _ _ i _ => 32 - (intOf i).toNat)
    case atStart => exact ⟨0, 0, by omega, rfl, rfl, rfl, rfl, by rw [H00.out]; rfl, rfl⟩
    case round =>
      obtain ⟨k, d, hk, rfl, rfl, rfl, rfl, rfl, rfl⟩ := hrel
      have hT := HT.out
      have HK := Lib.hid (show fnd m a (k + 1) = match look m (trimN (a, 32) k) with | some v => some (k, v) | none => fnd m a k from rfl)
      cases hN : N (trimN (a, 32) k) with
      | none =>
        rw [ptrO_none]
        have HE : Hid (fnd m a k = r) := Lib.hid (by rw [← HR.out, hT.find_stop hN 33 (by omega)])
        rw [HE.out]
        clear hN hT HK
        go_wp2
        go_meet
        exact ⟨rfl, rfl, rfl, d, rfl⟩
      | some b =>
        rw [ptrO_some]
        obtain ⟨v, hv, ⟨c0, c1, c2, c3⟩, f0, f1, f2, f3⟩ := hT.cells hN
        have hbl := hT.lt hN
        have hbn : ¬ b = w.heap.size := by omega
        cases hl : look m (trimN (a, 32) k) with
        | none =>
          rw [hl] at c0 HK
          simp only [Option.isSome_none] at c0
          by_cases h32 : k = 32
          · subst h32
            have HE : Hid (fnd m a 32 = r) := Lib.hid (by rw [← HR.out]; exact HK.out.symm)
            rw [HE.out]
            clear hv hN hT hl HK
            go_wp2
            go_meet
            exact ⟨rfl, rfl, rfl, d, rfl⟩
          · have hk31 : k < 32 := by omega
            have h32' : ((k : Int) == 32) = false := by rw [beq_eq_false_iff_ne]; omega
            have HS := Lib.hid (trim_step (a, 32) k hk31)
            rcases bitI_01 a k with hb | hb
            · have HBit := Lib.hid hb
              have HS2 : Hid (trimN (a, 32) (k + 1) = halfP (trimN (a, 32) k)) := Lib.hid (by rw [HS.out]; simp [hb])
              clear hb hN hT HS hl hv
              rw [← HS2.out] at c2
              rw [← (show fnd m a (k + 1) = fnd m a k from HK.out)]
              go_wp2
              go_quiet ((go_at_call 79; exact quiet_add_left (bit_is _ HA.out hk31 HBit.out)))
              go_wp2
              go_roundw
              case rel => exact ⟨k + 1, _, by omega, by go_num, rfl, rfl, rfl, rfl, rfl⟩
              case measure => simp [intOf]; omega
            · have HBit := Lib.hid hb
              have HS2 : Hid (trimN (a, 32) (k + 1) = halfQ (trimN (a, 32) k)) := Lib.hid (by rw [HS.out]; simp [hb])
              clear hb hN hT HS hl hv
              rw [← HS2.out] at c3
              rw [← (show fnd m a (k + 1) = fnd m a k from HK.out)]
              go_wp2
              go_quiet ((go_at_call 79; exact quiet_add_left (bit_is _ HA.out hk31 HBit.out)))
              go_wp2
              go_roundw
              case rel => exact ⟨k + 1, _, by omega, by go_num, rfl, rfl, rfl, rfl, rfl⟩
              case measure => simp [intOf]; omega
        | some u =>
          obtain rfl := hv u hl
          rw [hl] at c0 HK
          simp only [Option.isSome_some] at c0
          by_cases h32 : k = 32
          · subst h32
            have HE : Hid (some (32, u) = r) := Lib.hid (by rw [← HR.out]; exact HK.out.symm)
            clear hv hN hT hl HK
            generalize fnd m a 32 = q
            go_wp2
            go_quiet (fail)
            go_wp2
            go_meet
            rw [← HE.out]
            exact ⟨rfl, rfl, rfl, _, rfl⟩
          · have hk31 : k < 32 := by omega
            have h32' : ((k : Int) == 32) = false := by rw [beq_eq_false_iff_ne]; omega
            have HS := Lib.hid (trim_step (a, 32) k hk31)
            generalize hq : fnd m a k = q at *
            clear hq
            rcases bitI_01 a k with hb | hb
            · have HBit := Lib.hid hb
              have HS2 : Hid (trimN (a, 32) (k + 1) = halfP (trimN (a, 32) k)) := Lib.hid (by rw [HS.out]; simp [hb])
              clear hb hN hT HS hl hv
              rw [← HS2.out] at c2
              go_wp2
              go_quiet (fail)
              go_wp2
              go_quiet ((go_at_call 79; exact quiet_add_left (bit_is _ HA.out hk31 HBit.out)))
              go_wp2
              go_roundw
              case rel => exact ⟨k + 1, _, by omega, by go_num, by rw [HK.out]; rfl, by rw [HK.out]; rfl, by rw [HK.out]; rfl, rfl, rfl⟩
              case measure => simp [intOf]; omega
            · have HBit := Lib.hid hb
              have HS2 : Hid (trimN (a, 32) (k + 1) = halfQ (trimN (a, 32) k)) := Lib.hid (by rw [HS.out]; simp [hb])
              clear hb hN hT HS hl hv
              rw [← HS2.out] at c3
              go_wp2
              go_quiet (fail)
              go_wp2
              go_quiet ((go_at_call 79; exact quiet_add_left (bit_is _ HA.out hk31 HBit.out)))
              go_wp2
              go_roundw
              case rel => exact ⟨k + 1, _, by omega, by go_num, by rw [HK.out]; rfl, by rw [HK.out]; rfl, by rw [HK.out]; rfl, rfl, rfl⟩
              case measure => simp [intOf]; omega
  case rest =>
    obtain ⟨rfl, rfl, rfl, d, rfl⟩ := hcut
    have hRs : w.heap.size < (w.alloc (.cells #[.int .u32 0, .int .i64 0] 47)).heap.size := by simp
    have hblk : ((w.alloc (.cells #[.int .u32 0, .int .i64 0] 47)).drewN d).heap[w.heap.size]? = some (.cells #[.int .u32 0, .int .i64 0] 47 (0, 0)) := heap_alloc_new w _
    have HBW : Hid (Below w.heap.size w ((w.alloc (.cells #[.int .u32 0, .int .i64 0] 47)).drewN d)) := Lib.hid (below_drewN (below_1 w _) d)
    have hsz : ((w.alloc (.cells #[.int .u32 0, .int .i64 0] 47)).drewN d).heap.size = w.heap.size + 1 := by simp
    cases r with
    | none =>
      clear HR
      simp only [fB, fV, fF, Option.isSome_none]
      generalize (w.alloc (.cells #[.int .u32 0, .int .i64 0] 47)).drewN d = w1 at *
      obtain ⟨q0, q1, g0, g1⟩ := row2 hblk
      have HBLK := Lib.hid hblk
      clear hblk hsz hRs
      go_wp2
      exact find_end (set2_block _ _ HBLK.out) rfl rfl rfl rfl ⟨rfl, (HBW.out.setCell (by simp) _).setCell (by simp) _⟩
    | some p =>
      obtain ⟨j, u⟩ := p
      have hj : j ≤ 32 := by have := (fnd_some HR.out).1; omega
      clear HR
      simp only [fB, fV, fF, Option.isSome_some]
      generalize (w.alloc (.cells #[.int .u32 0, .int .i64 0] 47)).drewN d = w1 at *
      have HBLK := Lib.hid hblk
      have HSZ := Lib.hid hsz
      clear hblk hsz hRs
      have hsz1 : w.heap.size < w1.heap.size := by have := HSZ.out; omega
      have HC : Hid (∀ w, Calls Tryz.prog 67 #[.agg #[.int .u32 a, .int .i64 32], .agg #[.int .u32 a, .int .i64 32]] w fun e w' => e = .returned (.tuple #[.agg #[.int .u32 a, .int .i64 32], .nilIface]) ∧ Below w.heap.size w w') := Lib.hid (fun w => by
        have h32 : netF (a, ((32 : Nat) : Int)) = 0 := net_of (by omega) (by have := congrArg Prod.fst (trim_32 HA.out); simpa [trimN] using this)
        have := Common_ok (n := 32) (m := 32) w HA.out HA.out h32 h32
        rw [com_self HA.out] at this
        exact this)
      go_wp2_with fail
      go_at_call 67
      (with_reducible refine (HC.out _).mono ?_)
      rintro e w2 ⟨rfl, hb2⟩
      have hRB := below_block hb2 hsz1 HBLK.out
      have HRB2 : Hid ((w2.alloc (.cells #[.int .u32 a, .int .i64 32] 47)).heap[w.heap.size]? = some (.cells #[.int .u32 0, .int .i64 0] 47 (0, 0))) := Lib.hid (below_block ((Below.refl _ _).alloc (Nat.le_refl _) _) (size_of_block hRB) hRB)
      have HB2 : Hid (Below w.heap.size w (w2.alloc (.cells #[.int .u32 a, .int .i64 32] 47))) := Lib.hid ((HBW.out.trans (hb2.mono (by omega))).alloc (Nat.le_of_lt (size_of_block hRB)) _)
      have hRlt := size_of_block hRB
      have HF32 : Hid (fl (lowI 32) a = a) := Lib.hid (by have := congrArg Prod.fst (trim_32 HA.out); simpa [trimN] using this)
      clear hb2 hRB
      go_wp2_with fail
      go_loopw [13] (fun er wr => ∃ l : Nat, j ≤ l ∧ l ≤ 32 ∧ er = .nilIface ∧ wr.heap[w2.heap.size]? = some (.cells #[.int .u32 (fl (lowI l) a), .int .i64 l] 47 (0, 0)) ∧ wr.heap[w.heap.size]? = some (.cells #[.int .u32 0, .int .i64 0] 47 (0, 0)) ∧ Below w.heap.size w wr) (fun _ wr => (intOf ((wr.cell? ⟨w2.heap.size, 1, none⟩).getD undef)).toNat)
      case atStart => exact ⟨32, hj, Nat.le_refl _, rfl, by rw [HF32.out]; exact heap_alloc_new w2 _, HRB2.out, HB2.out⟩
      case round =>
        obtain ⟨l, hjl, hl, rfl, hn, hR, hB'⟩ := hrel
        obtain ⟨n0, n1, gn0, gn1⟩ := row2 hn
        obtain ⟨q0, q1, g0, g1⟩ := row2 hR
        have HNn := Lib.hid hn
        have HRr := Lib.hid hR
        have HBr := Lib.hid hB'
        have hwl := size_of_block hn
        clear hn hR hB'
        by_cases hlt : j < l
        · obtain ⟨k, rfl⟩ : ∃ k, l = k + 1 := ⟨l - 1, by omega⟩
          have HU : Hid (∀ w, Calls Tryz.prog 82 #[.agg #[.int .u32 (fl (lowI (k + 1)) a), .int .i64 ((k : Int) + 1)]] w fun e w' => e = .returned (.tuple #[.agg #[.int .u32 (fl (lowI k) a), .int .i64 k], .nilIface]) ∧ Below w.heap.size w w') := Lib.hid (fun w => by
            have := Up_ok (a := fl (lowI (k + 1)) a) (k := k) w (fl_32 (lowI_pos _) HA.out) (by omega) (net_of (k := k + 1) hl (fl_of (fl_idem _ _ (lowI_pos _))))
            rw [fl_low (by omega) hl] at this
            exact this)
          have HM : Hid (intOf ((wr.cell? ⟨w2.heap.size, 1, none⟩).getD undef) = ((k + 1 : Nat) : Int)) := Lib.hid (by rw [n1]; rfl)
          go_wp2_with fail
          go_at_call 82
          (with_reducible refine (HU.out _).mono ?_)
          rintro e w3 ⟨rfl, hb3⟩
          have hn3 := below_block hb3 hwl HNn.out
          have hR3 := below_block hb3 (size_of_block HRr.out) HRr.out
          have HS3 := Lib.hid (set2_block (.int .u32 (fl (lowI k) a)) (.int .i64 k) hn3)
          have HR3 := Lib.hid hR3
          have HB3 := Lib.hid (HBr.out.trans (hb3.mono HBr.out.size))
          obtain ⟨p0, p1, gp0, gp1⟩ := row2 hn3
          have hne : w.heap.size ≠ w2.heap.size := by omega
          clear hn3 hR3 hb3
          go_wp2
          go_roundw
          case rel => exact ⟨k, by omega, by omega, rfl, HS3.out, by rw [heap_setCell_other _ _ _ _ hne, heap_setCell_other _ _ _ _ hne]; exact HR3.out, (HB3.out.setCell (by simp; omega) _).setCell (by simp; omega) _⟩
          case measure =>
            rw [HM.out, cell_of_row _ _ _ _ _ (0, 0) HS3.out]
            simp [intOf]
        · obtain rfl : l = j := by omega
          have hd : decide ((l : Int) < (l : Int)) = false := by simp
          go_wp2
          exact find_end (set2_block _ _ HRr.out) rfl rfl rfl rfl ⟨rfl, (HBr.out.setCell (by simp) _).setCell (by simp) _⟩
end
end Go.Proofs.YtgdlkjahlajcpaaGreatDoor
namespace Go.Proofs.YtgdlkjahlajcpaaGreatDoor
open Go.ChangeShapes Go.WideShapes Go.ChangeAt Go.RowKit
set_option linter.unusedVariables false
def nC (x : Int × Int) : List Value := [.int .u32 x.1, .int .i64 x.2]
def wfN (x : Int × Int) : Prop := (Lit.int .u32 x.1).wf = true ∧ (Lit.int .i64 x.2).wf = true
theorem rd_nC {w : World} {ok : Nat → Prop} {x : Int × Int} (h : wfN x) : rdNet w ok (nC x) x := ⟨_, _, rfl, ⟨rfl, h.1⟩, ⟨rfl, h.2⟩⟩
def OwnN (w : World) (base : Nat) (v : Value) (xs : List (Int × Int)) : Prop := w.ownsRow base 47 2 v xs.length (xs.flatMap nC) ∧ ∀ x ∈ xs, wfN x
theorem nC_len (l : List (Int × Int)) : (l.flatMap nC).length = l.length * 2 := by
  induction l with
  | nil => rfl
  | cons x r ih => rw [List.flatMap_cons, List.length_append, ih]; simp [nC]; omega
theorem nC_at (xs : List (Int × Int)) (i j : Nat) (x : Int × Int) (hi : xs[i]? = some x) (hj : j < 2) : (xs.flatMap nC)[i * 2 + j]? = (nC x)[j]? := by
  induction xs generalizing i with
  | nil => simp at hi
  | cons y r ih =>
    rw [List.flatMap_cons]
    cases i with
    | zero =>
      simp only [List.getElem?_cons_zero, Option.some.injEq] at hi
      subst hi
      rw [Nat.zero_mul, Nat.zero_add, List.getElem?_append_left (by simp [nC]; omega)]
    | succ i =>
      have := ih i (by simpa using hi)
      rw [List.getElem?_append_right (by simp [nC]; omega), ← this]
      congr 1
      simp [nC]; omega
theorem OwnN.read {w : World} {base : Nat} {v : Value} {xs : List (Int × Int)} (h : OwnN w base v xs) : R1 rdNets w v xs := by
  obtain ⟨A, c, rfl⟩ := own_form h.1
  refine RdSlice.of_own (xs := xs) h.1 rfl (fun g hg => (own_blk h.1 g hg).2) (fun i x hi => ⟨nC x, rfl, rd_nC (h.2 x (List.mem_of_getElem? hi)), fun j u hu => ?_⟩)
  have hj : j < 2 := by have := (List.getElem?_eq_some_iff.1 hu).1; simpa [nC] using this
  rw [nC_at xs i j x hi hj]; exact hu
theorem OwnN.nil_ (w : World) (base : Nat) : OwnN w base (.slice none 0 0) [] := ⟨⟨rfl, .inl ⟨rfl, rfl⟩⟩, by simp⟩
theorem OwnN.alloc {w : World} {base : Nat} {v : Value} {xs : List (Int × Int)} (h : OwnN w base v xs) (o : Obj) : OwnN (w.alloc o) base v xs := ⟨h.1.alloc o, h.2⟩
theorem OwnN.below {w w' : World} {base : Nat} {v : Value} {xs : List (Int × Int)} (h : OwnN w base v xs) (hb : Below w.heap.size w w') : OwnN w' base v xs := ⟨own_below h.1 hb, h.2⟩
theorem OwnN.form {w : World} {base : Nat} {v : Value} {xs : List (Int × Int)} (h : OwnN w base v xs) : ∃ A c, v = .slice A xs.length c := own_form h.1
theorem OwnN.setCell {w : World} {base : Nat} {v : Value} {xs : List (Int × Int)} (h : OwnN w base v xs) {g o : Nat} (hg : g < base) (u : Value) : OwnN (w.setCell ⟨g, o, none⟩ u) base v xs := by
  refine ⟨h.1.kept (row := some g) ⟨rfl, rfl, rfl, by simp, fun k hk hne => heap_setCell_other _ _ _ _ (fun e => hne (by rw [e]))⟩ ?_, h.2⟩
  cases hv : v.ownBlock with
  | none => exact .inl rfl
  | some k => exact .inr (by have := (own_blk h.1 k hv).1; intro e; injection e with e; omega)
theorem one_nC (x : Int × Int) : ∀ u ∈ nC x, u.oneCell' = true := by
  intro u hu; simp only [nC, List.mem_cons, List.not_mem_nil, or_false] at hu
  rcases hu with rfl | rfl <;> rfl
theorem one_nCs (l : List (Int × Int)) : ∀ u ∈ l.flatMap nC, u.oneCell' = true := by
  intro u hu
  obtain ⟨x, _, hx⟩ := List.mem_flatMap.1 hu
  exact one_nC x u hx
theorem net_info : (Tryz.prog.info? 47).map (fun i => (i.zero, i.size, i.bytes)) = some (some (.agg #[.int .u32 0, .int .i64 0]), 2, 16) := by kernel_rfl
theorem wpList_append_net {w : World} {ops : Array Oper} {rest : List Oper} {o : Oper} {a : Act} {Q : Exit → Act → World → Prop} (hgd : o.guard = none) (s x : Operand) (t : TypeId) (ht : Tryz.prog.underlying t = some (.slice 47))
    (ho : o.op = .call { callee := .builtin .append, args := #[s, x], argTypes := #[t, t] })
    (base : Nat) (v : Value) (xs : List (Int × Int)) (hs : a.eval s = v) (hown : OwnN w base v xs)
    (G : Nat) (y : Int × Int) (t2 : TypeId) (hx : a.eval x = .slice (some ⟨G, 0, none⟩) 1 1) (hG : w.heap[G]? = some (.cells #[.int .u32 y.1, .int .i64 y.2] t2 (0, 0))) (hwf : wfN y)
    (hl : xs.length ≤ 8796093022000) (hbase : base ≤ w.heap.size)
    (h : ∀ v' w', OwnN w' base v' (xs ++ [y]) → Grow w v w' v' → wpList Tryz.prog ops Q rest (a.put o.dst v') w') : wpList Tryz.prog ops Q (o :: rest) a w := by
  obtain ⟨i0, hi, hz0, hz1, hz2⟩ := info_parts net_info
  have hr : Reads w w.heap.size 2 (some ⟨G, 0, none⟩) 1 (nC y) := ⟨rfl, fun _ => ⟨_, rfl, size_of_block hG, fun j u hu => by
    rw [addr_add, cell_of_row _ G _ _ t2 (0, 0) hG]; simpa [nC] using hu⟩⟩
  refine wpList_append_any w hgd s x t ho base _ i0 _ 2 16 ht hi hz0 hz1 hz2 (by rfl) (by omega) v xs.length _ hs hown.1 w.heap.size _ 1 1 (nC y) hx hr (one_nC y) (by simp only [maxLen]; omega) (by omega) hbase ?_
  intro v' w' h1 h2 h3
  refine h v' w' ⟨by simpa using h1, fun q hq => ?_⟩ ⟨h2, ?_⟩
  · rcases List.mem_append.1 hq with hq | hq
    · exact hown.2 q hq
    · simp only [List.mem_cons, List.not_mem_nil, or_false] at hq; subst hq; exact hwf
  · rcases h3 with h3 | h3
    · exact .inl h3
    · exact .inr ⟨_, h3, Nat.le_refl _⟩
theorem RdSlice.atN {w : World} {ok : Nat → Prop} {A : Option Addr} {n c : Nat} {xs : List (Int × Int)} (h : RdSlice 2 rdNet w ok [.slice A n c] xs) {k : Nat} (hk : k < n) :
    ∃ b o x, A = some ⟨b, o, none⟩ ∧ ok b ∧ Hid (xs[k]? = some x) ∧ wfN x ∧ w.cell? ⟨b, o + k * 2, none⟩ = some (.int .u32 x.1) ∧ w.cell? ⟨b, o + k * 2 + 1, none⟩ = some (.int .i64 x.2) := by
  obtain ⟨b, o, x, cs, hA, hb, hx, _, hr, hc⟩ := h.at_ hk
  obtain ⟨x, y⟩ := x
  obtain ⟨_, _, rfl, ⟨rfl, w0⟩, ⟨rfl, w1⟩⟩ := hr
  exact ⟨b, o, _, hA, hb, hx, ⟨w0, w1⟩, hc 0 _ rfl, by rw [Nat.add_assoc]; exact hc 1 _ rfl⟩
theorem reads_nets {w : World} {ok : Nat → Prop} {A : Option Addr} {n c : Nat} {l : List (Int × Int)} (hr : RdSlice 2 rdNet w ok [.slice A n c] l) (hok : ∀ b, ok b → b < w.heap.size) : Reads w w.heap.size 2 A n (l.flatMap nC) := by
  obtain ⟨hn, _, _⟩ := hr.len
  refine ⟨by rw [nC_len, hn], fun h0 => ?_⟩
  obtain ⟨b, o, x, rfl, hb, _⟩ := hr.atN h0
  refine ⟨⟨b, o, none⟩, rfl, hok b hb, fun j u hu => ?_⟩
  have hj : j < n * 2 := by
    rcases Nat.lt_or_ge j (n * 2) with h | h
    · exact h
    · rw [List.getElem?_eq_none (by rw [nC_len]; omega)] at hu; cases hu
  obtain ⟨b', o', y, e, _, HY, _, c0, c1⟩ := hr.atN (k := j / 2) (by omega)
  simp only [Option.some.injEq, Addr.mk.injEq, and_true] at e
  obtain ⟨rfl, rfl⟩ := e
  have h3 := nC_at l (j / 2) (j % 2) y HY.out (Nat.mod_lt _ (by omega))
  rw [show j / 2 * 2 + j % 2 = j by omega] at h3
  rw [h3] at hu
  rw [addr_add]
  rcases (show j % 2 = 0 ∨ j % 2 = 1 by omega) with hm | hm
  · rw [hm] at hu
    simp only [nC, List.getElem?_cons_zero, Option.some.injEq] at hu
    subst hu
    rw [show j = j / 2 * 2 by omega]; exact c0
  · rw [hm] at hu
    simp only [nC, List.getElem?_cons_succ, List.getElem?_cons_zero, Option.some.injEq] at hu
    subst hu
    rw [show j = j / 2 * 2 + 1 by omega, ← Nat.add_assoc]
    exact c1
theorem nets_wf {w : World} {ok : Nat → Prop} {A : Option Addr} {n c : Nat} {l : List (Int × Int)} (hr : RdSlice 2 rdNet w ok [.slice A n c] l) : ∀ x ∈ l, wfN x := by
  intro x hx
  obtain ⟨hn, _, _⟩ := hr.len
  obtain ⟨i, hi, rfl⟩ := List.getElem_of_mem hx
  obtain ⟨_, _, y, _, _, HY, hw, _⟩ := hr.atN (k := i) (by omega)
  rw [List.getElem?_eq_getElem hi] at HY
  have := HY.out
  injection this with this
  rw [this]; exact hw
theorem wpList_append_nets {w : World} {ops : Array Oper} {rest : List Oper} {o : Oper} {a : Act} {Q : Exit → Act → World → Prop} (hgd : o.guard = none) (s x : Operand) (t : TypeId) (ht : Tryz.prog.underlying t = some (.slice 47))
    (ho : o.op = .call { callee := .builtin .append, args := #[s, x], argTypes := #[t, t] })
    (base : Nat) (v : Value) (xs : List (Int × Int)) (hs : a.eval s = v) (hown : OwnN w base v xs)
    (A : Option Addr) (m c : Nat) (ys : List (Int × Int)) (hx : a.eval x = .slice A m c) (hr : R1 rdNets w (.slice A m c) ys)
    (hl : xs.length + ys.length ≤ 8796093022000) (hbase : base ≤ w.heap.size)
    (h : ∀ v' w', OwnN w' base v' (xs ++ ys) → Grow w v w' v' → wpList Tryz.prog ops Q rest (a.put o.dst v') w') : wpList Tryz.prog ops Q (o :: rest) a w := by
  obtain ⟨i0, hi, hz0, hz1, hz2⟩ := info_parts net_info
  obtain ⟨hm, _, _⟩ := RdSlice.len hr
  refine wpList_append_any w hgd s x t ho base _ i0 _ 2 16 ht hi hz0 hz1 hz2 (by rfl) (by omega) v xs.length _ hs hown.1 w.heap.size A m c (ys.flatMap nC) hx (reads_nets hr (fun b h => h)) (one_nCs ys) (by simp only [maxLen]; omega) (by omega) hbase ?_
  intro v' w' h1 h2 h3
  refine h v' w' ⟨by rw [List.length_append, List.flatMap_append, ← hm]; exact h1, fun q hq => ?_⟩ ⟨h2, ?_⟩
  · rcases List.mem_append.1 hq with hq | hq
    · exact hown.2 q hq
    · exact nets_wf hr q hq
  · rcases h3 with h3 | h3
    · exact .inl h3
    · exact .inr ⟨_, h3, Nat.le_refl _⟩
end Go.Proofs.YtgdlkjahlajcpaaGreatDoor
namespace Go.Proofs.YtgdlkjahlajcpaaGreatDoor
open Go.ChangeShapes Go.WideShapes Go.ChangeAt Go.RowKit
set_option linter.unusedVariables false
set_option linter.unusedSimpArgs false
structure LInv (w0 : World) (l : List Nt) (w : World) : Prop where
  bel : Below w0.heap.size w0 w
  out : ∃ v, w.heap[w0.heap.size]? = some (.cells #[v] 26 (0, 0)) ∧ OwnN w (w0.heap.size + 2) v l
  fn : ∃ t, w.heap[w0.heap.size + 1]? = some (.cells #[.func (.func 86) #[] #[.pointer (some ⟨w0.heap.size, 0, none⟩), .pointer (some ⟨w0.heap.size + 1, 0, none⟩)]] t (0, 0))
theorem LInv.below {w0 w w' : World} {l : List Nt} (h : LInv w0 l w) (hb : Below w.heap.size w w') : LInv w0 l w' := by
  obtain ⟨v, h1, h2⟩ := h.out
  obtain ⟨t, h3⟩ := h.fn
  exact ⟨h.bel.trans (hb.mono h.bel.size), ⟨v, below_block hb (size_of_block h1) h1, h2.below hb⟩, ⟨t, below_block hb (size_of_block h3) h3⟩⟩
def Frm (w0 w w' : World) : Prop := ∀ g o, w.heap[g]? = some o → g ≠ w0.heap.size → (∀ v, w.heap[w0.heap.size]? = some (.cells #[v] 26 (0, 0)) → v.ownBlock ≠ some g) →
  w'.heap[g]? = some o ∧ ∀ v, w'.heap[w0.heap.size]? = some (.cells #[v] 26 (0, 0)) → v.ownBlock ≠ some g
theorem Frm.trans {w0 a b c : World} (h : Frm w0 a b) (k : Frm w0 b c) : Frm w0 a c := fun g o h1 h2 h3 => by
  obtain ⟨h4, h5⟩ := h g o h1 h2 h3
  exact k g o h4 h2 h5
theorem Frm.of_below {w0 w w' : World} {l : List Nt} (hI : LInv w0 l w) (hb : Below w.heap.size w w') : Frm w0 w w' := fun g o h1 h2 h3 => by
  refine ⟨below_block hb (size_of_block h1) h1, fun v hv => h3 v ?_⟩
  obtain ⟨u, hu, _⟩ := hI.out
  rw [hb.block _ (size_of_block hu)] at hv
  exact hv
theorem LInv.apart {w0 w : World} {l : List Nt} (hI : LInv w0 l w) {g : Nat} (hg : w.heap.size ≤ g) : ∀ v, w.heap[w0.heap.size]? = some (.cells #[v] 26 (0, 0)) → v.ownBlock ≠ some g := by
  intro v hv e
  obtain ⟨u, hu, ho⟩ := hI.out
  rw [hu] at hv
  simp only [Option.some.injEq, Obj.cells.injEq, and_true] at hv
  have : u = v := by simpa using hv
  subst this
  have := (own_blk ho.1 g e).2
  omega
theorem LInv.apart2 {w0 w w' : World} {l : List Nt} (hI : LInv w0 l w) (hb : Below w.heap.size w w') {g : Nat} (hg : w.heap.size ≤ g) : ∀ v, w'.heap[w0.heap.size]? = some (.cells #[v] 26 (0, 0)) → v.ownBlock ≠ some g := by
  intro v hv
  obtain ⟨u, hu, _⟩ := hI.out
  rw [hb.block _ (size_of_block hu)] at hv
  exact hI.apart hg v hv
theorem LInv.push {w0 w w2 : World} {l : List Nt} {x : Nt} {v v' : Value} (h : LInv w0 l w) (ho : w.heap[w0.heap.size]? = some (.cells #[v] 26 (0, 0))) (hown : OwnN w (w0.heap.size + 2) v l) (h2 : OwnN w2 (w0.heap.size + 2) v' (l ++ [x])) (hg : Grow w v w2 v') :
    w2.heap[w0.heap.size]? = some (.cells #[v] 26 (0, 0)) ∧ LInv w0 (l ++ [x]) (w2.setCell ⟨w0.heap.size, 0, none⟩ v') ∧ Frm w0 w (w2.setCell ⟨w0.heap.size, 0, none⟩ v') := by
  have hD : w2.heap[w0.heap.size]? = some (.cells #[v] 26 (0, 0)) := by
    rw [hg.1.block _ (size_of_block ho) (fun e => by have := (own_blk hown.1 _ e.symm).1; omega)]; exact ho
  obtain ⟨t, hf⟩ := h.fn
  have hF : w2.heap[w0.heap.size + 1]? = some (.cells #[.func (.func 86) #[] #[.pointer (some ⟨w0.heap.size, 0, none⟩), .pointer (some ⟨w0.heap.size + 1, 0, none⟩)]] t (0, 0)) := by
    rw [hg.1.block _ (size_of_block hf) (fun e => by have := (own_blk hown.1 _ e.symm).1; omega)]; exact hf
  refine ⟨hD, ⟨(hg.below h.bel hown.1 (by omega) h.bel.size).setCell (Nat.le_refl _) _, ⟨v', heap_setCell_same w2 _ 0 _ _ v' hD, h2.setCell (by omega) _⟩, t, ?_⟩, ?_⟩
  · rw [heap_setCell_other _ _ _ _ (by simp)]; exact hF
  · intro g o h3 h4 h5
    have h6 := h5 v ho
    refine ⟨?_, fun u hu e => ?_⟩
    · rw [heap_setCell_other _ _ _ _ h4, hg.1.block _ (size_of_block h3) (fun e => h6 e.symm)]; exact h3
    · rw [heap_setCell_same w2 _ 0 _ _ v' hD] at hu
      simp only [Option.some.injEq, Obj.cells.injEq, and_true] at hu
      have : v' = u := by simpa using hu
      subst this
      rcases hg.2 with h7 | ⟨q, h7, h8⟩
      · rw [h7] at e; exact h6 e
      · rw [h7] at e; injection e with e; have := size_of_block h3; omega
section
variable {w0 : World} {T B : Nat} {N : NM} {m : List (Nt × Int)}
theorem lst_none (hT : Tri w0 T B N m) {k : Nat} {a : Int} {n : Nat} (hn : n + k = 32) (hF : netF (a, (n : Int)) = 0) (hN : N (a, (n : Int)) = none) : lst m k (a, (n : Int)) = [] := by
  refine lst_nil hT.ok.netsOk hn hF fun y hy => ?_
  cases hi : inB y (a, (n : Int)) with
  | false => rfl
  | true =>
    exfalso
    obtain ⟨h1, h2, _, h4⟩ := inB_iff.1 hi
    obtain ⟨j, hj, ej, fj⟩ := net_ok h1
    simp only [Int.toNat_natCast] at h2 h4
    have h5 := hT.chain (hT.has y hy) ej n (by omega)
    have : trimN y n = (a, (n : Int)) := by unfold trimN; rw [h4]
    rw [this] at h5
    exact h5 hN
set_option maxRecDepth 100000 in
set_option maxHeartbeats 4000000 in
theorem walk_none (hT : Tri w0 T B N m) {w : World} {k : Nat} {a : Int} {n : Nat} {l : List Nt} (hn : n + k = 32) (hF : netF (a, (n : Int)) = 0) (hI : LInv w0 l w) (hN : N (a, (n : Int)) = none) :
    Calls Tryz.prog 86 #[ptrO (N (a, (n : Int))), .agg #[.int .u32 a, .int .i64 n], .pointer (some ⟨w0.heap.size, 0, none⟩), .pointer (some ⟨w0.heap.size + 1, 0, none⟩)] w fun e w' => e = .returned (.tuple #[]) ∧ LInv w0 (l ++ lst m k (a, (n : Int))) w' ∧ Frm w0 w w' := by
  have hl := lst_none hT hn hF hN
  rw [hl, hN, ptrO_none, List.append_nil]
  have HI := Lib.hid hI
  clear hl hN hI hT
  go_enter Tryz.func86, Tryz.ntmps86
  go_wp2
  refine bodyPost_ret (results_none rfl _ _ _) rfl ?_
  exact ⟨rfl, HI.out.below (below_1 _ _), Frm.of_below HI.out (below_1 _ _)⟩
theorem Grow.blk {w w2 : World} {v v' : Value} {base : Nat} {xs : List Nt} {g : Nat} {o : Obj} (hg : Grow w v w2 v') (hown : OwnN w base v xs) (ho : w.heap[g]? = some o) (hn : ∀ k, v.ownBlock = some k → g ≠ k) : w2.heap[g]? = some o := by
  rw [hg.1.block _ (size_of_block ho) (fun e => hn _ e.symm rfl)]; exact ho
def WalkC (w0 : World) (N : NM) (m : List (Nt × Int)) (k : Nat) : Prop := ∀ {w : World} {a : Int} {n : Nat} {l : List Nt}, n + k = 32 → netF (a, (n : Int)) = 0 → is32 a → LInv w0 l w → l.length + (lst m k (a, (n : Int))).length ≤ 64 →
    Calls Tryz.prog 86 #[ptrO (N (a, (n : Int))), .agg #[.int .u32 a, .int .i64 n], .pointer (some ⟨w0.heap.size, 0, none⟩), .pointer (some ⟨w0.heap.size + 1, 0, none⟩)] w fun e w' => e = .returned (.tuple #[]) ∧ LInv w0 (l ++ lst m k (a, (n : Int))) w' ∧ Frm w0 w w'
def hdB (hs : Bool) (x : Nt) : List Nt := if hs then [x] else []
set_option maxRecDepth 100000 in
set_option maxHeartbeats 4000000 in
theorem walk_zero (hT : Tri w0 T B N m) : WalkC w0 N m 0 := by
  intro w a n l hn hF hA hI hlen
  have hn32 : n = 32 := by omega
  by_cases hN0 : N (a, (n : Int)) = none
  · exact walk_none hT hn hF hI hN0
  · obtain ⟨b, hN⟩ := Option.ne_none_iff_exists'.1 hN0
    clear hN0
    rw [hN, ptrO_some]
    have hwf : wfN (a, (n : Int)) := ⟨WalkArith.wf_u32 hA, WalkArith.wf_i64 (by simp only; omega)⟩
    have hW := hT.below hI.bel
    obtain ⟨v, -, ⟨c0, -, -, -⟩, -⟩ := hW.cells hN
    have hbl := hT.lt hN
    have hsz := hI.bel.size
    have hbn : ¬ b = w.heap.size := by omega
    have hbl2 : b < w.heap.size := by omega
    have HI := Lib.hid hI
    obtain ⟨hs, hhs⟩ : ∃ hs, (look m (a, (n : Int))).isSome = hs := ⟨_, rfl⟩
    have HLs : Hid (lst m 0 (a, (n : Int)) = hdB hs (a, (n : Int))) := Lib.hid (by simp only [lst, hhs, hdB])
    rw [hhs] at c0
    rw [HLs.out]
    have hll : l.length ≤ 64 := by omega
    have HO : Hid (∀ w : World, Calls Tryz.prog 87 #[.agg #[.int .u32 a, .int .i64 n]] w fun e w' => e = .returned (.tuple #[.agg #[.int .u32 0, .int .i64 0], .agg #[.int .u32 0, .int .i64 0], .iface 35 (.int .i64 2)]) ∧ Below w.heap.size w w') := Lib.hid (fun w => by
      subst hn32
      exact Halves_one w hA hF)
    have HA := Lib.hid hA
    clear hI hW hN hT hhs hF hn hn32 hlen
    go_enter Tryz.func86, Tryz.ntmps86
    go_upto_if 14 with (fail)
    go_cut [] (fun wx => LInv w0 (l ++ hdB hs (a, (n : Int))) wx ∧ Frm w0 w wx ∧ wx.heap[w.heap.size]? = some (.cells #[.int .u32 a, .int .i64 n] 47 (0, 0)))
    case first =>
      have hI1 := HI.out.below (below_1 w (.cells #[.int .u32 a, .int .i64 n] 47))
      have hx1 := heap_alloc_new w (.cells #[.int .u32 a, .int .i64 n] 47)
      cases hs with
      | false =>
        go_wp2
        go_meet
        exact ⟨by simpa [hdB] using hI1, Frm.of_below HI.out (below_1 _ _), hx1⟩
      | true =>
        obtain ⟨vo, ho, hown⟩ := HI.out.out
        have hol := size_of_block ho
        have ho0 : w.cell? ⟨w0.heap.size, 0, none⟩ = some vo := by rw [cell_of_row _ _ _ _ _ (0, 0) ho]; rfl
        have hon : ¬ w0.heap.size = w.heap.size := by omega
        obtain ⟨A0, cp, rfl⟩ := hown.form
        have HOWN := Lib.hid hown
        have HWF := Lib.hid hwf
        have HHO := Lib.hid ho
        have hlen : l.length ≤ 8796093022000 := by omega
        obtain ⟨M, hM⟩ : ∃ M, l.length = M := ⟨_, rfl⟩
        rw [hM] at ho0 HHO HOWN
        have HIA := Lib.hid (hI1.below (below_1 _ (.cells #[.int .u32 a, .int .i64 n] 47)))
        have HHOA := Lib.hid (below_block (below_1 _ (.cells #[.int .u32 a, .int .i64 n] 47)) (by simp; omega) (below_block (below_1 w (.cells #[.int .u32 a, .int .i64 n] 47)) hol HHO.out))
        have HXA := Lib.hid (below_block (below_1 _ (.cells #[.int .u32 a, .int .i64 n] 47)) (by simp) hx1)
        have hD1 := own_blk HOWN.out.1
        have HD1 := Lib.hid hD1
        clear ho hown hI1 hx1 hM hwf hD1
        go_wp2_with (first
          | (at_builtin; go_loud (refine wpList_append_net rfl _ _ 26 Tryz.underlying26 rfl (w0.heap.size + 2) _ _ rfl ((HOWN.out.alloc _).alloc _) (w.heap.size + 1) (a, (n : Int)) 47 rfl (by have h := heap_alloc_new (w.alloc (.cells #[.int .u32 a, .int .i64 n] 47)) (.cells #[.int .u32 a, .int .i64 n] 47); rwa [World.size_alloc] at h) HWF.out hlen (by simp; omega) ?_); intro v' w2 hown2 hgrow2; obtain ⟨hD2, hI2, hF2⟩ := HIA.out.push HHOA.out ((HOWN.out.alloc _).alloc _) hown2 hgrow2; have hX2 := hgrow2.blk ((HOWN.out.alloc _).alloc _) HXA.out (fun k hk e => by have := (HD1.out k hk).2; omega); have D0 : w2.cell? ⟨w0.heap.size, 0, none⟩ = some (.slice A0 M cp) := by rw [cell_of_row _ _ _ _ _ (0, 0) hD2]; rfl
             have D1 := frozen_of_row _ w0.heap.size 0 _ _ hD2; have HI2 := Lib.hid hI2; have HF2 := Lib.hid hF2; have HX2 := Lib.hid hX2; obtain ⟨A2, c2, rfl⟩ := hown2.form; obtain ⟨L2, hL2⟩ : ∃ L2, (l ++ [(a, (n : Int))]).length = L2 := ⟨_, rfl⟩; rw [hL2] at HI2 HF2 ⊢; clear hL2 hown2 hgrow2 hD2 hI2 hF2 hX2)
          | fail)
        go_meet
        exact ⟨HI2.out, ((Frm.of_below HI.out (below_1 _ _)).trans (Frm.of_below (HI.out.below (below_1 _ _)) (below_1 _ _))).trans HF2.out, by rw [heap_setCell_other _ _ _ _ (fun e => hon e.symm)]; exact HX2.out⟩
    case rest =>
      obtain ⟨hI3, hf3, hx3⟩ := hcut
      have HF3 := Lib.hid hf3
      obtain ⟨d0, d1, _, _⟩ := row2 hx3
      have HI3 := Lib.hid hI3
      clear hI3 hx3 hf3
      go_wp2_with fail
      go_at_call 87
      (with_reducible refine (HO.out _).mono ?_)
      rintro e w4 ⟨rfl, hb4⟩
      have HI4 := Lib.hid (HI3.out.below hb4)
      have HF4 := Lib.hid (HF3.out.trans (Frm.of_below HI3.out hb4))
      clear hb4
      go_wp2
      go_end0
      exact ⟨rfl, (HI4.out.below (below_1 _ _)).below (below_1 _ _), (HF4.out.trans (Frm.of_below HI4.out (below_1 _ _))).trans (Frm.of_below (HI4.out.below (below_1 _ _)) (below_1 _ _))⟩
set_option maxRecDepth 100000 in
set_option maxHeartbeats 4000000 in
theorem walk_succ (hT : Tri w0 T B N m) {k : Nat} (ih : WalkC w0 N m k) : WalkC w0 N m (k + 1) := by
  intro w a n l hn hF hA hI hlen
  have hn32 : n < 32 := by omega
  by_cases hN0 : N (a, (n : Int)) = none
  · exact walk_none hT hn hF hI hN0
  · obtain ⟨b, hN⟩ := Option.ne_none_iff_exists'.1 hN0
    clear hN0
    rw [hN, ptrO_some]
    have hwf : wfN (a, (n : Int)) := ⟨WalkArith.wf_u32 hA, WalkArith.wf_i64 (by simp only; omega)⟩
    have hW := hT.below hI.bel
    obtain ⟨v, -, ⟨c0, -, -, -⟩, -⟩ := hW.cells hN
    have HT := Lib.hid hT
    have HNb := Lib.hid hN
    have hbl := hT.lt hN
    have hsz := hI.bel.size
    have hbn : ¬ b = w.heap.size := by omega
    have hbl2 : b < w.heap.size := by omega
    have HI := Lib.hid hI
    obtain ⟨hs, hhs⟩ : ∃ hs, (look m (a, (n : Int))).isSome = hs := ⟨_, rfl⟩
    have HLs : Hid (lst m (k + 1) (a, (n : Int)) = hdB hs (a, (n : Int)) ++ (lst m k (a, (n : Int) + 1) ++ lst m k (a + lowI (n + 1), (n : Int) + 1))) := Lib.hid (by simp only [lst, hhs, hdB, halfP, halfQ, Int.toNat_natCast])
    rw [hhs] at c0
    rw [HLs.out]
    have hll : l.length ≤ 64 := by omega
    have HO : Hid (∀ w : World, Calls Tryz.prog 87 #[.agg #[.int .u32 a, .int .i64 n]] w fun e w' => e = .returned (.tuple #[.agg #[.int .u32 a, .int .i64 ((n : Int) + 1)], .agg #[.int .u32 (a + lowI (n + 1)), .int .i64 ((n : Int) + 1)], .nilIface]) ∧ Below w.heap.size w w') := Lib.hid (fun w => Halves_ok w hA hn32 hF)
    have HFP : Hid (netF (a, ((n + 1 : Nat) : Int)) = 0) := Lib.hid (by simpa using half_p hn32 hF)
    have HFQ : Hid (netF (a + lowI (n + 1), ((n + 1 : Nat) : Int)) = 0) := Lib.hid (by simpa using half_q hn32 hF)
    have HAQ := Lib.hid (half_is hn32 hA hF)
    have HLen : Hid (l.length + (hdB hs (a, (n : Int))).length + (lst m k (a, (n : Int) + 1)).length + (lst m k (a + lowI (n + 1), (n : Int) + 1)).length ≤ 64) := Lib.hid (by rw [HLs.out] at hlen; simp only [List.length_append] at hlen; omega)
    have hnk : n + 1 + k = 32 := by omega
    have HCP : Hid (∀ (w : World) (l : List Nt), LInv w0 l w → l.length + (lst m k (a, (n : Int) + 1)).length ≤ 64 → Calls Tryz.prog 86 #[ptrO (N (a, (n : Int) + 1)), .agg #[.int .u32 a, .int .i64 ((n : Int) + 1)], .pointer (some ⟨w0.heap.size, 0, none⟩), .pointer (some ⟨w0.heap.size + 1, 0, none⟩)] w fun e w' => e = .returned (.tuple #[]) ∧ LInv w0 (l ++ lst m k (a, (n : Int) + 1)) w' ∧ Frm w0 w w') := Lib.hid (fun w l h1 h2 => ih hnk HFP.out hA h1 h2)
    have HCQ : Hid (∀ (w : World) (l : List Nt), LInv w0 l w → l.length + (lst m k (a + lowI (n + 1), (n : Int) + 1)).length ≤ 64 → Calls Tryz.prog 86 #[ptrO (N (a + lowI (n + 1), (n : Int) + 1)), .agg #[.int .u32 (a + lowI (n + 1)), .int .i64 ((n : Int) + 1)], .pointer (some ⟨w0.heap.size, 0, none⟩), .pointer (some ⟨w0.heap.size + 1, 0, none⟩)] w fun e w' => e = .returned (.tuple #[]) ∧ LInv w0 (l ++ lst m k (a + lowI (n + 1), (n : Int) + 1)) w' ∧ Frm w0 w w') := Lib.hid (fun w l h1 h2 => ih hnk HFQ.out HAQ.out h1 h2)
    clear ih
    have HA := Lib.hid hA
    clear hI hW hN hT hhs hF hn hn32 hlen
    go_enter Tryz.func86, Tryz.ntmps86
    go_upto_if 14 with (fail)
    go_cut [] (fun wx => LInv w0 (l ++ hdB hs (a, (n : Int))) wx ∧ Frm w0 w wx ∧ wx.heap[w.heap.size]? = some (.cells #[.int .u32 a, .int .i64 n] 47 (0, 0)))
    case first =>
      have hI1 := HI.out.below (below_1 w (.cells #[.int .u32 a, .int .i64 n] 47))
      have hx1 := heap_alloc_new w (.cells #[.int .u32 a, .int .i64 n] 47)
      cases hs with
      | false =>
        go_wp2
        go_meet
        exact ⟨by simpa [hdB] using hI1, Frm.of_below HI.out (below_1 _ _), hx1⟩
      | true =>
        obtain ⟨vo, ho, hown⟩ := HI.out.out
        have hol := size_of_block ho
        have ho0 : w.cell? ⟨w0.heap.size, 0, none⟩ = some vo := by rw [cell_of_row _ _ _ _ _ (0, 0) ho]; rfl
        have hon : ¬ w0.heap.size = w.heap.size := by omega
        obtain ⟨A0, cp, rfl⟩ := hown.form
        have HOWN := Lib.hid hown
        have HWF := Lib.hid hwf
        have HHO := Lib.hid ho
        have hlen : l.length ≤ 8796093022000 := by omega
        obtain ⟨M, hM⟩ : ∃ M, l.length = M := ⟨_, rfl⟩
        rw [hM] at ho0 HHO HOWN
        have HIA := Lib.hid (hI1.below (below_1 _ (.cells #[.int .u32 a, .int .i64 n] 47)))
        have HHOA := Lib.hid (below_block (below_1 _ (.cells #[.int .u32 a, .int .i64 n] 47)) (by simp; omega) (below_block (below_1 w (.cells #[.int .u32 a, .int .i64 n] 47)) hol HHO.out))
        have HXA := Lib.hid (below_block (below_1 _ (.cells #[.int .u32 a, .int .i64 n] 47)) (by simp) hx1)
        have hD1 := own_blk HOWN.out.1
        have HD1 := Lib.hid hD1
        clear ho hown hI1 hx1 hM hwf hD1
        go_wp2_with (first
          | (at_builtin; go_loud (refine wpList_append_net rfl _ _ 26 Tryz.underlying26 rfl (w0.heap.size + 2) _ _ rfl ((HOWN.out.alloc _).alloc _) (w.heap.size + 1) (a, (n : Int)) 47 rfl (by have h := heap_alloc_new (w.alloc (.cells #[.int .u32 a, .int .i64 n] 47)) (.cells #[.int .u32 a, .int .i64 n] 47); rwa [World.size_alloc] at h) HWF.out hlen (by simp; omega) ?_); intro v' w2 hown2 hgrow2; obtain ⟨hD2, hI2, hF2⟩ := HIA.out.push HHOA.out ((HOWN.out.alloc _).alloc _) hown2 hgrow2; have hX2 := hgrow2.blk ((HOWN.out.alloc _).alloc _) HXA.out (fun k hk e => by have := (HD1.out k hk).2; omega); have D0 : w2.cell? ⟨w0.heap.size, 0, none⟩ = some (.slice A0 M cp) := by rw [cell_of_row _ _ _ _ _ (0, 0) hD2]; rfl
             have D1 := frozen_of_row _ w0.heap.size 0 _ _ hD2; have HI2 := Lib.hid hI2; have HF2 := Lib.hid hF2; have HX2 := Lib.hid hX2; obtain ⟨A2, c2, rfl⟩ := hown2.form; obtain ⟨L2, hL2⟩ : ∃ L2, (l ++ [(a, (n : Int))]).length = L2 := ⟨_, rfl⟩; rw [hL2] at HI2 HF2 ⊢; clear hL2 hown2 hgrow2 hD2 hI2 hF2 hX2)
          | fail)
        go_meet
        exact ⟨HI2.out, ((Frm.of_below HI.out (below_1 _ _)).trans (Frm.of_below (HI.out.below (below_1 _ _)) (below_1 _ _))).trans HF2.out, by rw [heap_setCell_other _ _ _ _ (fun e => hon e.symm)]; exact HX2.out⟩
    case rest =>
      obtain ⟨hI3, hf3, hx3⟩ := hcut
      have HF3 := Lib.hid hf3
      obtain ⟨d0, d1, _, _⟩ := row2 hx3
      have HI3 := Lib.hid hI3
      clear hI3 hx3 hf3
      go_wp2_with fail
      go_at_call 87
      (with_reducible refine (HO.out _).mono ?_)
      rintro e w4 ⟨rfl, hb4⟩
      have hw4 := HI3.out.below hb4
      have HF4 := Lib.hid (HF3.out.trans (Frm.of_below HI3.out hb4))
      have hI4 := ((HI3.out.below hb4).below (below_1 _ (.cells #[.int .u32 a, .int .i64 ((n : Int) + 1)] 47))).below (below_1 _ (.cells #[.int .u32 (a + lowI (n + 1)), .int .i64 ((n : Int) + 1)] 47))
      have hLo := below_block (below_1 (w4.alloc (.cells #[.int .u32 a, .int .i64 ((n : Int) + 1)] 47)) (.cells #[.int .u32 (a + lowI (n + 1)), .int .i64 ((n : Int) + 1)] 47)) (by simp) (heap_alloc_new w4 (.cells #[.int .u32 a, .int .i64 ((n : Int) + 1)] 47))
      have hHi := heap_alloc_new (w4.alloc (.cells #[.int .u32 a, .int .i64 ((n : Int) + 1)] 47)) (.cells #[.int .u32 (a + lowI (n + 1)), .int .i64 ((n : Int) + 1)] 47)
      rw [World.size_alloc] at hHi
      have HF5 := Lib.hid ((HF4.out.trans (Frm.of_below hw4 (below_1 _ (.cells #[.int .u32 a, .int .i64 ((n : Int) + 1)] 47)))).trans (Frm.of_below (hw4.below (below_1 _ _)) (below_1 _ (.cells #[.int .u32 (a + lowI (n + 1)), .int .i64 ((n : Int) + 1)] 47))))
      have HAP := Lib.hid (hw4.apart2 (below_2 _ (.cells #[.int .u32 a, .int .i64 ((n : Int) + 1)] 47) (.cells #[.int .u32 (a + lowI (n + 1)), .int .i64 ((n : Int) + 1)] 47)) (g := w4.heap.size + 1) (by omega))
      have hw4s := hw4.bel.size
      clear hb4 hw4
      go_wp2
      generalize ((w4.alloc (.cells #[.int .u32 a, .int .i64 ((n : Int) + 1)] 47)).alloc (.cells #[.int .u32 (a + lowI (n + 1)), .int .i64 ((n : Int) + 1)] 47)) = w5 at *
      obtain ⟨v5, -, ⟨-, -, k2, k3⟩, -⟩ := (HT.out.below hI4.bel).cells HNb.out
      rw [show halfP (a, (n : Int)) = (a, (n : Int) + 1) from rfl] at k2
      obtain ⟨tf, hf⟩ := hI4.fn
      have kf : w5.cell? ⟨w0.heap.size + 1, 0, none⟩ = some (.func (.func 86) #[] #[.pointer (some ⟨w0.heap.size, 0, none⟩), .pointer (some ⟨w0.heap.size + 1, 0, none⟩)]) := by rw [cell_of_row _ _ _ _ _ (0, 0) hf]; rfl
      obtain ⟨l0, l1, _, _⟩ := row2 hLo
      have HI5d := Lib.hid hI4
      have HI5 := Lib.hid (hI4.below (w' := w5.drew) ((Below.refl _ _).drew))
      have HHi : Hid (w5.drew.heap[w4.heap.size + 1]? = some (.cells #[.int .u32 (a + lowI (n + 1)), .int .i64 ((n : Int) + 1)] 47 (0, 0))) := Lib.hid hHi
      clear hI4 hLo hHi hf k3
      go_still_tail 7, (by kernel_rfl)
      change wpList _ _ _ _ _ w5.drew
      go_wp2_with fail
      (with_reducible refine (HCP.out _ _ HI5.out (by have := HLen.out; simp only [List.length_append]; omega)).mono ?_)
      rintro e w6 ⟨rfl, hI6, hF6⟩
      have hHi6 := (hF6 _ _ HHi.out (by omega) HAP.out).1
      have HF6 := Lib.hid ((HF5.out.trans (Frm.of_below HI5d.out ((Below.refl _ w5).drew))).trans hF6)
      obtain ⟨v6, -, ⟨-, -, -, k3⟩, -⟩ := (HT.out.below hI6.bel).cells HNb.out
      rw [show halfQ (a, (n : Int)) = (a + lowI (n + 1), (n : Int) + 1) from rfl] at k3
      obtain ⟨tf6, hf6⟩ := hI6.fn
      have kf6 : w6.cell? ⟨w0.heap.size + 1, 0, none⟩ = some (.func (.func 86) #[] #[.pointer (some ⟨w0.heap.size, 0, none⟩), .pointer (some ⟨w0.heap.size + 1, 0, none⟩)]) := by rw [cell_of_row _ _ _ _ _ (0, 0) hf6]; rfl
      obtain ⟨m0, m1, _, _⟩ := row2 hHi6
      have HI7 := Lib.hid (hI6.below (w' := w6.drew) ((Below.refl _ _).drew))
      have HI6 := Lib.hid hI6
      clear hI6 hF6 hHi6 hf6 kf l0 l1 k2
      go_wp2
      go_still_tail 7, (by kernel_rfl)
      change wpList _ _ _ _ _ w6.drew
      go_wp2_with fail
      (with_reducible refine (HCQ.out _ _ HI7.out (by have := HLen.out; simp only [List.length_append]; omega)).mono ?_)
      rintro e w8 ⟨rfl, hI8, hF8⟩
      rw [List.append_assoc, List.append_assoc] at hI8
      have HI8 := Lib.hid hI8
      have HF8 := Lib.hid ((HF6.out.trans (Frm.of_below HI6.out ((Below.refl _ w6).drew))).trans hF8)
      clear hI8 hF8
      go_wp2
      go_end0
      exact ⟨rfl, HI8.out, HF8.out⟩
end
end Go.Proofs.YtgdlkjahlajcpaaGreatDoor
