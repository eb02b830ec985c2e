/- WireTorn: the walk. -/
import Derived.Test.YtimdnfakgobadaaDoorWireO
namespace Go.Proofs.YtimdnfakgobadaaDoor
open Go.ChangeShapes Go.WideShapes Go.ChangeAt Go.RowKit
set_option linter.unusedVariables false
set_option linter.unusedSimpArgs false

theorem pre_bytes {w : World} {A : Option Addr} {n c k : Nat} {l : List Int} (h : R1 rdBytes w (.slice A n c) l) (hk : k ≤ n) : R1 rdBytes w (.slice A k c) (l.take k) := RdSlice.pre h k hk
theorem quiet_base {P : Program} {f : FuncId} {args : Array Value} {w : World} {n : Nat} {v : Value}
    (h : Calls P f args (w.drewN n) fun e w' => e = .returned v ∧ ∃ m, w' = (w.drewN n).drewN m) : Calls P f args (w.drewN n) fun e w'' => e = .returned v ∧ ∃ m, w'' = w.drewN m :=
  h.mono fun _ _ ⟨he, m, hm⟩ => ⟨he, n + m, by rw [hm, World.drewN_drewN]⟩
theorem pre_entries {w : World} {A : Option Addr} {n c k : Nat} {l : List Entry} (h : R1 rdEntries w (.slice A n c) l) (hk : k ≤ n) : R1 rdEntries w (.slice A k c) (l.take k) := RdSlice.pre h k hk
set_option maxRecDepth 100000 in
set_option maxHeartbeats 4000000 in
theorem WireTorn_walk (W : World) (A0 : Array Value) (x : Bool × List Entry) (hx : RV rdMessage W (.agg A0) x) (cx : True ∧ x.2.length * 40 ≤ reachBytes ∧ ∀ y ∈ x.2, (True ∧ True) ∧ True ∧ True ∧ True)
    (k : Int) (hk : -9223372036854775808 ≤ k ∧ k ≤ 9223372036854775807) (hg : HErr W) :
    Calls Tryd.prog 5 #[.agg A0, .int .i64 k] W fun e w' => e = .returned (.bool true) ∧ Below W.heap.size W w' := by
  obtain ⟨A, n, c, rfl, hrm⟩ := message_parts hx
  obtain ⟨q, es⟩ := x
  simp only at hrm
  clear hx cx
  obtain ⟨hn, hnc, hcm⟩ := RdSlice.len hrm
  have HN := Lib.hid hn
  have HER := Lib.hid (entR_of hrm)
  clear hn hcm
  by_cases hm : msgF (q, es) = 0
  · have HM := Lib.hid hm
    have hn25 : n ≤ 25 := by have h1 := (msgF_zero.1 hm).1; have h2 := HN.out; simp only at h1; omega
    obtain ⟨nx, hnx, hnx2⟩ : ∃ nx, (msgB (q, es)).length = nx ∧ nx = 4 + 20 * n := ⟨_, rfl, by rw [msgB_length, HN.out]⟩
    have HNX := Lib.hid hnx
    have HT := Lib.hid (fun k hk => dec_torn (q, es) hm HER.out k hk)
    clear hm
    by_cases hk0 : k < 0
    · clear hnx HT
      go_enter Tryd.func5, Tryd.ntmps5
      go_wp2_with (first
        | (go_at_call 11; refine (wired_any _).mono ?_; rintro e w1 ⟨rfl, hb1⟩; have wb1 := (WB.start W q (.slice A n c)).below hb1; obtain ⟨c10, c11, _, _⟩ := row2 wb1.blk; have hz1 := size_of_block wb1.blk; have WB1 := Lib.hid wb1; clear hb1 wb1)
        | (go_at_call 15; (with_reducible refine (Encode_ok (R1.below hrm WB1.out.bel) HM.out).mono ?_); rintro e w2 ⟨v2, rfl, hr2, hb2⟩; obtain ⟨A2, c2, rfl⟩ := R1.form hr2; have wb2 := WB1.out.below hb2; obtain ⟨c20, c21, _, _⟩ := row2 wb2.blk; have hz2 := size_of_block wb2.blk; have WB2 := Lib.hid wb2; rw [HNX.out] at hr2 ⊢; have hc2 := (RdSlice.len hr2).2.1; have HR2 := Lib.hid hr2; clear hb2 wb2 hr2)
        | fail)
      go_ret
      exact ⟨rfl, WB2.out.bel⟩
    · obtain ⟨K, rfl⟩ := Int.eq_ofNat_of_zero_le (Int.not_lt.1 hk0)
      by_cases hkx : nx ≤ K
      · have hkx' : (nx : Int) ≤ (K : Int) := by omega
        clear hnx HT hnx2
        go_enter Tryd.func5, Tryd.ntmps5
        go_wp2_with (first
          | (go_at_call 11; refine (wired_any _).mono ?_; rintro e w1 ⟨rfl, hb1⟩; have wb1 := (WB.start W q (.slice A n c)).below hb1; obtain ⟨c10, c11, _, _⟩ := row2 wb1.blk; have hz1 := size_of_block wb1.blk; have WB1 := Lib.hid wb1; clear hb1 wb1)
          | (go_at_call 15; (with_reducible refine (Encode_ok (R1.below hrm WB1.out.bel) HM.out).mono ?_); rintro e w2 ⟨v2, rfl, hr2, hb2⟩; obtain ⟨A2, c2, rfl⟩ := R1.form hr2; have wb2 := WB1.out.below hb2; obtain ⟨c20, c21, _, _⟩ := row2 wb2.blk; have hz2 := size_of_block wb2.blk; have WB2 := Lib.hid wb2; rw [HNX.out] at hr2 ⊢; have hc2 := (RdSlice.len hr2).2.1; have HR2 := Lib.hid hr2; clear hb2 wb2 hr2)
          | fail)
        go_ret
        exact ⟨rfl, WB2.out.bel⟩
      · have hkx' : (K : Int) < (nx : Int) := by omega
        have HKX : Hid (K ≤ nx) := Lib.hid (by omega)
        have ht := HT.out K (by rw [hnx]; exact HKX.out)
        by_cases h4 : 4 ≤ K ∧ K % 20 = 4
        · rw [if_pos h4] at ht
          obtain ⟨j, rfl⟩ : ∃ j, K = 4 + 20 * j := ⟨(K - 4) / 20, by omega⟩
          have hj : (4 + 20 * j - 4) / 20 = j := by omega
          rw [hj] at ht
          have HD1 := Lib.hid ht
          have hjn : j < n := by omega
          have HLJ : Hid ((es.take j).length = j) := Lib.hid (by rw [List.length_take]; have := HN.out; omega)
          have HJN := Lib.hid (Nat.le_of_lt hjn)
          have t4 : (4 : Int) ≤ ((4 + 20 * j : Nat) : Int) := by omega
          have e1 : (((4 + 20 * j : Nat) : Int) - 4) = 20 * (j : Int) := by omega
          have e2 : (20 * (j : Int)) / 20 = j := by omega
          have e3 : ((4 + 20 * j : Nat) : Int) % 20 = 4 := by omega
          have j0 : (0 : Int) ≤ (j : Int) := by omega
          have j1 : (j : Int) ≤ (c : Int) := by omega
          clear ht hj h4 hnx HT
          go_enter Tryd.func5, Tryd.ntmps5
          go_wp2_with (first
            | (go_at_call 11; refine (wired_any _).mono ?_; rintro e w1 ⟨rfl, hb1⟩; have wb1 := (WB.start W q (.slice A n c)).below hb1; obtain ⟨c10, c11, _, _⟩ := row2 wb1.blk; have hz1 := size_of_block wb1.blk; have WB1 := Lib.hid wb1; clear hb1 wb1)
            | (go_at_call 15; (with_reducible refine (Encode_ok (R1.below hrm WB1.out.bel) HM.out).mono ?_); rintro e w2 ⟨v2, rfl, hr2, hb2⟩; obtain ⟨A2, c2, rfl⟩ := R1.form hr2; have wb2 := WB1.out.below hb2; obtain ⟨c20, c21, _, _⟩ := row2 wb2.blk; have hz2 := size_of_block wb2.blk; have WB2 := Lib.hid wb2; rw [HNX.out] at hr2 ⊢; have hc2 := (RdSlice.len hr2).2.1; have HR2 := Lib.hid hr2; clear hb2 wb2 hr2)
            | (go_at_call 18; (with_reducible refine (Decode_ok (pre_bytes HR2.out HKX.out) HD1.out).mono ?_); rintro e w3 ⟨v3, rfl, hr3, hb3⟩; obtain ⟨A3, c3, rfl⟩ := R1.form hr3; rw [HLJ.out] at hr3 ⊢; have wb3 := WB2.out.below hb3; obtain ⟨c30, c31, _, _⟩ := row2 wb3.blk; have hz3 := size_of_block wb3.blk; have WB3 := Lib.hid wb3; have HR3 := Lib.hid hr3; clear hb3 wb3 hr3)
            | fail)
          have r5 := R1.alloc HR3.out (.cells #[.bool q, .slice A3 j c3] 35)
          have r6 := R1.below (pre_entries hrm HJN.out) (WB3.out.alloc (.cells #[.bool q, .slice A3 j c3] 35)).bel
          have d0 : (w3.alloc (.cells #[.bool q, .slice A3 j c3] 35)).cell? ⟨w3.heap.size, 0, none⟩ = some (.bool q) := by simp
          have d1 : (w3.alloc (.cells #[.bool q, .slice A3 j c3] 35)).cell? ⟨w3.heap.size, 1, none⟩ = some (.slice A3 j c3) := by simp
          have d2 : (w3.alloc (.cells #[.bool q, .slice A3 j c3] 35)).cell? ⟨W.heap.size, 0, none⟩ = some (.bool q) := (row2 (WB3.out.alloc _).blk).1
          have d3 : (w3.alloc (.cells #[.bool q, .slice A3 j c3] 35)).cell? ⟨W.heap.size, 1, none⟩ = some (.slice A n c) := (row2 (WB3.out.alloc _).blk).2.1
          have WB5 := Lib.hid (WB3.out.alloc (.cells #[.bool q, .slice A3 j c3] 35))
          generalize w3.alloc (.cells #[.bool q, .slice A3 j c3] 35) = w5 at *
          have q1 : IntKind.i64.wrap (4 + 20 * (j : Int) - 4) = 20 * (j : Int) := by rw [IntWalk.i64_in _ ⟨by omega, by omega⟩]; omega
          have q2 : IntKind.i64.wrap (20 * (j : Int)) = 20 * (j : Int) := IntWalk.i64_in _ ⟨by omega, by omega⟩
          have q3 : (20 * (j : Int)).tdiv 20 = j := by rw [Int.tdiv_eq_ediv_of_nonneg (by omega)]; omega
          have q4 : IntKind.i64.wrap (j : Int) = (j : Int) := IntWalk.i64_in _ ⟨by omega, by omega⟩
          go_quiet ((go_at_call 20; exact quiet_base (Entries_eq (R1.drewN r5 _) (R1.drewN r6 _))))
          clear q1 q2 q3 q4
          cases q
          all_goals
            go_wp2
            go_ret
            exact ⟨rfl, (WB5.out.drewN _).bel⟩
        · rw [if_neg h4] at ht
          have HD1 := Lib.hid ht
          have t4 : ((4 : Int) ≤ (K : Int) ∧ (K : Int) % 20 = 4) → False := fun h => h4 (by omega)
          clear ht hnx HT
          by_cases h4a : 4 ≤ K
          · have h4b : (4 : Int) ≤ (K : Int) := by omega
            have t5 : (((K : Int) % 20) == 4) = false := by simp; omega
            clear t4 h4
            go_enter Tryd.func5, Tryd.ntmps5
            go_wp2_with (first
              | (go_at_call 11; refine (wired_any _).mono ?_; rintro e w1 ⟨rfl, hb1⟩; have wb1 := (WB.start W q (.slice A n c)).below hb1; obtain ⟨c10, c11, _, _⟩ := row2 wb1.blk; have hz1 := size_of_block wb1.blk; have WB1 := Lib.hid wb1; clear hb1 wb1)
              | (go_at_call 15; (with_reducible refine (Encode_ok (R1.below hrm WB1.out.bel) HM.out).mono ?_); rintro e w2 ⟨v2, rfl, hr2, hb2⟩; obtain ⟨A2, c2, rfl⟩ := R1.form hr2; have wb2 := WB1.out.below hb2; obtain ⟨c20, c21, _, _⟩ := row2 wb2.blk; have hz2 := size_of_block wb2.blk; have WB2 := Lib.hid wb2; rw [HNX.out] at hr2 ⊢; have hc2 := (RdSlice.len hr2).2.1; have HR2 := Lib.hid hr2; clear hb2 wb2 hr2)
              | (go_at_call 18; (with_reducible refine (Decode_err (pre_bytes HR2.out HKX.out) HD1.out).mono ?_); rintro e w3 ⟨v3, rfl, hr3, hb3⟩; obtain ⟨A3, c3, rfl⟩ := R1.form hr3; have wb3 := WB2.out.below hb3; obtain ⟨c30, c31, _, _⟩ := row2 wb3.blk; have hz3 := size_of_block wb3.blk; have WB3 := Lib.hid wb3; clear hb3 wb3 hr3)
              | (go_at_call 9; (with_reducible refine (Error_any 6 6 _ (hg.below (WB3.out.alloc _).bel)).mono ?_); rintro e w6 ⟨rfl, hb6⟩; have wb6 := (WB3.out.alloc _).below hb6; have g60 : w6.cell? ⟨w3.heap.size, 0, none⟩ = some (.bool false) := (hb6.cell (by simp)).trans (by simp); have g61 : w6.cell? ⟨w3.heap.size, 1, none⟩ = some (.slice A3 0 c3) := (hb6.cell (by simp)).trans (by simp); have WB6 := Lib.hid wb6; clear hb6 wb6)
              | fail)
            go_ret
            exact ⟨rfl, WB6.out.bel⟩
          · have h4b : ¬ (4 : Int) ≤ (K : Int) := by omega
            clear t4 h4
            go_enter Tryd.func5, Tryd.ntmps5
            go_wp2_with (first
              | (go_at_call 11; refine (wired_any _).mono ?_; rintro e w1 ⟨rfl, hb1⟩; have wb1 := (WB.start W q (.slice A n c)).below hb1; obtain ⟨c10, c11, _, _⟩ := row2 wb1.blk; have hz1 := size_of_block wb1.blk; have WB1 := Lib.hid wb1; clear hb1 wb1)
              | (go_at_call 15; (with_reducible refine (Encode_ok (R1.below hrm WB1.out.bel) HM.out).mono ?_); rintro e w2 ⟨v2, rfl, hr2, hb2⟩; obtain ⟨A2, c2, rfl⟩ := R1.form hr2; have wb2 := WB1.out.below hb2; obtain ⟨c20, c21, _, _⟩ := row2 wb2.blk; have hz2 := size_of_block wb2.blk; have WB2 := Lib.hid wb2; rw [HNX.out] at hr2 ⊢; have hc2 := (RdSlice.len hr2).2.1; have HR2 := Lib.hid hr2; clear hb2 wb2 hr2)
              | (go_at_call 18; (with_reducible refine (Decode_err (pre_bytes HR2.out HKX.out) HD1.out).mono ?_); rintro e w3 ⟨v3, rfl, hr3, hb3⟩; obtain ⟨A3, c3, rfl⟩ := R1.form hr3; have wb3 := WB2.out.below hb3; obtain ⟨c30, c31, _, _⟩ := row2 wb3.blk; have hz3 := size_of_block wb3.blk; have WB3 := Lib.hid wb3; clear hb3 wb3 hr3)
              | (go_at_call 9; (with_reducible refine (Error_any 6 6 _ (hg.below (WB3.out.alloc _).bel)).mono ?_); rintro e w6 ⟨rfl, hb6⟩; have wb6 := (WB3.out.alloc _).below hb6; have g60 : w6.cell? ⟨w3.heap.size, 0, none⟩ = some (.bool false) := (hb6.cell (by simp)).trans (by simp); have g61 : w6.cell? ⟨w3.heap.size, 1, none⟩ = some (.slice A3 0 c3) := (hb6.cell (by simp)).trans (by simp); have WB6 := Lib.hid wb6; clear hb6 wb6)
              | fail)
            go_ret
            exact ⟨rfl, WB6.out.bel⟩
  · have HM := Lib.hid hm
    have HEV := Lib.hid (errV_ne hm)
    clear hm
    go_enter Tryd.func5, Tryd.ntmps5
    go_wp2_with (first
      | (go_at_call 11; refine (wired_any _).mono ?_; rintro e w1 ⟨rfl, hb1⟩; have wb1 := (WB.start W q (.slice A n c)).below hb1; obtain ⟨c10, c11, _, _⟩ := row2 wb1.blk; have hz1 := size_of_block wb1.blk; have WB1 := Lib.hid wb1; clear hb1 wb1)
      | (go_at_call 15; (with_reducible refine (Encode_bad (R1.below hrm WB1.out.bel) HM.out).mono ?_); rintro e w4 ⟨rfl, hb2⟩; rw [HEV.out]; have wb2 := WB1.out.below hb2; have WB4 := Lib.hid wb2; clear hb2 wb2)
      | fail)
    go_ret
    exact ⟨rfl, WB4.out.bel⟩
end Go.Proofs.YtimdnfakgobadaaDoor
