/- WireBack: the walk. -/
import Derived.Test.YtimdnfakgobadaaWireM
namespace Go.Proofs.Ytimdnfakgobadaa
open Go.ChangeShapes Go.WideShapes Go.ChangeAt Go.RowKit
set_option linter.unusedVariables false
set_option linter.unusedSimpArgs false

theorem tnx_of {q : Bool} {es : List Entry} {n nx : Nat} (h : (msgB (q, es)).length = nx) (hn : n = es.length) : ((nx : Int) != 4 + 20 * (n : Int)) = false := by
  have h1 := msgB_length (q, es)
  have e : (nx : Int) = 4 + 20 * (n : Int) := by rw [← h, h1, hn]; simp
  rw [e]; simp
set_option maxRecDepth 100000 in
set_option maxHeartbeats 4000000 in
theorem WireBack_walk (W : World) (A0 : Array Value) (x : Bool × List Entry) (hx : RV rdMessage W (.agg A0) x) (cx : True ∧ x.2.length * 40 ≤ reachBytes ∧ ∀ y ∈ x.2, (True ∧ True) ∧ True ∧ True ∧ True)
    (Ab : Option Addr) (nb cb : Nat) (lb : List Int) (hrb : R1 rdBytes W (.slice Ab nb cb) lb) (hcb : lb.length * 1 ≤ reachBytes ∧ ∀ x ∈ lb, True) :
    Calls Try.prog 9 #[.agg A0, .slice Ab nb cb] W fun e w' => e = .returned (.bool true) ∧ Below W.heap.size W w' := by
  obtain ⟨A, n, c, rfl, hrm⟩ := message_parts hx
  obtain ⟨q, es⟩ := x
  simp only at hrm
  clear hx cx hcb
  have HBY := Lib.hid (rdBytes_rng hrb)
  obtain ⟨hn, hnc, hcm⟩ := RdSlice.len hrm
  have HN := Lib.hid hn
  have HER := Lib.hid (entR_of hrm)
  clear hn hcm
  by_cases hm : msgF (q, es) = 0
  · have HM := Lib.hid hm
    have hn25 : n ≤ 25 := by have h1 := (msgF_zero.1 hm).1; have h2 := HN.out; simp only at h1; omega
    have HD1 : Hid (decM (msgB (q, es)) = ((q, es), 0)) := Lib.hid (dec_msgB _ hm HER.out)
    clear hm
    by_cases hd : (decM lb).2 = 0
    · obtain ⟨m2, hd2⟩ : ∃ m2, decM lb = (m2, 0) := ⟨(decM lb).1, by rw [← hd]⟩
      have HD2 := Lib.hid hd2
      obtain ⟨f1, f2, f3⟩ := dec_back HBY.out hd2
      obtain ⟨q2, es2⟩ := m2
      have HM2 := Lib.hid f1
      have HMB := Lib.hid f2
      clear hd hd2 f1 f2 f3
      go_enter Try.func9, Try.ntmps9
      go_wp2_with (first
        | (go_at_call 19; refine (wired_any _).mono ?_; rintro e w1 ⟨rfl, hb1⟩; have wb1 := (WB.start W q (.slice A n c)).below hb1; obtain ⟨c10, c11, _, _⟩ := row2 wb1.blk; have hz1 := size_of_block wb1.blk; have WB1 := Lib.hid wb1; clear hb1 wb1)
        | (go_at_call 20; (with_reducible refine (Encode_ok (R1.below hrm WB1.out.bel) HM.out).mono ?_); rintro e w2 ⟨v2, rfl, hr2, hb2⟩; obtain ⟨A2, c2, rfl⟩ := R1.form hr2; have wb2 := WB1.out.below hb2; obtain ⟨c20, c21, _, _⟩ := row2 wb2.blk; have hz2 := size_of_block wb2.blk; have WB2 := Lib.hid wb2; obtain ⟨nx, hnx⟩ : ∃ nx, (msgB (q, es)).length = nx := ⟨_, rfl⟩; rw [hnx] at hr2 ⊢; have tnx : ((nx : Int) != 4 + 20 * (n : Int)) = false := tnx_of hnx HN.out; have HNX := Lib.hid hnx; have HR2 := Lib.hid hr2; clear hb2 wb2 hnx hr2)
        | (go_at_call 21; (with_reducible refine (Decode_ok HR2.out HD1.out).mono ?_); rintro e w3 ⟨v3, rfl, hr3, hb3⟩; obtain ⟨A3, c3, rfl⟩ := R1.form hr3; have wb3 := WB2.out.below hb3; obtain ⟨c30, c31, _, _⟩ := row2 wb3.blk; have hz3 := size_of_block wb3.blk; have WB3 := Lib.hid wb3; have HR3 := Lib.hid hr3; clear hb3 wb3 hr3)
        | (go_at_call 22; (with_reducible refine (Message_eq (R1.alloc HR3.out _) (R1.below hrm (WB3.out.alloc _).bel)).mono ?_); rintro e w4 ⟨rfl, hb4⟩; have wb4 := (WB3.out.alloc _).below hb4; obtain ⟨c40, c41, _, _⟩ := row2 wb4.blk; have WB4 := Lib.hid wb4; clear hb4 wb4)
        | (go_at_call 21; (with_reducible refine (Decode_ok (R1.below hrb WB4.out.bel) HD2.out).mono ?_); rintro e w5 ⟨v5, rfl, hr5, hb5⟩; obtain ⟨A5, c5, rfl⟩ := R1.form hr5; have wb5 := WB4.out.below hb5; have WB5 := Lib.hid wb5; have HR5 := Lib.hid hr5; clear hb5 wb5 hr5)
        | (go_at_call 20; (with_reducible refine (Encode_ok (R1.alloc HR5.out _) HM2.out).mono ?_); rintro e w6 ⟨v6, rfl, hr6, hb6⟩; obtain ⟨A6, c6, rfl⟩ := R1.form hr6; have wb6 := (WB5.out.alloc _).below hb6; have WB6 := Lib.hid wb6; have HR6 := Lib.hid hr6; clear hb6 wb6 hr6)
        | (go_at_call 23; (with_reducible refine (Bytes_eq (l := lb) (by rw [← HMB.out]; exact HR6.out) (R1.below hrb WB6.out.bel)).mono ?_); rintro e w7 ⟨rfl, k7, rfl⟩)
        | fail)
      go_ret
      exact ⟨rfl, (WB6.out.drewN k7).bel⟩
    · obtain ⟨k, hk0, hd2⟩ : ∃ k : Int, k ≠ 0 ∧ decM lb = ((false, []), k) := by
        rcases decM_cases lb with ⟨m, h⟩ | h | h
        · rw [h] at hd; exact absurd rfl hd
        · exact ⟨3, by decide, h⟩
        · exact ⟨6, by decide, h⟩
      have HD2 := Lib.hid hd2
      have HEE := Lib.hid (errV_ne hk0)
      clear hd hd2 hk0
      go_enter Try.func9, Try.ntmps9
      go_wp2_with (first
        | (go_at_call 19; refine (wired_any _).mono ?_; rintro e w1 ⟨rfl, hb1⟩; have wb1 := (WB.start W q (.slice A n c)).below hb1; obtain ⟨c10, c11, _, _⟩ := row2 wb1.blk; have hz1 := size_of_block wb1.blk; have WB1 := Lib.hid wb1; clear hb1 wb1)
        | (go_at_call 20; (with_reducible refine (Encode_ok (R1.below hrm WB1.out.bel) HM.out).mono ?_); rintro e w2 ⟨v2, rfl, hr2, hb2⟩; obtain ⟨A2, c2, rfl⟩ := R1.form hr2; have wb2 := WB1.out.below hb2; obtain ⟨c20, c21, _, _⟩ := row2 wb2.blk; have hz2 := size_of_block wb2.blk; have WB2 := Lib.hid wb2; obtain ⟨nx, hnx⟩ : ∃ nx, (msgB (q, es)).length = nx := ⟨_, rfl⟩; rw [hnx] at hr2 ⊢; have tnx : ((nx : Int) != 4 + 20 * (n : Int)) = false := tnx_of hnx HN.out; have HNX := Lib.hid hnx; have HR2 := Lib.hid hr2; clear hb2 wb2 hnx hr2)
        | (go_at_call 21; (with_reducible refine (Decode_ok HR2.out HD1.out).mono ?_); rintro e w3 ⟨v3, rfl, hr3, hb3⟩; obtain ⟨A3, c3, rfl⟩ := R1.form hr3; have wb3 := WB2.out.below hb3; obtain ⟨c30, c31, _, _⟩ := row2 wb3.blk; have hz3 := size_of_block wb3.blk; have WB3 := Lib.hid wb3; have HR3 := Lib.hid hr3; clear hb3 wb3 hr3)
        | (go_at_call 22; (with_reducible refine (Message_eq (R1.alloc HR3.out _) (R1.below hrm (WB3.out.alloc _).bel)).mono ?_); rintro e w4 ⟨rfl, hb4⟩; have wb4 := (WB3.out.alloc _).below hb4; obtain ⟨c40, c41, _, _⟩ := row2 wb4.blk; have WB4 := Lib.hid wb4; clear hb4 wb4)
        | (go_at_call 21; (with_reducible refine (Decode_err (R1.below hrb WB4.out.bel) HD2.out).mono ?_); rintro e w5 ⟨v5, rfl, hr5, hb5⟩; obtain ⟨A5, c5, rfl⟩ := R1.form hr5; have wb5 := WB4.out.below hb5; have WB5 := Lib.hid wb5; rw [HEE.out]; clear hb5 wb5 hr5)
        | fail)
      go_ret
      exact ⟨rfl, (WB5.out.alloc _).bel⟩
  · have HM := Lib.hid hm
    have HEV := Lib.hid (errV_ne hm)
    clear hm
    by_cases hd : (decM lb).2 = 0
    · obtain ⟨m2, hd2⟩ : ∃ m2, decM lb = (m2, 0) := ⟨(decM lb).1, by rw [← hd]⟩
      have HD2 := Lib.hid hd2
      obtain ⟨f1, f2, f3⟩ := dec_back HBY.out hd2
      obtain ⟨q2, es2⟩ := m2
      have HM2 := Lib.hid f1
      have HMB := Lib.hid f2
      clear hd hd2 f1 f2 f3
      go_enter Try.func9, Try.ntmps9
      go_wp2_with (first
        | (go_at_call 19; refine (wired_any _).mono ?_; rintro e w1 ⟨rfl, hb1⟩; have wb1 := (WB.start W q (.slice A n c)).below hb1; obtain ⟨c10, c11, _, _⟩ := row2 wb1.blk; have hz1 := size_of_block wb1.blk; have WB1 := Lib.hid wb1; clear hb1 wb1)
        | (go_at_call 20; (with_reducible refine (Encode_bad (R1.below hrm WB1.out.bel) HM.out).mono ?_); rintro e w4 ⟨rfl, hb2⟩; rw [HEV.out]; have wb2 := WB1.out.below hb2; have WB4 := Lib.hid wb2; clear hb2 wb2)
        | (go_at_call 21; (with_reducible refine (Decode_ok (R1.below hrb WB4.out.bel) HD2.out).mono ?_); rintro e w5 ⟨v5, rfl, hr5, hb5⟩; obtain ⟨A5, c5, rfl⟩ := R1.form hr5; have wb5 := WB4.out.below hb5; have WB5 := Lib.hid wb5; have HR5 := Lib.hid hr5; clear hb5 wb5 hr5)
        | (go_at_call 20; (with_reducible refine (Encode_ok (R1.alloc HR5.out _) HM2.out).mono ?_); rintro e w6 ⟨v6, rfl, hr6, hb6⟩; obtain ⟨A6, c6, rfl⟩ := R1.form hr6; have wb6 := (WB5.out.alloc _).below hb6; have WB6 := Lib.hid wb6; have HR6 := Lib.hid hr6; clear hb6 wb6 hr6)
        | (go_at_call 23; (with_reducible refine (Bytes_eq (l := lb) (by rw [← HMB.out]; exact HR6.out) (R1.below hrb WB6.out.bel)).mono ?_); rintro e w7 ⟨rfl, k7, rfl⟩)
        | fail)
      go_ret
      exact ⟨rfl, (WB6.out.drewN k7).bel⟩
    · obtain ⟨k, hk0, hd2⟩ : ∃ k : Int, k ≠ 0 ∧ decM lb = ((false, []), k) := by
        rcases decM_cases lb with ⟨m, h⟩ | h | h
        · rw [h] at hd; exact absurd rfl hd
        · exact ⟨3, by decide, h⟩
        · exact ⟨6, by decide, h⟩
      have HD2 := Lib.hid hd2
      have HEE := Lib.hid (errV_ne hk0)
      clear hd hd2 hk0
      go_enter Try.func9, Try.ntmps9
      go_wp2_with (first
        | (go_at_call 19; refine (wired_any _).mono ?_; rintro e w1 ⟨rfl, hb1⟩; have wb1 := (WB.start W q (.slice A n c)).below hb1; obtain ⟨c10, c11, _, _⟩ := row2 wb1.blk; have hz1 := size_of_block wb1.blk; have WB1 := Lib.hid wb1; clear hb1 wb1)
        | (go_at_call 20; (with_reducible refine (Encode_bad (R1.below hrm WB1.out.bel) HM.out).mono ?_); rintro e w4 ⟨rfl, hb2⟩; rw [HEV.out]; have wb2 := WB1.out.below hb2; have WB4 := Lib.hid wb2; clear hb2 wb2)
        | (go_at_call 21; (with_reducible refine (Decode_err (R1.below hrb WB4.out.bel) HD2.out).mono ?_); rintro e w5 ⟨v5, rfl, hr5, hb5⟩; obtain ⟨A5, c5, rfl⟩ := R1.form hr5; have wb5 := WB4.out.below hb5; have WB5 := Lib.hid wb5; rw [HEE.out]; clear hb5 wb5 hr5)
        | fail)
      go_ret
      exact ⟨rfl, (WB5.out.alloc _).bel⟩
end Go.Proofs.Ytimdnfakgobadaa
