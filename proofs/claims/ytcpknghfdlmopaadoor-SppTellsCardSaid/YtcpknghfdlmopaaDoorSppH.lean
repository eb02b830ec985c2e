/- spp.Run. -/
import Derived.Test.YtcpknghfdlmopaaDoorSppG
namespace Go.Proofs.YtcpknghfdlmopaaDoor
open Go.ChangeShapes Go.WideShapes Go.ChangeAt Go.RowKit
set_option linter.unusedVariables false
theorem info_ints : (Tryd.prog.info? 24).map (fun i => (i.zero, i.size, i.bytes)) = some (some (.slice none 0 0), 1, 24) := by kernel_rfl

theorem made0 (n : Nat) (h : 1 ≤ n) : (madeCells #[Value.slice none 0 0] n)[0]? = some (.slice none 0 0) := by
  have e : (madeCells #[Value.slice none 0 0] n).toList[0]? = some (.slice none 0 0) := by rw [toList_madeCells_one, List.getElem?_replicate, if_pos (by omega)]
  simpa using e
theorem Kept.start (w : World) (n : Nat) (h : 1 ≤ n) :
    Kept ((w.alloc (.cells ((madeCells #[.slice none 0 0] n).setIfInBounds 0 (.slice (some ⟨w.heap.size + 1, 0, none⟩) 1 1)) 24)).alloc (.cells #[.int .i64 0] 3)) w.heap.size n ((List.replicate n []).set 0 [0]) := by
  have hg : ((w.alloc (.cells ((madeCells #[.slice none 0 0] n).setIfInBounds 0 (.slice (some ⟨w.heap.size + 1, 0, none⟩) 1 1)) 24)).alloc (.cells #[.int .i64 0] 3)).heap[w.heap.size]? = some (.cells ((madeCells #[.slice none 0 0] n).setIfInBounds 0 (.slice (some ⟨w.heap.size + 1, 0, none⟩) 1 1)) 24 (0, 0)) := by
    rw [Below.heap_alloc _ _ _ (by simp)]
    exact heap_alloc_new w _
  have hn : ((w.alloc (.cells ((madeCells #[.slice none 0 0] n).setIfInBounds 0 (.slice (some ⟨w.heap.size + 1, 0, none⟩) 1 1)) 24)).alloc (.cells #[.int .i64 0] 3)).heap[w.heap.size + 1]? = some (.cells #[.int .i64 0] 3 (0, 0)) := by
    have := heap_alloc_new (w.alloc (.cells ((madeCells #[.slice none 0 0] n).setIfInBounds 0 (.slice (some ⟨w.heap.size + 1, 0, none⟩) 1 1)) 24)) (.cells #[.int .i64 0] 3)
    simpa using this
  obtain ⟨us, h1, h2, h3, h4, h5⟩ := Kept.made w n
  rw [heap_alloc_new w _] at h1
  injection h1 with h1; injection h1 with h1; subst h1
  refine ⟨_, hg, by simpa using h2, by simp, fun j v hj => ?_, fun j y hj => ?_⟩
  · rw [Array.getElem?_setIfInBounds] at hj
    split at hj
    · split at hj
      · injection hj with hj; subst hj; exact ⟨_, _, _, rfl⟩
      · cases hj
    · exact h4 j v hj
  · rw [List.getElem?_set] at hj
    by_cases hij : 0 = j
    · subst hij
      rw [if_pos rfl, if_pos (by simp; omega)] at hj
      injection hj with hj; subst hj
      refine ⟨.slice (some ⟨w.heap.size + 1, 0, none⟩) 1 1, ?_, ?_⟩
      · rw [Array.getElem?_setIfInBounds, if_pos rfl, if_pos (by omega)]
      · refine RdSlice.new1 hn ⟨by simp, by omega⟩ rfl (Nat.le_refl _) (by decide) (fun i x hi => ?_)
        match i, hi with
        | 0, hi => simp at hi; subst hi; exact ⟨_, rfl, rfl, by decide⟩
    · rw [if_neg hij] at hj
      have hj' : j < n := by have := (List.getElem?_eq_some_iff.1 hj).1; simpa using this
      rw [List.getElem?_replicate, if_pos hj'] at hj
      injection hj with hj; subst hj
      refine ⟨.slice none 0 0, ?_, RdSlice.nil_⟩
      rw [Array.getElem?_setIfInBounds, if_neg hij]
      have e : (madeCells #[Value.slice none 0 0] n).toList[j]? = some (.slice none 0 0) := by rw [toList_madeCells_one, List.getElem?_replicate, if_pos hj']
      simpa using e

set_option maxHeartbeats 1000000 in
theorem Run_go {w : World} {A A2 : Option Addr} {n c m c2 : Nat} {likes : List (List (List Int))} {order : List Int} (hlk : R1 rdInts3 w (.slice A n c) likes) (ho : R1 rdInts w (.slice A2 m c2) order) (hF : sppF likes = 0) :
    Calls Tryd.prog 12 #[.slice A n c, .slice A2 m c2] w fun e w' => ∃ r, e = .returned (.tuple #[r, errV (runF likes order)]) ∧ R1 rdInts2 w' r (runV likes order) ∧ Below w.heap.size w w' := by
  obtain ⟨hn, _, _⟩ := RdSlice.len hlk
  obtain ⟨hm, _, hcm⟩ := RdSlice.len ho
  have hmm : m ≤ 9223372036854775807 := by unfold maxLen at hcm; omega
  obtain ⟨hl8, hl1, hsm⟩ := sppF_small hF
  have hsm' : Hid (∀ r ∈ likes, ∀ x ∈ r, x.length ≤ 1048576) := Lib.hid fun r hr x hx => by have := hsm r hr x hx; omega
  have hRF : runF likes order = if (runP likes order (rows0 likes)).isNone then 1 else 0 := by unfold runF; rw [if_neg (by simp [hF])]
  have hRV : runV likes order = (runP likes order (rows0 likes)).getD [] := by unfold runV; rw [if_neg (by simp [hF])]
  have HRF := Lib.hid hRF; have HRV := Lib.hid hRV
  have HS := Lib.hid hF; have HN := Lib.hid hn; have HM := Lib.hid hm
  have h8 : n ≤ 8 := by omega
  have h1 : 1 ≤ n := by omega
  have hr0 : Hid ((List.replicate n ([] : List Int)).set 0 [0] = rows0 likes) := Lib.hid (by
    unfold rows0; rw [← hn]
    obtain ⟨k, rfl⟩ := Nat.exists_eq_add_of_le h1
    rw [show 1 + k = k + 1 from by omega]
    simp [List.replicate_succ])
  clear hsm hF hRF hRV hn hm hl8 hl1 hcm
  obtain ⟨i0, hi0, hz0, hz1, hz2⟩ := info_parts info_ints
  have hmk : ∀ W : World, (Instr.makeSlice 23 (.int .i64 (n : Int)) (.int .i64 (n : Int))).run Tryd.prog W = .ok (.slice (some ⟨W.heap.size, 0, none⟩) n n) (W.alloc (.cells (madeCells #[.slice none 0 0] n) 24)) := fun W => by
    have h := run_make_rowN (P := Tryd.prog) 23 24 i0 _ Tryd.underlying23 hi0 hz0 .i64 .i64 n n (Nat.le_refl _) (by rw [hz2]; omega) (by omega) W
    rw [hz1, Nat.mul_one] at h
    exact h
  have hm0 := made0 n h1
  clear hi0 hz0 hz1 hz2
  go_enter Tryd.func12, Tryd.ntmps12
  go_wp2_with (go_at_call 7; with_reducible refine (Check_any hlk).mono ?_; rintro e w' ⟨rfl, rfl⟩; rw [HS.out, errV_zero])
  have hK := Kept.start w n h1
  rw [hr0.out] at hK
  have hB1 : Below w.heap.size w ((w.alloc (.cells ((madeCells #[.slice none 0 0] n).setIfInBounds 0 (.slice (some ⟨w.heap.size + 1, 0, none⟩) 1 1)) 24)).alloc (.cells #[.int .i64 0] 3)) := ((Below.refl _ _).alloc (Nat.le_refl _) _).alloc (by simp) _
  clear hmk hm0 hr0
  have hgs : w.heap.size ≤ w.heap.size := Nat.le_refl _
  generalize (w.alloc (.cells ((madeCells #[.slice none 0 0] n).setIfInBounds 0 (.slice (some ⟨w.heap.size + 1, 0, none⟩) 1 1)) 24)).alloc (.cells #[.int .i64 0] 3) = W1 at *
  generalize hg : w.heap.size = g at hK
  have hgw : w.heap.size ≤ g := by omega
  clear hg hgs
  go_loopw [23] (fun t wr => ∃ k : Nat, ∃ rows, k ≤ m ∧ t = .int .i64 k ∧ runP likes (order.take k) (rows0 likes) = some rows ∧ Kept wr g n rows ∧ Below w.heap.size w wr) (fun t _ => m - (intOf t).toNat)
  case atStart => exact ⟨0, _, Nat.zero_le _, rfl, rfl, hK, hB1⟩
  case round =>
    obtain ⟨k, rows, hk, rfl, hrun, hKr, hbel⟩ := hrel
    have HRUN := Lib.hid hrun; clear hrun hK hB1
    by_cases hlt : k < m
    · have how : rdInts wr (· < w.heap.size) [.slice A2 m c2] order := RdLaw.keep ho (fun _ hp => hbel.cell hp)
      obtain ⟨b, o, i, rfl, hb, HI, hwi, hc⟩ := how.atI hlt
      have hi64 := bounds_i64 hwi
      by_cases hr : i < 0 ∨ n ≤ i
      · have hnone : runP likes order (rows0 likes) = none := by
          have e : order = order.take (k + 1) ++ order.drop (k + 1) := (List.take_append_drop _ _).symm
          rw [e]
          refine runP_none ?_
          rw [take_succ_of HI.out, runP_snoc, HRUN.out]
          have : i < 0 ∨ (likes.length : Int) ≤ i := by have := HN.out; omega
          simp [this]
        have HE : Hid (errV (runF likes order) = .iface 26 (.int .i64 1) ∧ runV likes order = []) := Lib.hid (by rw [HRF.out, HRV.out, hnone]; exact ⟨rfl, rfl⟩)
        clear hnone
        by_cases hr0 : i < 0
        · clear hr
          go_wp2
          go_ret2
          exact ⟨.slice none 0 0, by rw [HE.out.1]; rfl, by rw [HE.out.2]; exact RdSlice.nil_, hbel⟩
        · have hr1 : (n : Int) ≤ i := by omega
          clear hr
          go_wp2
          go_ret2
          exact ⟨.slice none 0 0, by rw [HE.out.1]; rfl, by rw [HE.out.2]; exact RdSlice.nil_, hbel⟩
      · obtain ⟨j, rfl⟩ := Int.eq_ofNat_of_zero_le (show 0 ≤ i by omega)
        have hj : j < n := by omega
        have hstep : Hid (runP likes (order.take (k + 1)) (rows0 likes) = some (rows.set j (bestP likes rows j))) := Lib.hid (by
          rw [take_succ_of HI.out, runP_snoc, HRUN.out]
          have h' : ¬ (likes.length : Int) ≤ (j : Int) := by have := HN.out; omega
          have h'' : ¬ ((j : Int) < 0 ∨ (likes.length : Int) ≤ (j : Int)) := by omega
          simp only [Option.bind_some, if_neg h'']
          rfl)
        have hz := hbel.size
        have hnx : n ≤ maxLen := by unfold maxLen; omega
        have hw2 : R1 rdInts2 (wr.alloc (.cells #[.slice (some ⟨g, 0, none⟩) n n] 23)) (.slice (some ⟨g, 0, none⟩) n n) rows := R1.alloc (hKr.rd hnx) _
        have hlk2 : R1 rdInts3 (wr.alloc (.cells #[.slice (some ⟨g, 0, none⟩) n n] 23)) (.slice A n c) likes := R1.alloc (R1.below hlk hbel) _
        have hK2 : Kept (wr.alloc (.cells #[.slice (some ⟨g, 0, none⟩) n n] 23)) g n rows := hKr.below ((Below.refl _ _).alloc (Nat.le_refl _) _)
        have hb2 : Below w.heap.size w (wr.alloc (.cells #[.slice (some ⟨g, 0, none⟩) n n] 23)) := hbel.alloc hz _
        have hjl : Hid (j < likes.length) := Lib.hid (by have := HN.out; omega)
        have t0 : (0 : Int) ≤ (j : Int) := by omega
        have t1 : (j : Int) < (n : Int) := by omega
        clear hr hi64
        go_wp2_with (go_at_call 19
                     refine (best_any (gw := wr.heap.size) hlk2 hw2 (by simp) hjl.out hsm'.out).mono ?_
                     rintro e w3 ⟨r, rfl, hr3, hb3⟩
                     have hK3 := hK2.below hb3
                     obtain ⟨hcell, hfr, hK4⟩ := hK3.set hr3 hj
                     obtain ⟨cv, hcv⟩ := Option.ne_none_iff_exists'.1 hcell
                     obtain ⟨Ar, cr, hrf⟩ := hr3.form
                     have hb4 : Below w.heap.size w w3 := hb2.trans (hb3.mono (by have := hb2.size; omega))
                     clear hcell hK3
                     rw [hrf] at hK4 ⊢
                     clear hrf hr3)
        exact ⟨⟨k + 1, _, by omega, by go_num, hstep.out, hK4, hb4.setCell hgw _⟩, by simp [intOf]; omega⟩
    · have e : order.take k = order := List.take_of_length_le (by have := HM.out; omega)
      have HE : Hid (errV (runF likes order) = .nilIface ∧ runV likes order = rows) := Lib.hid (by
        have h := HRUN.out; rw [e] at h
        rw [HRF.out, HRV.out, h]; exact ⟨rfl, rfl⟩)
      clear e
      go_wp2
      go_ret2
      exact ⟨_, by rw [HE.out.1]; rfl, by rw [HE.out.2]; exact hKr.rd (by unfold maxLen; omega), hbel⟩

theorem Run_any {w : World} {v u : Value} {likes : List (List (List Int))} {order : List Int} (hlk : R1 rdInts3 w v likes) (ho : R1 rdInts w u order) :
    Calls Tryd.prog 12 #[v, u] w fun e w' => ∃ r, e = .returned (.tuple #[r, errV (runF likes order)]) ∧ R1 rdInts2 w' r (runV likes order) ∧ Below w.heap.size w w' := by
  obtain ⟨A, c, rfl⟩ := hlk.form
  obtain ⟨A2, c2, rfl⟩ := ho.form
  by_cases hF : sppF likes = 0
  · exact Run_go hlk ho hF
  · have hRF : runF likes order = sppF likes := by unfold runF; rw [if_pos hF]
    have hRV : runV likes order = [] := by unfold runV; rw [if_pos hF]
    rw [hRF, hRV]
    have HE := Lib.hid (errV_ne hF)
    clear hRF hRV hF
    go_enter Tryd.func12, Tryd.ntmps12
    go_wp2_with (go_at_call 7; with_reducible refine (Check_any hlk).mono ?_; rintro e w' ⟨rfl, rfl⟩; rw [HE.out])
    go_ret2
    exact ⟨.slice none 0 0, by rw [HE.out]; rfl, RdSlice.nil_, Below.refl _ _⟩
end Go.Proofs.YtcpknghfdlmopaaDoor
