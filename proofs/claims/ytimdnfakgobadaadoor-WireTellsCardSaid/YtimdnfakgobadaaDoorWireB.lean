/- The reference's MessageFault. -/
import Derived.Test.YtimdnfakgobadaaDoorWireA
import Derived.Test.YtimdnfakgobadaaDoorNetR
namespace Go.Proofs.YtimdnfakgobadaaDoor
open Go.ChangeShapes Go.WideShapes Go.ChangeAt Go.RowKit
set_option linter.unusedVariables false

set_option maxHeartbeats 1000000 in
theorem Fault_msg {w : World} {q : Bool} {A : Option Addr} {n c : Nat} {es : List Entry} (hr : R1 rdEntries w (.slice A n c) es) :
    Calls Tryd.prog 12 #[.agg #[.bool q, .slice A n c]] w fun e w' => e = .returned (.int .i64 (msgF (q, es))) ∧ Below w.heap.size w w' := by
  obtain ⟨hn, hnc, hcm⟩ := RdSlice.len hr
  have hnm : n ≤ 9223372036854775807 := by unfold maxLen at hcm; omega
  have HN := Lib.hid hn
  clear hn hcm
  by_cases h25 : 25 < n
  · have hF : msgF (q, es) = 4 := by unfold msgF; rw [if_pos (by have := HN.out; simp; omega)]
    rw [hF]
    clear hF
    go_enter Tryd.func12, Tryd.ntmps12
    go_wp2
    go_ret
    exact ⟨rfl, (Below.refl _ _).alloc (Nat.le_refl _) _⟩
  · have hF : msgF (q, es) = entsF es := by unfold msgF; rw [if_neg (by have := HN.out; simp; omega)]
    rw [hF]
    clear hF
    have h25' : ¬ 25 < (n : Int) := by omega
    go_enter Tryd.func12, Tryd.ntmps12
    go_wp2
    have hm1 : (w.alloc (.cells #[.bool q, .slice A n c] 35)).cell? ⟨w.heap.size, 1, none⟩ = some (.slice A n c) := by simp
    have hB0 : Below w.heap.size w (w.alloc (.cells #[.bool q, .slice A n c] 35)) := (Below.refl _ _).alloc (Nat.le_refl _) _
    have hs0 : (w.alloc (.cells #[.bool q, .slice A n c] 35)).heap.size = w.heap.size + 1 := by simp
    have HS0 := Lib.hid hs0
    clear hs0
    generalize w.alloc (.cells #[.bool q, .slice A n c] 35) = W at *
    go_loopw [3] (fun t wr => ∃ k : Nat, k ≤ n ∧ t = .int .i64 k ∧ entsF (es.drop k) = entsF es ∧ Below W.heap.size W wr) (fun t _ => n - (intOf t).toNat)
    case atStart => exact ⟨0, Nat.zero_le _, rfl, rfl, Below.refl _ _⟩
    case round =>
      obtain ⟨k, hk, rfl, hsame, hbel⟩ := hrel
      have HSAME := Lib.hid hsame; clear hsame
      have hmr : wr.cell? ⟨w.heap.size, 1, none⟩ = some (.slice A n c) := (hbel.cell (by have := HS0.out; simp; omega)).trans hm1
      have hbw : Below w.heap.size w wr := hB0.trans (hbel.mono (by have := HS0.out; omega))
      have hz := hbel.size
      have hzw := hbw.size
      by_cases hlt : k < n
      · obtain ⟨b, o, a, l, t, hp, m, rfl, hb, HX, ⟨w0, w1, w2, w3, w4⟩, c0, c1, c2, c3, c4⟩ := RdSlice.atE (R1.below hr hbw) hlt
        have ba := bounds_u32 w0
        have hst : Hid ((if entF ((a, l), t, hp, m) = 0 then entsF (es.drop (k + 1)) else entF ((a, l), t, hp, m)) = entsF es) := Lib.hid (by rw [← HSAME.out, drop_of' HX.out]; rfl)
        by_cases hN : netF (a, l) = 0
        · have HN0 := Lib.hid hN; clear hN
          by_cases hb1 : t < 0
          · have hE : Hid (entsF es = 1) := Lib.hid (by
              have h : entF ((a, l), t, hp, m) = 1 := by unfold entF; rw [if_pos HN0.out, if_pos (by simp; omega)]
              rw [← hst.out, h, if_neg (by decide)])
            clear hst
            go_wp2_with (go_at_call 23; refine (NetFault_n a l _ ba.1 ba.2).mono ?_; rintro e w5 ⟨rfl, hb5⟩; rw [HN0.out]; have d1 : w5.cell? ⟨wr.heap.size, 2, none⟩ = some (.int .i64 t) := (hb5.cell (by simp)).trans (by simp); have d3 : w5.cell? ⟨wr.heap.size, 4, none⟩ = some (.int .i64 m) := (hb5.cell (by simp)).trans (by simp))
            go_ret
            exact ⟨by rw [hE.out]; rfl, (hbw.alloc (by omega) _).trans (hb5.mono (by simp; omega))⟩
          · by_cases hb2 : 65535 < t
            · have hE : Hid (entsF es = 1) := Lib.hid (by
                have h : entF ((a, l), t, hp, m) = 1 := by unfold entF; rw [if_pos HN0.out, if_pos (by simp; omega)]
                rw [← hst.out, h, if_neg (by decide)])
              clear hst
              go_wp2_with (go_at_call 23; refine (NetFault_n a l _ ba.1 ba.2).mono ?_; rintro e w5 ⟨rfl, hb5⟩; rw [HN0.out]; have d1 : w5.cell? ⟨wr.heap.size, 2, none⟩ = some (.int .i64 t) := (hb5.cell (by simp)).trans (by simp); have d3 : w5.cell? ⟨wr.heap.size, 4, none⟩ = some (.int .i64 m) := (hb5.cell (by simp)).trans (by simp))
              go_ret
              exact ⟨by rw [hE.out]; rfl, (hbw.alloc (by omega) _).trans (hb5.mono (by simp; omega))⟩
            · by_cases hb3 : m < 1
              · have hE : Hid (entsF es = 1) := Lib.hid (by
                  have h : entF ((a, l), t, hp, m) = 1 := by unfold entF; rw [if_pos HN0.out, if_pos (by simp; omega)]
                  rw [← hst.out, h, if_neg (by decide)])
                clear hst
                go_wp2_with (go_at_call 23; refine (NetFault_n a l _ ba.1 ba.2).mono ?_; rintro e w5 ⟨rfl, hb5⟩; rw [HN0.out]; have d1 : w5.cell? ⟨wr.heap.size, 2, none⟩ = some (.int .i64 t) := (hb5.cell (by simp)).trans (by simp); have d3 : w5.cell? ⟨wr.heap.size, 4, none⟩ = some (.int .i64 m) := (hb5.cell (by simp)).trans (by simp))
                go_ret
                exact ⟨by rw [hE.out]; rfl, (hbw.alloc (by omega) _).trans (hb5.mono (by simp; omega))⟩
              · by_cases hb4 : 16 < m
                · have hE : Hid (entsF es = 1) := Lib.hid (by
                    have h : entF ((a, l), t, hp, m) = 1 := by unfold entF; rw [if_pos HN0.out, if_pos (by simp; omega)]
                    rw [← hst.out, h, if_neg (by decide)])
                  clear hst
                  go_wp2_with (go_at_call 23; refine (NetFault_n a l _ ba.1 ba.2).mono ?_; rintro e w5 ⟨rfl, hb5⟩; rw [HN0.out]; have d1 : w5.cell? ⟨wr.heap.size, 2, none⟩ = some (.int .i64 t) := (hb5.cell (by simp)).trans (by simp); have d3 : w5.cell? ⟨wr.heap.size, 4, none⟩ = some (.int .i64 m) := (hb5.cell (by simp)).trans (by simp))
                  go_ret
                  exact ⟨by rw [hE.out]; rfl, (hbw.alloc (by omega) _).trans (hb5.mono (by simp; omega))⟩
                · have hE : Hid (entsF (es.drop (k + 1)) = entsF es) := Lib.hid (by
                    have h : entF ((a, l), t, hp, m) = 0 := by unfold entF; rw [if_pos HN0.out, if_neg (by simp; omega)]
                    rw [← hst.out, h, if_pos rfl])
                  clear hst
                  go_wp2_with (go_at_call 23; refine (NetFault_n a l _ ba.1 ba.2).mono ?_; rintro e w5 ⟨rfl, hb5⟩; rw [HN0.out]; have d1 : w5.cell? ⟨wr.heap.size, 2, none⟩ = some (.int .i64 t) := (hb5.cell (by simp)).trans (by simp); have d3 : w5.cell? ⟨wr.heap.size, 4, none⟩ = some (.int .i64 m) := (hb5.cell (by simp)).trans (by simp))
                  exact ⟨⟨k + 1, by omega, by go_num, hE.out, (hbel.alloc hz _).trans (hb5.mono (by simp; omega))⟩, by simp [intOf]; omega⟩
        · have hE : Hid (entsF es = netF (a, l)) := Lib.hid (by
            have h : entF ((a, l), t, hp, m) = netF (a, l) := by unfold entF; rw [if_neg hN]
            rw [← hst.out, h, if_neg hN])
          have ht : (netF (a, l) == 0) = false := by simp [hN]
          have ht' : (netF (a, l) != 0) = true := by simp [bne, hN]
          clear hN hst
          obtain ⟨N, hNN⟩ : ∃ N, netF (a, l) = N := ⟨_, rfl⟩
          rw [hNN] at ht ht' hE
          have HNN := Lib.hid hNN; clear hNN
          have tok1 : True := trivial
          go_wp2_with (first
            | (go_at_call 23; have _t := tok1; refine (NetFault_n a l _ ba.1 ba.2).mono ?_; rintro e w5 ⟨rfl, hb5⟩; rw [HNN.out]; have e0 : w5.cell? ⟨wr.heap.size, 0, none⟩ = some (.int .u32 a) := (hb5.cell (by simp)).trans (by simp); have e1 : w5.cell? ⟨wr.heap.size, 1, none⟩ = some (.int .i64 l) := (hb5.cell (by simp)).trans (by simp); clear tok1)
            | (go_at_call 23; refine (NetFault_n a l _ ba.1 ba.2).mono ?_; rintro e w6 ⟨rfl, hb6⟩; rw [HNN.out])
            | fail)
          go_ret
          exact ⟨by rw [hE.out]; rfl, ((hbw.alloc (by omega) _).trans (hb5.mono (by simp; omega))).trans (hb6.mono (by have := hb5.size; simp at this; omega))⟩
      · have e : Hid (entsF es = 0) := Lib.hid (by rw [← HSAME.out, List.drop_of_length_le (by have := HN.out; omega)]; rfl)
        go_wp2
        go_ret
        exact ⟨by rw [e.out]; rfl, hbw⟩
end Go.Proofs.YtimdnfakgobadaaDoor
