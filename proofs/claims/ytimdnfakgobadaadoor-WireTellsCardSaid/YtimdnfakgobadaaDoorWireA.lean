/- wire.Check and the reference's MessageFault. -/
import Derived.Test.YtimdnfakgobadaaDoorEntryAt
import Derived.Test.YtimdnfakgobadaaDoorNet
namespace Go.Proofs.YtimdnfakgobadaaDoor
open Go.ChangeShapes Go.WideShapes Go.ChangeAt Go.RowKit
set_option linter.unusedVariables false

/-- what is wrong with an entry, with some, with a message: 0 nothing -/
def entF (e : Entry) : Int := if netF e.1 = 0 then (if e.2.1 < 0 ∨ 65535 < e.2.1 ∨ e.2.2.2 < 1 ∨ 16 < e.2.2.2 then 1 else 0) else netF e.1
def entsF : List Entry → Int
  | [] => 0
  | e :: r => if entF e = 0 then entsF r else entF e
def msgF (m : Bool × List Entry) : Int := if 25 < m.2.length then 4 else entsF m.2
theorem drop_of' {α : Type} {l : List α} {k : Nat} {x : α} (h : l[k]? = some x) : l.drop k = x :: l.drop (k + 1) := by
  obtain ⟨hk, rfl⟩ := List.getElem?_eq_some_iff.1 h
  exact List.drop_eq_getElem_cons hk

set_option maxHeartbeats 1000000 in
theorem Check_msg {w : World} {q : Bool} {A : Option Addr} {n c : Nat} {es : List Entry} (hr : R1 rdEntries w (.slice A n c) es) :
    Calls Tryd.prog 13 #[.agg #[.bool q, .slice A n c]] w fun e w' => e = .returned (errV (msgF (q, es))) ∧ Below w.heap.size w w' := by
  obtain ⟨hn, hnc, hcm⟩ := RdSlice.len hr
  have hnm : n ≤ 9223372036854775807 := by unfold maxLen at hcm; omega
  have HN := Lib.hid hn
  clear hn hcm
  by_cases h25 : 25 < n
  · have hF : msgF (q, es) = 4 := by unfold msgF; rw [if_pos (by have := HN.out; simp; omega)]
    rw [hF]
    clear hF
    go_enter Tryd.func13, Tryd.ntmps13
    go_wp2
    go_ret
    exact ⟨rfl, (Below.refl _ _).alloc (Nat.le_refl _) _⟩
  · have hF : msgF (q, es) = entsF es := by unfold msgF; rw [if_neg (by have := HN.out; simp; omega)]
    rw [hF]
    clear hF
    have h25' : ¬ 25 < (n : Int) := by omega
    go_enter Tryd.func13, Tryd.ntmps13
    go_wp2
    go_loopw [14] (fun t wr => ∃ k : Nat, k ≤ n ∧ t = .int .i64 k ∧ entsF (es.drop k) = entsF es ∧ Below w.heap.size w wr) (fun t _ => n - (intOf t).toNat)
    case atStart => exact ⟨0, Nat.zero_le _, rfl, rfl, (Below.refl _ _).alloc (Nat.le_refl _) _⟩
    case round =>
      obtain ⟨k, hk, rfl, hsame, hbel⟩ := hrel
      have HSAME := Lib.hid hsame; clear hsame
      by_cases hlt : k < n
      · obtain ⟨b, o, a, l, t, hp, m, rfl, hb, HX, ⟨w0, w1, w2, w3, w4⟩, c0, c1, c2, c3, c4⟩ := RdSlice.atE (R1.below hr hbel) hlt
        have ba := bounds_u32 w0
        have hz := hbel.size
        have hst : Hid ((if entF ((a, l), t, hp, m) = 0 then entsF (es.drop (k + 1)) else entF ((a, l), t, hp, m)) = entsF es) := Lib.hid (by rw [← HSAME.out, drop_of' HX.out]; rfl)
        by_cases hN : netF (a, l) = 0
        · have HN0 := Lib.hid hN; clear hN
          by_cases hb1 : t < 0
          · have hE : Hid (entsF es = 1) := Lib.hid (by
              have h : entF ((a, l), t, hp, m) = 1 := by unfold entF; rw [if_pos HN0.out, if_pos (by simp; omega)]
              rw [← hst.out, h, if_neg (by decide)])
            clear hst
            go_wp2_with (go_at_call 24; refine (Check_net a l _ ba.1 ba.2).mono ?_; rintro e w5 ⟨rfl, hb5⟩; rw [HN0.out, errV_zero]; have d1 : w5.cell? ⟨wr.heap.size, 2, none⟩ = some (.int .i64 t) := (hb5.cell (by simp)).trans (by simp); have d3 : w5.cell? ⟨wr.heap.size, 4, none⟩ = some (.int .i64 m) := (hb5.cell (by simp)).trans (by simp))
            go_ret
            exact ⟨by rw [hE.out]; rfl, (hbel.alloc hz _).trans (hb5.mono (by simp; omega))⟩
          · by_cases hb2 : 65535 < t
            · have hE : Hid (entsF es = 1) := Lib.hid (by
                have h : entF ((a, l), t, hp, m) = 1 := by unfold entF; rw [if_pos HN0.out, if_pos (by simp; omega)]
                rw [← hst.out, h, if_neg (by decide)])
              clear hst
              go_wp2_with (go_at_call 24; refine (Check_net a l _ ba.1 ba.2).mono ?_; rintro e w5 ⟨rfl, hb5⟩; rw [HN0.out, errV_zero]; have d1 : w5.cell? ⟨wr.heap.size, 2, none⟩ = some (.int .i64 t) := (hb5.cell (by simp)).trans (by simp); have d3 : w5.cell? ⟨wr.heap.size, 4, none⟩ = some (.int .i64 m) := (hb5.cell (by simp)).trans (by simp))
              go_ret
              exact ⟨by rw [hE.out]; rfl, (hbel.alloc hz _).trans (hb5.mono (by simp; omega))⟩
            · by_cases hb3 : m < 1
              · have hE : Hid (entsF es = 1) := Lib.hid (by
                  have h : entF ((a, l), t, hp, m) = 1 := by unfold entF; rw [if_pos HN0.out, if_pos (by simp; omega)]
                  rw [← hst.out, h, if_neg (by decide)])
                clear hst
                go_wp2_with (go_at_call 24; refine (Check_net a l _ ba.1 ba.2).mono ?_; rintro e w5 ⟨rfl, hb5⟩; rw [HN0.out, errV_zero]; have d1 : w5.cell? ⟨wr.heap.size, 2, none⟩ = some (.int .i64 t) := (hb5.cell (by simp)).trans (by simp); have d3 : w5.cell? ⟨wr.heap.size, 4, none⟩ = some (.int .i64 m) := (hb5.cell (by simp)).trans (by simp))
                go_ret
                exact ⟨by rw [hE.out]; rfl, (hbel.alloc hz _).trans (hb5.mono (by simp; omega))⟩
              · by_cases hb4 : 16 < m
                · have hE : Hid (entsF es = 1) := Lib.hid (by
                    have h : entF ((a, l), t, hp, m) = 1 := by unfold entF; rw [if_pos HN0.out, if_pos (by simp; omega)]
                    rw [← hst.out, h, if_neg (by decide)])
                  clear hst
                  go_wp2_with (go_at_call 24; refine (Check_net a l _ ba.1 ba.2).mono ?_; rintro e w5 ⟨rfl, hb5⟩; rw [HN0.out, errV_zero]; have d1 : w5.cell? ⟨wr.heap.size, 2, none⟩ = some (.int .i64 t) := (hb5.cell (by simp)).trans (by simp); have d3 : w5.cell? ⟨wr.heap.size, 4, none⟩ = some (.int .i64 m) := (hb5.cell (by simp)).trans (by simp))
                  go_ret
                  exact ⟨by rw [hE.out]; rfl, (hbel.alloc hz _).trans (hb5.mono (by simp; omega))⟩
                · have hE : Hid (entsF (es.drop (k + 1)) = entsF es) := Lib.hid (by
                    have h : entF ((a, l), t, hp, m) = 0 := by unfold entF; rw [if_pos HN0.out, if_neg (by simp; omega)]
                    rw [← hst.out, h, if_pos rfl])
                  clear hst
                  go_wp2_with (go_at_call 24; refine (Check_net a l _ ba.1 ba.2).mono ?_; rintro e w5 ⟨rfl, hb5⟩; rw [HN0.out, errV_zero]; have d1 : w5.cell? ⟨wr.heap.size, 2, none⟩ = some (.int .i64 t) := (hb5.cell (by simp)).trans (by simp); have d3 : w5.cell? ⟨wr.heap.size, 4, none⟩ = some (.int .i64 m) := (hb5.cell (by simp)).trans (by simp))
                  exact ⟨⟨k + 1, by omega, by go_num, hE.out, (hbel.alloc hz _).trans (hb5.mono (by simp; omega))⟩, by simp [intOf]; omega⟩
        · have hE : Hid (entsF es = netF (a, l)) := Lib.hid (by
            have h : entF ((a, l), t, hp, m) = netF (a, l) := by unfold entF; rw [if_neg hN]
            rw [← hst.out, h, if_neg hN])
          have HEV := Lib.hid (errV_ne hN)
          clear hN hst
          go_wp2_with (go_at_call 24; refine (Check_net a l _ ba.1 ba.2).mono ?_; rintro e w5 ⟨rfl, hb5⟩; rw [HEV.out])
          go_ret
          exact ⟨by rw [hE.out, HEV.out]; rfl, (hbel.alloc hz _).trans (hb5.mono (by simp; omega))⟩
      · have e : Hid (entsF es = 0) := Lib.hid (by rw [← HSAME.out, List.drop_of_length_le (by have := HN.out; omega)]; rfl)
        go_wp2
        go_ret
        exact ⟨by rw [e.out]; rfl, hbel⟩
end Go.Proofs.YtimdnfakgobadaaDoor
