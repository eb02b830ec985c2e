/- One line of the desk: a line that is one of its forms. -/
import Derived.Test.YtgdlkjahlajcpaaGreatDoorAT
namespace Go.Proofs.YtgdlkjahlajcpaaGreatDoor
open Go.ChangeShapes Go.WideShapes Go.ChangeAt Go.RowKit
set_option linter.unusedVariables false
set_option linter.unusedSimpArgs false

theorem word_info : (Tryz.prog.info? 79).map (fun i => (i.zero, i.size, i.bytes)) = some (some (.string .empty), 1, 16) := by kernel_rfl
def WordsV (S : Nat → Prop) (w : World) (v : Value) (ws : List ByteArray) : Prop := ∃ A c, v = .slice A ws.length c ∧ ∀ (j : Nat) p, ws[j]? = some p → ∃ g, A = some ⟨g, 0, none⟩ ∧ S g ∧ w.cell? ⟨g, j, none⟩ = some (.string p)
def wsV (L : List ByteArray) (k : Nat) : List Value := ((L.drop 1).take k).map Value.string
theorem wsV_succ {L : List ByteArray} {k : Nat} {p : ByteArray} (h : L[1 + k]? = some p) : wsV L (k + 1) = wsV L k ++ [.string p] := by
  unfold wsV; rw [List.take_add_one, List.map_append, List.getElem?_drop, h]; rfl
theorem wsV_all {L : List ByteArray} {k : Nat} (h : L.length = k + 1) : wsV L k = (L.drop 1).map Value.string := by
  unfold wsV; rw [List.take_of_length_le (by rw [List.length_drop, h]; omega)]
section
variable {W w : World} {T : Nat} {m : Tab} {S : Nat → Prop} {s c0 : ByteArray} {L : List ByteArray}
set_option maxRecDepth 100000 in
set_option maxHeartbeats 8000000 in
theorem line_hit0 {i F : Nat} {r : Ans × Tab} (h : Tk W T m S w) (hw : HStr W) (hs : s.size ≤ 2097152) (hL : L.map (·.data.toList) = segs 32 s.data.toList) (hc : L[0]? = some c0) (hk : seekK c0 formE 0 = some (i, formV 0 F)) (hlen : L.length = 1)
    (hF : ∀ (args : Array Value) (w : World), (callFunc F args).run Tryz.prog w = .ok (.enter F args) w) (hr : ∀ k, r.1 = .error k → 0 ≤ k ∧ k ≤ 7) (hdo : ∀ (w1 : World) (S1 : Nat → Prop) (v : Value), Tk W T m S1 w1 → WordsV S1 w1 v (L.drop 1) → Calls Tryz.prog F #[deskV T, v] w1 (DoPost W T S1 w1 r)) :
    Calls Tryz.prog 12 #[deskV T, .string s] w (LinePost W T S w r) := by
  have HLEN := Lib.hid hlen
  have HDO := Lib.hid hdo
  have HRK := Lib.hid hr
  obtain ⟨i0, hi, hz0, hz1, hz2⟩ := info_parts word_info
  clear hlen hdo hr
  have hmf : ∀ (fn : Fn) (first cap : Array Value) (w : World), (Instr.makeFunc fn first cap).run Tryz.prog w = .ok (.func fn first cap) w := fun _ _ _ _ => rfl
  have HT := Lib.hid h
  have HW : Hid (HStr w) := Lib.hid (hw.below h.bel (Nat.le_refl _))
  have HL := Lib.hid hL
  have HC := Lib.hid hc
  have HK := Lib.hid hk
  obtain ⟨PP, hPP⟩ : ∃ PP, LinePost W T S w r = PP := ⟨_, rfl⟩
  have HPP := Lib.hid hPP
  rw [hPP]
  clear h hw hL hc hk hPP
  go_enter_defers Tryz.func12, Tryz.ntmps12
  go_wp2_with fail
  go_at_call 9
  (with_reducible refine (Split_r 32 s _ ((HW.out.alloc _).alloc _) hs).mono ?_)
  rintro e w1 ⟨L', g, hL', rfl, hcs, hg, hb1⟩
  obtain rfl : L' = L := list_bytes (hL'.trans HL.out.symm)
  have hb0 : Below w.heap.size w ((w.alloc (.cells #[.pointer (some ⟨T, 0, none⟩)] 40)).alloc (.cells #[.string ⟨#[]⟩] 9)) := ((Below.refl w.heap.size w).alloc (Nat.le_refl _) _).alloc (by simp) _
  obtain ⟨bx0, ba0⟩ := box2 hb1
  have HB1 := Lib.hid (hb0.trans (hb1.mono hb0.size))
  have BX1 := Lib.hid bx0
  have BA1 := Lib.hid ba0
  have HCS := Lib.hid hcs
  have e0 := hcs 0 _ HC.out
  have E0 := Lib.hid e0
  have zw1 := size_of_block ba0
  clear hb0 hb1 bx0 ba0 hcs hL'
  go_wp2_with fail
  go_at_call 30
  (with_reducible refine (forms_any _).mono ?_)
  rintro e w2 ⟨rfl, hw2⟩
  have hb2 : Below w1.heap.size w1 w2 := by rw [hw2]; exact (Below.refl _ _).alloc (Nat.le_refl _) _
  have hm2 : w2.heap[w1.heap.size]? = some (formO 8) := by rw [hw2]; exact heap_alloc_new _ _
  have HB2 := Lib.hid (HB1.out.trans (hb2.mono HB1.out.size))
  have bx2 := below_block hb2 (size_of_block BX1.out) BX1.out
  have ba2 := below_block hb2 (size_of_block BA1.out) BA1.out
  have BX2 := Lib.hid bx2
  have BA2 := Lib.hid ba2
  have e2 := (hb2.cell (p := ⟨g, 0, none⟩) hg).trans E0.out
  have hlk := form_hit hm2 HK.out
  have hNp : 0 < L'.length := (List.getElem?_eq_some_iff.1 HC.out).1
  have hd1 := row1p bx2
  have hd2 := row1p ba2
  have zw2 := HB2.out.size
  have ha2 := size_of_block ba2
  have hf2 : w2.frozen? ⟨w.heap.size + 1, 0, none⟩ = false := frozen_of_row _ _ _ _ _ ba2
  have HCS2 : Hid (∀ (k : Nat) p, L'[k]? = some p → w2.cell? ⟨g, k, none⟩ = some (.string p)) := Lib.hid fun k p hp => (hb2.cell (p := ⟨g, k, none⟩) hg).trans (HCS.out k p hp)
  have hg2 := Nat.lt_of_lt_of_le hg hb2.size
  clear hb2 hm2 e0 bx2 ba2 hw2
  obtain ⟨N, hN⟩ : ∃ N, L'.length = N := ⟨_, rfl⟩
  rw [hN] at hNp ⊢
  have HN := Lib.hid hN
  clear hN
  obtain rfl : N = 1 := HN.out.symm.trans HLEN.out
  go_wp2
  generalize hw3 : w2.alloc (.cells #[.int .i64 0, .func (.func F) #[] #[]] 76) = w3 at *
  have hbw : Below w2.heap.size w2 w3 := by rw [← hw3]; exact (Below.refl _ _).alloc (Nat.le_refl _) _
  have hbf : w3.heap[w2.heap.size]? = some (.cells #[.int .i64 0, .func (.func F) #[] #[]] 76 (0, 0)) := by rw [← hw3]; exact heap_alloc_new _ _
  have HB3 := Lib.hid (HB2.out.trans (hbw.mono HB2.out.size))
  have BX3 := Lib.hid (below_block hbw (size_of_block BX2.out) BX2.out)
  have BA3 := Lib.hid (below_block hbw (size_of_block BA2.out) BA2.out)
  have BF3 := Lib.hid hbf
  have HCS3 : Hid (∀ (k : Nat) p, L'[k]? = some p → w3.cell? ⟨g, k, none⟩ = some (.string p)) := Lib.hid fun k p hp => (hbw.cell (p := ⟨g, k, none⟩) hg2).trans (HCS2.out k p hp)
  have hg3 := Nat.lt_of_lt_of_le hg2 hbw.size
  have zw3 := HB3.out.size
  clear hw3 hbw hbf hd1 hd2 hf2 e2 hlk
  go_loopw [9, 38] (fun v j wr => ∃ k : Nat, k ≤ 0 ∧ j = .int .i64 k ∧ wr.ownsRow w3.heap.size 79 1 v k (wsV L' k) ∧ Below w3.heap.size w3 wr) (fun _ j _ => 0 - (intOf j).toNat)
  case atStart => exact ⟨0, by omega, rfl, World.ownsRow_nil _ _ _ _, Below.refl _ _⟩
  case round =>
    obtain ⟨k, hk, rfl, hown, hbel⟩ := hrel
    have hsz := hbel.size
    by_cases hlt : k < 0
    · exact absurd hlt (by omega)
    · obtain rfl : k = 0 := by omega
      have HBR : Hid (Below w.heap.size w wr) := Lib.hid (HB3.out.trans (hbel.mono zw3))
      have BXR := Lib.hid (below_block hbel (size_of_block BX3.out) BX3.out)
      have BAR := Lib.hid (below_block hbel (size_of_block BA3.out) BA3.out)
      have BFR := Lib.hid (below_block hbel (size_of_block BF3.out) BF3.out)
      have x0 := row1p BXR.out
      obtain ⟨y0, y1, _, _⟩ := row2 BFR.out
      obtain ⟨A, c, hu⟩ := own_form hown
      have htk := wsV_all HLEN.out
      have hTR : Tk W T m (fun b => S b ∨ w.heap.size ≤ b ∧ b < wr.heap.size) wr := HT.out.more HBR.out
      have hWD : WordsV (fun b => S b ∨ w.heap.size ≤ b ∧ b < wr.heap.size) wr (.slice A 0 c) (L'.drop 1) := by
        refine ⟨A, c, by rw [List.length_drop, HLEN.out], fun j p hp => ?_⟩
        have hj : j < 0 := by
          have := (List.getElem?_eq_some_iff.1 hp).1
          rw [List.length_drop, HLEN.out] at this
          omega
        obtain ⟨b, cap, e, hg', hgs, _, hcells⟩ := own_pos hown (by omega)
        rw [hu] at e
        simp only [Value.slice.injEq] at e
        have e1 := hcells j (.string p) (by rw [htk, List.getElem?_map, hp]; rfl)
        rw [Nat.zero_add] at e1
        exact ⟨b, e.1, .inr ⟨Nat.le_trans zw3 hg', hgs⟩, e1⟩
      have HD := Lib.hid (HDO.out wr _ _ hTR hWD)
      subst hu
      clear hown hTR hWD htk hbel
      cases hra : r.1 with
      | ok t =>
        have HEN : Hid (endA r.1 = .returned (strV t)) := Lib.hid (by rw [hra]; rfl)
        have HRA := Lib.hid hra
        clear hra
        go_wp2_with fail
        refine HD.out.mono ?_
        rintro e w5 ⟨he, hT5, hK5⟩
        rw [HEN.out] at he
        subst he
        have ba5 := (hK5 (w.heap.size + 1) (.inr ⟨by omega, by have := HBR.out.size; have := size_of_block BAR.out; omega⟩)).trans BAR.out
        have hd5 := row1p ba5
        have hf5 : w5.frozen? ⟨w.heap.size + 1, 0, none⟩ = false := frozen_of_row _ _ _ _ _ ba5
        have HT5 := Lib.hid hT5
        have HK5 := Lib.hid hK5
        have HD5 := Lib.hid hd5
        clear hT5 hK5 ba5
        go_wp2
        rw [← HPP.out]
        have hS5 : (fun b => S b ∨ w.heap.size ≤ b ∧ b < wr.heap.size) (w.heap.size + 1) := .inr ⟨by omega, size_of_block BAR.out⟩
        refine door_ret rfl (World.cell?_setCell_same _ _ _ HD5.out) ⟨by rw [HRA.out]; rfl, ((HT5.out.setCell hS5 (by have := HT.out.bel.size; omega) _).fewer fun b hb => .inl hb), fun b hb => ?_⟩
        rw [heap_setCell_other _ _ _ _ (by have := HT.out.lt hb; show b ≠ w.heap.size + 1; omega), HK5.out b (.inl hb)]
        exact HBR.out.block b (HT.out.lt hb)
      | error k =>
        have HEN : Hid (endA r.1 = panE k) := Lib.hid (by rw [hra]; rfl)
        obtain ⟨k0, k7⟩ := HRK.out k hra
        have HRA := Lib.hid hra
        clear hra
        go_wp2_with fail
        refine HD.out.mono ?_
        rintro e w5 ⟨he, hT5, hK5⟩
        rw [HEN.out] at he
        subst he
        have ba5 := (hK5 (w.heap.size + 1) (.inr ⟨by omega, size_of_block BAR.out⟩)).trans BAR.out
        have hd5 := row1p ba5
        have hf5 : w5.frozen? ⟨w.heap.size + 1, 0, none⟩ = false := frozen_of_row _ _ _ _ _ ba5
        have hS5 : (fun b => S b ∨ w.heap.size ≤ b ∧ b < wr.heap.size) (w.heap.size + 1) := .inr ⟨by omega, size_of_block BAR.out⟩
        refine door_pan rfl k0 k7 hd5 hf5 ?_
        rw [← HPP.out]
        refine ⟨by rw [HRA.out]; rfl, ((hT5.setCell hS5 (by have := HT.out.bel.size; omega) _).fewer fun b hb => .inl hb), fun b hb => ?_⟩
        rw [heap_setCell_other _ _ _ _ (by have := HT.out.lt hb; show b ≠ w.heap.size + 1; omega), hK5 b (.inl hb)]
        exact HBR.out.block b (HT.out.lt hb)
set_option maxRecDepth 100000 in
set_option maxHeartbeats 8000000 in
theorem line_hit1 {i F : Nat} {r : Ans × Tab} (h : Tk W T m S w) (hw : HStr W) (hs : s.size ≤ 2097152) (hL : L.map (·.data.toList) = segs 32 s.data.toList) (hc : L[0]? = some c0) (hk : seekK c0 formE 0 = some (i, formV 1 F)) (hlen : L.length = 2)
    (hF : ∀ (args : Array Value) (w : World), (callFunc F args).run Tryz.prog w = .ok (.enter F args) w) (hr : ∀ k, r.1 = .error k → 0 ≤ k ∧ k ≤ 7) (hdo : ∀ (w1 : World) (S1 : Nat → Prop) (v : Value), Tk W T m S1 w1 → WordsV S1 w1 v (L.drop 1) → Calls Tryz.prog F #[deskV T, v] w1 (DoPost W T S1 w1 r)) :
    Calls Tryz.prog 12 #[deskV T, .string s] w (LinePost W T S w r) := by
  have HLEN := Lib.hid hlen
  have HDO := Lib.hid hdo
  have HRK := Lib.hid hr
  obtain ⟨i0, hi, hz0, hz1, hz2⟩ := info_parts word_info
  clear hlen hdo hr
  have hmf : ∀ (fn : Fn) (first cap : Array Value) (w : World), (Instr.makeFunc fn first cap).run Tryz.prog w = .ok (.func fn first cap) w := fun _ _ _ _ => rfl
  have HT := Lib.hid h
  have HW : Hid (HStr w) := Lib.hid (hw.below h.bel (Nat.le_refl _))
  have HL := Lib.hid hL
  have HC := Lib.hid hc
  have HK := Lib.hid hk
  obtain ⟨PP, hPP⟩ : ∃ PP, LinePost W T S w r = PP := ⟨_, rfl⟩
  have HPP := Lib.hid hPP
  rw [hPP]
  clear h hw hL hc hk hPP
  go_enter_defers Tryz.func12, Tryz.ntmps12
  go_wp2_with fail
  go_at_call 9
  (with_reducible refine (Split_r 32 s _ ((HW.out.alloc _).alloc _) hs).mono ?_)
  rintro e w1 ⟨L', g, hL', rfl, hcs, hg, hb1⟩
  obtain rfl : L' = L := list_bytes (hL'.trans HL.out.symm)
  have hb0 : Below w.heap.size w ((w.alloc (.cells #[.pointer (some ⟨T, 0, none⟩)] 40)).alloc (.cells #[.string ⟨#[]⟩] 9)) := ((Below.refl w.heap.size w).alloc (Nat.le_refl _) _).alloc (by simp) _
  obtain ⟨bx0, ba0⟩ := box2 hb1
  have HB1 := Lib.hid (hb0.trans (hb1.mono hb0.size))
  have BX1 := Lib.hid bx0
  have BA1 := Lib.hid ba0
  have HCS := Lib.hid hcs
  have e0 := hcs 0 _ HC.out
  have E0 := Lib.hid e0
  have zw1 := size_of_block ba0
  clear hb0 hb1 bx0 ba0 hcs hL'
  go_wp2_with fail
  go_at_call 30
  (with_reducible refine (forms_any _).mono ?_)
  rintro e w2 ⟨rfl, hw2⟩
  have hb2 : Below w1.heap.size w1 w2 := by rw [hw2]; exact (Below.refl _ _).alloc (Nat.le_refl _) _
  have hm2 : w2.heap[w1.heap.size]? = some (formO 8) := by rw [hw2]; exact heap_alloc_new _ _
  have HB2 := Lib.hid (HB1.out.trans (hb2.mono HB1.out.size))
  have bx2 := below_block hb2 (size_of_block BX1.out) BX1.out
  have ba2 := below_block hb2 (size_of_block BA1.out) BA1.out
  have BX2 := Lib.hid bx2
  have BA2 := Lib.hid ba2
  have e2 := (hb2.cell (p := ⟨g, 0, none⟩) hg).trans E0.out
  have hlk := form_hit hm2 HK.out
  have hNp : 0 < L'.length := (List.getElem?_eq_some_iff.1 HC.out).1
  have hd1 := row1p bx2
  have hd2 := row1p ba2
  have zw2 := HB2.out.size
  have ha2 := size_of_block ba2
  have hf2 : w2.frozen? ⟨w.heap.size + 1, 0, none⟩ = false := frozen_of_row _ _ _ _ _ ba2
  have HCS2 : Hid (∀ (k : Nat) p, L'[k]? = some p → w2.cell? ⟨g, k, none⟩ = some (.string p)) := Lib.hid fun k p hp => (hb2.cell (p := ⟨g, k, none⟩) hg).trans (HCS.out k p hp)
  have hg2 := Nat.lt_of_lt_of_le hg hb2.size
  clear hb2 hm2 e0 bx2 ba2 hw2
  obtain ⟨N, hN⟩ : ∃ N, L'.length = N := ⟨_, rfl⟩
  rw [hN] at hNp ⊢
  have HN := Lib.hid hN
  clear hN
  obtain rfl : N = 2 := HN.out.symm.trans HLEN.out
  go_wp2
  generalize hw3 : w2.alloc (.cells #[.int .i64 1, .func (.func F) #[] #[]] 76) = w3 at *
  have hbw : Below w2.heap.size w2 w3 := by rw [← hw3]; exact (Below.refl _ _).alloc (Nat.le_refl _) _
  have hbf : w3.heap[w2.heap.size]? = some (.cells #[.int .i64 1, .func (.func F) #[] #[]] 76 (0, 0)) := by rw [← hw3]; exact heap_alloc_new _ _
  have HB3 := Lib.hid (HB2.out.trans (hbw.mono HB2.out.size))
  have BX3 := Lib.hid (below_block hbw (size_of_block BX2.out) BX2.out)
  have BA3 := Lib.hid (below_block hbw (size_of_block BA2.out) BA2.out)
  have BF3 := Lib.hid hbf
  have HCS3 : Hid (∀ (k : Nat) p, L'[k]? = some p → w3.cell? ⟨g, k, none⟩ = some (.string p)) := Lib.hid fun k p hp => (hbw.cell (p := ⟨g, k, none⟩) hg2).trans (HCS2.out k p hp)
  have hg3 := Nat.lt_of_lt_of_le hg2 hbw.size
  have zw3 := HB3.out.size
  clear hw3 hbw hbf hd1 hd2 hf2 e2 hlk
  go_loopw [9, 38] (fun v j wr => ∃ k : Nat, k ≤ 1 ∧ j = .int .i64 k ∧ wr.ownsRow w3.heap.size 79 1 v k (wsV L' k) ∧ Below w3.heap.size w3 wr) (fun _ j _ => 1 - (intOf j).toNat)
  case atStart => exact ⟨0, by omega, rfl, World.ownsRow_nil _ _ _ _, Below.refl _ _⟩
  case round =>
    obtain ⟨k, hk, rfl, hown, hbel⟩ := hrel
    have hsz := hbel.size
    by_cases hlt : k < 1
    · obtain ⟨p, hp⟩ : ∃ p, L'[1 + k]? = some p := ⟨L'[1 + k]'(by rw [HLEN.out]; omega), List.getElem?_eq_getElem _⟩
      have hcell : wr.cell? ⟨g, 1 + k, none⟩ = some (.string p) := (hbel.cell (p := ⟨g, 1 + k, none⟩) hg3).trans (HCS3.out _ p hp)
      have HQK := Lib.hid (wsV_succ hp)
      have HBEL := Lib.hid hbel
      clear hp hbel
      go_wp2_with (first
        | (at_builtin; refine wpList_append_own _ rfl _ _ 78 rfl w3.heap.size 79 i0 (.string .empty) 1 16 Tryz.underlying78 hi hz0 hz1 hz2 rfl (by decide) _ _ _ rfl (hown.alloc _) ⟨wr.heap.size, 0, none⟩ 1 1 [.string p] rfl rfl ?c1 ?c2 ?c3 ?c4 ?c5 ?_)
        | fail)
      case c1 => intro j u hu; match j, hu with
        | 0, hu => simp only [List.getElem?_cons_zero, Option.some.injEq] at hu; subst hu; rw [addr_add]; simp
      case c2 => intro u hu; simp only [List.mem_cons, List.not_mem_nil, or_false] at hu; subst hu; rfl
      case c3 => unfold maxLen; omega
      case c4 => omega
      case c5 => simp; omega
      intro v' w4 hown2 hgrow _
      have hb4 : Below w3.heap.size w3 w4 := below_grown (HBEL.out.alloc (by omega) _) (hown.alloc _) hgrow (Nat.le_refl _) (by simp; omega)
      rw [← HQK.out] at hown2
      have HB4 := Lib.hid hb4
      clear hb4 hown hgrow
      go_wp2
      exact ⟨⟨k + 1, by omega, by go_num, hown2, HB4.out⟩, by simp [intOf]; omega⟩
    · obtain rfl : k = 1 := by omega
      have HBR : Hid (Below w.heap.size w wr) := Lib.hid (HB3.out.trans (hbel.mono zw3))
      have BXR := Lib.hid (below_block hbel (size_of_block BX3.out) BX3.out)
      have BAR := Lib.hid (below_block hbel (size_of_block BA3.out) BA3.out)
      have BFR := Lib.hid (below_block hbel (size_of_block BF3.out) BF3.out)
      have x0 := row1p BXR.out
      obtain ⟨y0, y1, _, _⟩ := row2 BFR.out
      obtain ⟨A, c, hu⟩ := own_form hown
      have htk := wsV_all HLEN.out
      have hTR : Tk W T m (fun b => S b ∨ w.heap.size ≤ b ∧ b < wr.heap.size) wr := HT.out.more HBR.out
      have hWD : WordsV (fun b => S b ∨ w.heap.size ≤ b ∧ b < wr.heap.size) wr (.slice A 1 c) (L'.drop 1) := by
        refine ⟨A, c, by rw [List.length_drop, HLEN.out], fun j p hp => ?_⟩
        have hj : j < 1 := by
          have := (List.getElem?_eq_some_iff.1 hp).1
          rw [List.length_drop, HLEN.out] at this
          omega
        obtain ⟨b, cap, e, hg', hgs, _, hcells⟩ := own_pos hown (by omega)
        rw [hu] at e
        simp only [Value.slice.injEq] at e
        have e1 := hcells j (.string p) (by rw [htk, List.getElem?_map, hp]; rfl)
        rw [Nat.zero_add] at e1
        exact ⟨b, e.1, .inr ⟨Nat.le_trans zw3 hg', hgs⟩, e1⟩
      have HD := Lib.hid (HDO.out wr _ _ hTR hWD)
      subst hu
      clear hown hTR hWD htk hbel
      cases hra : r.1 with
      | ok t =>
        have HEN : Hid (endA r.1 = .returned (strV t)) := Lib.hid (by rw [hra]; rfl)
        have HRA := Lib.hid hra
        clear hra
        go_wp2_with fail
        refine HD.out.mono ?_
        rintro e w5 ⟨he, hT5, hK5⟩
        rw [HEN.out] at he
        subst he
        have ba5 := (hK5 (w.heap.size + 1) (.inr ⟨by omega, by have := HBR.out.size; have := size_of_block BAR.out; omega⟩)).trans BAR.out
        have hd5 := row1p ba5
        have hf5 : w5.frozen? ⟨w.heap.size + 1, 0, none⟩ = false := frozen_of_row _ _ _ _ _ ba5
        have HT5 := Lib.hid hT5
        have HK5 := Lib.hid hK5
        have HD5 := Lib.hid hd5
        clear hT5 hK5 ba5
        go_wp2
        rw [← HPP.out]
        have hS5 : (fun b => S b ∨ w.heap.size ≤ b ∧ b < wr.heap.size) (w.heap.size + 1) := .inr ⟨by omega, size_of_block BAR.out⟩
        refine door_ret rfl (World.cell?_setCell_same _ _ _ HD5.out) ⟨by rw [HRA.out]; rfl, ((HT5.out.setCell hS5 (by have := HT.out.bel.size; omega) _).fewer fun b hb => .inl hb), fun b hb => ?_⟩
        rw [heap_setCell_other _ _ _ _ (by have := HT.out.lt hb; show b ≠ w.heap.size + 1; omega), HK5.out b (.inl hb)]
        exact HBR.out.block b (HT.out.lt hb)
      | error k =>
        have HEN : Hid (endA r.1 = panE k) := Lib.hid (by rw [hra]; rfl)
        obtain ⟨k0, k7⟩ := HRK.out k hra
        have HRA := Lib.hid hra
        clear hra
        go_wp2_with fail
        refine HD.out.mono ?_
        rintro e w5 ⟨he, hT5, hK5⟩
        rw [HEN.out] at he
        subst he
        have ba5 := (hK5 (w.heap.size + 1) (.inr ⟨by omega, size_of_block BAR.out⟩)).trans BAR.out
        have hd5 := row1p ba5
        have hf5 : w5.frozen? ⟨w.heap.size + 1, 0, none⟩ = false := frozen_of_row _ _ _ _ _ ba5
        have hS5 : (fun b => S b ∨ w.heap.size ≤ b ∧ b < wr.heap.size) (w.heap.size + 1) := .inr ⟨by omega, size_of_block BAR.out⟩
        refine door_pan rfl k0 k7 hd5 hf5 ?_
        rw [← HPP.out]
        refine ⟨by rw [HRA.out]; rfl, ((hT5.setCell hS5 (by have := HT.out.bel.size; omega) _).fewer fun b hb => .inl hb), fun b hb => ?_⟩
        rw [heap_setCell_other _ _ _ _ (by have := HT.out.lt hb; show b ≠ w.heap.size + 1; omega), hK5 b (.inl hb)]
        exact HBR.out.block b (HT.out.lt hb)
set_option maxRecDepth 100000 in
set_option maxHeartbeats 8000000 in
theorem line_hit2 {i F : Nat} {r : Ans × Tab} (h : Tk W T m S w) (hw : HStr W) (hs : s.size ≤ 2097152) (hL : L.map (·.data.toList) = segs 32 s.data.toList) (hc : L[0]? = some c0) (hk : seekK c0 formE 0 = some (i, formV 2 F)) (hlen : L.length = 3)
    (hF : ∀ (args : Array Value) (w : World), (callFunc F args).run Tryz.prog w = .ok (.enter F args) w) (hr : ∀ k, r.1 = .error k → 0 ≤ k ∧ k ≤ 7) (hdo : ∀ (w1 : World) (S1 : Nat → Prop) (v : Value), Tk W T m S1 w1 → WordsV S1 w1 v (L.drop 1) → Calls Tryz.prog F #[deskV T, v] w1 (DoPost W T S1 w1 r)) :
    Calls Tryz.prog 12 #[deskV T, .string s] w (LinePost W T S w r) := by
  have HLEN := Lib.hid hlen
  have HDO := Lib.hid hdo
  have HRK := Lib.hid hr
  obtain ⟨i0, hi, hz0, hz1, hz2⟩ := info_parts word_info
  clear hlen hdo hr
  have hmf : ∀ (fn : Fn) (first cap : Array Value) (w : World), (Instr.makeFunc fn first cap).run Tryz.prog w = .ok (.func fn first cap) w := fun _ _ _ _ => rfl
  have HT := Lib.hid h
  have HW : Hid (HStr w) := Lib.hid (hw.below h.bel (Nat.le_refl _))
  have HL := Lib.hid hL
  have HC := Lib.hid hc
  have HK := Lib.hid hk
  obtain ⟨PP, hPP⟩ : ∃ PP, LinePost W T S w r = PP := ⟨_, rfl⟩
  have HPP := Lib.hid hPP
  rw [hPP]
  clear h hw hL hc hk hPP
  go_enter_defers Tryz.func12, Tryz.ntmps12
  go_wp2_with fail
  go_at_call 9
  (with_reducible refine (Split_r 32 s _ ((HW.out.alloc _).alloc _) hs).mono ?_)
  rintro e w1 ⟨L', g, hL', rfl, hcs, hg, hb1⟩
  obtain rfl : L' = L := list_bytes (hL'.trans HL.out.symm)
  have hb0 : Below w.heap.size w ((w.alloc (.cells #[.pointer (some ⟨T, 0, none⟩)] 40)).alloc (.cells #[.string ⟨#[]⟩] 9)) := ((Below.refl w.heap.size w).alloc (Nat.le_refl _) _).alloc (by simp) _
  obtain ⟨bx0, ba0⟩ := box2 hb1
  have HB1 := Lib.hid (hb0.trans (hb1.mono hb0.size))
  have BX1 := Lib.hid bx0
  have BA1 := Lib.hid ba0
  have HCS := Lib.hid hcs
  have e0 := hcs 0 _ HC.out
  have E0 := Lib.hid e0
  have zw1 := size_of_block ba0
  clear hb0 hb1 bx0 ba0 hcs hL'
  go_wp2_with fail
  go_at_call 30
  (with_reducible refine (forms_any _).mono ?_)
  rintro e w2 ⟨rfl, hw2⟩
  have hb2 : Below w1.heap.size w1 w2 := by rw [hw2]; exact (Below.refl _ _).alloc (Nat.le_refl _) _
  have hm2 : w2.heap[w1.heap.size]? = some (formO 8) := by rw [hw2]; exact heap_alloc_new _ _
  have HB2 := Lib.hid (HB1.out.trans (hb2.mono HB1.out.size))
  have bx2 := below_block hb2 (size_of_block BX1.out) BX1.out
  have ba2 := below_block hb2 (size_of_block BA1.out) BA1.out
  have BX2 := Lib.hid bx2
  have BA2 := Lib.hid ba2
  have e2 := (hb2.cell (p := ⟨g, 0, none⟩) hg).trans E0.out
  have hlk := form_hit hm2 HK.out
  have hNp : 0 < L'.length := (List.getElem?_eq_some_iff.1 HC.out).1
  have hd1 := row1p bx2
  have hd2 := row1p ba2
  have zw2 := HB2.out.size
  have ha2 := size_of_block ba2
  have hf2 : w2.frozen? ⟨w.heap.size + 1, 0, none⟩ = false := frozen_of_row _ _ _ _ _ ba2
  have HCS2 : Hid (∀ (k : Nat) p, L'[k]? = some p → w2.cell? ⟨g, k, none⟩ = some (.string p)) := Lib.hid fun k p hp => (hb2.cell (p := ⟨g, k, none⟩) hg).trans (HCS.out k p hp)
  have hg2 := Nat.lt_of_lt_of_le hg hb2.size
  clear hb2 hm2 e0 bx2 ba2 hw2
  obtain ⟨N, hN⟩ : ∃ N, L'.length = N := ⟨_, rfl⟩
  rw [hN] at hNp ⊢
  have HN := Lib.hid hN
  clear hN
  obtain rfl : N = 3 := HN.out.symm.trans HLEN.out
  go_wp2
  generalize hw3 : w2.alloc (.cells #[.int .i64 2, .func (.func F) #[] #[]] 76) = w3 at *
  have hbw : Below w2.heap.size w2 w3 := by rw [← hw3]; exact (Below.refl _ _).alloc (Nat.le_refl _) _
  have hbf : w3.heap[w2.heap.size]? = some (.cells #[.int .i64 2, .func (.func F) #[] #[]] 76 (0, 0)) := by rw [← hw3]; exact heap_alloc_new _ _
  have HB3 := Lib.hid (HB2.out.trans (hbw.mono HB2.out.size))
  have BX3 := Lib.hid (below_block hbw (size_of_block BX2.out) BX2.out)
  have BA3 := Lib.hid (below_block hbw (size_of_block BA2.out) BA2.out)
  have BF3 := Lib.hid hbf
  have HCS3 : Hid (∀ (k : Nat) p, L'[k]? = some p → w3.cell? ⟨g, k, none⟩ = some (.string p)) := Lib.hid fun k p hp => (hbw.cell (p := ⟨g, k, none⟩) hg2).trans (HCS2.out k p hp)
  have hg3 := Nat.lt_of_lt_of_le hg2 hbw.size
  have zw3 := HB3.out.size
  clear hw3 hbw hbf hd1 hd2 hf2 e2 hlk
  go_loopw [9, 38] (fun v j wr => ∃ k : Nat, k ≤ 2 ∧ j = .int .i64 k ∧ wr.ownsRow w3.heap.size 79 1 v k (wsV L' k) ∧ Below w3.heap.size w3 wr) (fun _ j _ => 2 - (intOf j).toNat)
  case atStart => exact ⟨0, by omega, rfl, World.ownsRow_nil _ _ _ _, Below.refl _ _⟩
  case round =>
    obtain ⟨k, hk, rfl, hown, hbel⟩ := hrel
    have hsz := hbel.size
    by_cases hlt : k < 2
    · obtain ⟨p, hp⟩ : ∃ p, L'[1 + k]? = some p := ⟨L'[1 + k]'(by rw [HLEN.out]; omega), List.getElem?_eq_getElem _⟩
      have hcell : wr.cell? ⟨g, 1 + k, none⟩ = some (.string p) := (hbel.cell (p := ⟨g, 1 + k, none⟩) hg3).trans (HCS3.out _ p hp)
      have HQK := Lib.hid (wsV_succ hp)
      have HBEL := Lib.hid hbel
      clear hp hbel
      go_wp2_with (first
        | (at_builtin; refine wpList_append_own _ rfl _ _ 78 rfl w3.heap.size 79 i0 (.string .empty) 1 16 Tryz.underlying78 hi hz0 hz1 hz2 rfl (by decide) _ _ _ rfl (hown.alloc _) ⟨wr.heap.size, 0, none⟩ 1 1 [.string p] rfl rfl ?c1 ?c2 ?c3 ?c4 ?c5 ?_)
        | fail)
      case c1 => intro j u hu; match j, hu with
        | 0, hu => simp only [List.getElem?_cons_zero, Option.some.injEq] at hu; subst hu; rw [addr_add]; simp
      case c2 => intro u hu; simp only [List.mem_cons, List.not_mem_nil, or_false] at hu; subst hu; rfl
      case c3 => unfold maxLen; omega
      case c4 => omega
      case c5 => simp; omega
      intro v' w4 hown2 hgrow _
      have hb4 : Below w3.heap.size w3 w4 := below_grown (HBEL.out.alloc (by omega) _) (hown.alloc _) hgrow (Nat.le_refl _) (by simp; omega)
      rw [← HQK.out] at hown2
      have HB4 := Lib.hid hb4
      clear hb4 hown hgrow
      go_wp2
      exact ⟨⟨k + 1, by omega, by go_num, hown2, HB4.out⟩, by simp [intOf]; omega⟩
    · obtain rfl : k = 2 := by omega
      have HBR : Hid (Below w.heap.size w wr) := Lib.hid (HB3.out.trans (hbel.mono zw3))
      have BXR := Lib.hid (below_block hbel (size_of_block BX3.out) BX3.out)
      have BAR := Lib.hid (below_block hbel (size_of_block BA3.out) BA3.out)
      have BFR := Lib.hid (below_block hbel (size_of_block BF3.out) BF3.out)
      have x0 := row1p BXR.out
      obtain ⟨y0, y1, _, _⟩ := row2 BFR.out
      obtain ⟨A, c, hu⟩ := own_form hown
      have htk := wsV_all HLEN.out
      have hTR : Tk W T m (fun b => S b ∨ w.heap.size ≤ b ∧ b < wr.heap.size) wr := HT.out.more HBR.out
      have hWD : WordsV (fun b => S b ∨ w.heap.size ≤ b ∧ b < wr.heap.size) wr (.slice A 2 c) (L'.drop 1) := by
        refine ⟨A, c, by rw [List.length_drop, HLEN.out], fun j p hp => ?_⟩
        have hj : j < 2 := by
          have := (List.getElem?_eq_some_iff.1 hp).1
          rw [List.length_drop, HLEN.out] at this
          omega
        obtain ⟨b, cap, e, hg', hgs, _, hcells⟩ := own_pos hown (by omega)
        rw [hu] at e
        simp only [Value.slice.injEq] at e
        have e1 := hcells j (.string p) (by rw [htk, List.getElem?_map, hp]; rfl)
        rw [Nat.zero_add] at e1
        exact ⟨b, e.1, .inr ⟨Nat.le_trans zw3 hg', hgs⟩, e1⟩
      have HD := Lib.hid (HDO.out wr _ _ hTR hWD)
      subst hu
      clear hown hTR hWD htk hbel
      cases hra : r.1 with
      | ok t =>
        have HEN : Hid (endA r.1 = .returned (strV t)) := Lib.hid (by rw [hra]; rfl)
        have HRA := Lib.hid hra
        clear hra
        go_wp2_with fail
        refine HD.out.mono ?_
        rintro e w5 ⟨he, hT5, hK5⟩
        rw [HEN.out] at he
        subst he
        have ba5 := (hK5 (w.heap.size + 1) (.inr ⟨by omega, by have := HBR.out.size; have := size_of_block BAR.out; omega⟩)).trans BAR.out
        have hd5 := row1p ba5
        have hf5 : w5.frozen? ⟨w.heap.size + 1, 0, none⟩ = false := frozen_of_row _ _ _ _ _ ba5
        have HT5 := Lib.hid hT5
        have HK5 := Lib.hid hK5
        have HD5 := Lib.hid hd5
        clear hT5 hK5 ba5
        go_wp2
        rw [← HPP.out]
        have hS5 : (fun b => S b ∨ w.heap.size ≤ b ∧ b < wr.heap.size) (w.heap.size + 1) := .inr ⟨by omega, size_of_block BAR.out⟩
        refine door_ret rfl (World.cell?_setCell_same _ _ _ HD5.out) ⟨by rw [HRA.out]; rfl, ((HT5.out.setCell hS5 (by have := HT.out.bel.size; omega) _).fewer fun b hb => .inl hb), fun b hb => ?_⟩
        rw [heap_setCell_other _ _ _ _ (by have := HT.out.lt hb; show b ≠ w.heap.size + 1; omega), HK5.out b (.inl hb)]
        exact HBR.out.block b (HT.out.lt hb)
      | error k =>
        have HEN : Hid (endA r.1 = panE k) := Lib.hid (by rw [hra]; rfl)
        obtain ⟨k0, k7⟩ := HRK.out k hra
        have HRA := Lib.hid hra
        clear hra
        go_wp2_with fail
        refine HD.out.mono ?_
        rintro e w5 ⟨he, hT5, hK5⟩
        rw [HEN.out] at he
        subst he
        have ba5 := (hK5 (w.heap.size + 1) (.inr ⟨by omega, size_of_block BAR.out⟩)).trans BAR.out
        have hd5 := row1p ba5
        have hf5 : w5.frozen? ⟨w.heap.size + 1, 0, none⟩ = false := frozen_of_row _ _ _ _ _ ba5
        have hS5 : (fun b => S b ∨ w.heap.size ≤ b ∧ b < wr.heap.size) (w.heap.size + 1) := .inr ⟨by omega, size_of_block BAR.out⟩
        refine door_pan rfl k0 k7 hd5 hf5 ?_
        rw [← HPP.out]
        refine ⟨by rw [HRA.out]; rfl, ((hT5.setCell hS5 (by have := HT.out.bel.size; omega) _).fewer fun b hb => .inl hb), fun b hb => ?_⟩
        rw [heap_setCell_other _ _ _ _ (by have := HT.out.lt hb; show b ≠ w.heap.size + 1; omega), hK5 b (.inl hb)]
        exact HBR.out.block b (HT.out.lt hb)
end
end Go.Proofs.YtgdlkjahlajcpaaGreatDoor
