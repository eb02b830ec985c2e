/- wire.Decode of four bytes or more: the walk. -/
import Derived.Test.YtimdnfakgobadaaDoorWireI
namespace Go.Proofs.YtimdnfakgobadaaDoor
open Go.ChangeShapes Go.WideShapes Go.ChangeAt Go.RowKit
set_option linter.unusedVariables false
set_option linter.unusedSimpArgs false

def lenOfSl : Value → Nat
  | .slice _ n _ => n
  | _ => 0
set_option maxRecDepth 100000 in
set_option maxHeartbeats 8000000 in
theorem Decode_long {w : World} {A : Option Addr} {n c : Nat} {l : List Int} (hr : R1 rdBytes w (.slice A n c) l) (h4 : 4 ≤ n) :
    Calls Tryd.prog 18 #[.slice A n c] w (DecPost l w) := by
  obtain ⟨hn, hnc, hcm⟩ := RdSlice.len hr
  have hnm : n ≤ 9223372036854775807 := by unfold maxLen at hcm; omega
  obtain ⟨b, o, rfl, hbk⟩ := RdSlice.some_ hr (by omega)
  have at_ : ∀ i, i < 4 → ∃ x, l[i]? = some x ∧ w.cell? ⟨b, o + i, none⟩ = some (.int .u8 x) := fun i hi => by
    obtain ⟨b', o', x, e, _, HX, _, hc⟩ := RdSlice.atI hr (i := i) (by omega)
    simp only [Option.some.injEq, Addr.mk.injEq] at e
    obtain ⟨rfl, rfl, _⟩ := e
    exact ⟨x, HX.out, hc⟩
  obtain ⟨x0, i0, c0⟩ := at_ 0 (by omega)
  obtain ⟨x1, i1, c1⟩ := at_ 1 (by omega)
  obtain ⟨x2, i2, c2⟩ := at_ 2 (by omega)
  obtain ⟨x3, i3, c3⟩ := at_ 3 (by omega)
  have hl4 : ¬ l.length < 4 := by omega
  have hok : hdOk l ↔ (x0 = 1 ∨ x0 = 2) ∧ x1 = 2 ∧ x2 = 0 ∧ x3 = 0 := by
    unfold hdOk
    rw [hd4_long (by omega)]
    have g0 : g (l.take 4) 0 = x0 := by unfold g; simp [List.getElem?_take, i0]
    have g1 : g (l.take 4) 1 = x1 := by unfold g; simp [List.getElem?_take, i1]
    have g2 : g (l.take 4) 2 = x2 := by unfold g; simp [List.getElem?_take, i2]
    have g3 : g (l.take 4) 3 = x3 := by unfold g; simp [List.getElem?_take, i3]
    rw [g0, g1, g2, g3]
  have HQ : Hid (decide (g l 0 = 1) = (x0 == 1)) := Lib.hid (by unfold g; simp [i0]; rfl)
  have h4' : ¬ (n : Int) < 4 := by omega
  have h4n : (4 : Int) ≤ (n : Int) := by omega
  have HOK := Lib.hid hok
  have HBAD : Hid (¬ ((x0 = 1 ∨ x0 = 2) ∧ x1 = 2 ∧ x2 = 0 ∧ x3 = 0) → decM l = ((false, []), 3)) := Lib.hid fun h => dec_bad (fun hh => h (hok.1 hh))
  have HN := Lib.hid hn
  have HL4 := Lib.hid hl4
  have HCM := Lib.hid hcm
  rw [Nat.add_zero] at c0
  clear at_ hok hn hl4 hcm i0 i1 i2 i3
  go_enter Tryd.func18, Tryd.ntmps18
  go_upto_region 6 with (refine wpList_copy_bytes rfl (.tmp 15) (.tmp 16) 36 5 rfl Tryd.underlying36 byte_one (w.heap.size + 1) 0 4 4 _ _ _ rfl rfl [2, 2, 0, 0] l (by rw [← World.size_alloc w]; exact heap_alloc_new _ _) (R1.alloc (R1.alloc hr _) _) (by decide) (w.heap.size + 1) (w.alloc (.cells #[.bool false, .slice none 0 0] 35)) ((Below.refl _ _).alloc (by simp) _) (Nat.le_refl _) ?_; intro k1 w1 H1 hb1)
  have BR : Hid (w1.heap[w.heap.size]? = some (.cells #[.bool false, .slice none 0 0] 35 (0, 0))) := Lib.hid ((hb1.block _ (by omega)).trans (heap_alloc_new _ _))
  have hz1 : w.heap.size < w1.heap.size := size_of_block BR.out
  have hB1 : Hid (Below w.heap.size w w1) := Lib.hid (((Below.refl _ _).alloc (Nat.le_refl _) _).trans (hb1.mono (by omega)))
  obtain ⟨z0, z1, f0, f1⟩ := row2 BR.out
  have e0 : w1.cell? ⟨b, o, none⟩ = some (.int .u8 x0) := (hB1.out.cell hbk).trans c0
  have e1 : w1.cell? ⟨b, o + 1, none⟩ = some (.int .u8 x1) := (hB1.out.cell hbk).trans c1
  have e2 : w1.cell? ⟨b, o + 2, none⟩ = some (.int .u8 x2) := (hB1.out.cell hbk).trans c2
  have e3 : w1.cell? ⟨b, o + 3, none⟩ = some (.int .u8 x3) := (hB1.out.cell hbk).trans c3
  have HR := Lib.hid hr
  clear H1 hb1 hr c0 c1 c2 c3
  rcases head_ways x0 x1 x2 x3 with ⟨ta, ⟨tb, ⟨tc, ⟨td, HX⟩ | ⟨td, HX⟩⟩ | ⟨tc, HX⟩⟩ | ⟨tb, HX⟩⟩ | ⟨ta, tb, HX⟩
  case inl.inl.inl.inl =>
    have hq : ∃ q : Bool, (x0 == 1) = q := ⟨_, rfl⟩
    obtain ⟨q, hq⟩ := hq
    have HQQ : Hid (decide (g l 0 = 1) = q) := Lib.hid (by rw [HQ.out, hq])
    have HH := Lib.hid (HOK.out.2 HX.out)
    go_cut [47] (fun s47 wx => s47 = .bool false ∧ w1 = wx)
    case first =>
      rcases ta with ta | ⟨ta, ta'⟩ <;> (go_wp2; go_meet; exact ⟨rfl, rfl⟩)
    case rest =>
      obtain ⟨rfl, hwx⟩ := hcut
      subst hwx
      clear ta tb tc td
      have DS0 : DS w l q w1.heap.size (w1.heap.size + 1) b (w1.alloc (.cells #[.bool q, .slice none 0 0] 35)) false (o + 4) (n - 4) (c - 4) (l.drop 4) [] 25 (.slice none 0 0) := by
        refine ⟨RdSlice.from_ HR.out 4 h4 hbk, rfl, OwnE.nil_ _ _, heap_alloc_new _ _, ?_, hz1, by omega, by simp, hB1.out.alloc hB1.out.size _, ⟨fun h => (nomatch h), fun _ => ?_⟩⟩
        · exact (((Below.refl _ _).alloc (Nat.le_refl _) _).block _ hz1).trans BR.out
        · cases decE 25 (l.drop 4) <;> simp
      have HDS0 := Lib.hid DS0
      clear DS0
      by_cases hc4 : c = 4
      · subst hc4
        have hn4 : n = 4 := by omega
        subst hn4
        go_wp2
        refine wp_loop_rounds 1 ?_
        rw [rounds_succ]
        go_wp2
        exact dec_end (set2_block_a _ _ _ BR.out) rfl rfl rfl (dec_ok0 _ _ (Nat.le_refl _) HN.out.symm HH.out HQQ.out hB1.out)
      · have hc4' : (4 : Int) < (c : Int) := by omega
        have hc4'' : 4 < c := by omega
        go_wp2
        go_loopw [4, 7] (fun s4 s7 wr => ∃ (sb : Bool) (o' n' c' : Nat) (l' : List Int) (es : List Entry) (r : Nat) (ve : Value), s4 = .bool sb ∧ s7 = .slice (some ⟨b, o', none⟩) n' c' ∧ DS w l q w1.heap.size (w1.heap.size + 1) b wr sb o' n' c' l' es r ve) (fun _ s7 _ => lenOfSl s7)
        case atStart => exact ⟨false, _, _, _, _, _, _, _, rfl, rfl, HDS0.out⟩
        case round =>
          obtain ⟨sb, o', n', c', l', es, r, ve, rfl, rfl, ds⟩ := hrel
          have DSH := Lib.hid ds
          obtain ⟨y0, y1, yf0, yf1⟩ := row2 ds.k6
          obtain ⟨v0, v1, vf0, vf1⟩ := row2 ds.rr
          obtain ⟨Ae, ce, rfl⟩ := own_form ds.own.1
          obtain ⟨hn', hnc', hcm'⟩ := RdSlice.len ds.rd
          have hnm' : n' ≤ 9223372036854775807 := by unfold maxLen at hcm'; omega
          have hzr := ds.h3
          have hlen := ds.len
          have HN' := Lib.hid hn'
          clear hn' hcm' ds
          by_cases hpos : 0 < n'
          · have hsb : sb = false := by
              cases sb
              · rfl
              · have := (DSH.out.mean.1 rfl).1
                rw [this] at HN'
                have := HN'.out
                simp at this; omega
            subst hsb
            have hl0 : l' ≠ [] := by
              intro h
              rw [h] at HN'
              have := HN'.out
              simp at this; omega
            have HL0 := Lib.hid hl0
            clear hl0
            obtain ⟨⟨⟨ea, el⟩, et, eh, em⟩, he⟩ : ∃ e, entOf (filled (l'.take 20)) = e := ⟨_, rfl⟩
            have HE := Lib.hid he
            clear he
            have hpos' : (0 : Int) < (n' : Int) := by omega
            have hbyte := rdBytes_rng DSH.out.rd
            have HWF : Hid (entWf ((ea, el), et, eh, em)) := Lib.hid (by rw [← HE.out]; exact entOf_wf (filled_length (List.length_take_le _ _)) (filled_byte (byteL_take hbyte 20)))
            clear hbyte
            have hrp : ∀ k, k ≤ n' → l'.take k = l'.take 20 → R1 rdBytes wr (.slice (some ⟨b, o', none⟩) k c') (l'.take 20) := fun k hk he => by
              rw [← he]; exact R1.below (RdSlice.pre DSH.out.rd k hk) DSH.out.bel
            have HRP := Lib.hid hrp
            clear hrp
            by_cases hbad : r = 0 ∨ ¬ entOk (filled (l'.take 20))
            · have HBADE := Lib.hid (dec_form DSH.out HH.out HL4.out HL0.out hbad)
              obtain ⟨okb, hokb⟩ : ∃ okb, decide (entOk (filled (l'.take 20))) = okb := ⟨_, rfl⟩
              have HOKD := Lib.hid hokb
              have h25 : okb = false ∨ (okb = true ∧ ((es.length : Int) == 25) = true) := by
                rcases hbad with h | h
                · cases okb
                  · exact .inl rfl
                  · exact .inr ⟨rfl, by simp; omega⟩
                · left; rw [← hokb]; simpa using h
              clear hbad hokb
              rcases h25 with rfl | ⟨rfl, h25⟩
              · by_cases h20 : n' < 20
                · have h20' : (n' : Int) < 20 := by omega
                  have hmin : min (20 : Int) (n' : Int) = (n' : Int) := by omega
                  have HP := Lib.hid (HRP.out n' (Nat.le_refl _) (by rw [List.take_of_length_le (by have := HN'.out; omega), List.take_of_length_le (by have := HN'.out; omega)]))
                  by_cases hck : n' = c'
                  · subst hck
                    go_wp2_with (first
                      | (go_at_call 30; refine (filled_any HP.out (by omega) (by omega)).mono ?_; rintro e2 w2 ⟨A2, rfl, hr2, hb2⟩)
                      | (go_at_call 29; refine (entry_any hr2).mono ?_; rintro e3 w3 ⟨rfl, hb3⟩; rw [HOKD.out, HE.out]; simp only [entV]; have hb23 : Below wr.heap.size wr w3 := hb2.trans (hb3.mono hb2.size); have k63 := (hb23.block _ (size_of_block DSH.out.k6)).trans DSH.out.k6; have rr3 := (hb23.block _ (size_of_block DSH.out.rr)).trans DSH.out.rr; obtain ⟨ya0, ya1, yaf0, yaf1⟩ := row2 k63; obtain ⟨va0, va1, vaf0, vaf1⟩ := row2 rr3; have hs3 := size_of_block k63; have hs3R := size_of_block rr3; have HB23 := Lib.hid hb23; have HK63 := Lib.hid k63; have HRR3 := Lib.hid rr3; clear hb2 hb3 hr2 hb23 k63 rr3)
                      | fail)
                    exact dec_end (set2_block_a _ _ _ HRR3.out) rfl rfl rfl (dec_none_a _ _ (Nat.le_refl _) (.inl ⟨HBADE.out, rfl⟩) (DSH.out.bel.trans (HB23.out.mono DSH.out.bel.size)))
                  · have hck' : n' < c' := by omega
                    have hck2 : (n' : Int) < (c' : Int) := by omega
                    go_wp2_with (first
                      | (go_at_call 30; refine (filled_any HP.out (by omega) (by omega)).mono ?_; rintro e2 w2 ⟨A2, rfl, hr2, hb2⟩)
                      | (go_at_call 29; refine (entry_any hr2).mono ?_; rintro e3 w3 ⟨rfl, hb3⟩; rw [HOKD.out, HE.out]; simp only [entV]; have hb23 : Below wr.heap.size wr w3 := hb2.trans (hb3.mono hb2.size); have k63 := (hb23.block _ (size_of_block DSH.out.k6)).trans DSH.out.k6; have rr3 := (hb23.block _ (size_of_block DSH.out.rr)).trans DSH.out.rr; obtain ⟨ya0, ya1, yaf0, yaf1⟩ := row2 k63; obtain ⟨va0, va1, vaf0, vaf1⟩ := row2 rr3; have hs3 := size_of_block k63; have hs3R := size_of_block rr3; have HB23 := Lib.hid hb23; have HK63 := Lib.hid k63; have HRR3 := Lib.hid rr3; clear hb2 hb3 hr2 hb23 k63 rr3)
                      | fail)
                    exact dec_end (set2_block_a _ _ _ HRR3.out) rfl rfl rfl (dec_none_a _ _ (Nat.le_refl _) (.inl ⟨HBADE.out, rfl⟩) (DSH.out.bel.trans (HB23.out.mono DSH.out.bel.size)))
                · have h20' : ¬ (n' : Int) < 20 := by omega
                  have h20'' : (20 : Int) ≤ (n' : Int) := by omega
                  have hmin : min (20 : Int) (n' : Int) = 20 := by omega
                  have HP := Lib.hid (HRP.out 20 (by omega) rfl)
                  by_cases hck : 20 = c'
                  · subst hck
                    go_wp2_with (first
                      | (go_at_call 30; refine (filled_any HP.out (by omega) (by omega)).mono ?_; rintro e2 w2 ⟨A2, rfl, hr2, hb2⟩)
                      | (go_at_call 29; refine (entry_any hr2).mono ?_; rintro e3 w3 ⟨rfl, hb3⟩; rw [HOKD.out, HE.out]; simp only [entV]; have hb23 : Below wr.heap.size wr w3 := hb2.trans (hb3.mono hb2.size); have k63 := (hb23.block _ (size_of_block DSH.out.k6)).trans DSH.out.k6; have rr3 := (hb23.block _ (size_of_block DSH.out.rr)).trans DSH.out.rr; obtain ⟨ya0, ya1, yaf0, yaf1⟩ := row2 k63; obtain ⟨va0, va1, vaf0, vaf1⟩ := row2 rr3; have hs3 := size_of_block k63; have hs3R := size_of_block rr3; have HB23 := Lib.hid hb23; have HK63 := Lib.hid k63; have HRR3 := Lib.hid rr3; clear hb2 hb3 hr2 hb23 k63 rr3)
                      | fail)
                    exact dec_end (set2_block_a _ _ _ HRR3.out) rfl rfl rfl (dec_none_a _ _ (Nat.le_refl _) (.inl ⟨HBADE.out, rfl⟩) (DSH.out.bel.trans (HB23.out.mono DSH.out.bel.size)))
                  · have hck' : 20 < c' := by omega
                    have hck2 : (20 : Int) < (c' : Int) := by omega
                    go_wp2_with (first
                      | (go_at_call 30; refine (filled_any HP.out (by omega) (by omega)).mono ?_; rintro e2 w2 ⟨A2, rfl, hr2, hb2⟩)
                      | (go_at_call 29; refine (entry_any hr2).mono ?_; rintro e3 w3 ⟨rfl, hb3⟩; rw [HOKD.out, HE.out]; simp only [entV]; have hb23 : Below wr.heap.size wr w3 := hb2.trans (hb3.mono hb2.size); have k63 := (hb23.block _ (size_of_block DSH.out.k6)).trans DSH.out.k6; have rr3 := (hb23.block _ (size_of_block DSH.out.rr)).trans DSH.out.rr; obtain ⟨ya0, ya1, yaf0, yaf1⟩ := row2 k63; obtain ⟨va0, va1, vaf0, vaf1⟩ := row2 rr3; have hs3 := size_of_block k63; have hs3R := size_of_block rr3; have HB23 := Lib.hid hb23; have HK63 := Lib.hid k63; have HRR3 := Lib.hid rr3; clear hb2 hb3 hr2 hb23 k63 rr3)
                      | fail)
                    exact dec_end (set2_block_a _ _ _ HRR3.out) rfl rfl rfl (dec_none_a _ _ (Nat.le_refl _) (.inl ⟨HBADE.out, rfl⟩) (DSH.out.bel.trans (HB23.out.mono DSH.out.bel.size)))
              · by_cases h20 : n' < 20
                · have h20' : (n' : Int) < 20 := by omega
                  have hmin : min (20 : Int) (n' : Int) = (n' : Int) := by omega
                  have HP := Lib.hid (HRP.out n' (Nat.le_refl _) (by rw [List.take_of_length_le (by have := HN'.out; omega), List.take_of_length_le (by have := HN'.out; omega)]))
                  by_cases hck : n' = c'
                  · subst hck
                    go_wp2_with (first
                      | (go_at_call 30; refine (filled_any HP.out (by omega) (by omega)).mono ?_; rintro e2 w2 ⟨A2, rfl, hr2, hb2⟩)
                      | (go_at_call 29; refine (entry_any hr2).mono ?_; rintro e3 w3 ⟨rfl, hb3⟩; rw [HOKD.out, HE.out]; simp only [entV]; have hb23 : Below wr.heap.size wr w3 := hb2.trans (hb3.mono hb2.size); have k63 := (hb23.block _ (size_of_block DSH.out.k6)).trans DSH.out.k6; have rr3 := (hb23.block _ (size_of_block DSH.out.rr)).trans DSH.out.rr; obtain ⟨ya0, ya1, yaf0, yaf1⟩ := row2 k63; obtain ⟨va0, va1, vaf0, vaf1⟩ := row2 rr3; have hs3 := size_of_block k63; have hs3R := size_of_block rr3; have HB23 := Lib.hid hb23; have HK63 := Lib.hid k63; have HRR3 := Lib.hid rr3; clear hb2 hb3 hr2 hb23 k63 rr3)
                      | fail)
                    exact dec_end (set2_block_a _ _ _ HRR3.out) rfl rfl rfl (dec_none_a _ _ (Nat.le_refl _) (.inl ⟨HBADE.out, rfl⟩) (DSH.out.bel.trans (HB23.out.mono DSH.out.bel.size)))
                  · have hck' : n' < c' := by omega
                    have hck2 : (n' : Int) < (c' : Int) := by omega
                    go_wp2_with (first
                      | (go_at_call 30; refine (filled_any HP.out (by omega) (by omega)).mono ?_; rintro e2 w2 ⟨A2, rfl, hr2, hb2⟩)
                      | (go_at_call 29; refine (entry_any hr2).mono ?_; rintro e3 w3 ⟨rfl, hb3⟩; rw [HOKD.out, HE.out]; simp only [entV]; have hb23 : Below wr.heap.size wr w3 := hb2.trans (hb3.mono hb2.size); have k63 := (hb23.block _ (size_of_block DSH.out.k6)).trans DSH.out.k6; have rr3 := (hb23.block _ (size_of_block DSH.out.rr)).trans DSH.out.rr; obtain ⟨ya0, ya1, yaf0, yaf1⟩ := row2 k63; obtain ⟨va0, va1, vaf0, vaf1⟩ := row2 rr3; have hs3 := size_of_block k63; have hs3R := size_of_block rr3; have HB23 := Lib.hid hb23; have HK63 := Lib.hid k63; have HRR3 := Lib.hid rr3; clear hb2 hb3 hr2 hb23 k63 rr3)
                      | fail)
                    exact dec_end (set2_block_a _ _ _ HRR3.out) rfl rfl rfl (dec_none_a _ _ (Nat.le_refl _) (.inl ⟨HBADE.out, rfl⟩) (DSH.out.bel.trans (HB23.out.mono DSH.out.bel.size)))
                · have h20' : ¬ (n' : Int) < 20 := by omega
                  have h20'' : (20 : Int) ≤ (n' : Int) := by omega
                  have hmin : min (20 : Int) (n' : Int) = 20 := by omega
                  have HP := Lib.hid (HRP.out 20 (by omega) rfl)
                  by_cases hck : 20 = c'
                  · subst hck
                    go_wp2_with (first
                      | (go_at_call 30; refine (filled_any HP.out (by omega) (by omega)).mono ?_; rintro e2 w2 ⟨A2, rfl, hr2, hb2⟩)
                      | (go_at_call 29; refine (entry_any hr2).mono ?_; rintro e3 w3 ⟨rfl, hb3⟩; rw [HOKD.out, HE.out]; simp only [entV]; have hb23 : Below wr.heap.size wr w3 := hb2.trans (hb3.mono hb2.size); have k63 := (hb23.block _ (size_of_block DSH.out.k6)).trans DSH.out.k6; have rr3 := (hb23.block _ (size_of_block DSH.out.rr)).trans DSH.out.rr; obtain ⟨ya0, ya1, yaf0, yaf1⟩ := row2 k63; obtain ⟨va0, va1, vaf0, vaf1⟩ := row2 rr3; have hs3 := size_of_block k63; have hs3R := size_of_block rr3; have HB23 := Lib.hid hb23; have HK63 := Lib.hid k63; have HRR3 := Lib.hid rr3; clear hb2 hb3 hr2 hb23 k63 rr3)
                      | fail)
                    exact dec_end (set2_block_a _ _ _ HRR3.out) rfl rfl rfl (dec_none_a _ _ (Nat.le_refl _) (.inl ⟨HBADE.out, rfl⟩) (DSH.out.bel.trans (HB23.out.mono DSH.out.bel.size)))
                  · have hck' : 20 < c' := by omega
                    have hck2 : (20 : Int) < (c' : Int) := by omega
                    go_wp2_with (first
                      | (go_at_call 30; refine (filled_any HP.out (by omega) (by omega)).mono ?_; rintro e2 w2 ⟨A2, rfl, hr2, hb2⟩)
                      | (go_at_call 29; refine (entry_any hr2).mono ?_; rintro e3 w3 ⟨rfl, hb3⟩; rw [HOKD.out, HE.out]; simp only [entV]; have hb23 : Below wr.heap.size wr w3 := hb2.trans (hb3.mono hb2.size); have k63 := (hb23.block _ (size_of_block DSH.out.k6)).trans DSH.out.k6; have rr3 := (hb23.block _ (size_of_block DSH.out.rr)).trans DSH.out.rr; obtain ⟨ya0, ya1, yaf0, yaf1⟩ := row2 k63; obtain ⟨va0, va1, vaf0, vaf1⟩ := row2 rr3; have hs3 := size_of_block k63; have hs3R := size_of_block rr3; have HB23 := Lib.hid hb23; have HK63 := Lib.hid k63; have HRR3 := Lib.hid rr3; clear hb2 hb3 hr2 hb23 k63 rr3)
                      | fail)
                    exact dec_end (set2_block_a _ _ _ HRR3.out) rfl rfl rfl (dec_none_a _ _ (Nat.le_refl _) (.inl ⟨HBADE.out, rfl⟩) (DSH.out.bel.trans (HB23.out.mono DSH.out.bel.size)))
            · obtain ⟨r, rfl⟩ : ∃ r', r = r' + 1 := ⟨r - 1, by have : r ≠ 0 := fun h => hbad (.inl h); omega⟩
              have hok : entOk (filled (l'.take 20)) := Classical.byContradiction fun h => hbad (.inr h)
              have HOKD := Lib.hid (decide_eq_true hok)
              have HOKE := Lib.hid hok
              have h25 : ((es.length : Int) == 25) = false := by simp; omega
              clear hbad hok
              by_cases h20 : n' < 20
              · have h20' : (n' : Int) < 20 := by omega
                have hmin : min (20 : Int) (n' : Int) = (n' : Int) := by omega
                have HP := Lib.hid (HRP.out n' (Nat.le_refl _) (by rw [List.take_of_length_le (by have := HN'.out; omega), List.take_of_length_le (by have := HN'.out; omega)]))
                by_cases hck : n' = c'
                · subst hck
                  go_wp2_with (first
                    | (go_at_call 30; refine (filled_any HP.out (by omega) (by omega)).mono ?_; rintro e2 w2 ⟨A2, rfl, hr2, hb2⟩)
                    | (go_at_call 29; refine (entry_any hr2).mono ?_; rintro e3 w3 ⟨rfl, hb3⟩; rw [HOKD.out, HE.out]; simp only [entV]; have hb23 : Below wr.heap.size wr w3 := hb2.trans (hb3.mono hb2.size); have k63 := (hb23.block _ (size_of_block DSH.out.k6)).trans DSH.out.k6; have rr3 := (hb23.block _ (size_of_block DSH.out.rr)).trans DSH.out.rr; obtain ⟨ya0, ya1, yaf0, yaf1⟩ := row2 k63; obtain ⟨va0, va1, vaf0, vaf1⟩ := row2 rr3; have hs3 := size_of_block k63; have hs3R := size_of_block rr3; have HB23 := Lib.hid hb23; have HK63 := Lib.hid k63; have HRR3 := Lib.hid rr3; clear hb2 hb3 hr2 hb23 k63 rr3)
                    | (refine wpList_append_entry rfl (.tmp 89) (.tmp 91) rfl (w1.heap.size + 1) _ es rfl (((DSH.out.own.below HB23.out).alloc _).alloc _) (w3.heap.size + 1) ((ea, el), et, eh, em) 58 rfl (by rw [← World.size_alloc w3]; exact heap_alloc_new _ _) HWF.out (by omega) (by have := HB23.out.size; simp; omega) ?_; intro v4 w4 hown4 hg4; obtain ⟨A4, cc4, rfl⟩ := own_form hown4.1; have hk4 := grow_block hg4 DSH.out HB23.out; obtain ⟨yb0, yb1, ybf0, ybf1⟩ := row2 hk4; have HOWN4 := Lib.hid hown4; have HG4 := Lib.hid hg4; clear hown4 hg4 hk4)
                    | fail)
                  have hlen1 : (es ++ [((ea, el), et, eh, em)]).length = es.length + 1 := by simp
                  have hown4 := HOWN4.out
                  have hg4 : Grow ((w3.alloc _).alloc _) (.slice Ae es.length ce) w4 (.slice A4 (es ++ [((ea, el), et, eh, em)]).length cc4) := HG4.out
                  rw [hlen1] at hown4 hg4
                  have hd : decide (l'.length < 20) = true := by have := HN'.out; simp; omega
                  have hnx := DS.next DSH.out HL0.out HOKE.out HE.out (rest_end DSH.out.rd (List.drop_of_length_le (by have := HN'.out; omega))) HB23.out hown4 hg4
                  rw [hd] at hnx
                  exact ⟨⟨_, _, _, _, _, _, _, _, rfl, rfl, hnx⟩, by simp only [lenOfSl]; omega⟩
                · have hck' : n' < c' := by omega
                  have hck2 : (n' : Int) < (c' : Int) := by omega
                  go_wp2_with (first
                    | (go_at_call 30; refine (filled_any HP.out (by omega) (by omega)).mono ?_; rintro e2 w2 ⟨A2, rfl, hr2, hb2⟩)
                    | (go_at_call 29; refine (entry_any hr2).mono ?_; rintro e3 w3 ⟨rfl, hb3⟩; rw [HOKD.out, HE.out]; simp only [entV]; have hb23 : Below wr.heap.size wr w3 := hb2.trans (hb3.mono hb2.size); have k63 := (hb23.block _ (size_of_block DSH.out.k6)).trans DSH.out.k6; have rr3 := (hb23.block _ (size_of_block DSH.out.rr)).trans DSH.out.rr; obtain ⟨ya0, ya1, yaf0, yaf1⟩ := row2 k63; obtain ⟨va0, va1, vaf0, vaf1⟩ := row2 rr3; have hs3 := size_of_block k63; have hs3R := size_of_block rr3; have HB23 := Lib.hid hb23; have HK63 := Lib.hid k63; have HRR3 := Lib.hid rr3; clear hb2 hb3 hr2 hb23 k63 rr3)
                    | (refine wpList_append_entry rfl (.tmp 89) (.tmp 91) rfl (w1.heap.size + 1) _ es rfl (((DSH.out.own.below HB23.out).alloc _).alloc _) (w3.heap.size + 1) ((ea, el), et, eh, em) 58 rfl (by rw [← World.size_alloc w3]; exact heap_alloc_new _ _) HWF.out (by omega) (by have := HB23.out.size; simp; omega) ?_; intro v4 w4 hown4 hg4; obtain ⟨A4, cc4, rfl⟩ := own_form hown4.1; have hk4 := grow_block hg4 DSH.out HB23.out; obtain ⟨yb0, yb1, ybf0, ybf1⟩ := row2 hk4; have HOWN4 := Lib.hid hown4; have HG4 := Lib.hid hg4; clear hown4 hg4 hk4)
                    | fail)
                  have hlen1 : (es ++ [((ea, el), et, eh, em)]).length = es.length + 1 := by simp
                  have hown4 := HOWN4.out
                  have hg4 : Grow ((w3.alloc _).alloc _) (.slice Ae es.length ce) w4 (.slice A4 (es ++ [((ea, el), et, eh, em)]).length cc4) := HG4.out
                  rw [hlen1] at hown4 hg4
                  have hd : decide (l'.length < 20) = true := by have := HN'.out; simp; omega
                  have hnx := DS.next DSH.out HL0.out HOKE.out HE.out (by have h := rest_read DSH.out.rd n' (Nat.le_refl _) (by rw [List.drop_of_length_le (by have := HN'.out; omega), List.drop_of_length_le (by have := HN'.out; omega)]); rwa [Nat.sub_self] at h) HB23.out hown4 hg4
                  rw [hd] at hnx
                  exact ⟨⟨_, _, _, _, _, _, _, _, rfl, rfl, hnx⟩, by simp only [lenOfSl]; omega⟩
              · have h20' : ¬ (n' : Int) < 20 := by omega
                have h20'' : (20 : Int) ≤ (n' : Int) := by omega
                have hmin : min (20 : Int) (n' : Int) = 20 := by omega
                have HP := Lib.hid (HRP.out 20 (by omega) rfl)
                by_cases hck : 20 = c'
                · subst hck
                  go_wp2_with (first
                    | (go_at_call 30; refine (filled_any HP.out (by omega) (by omega)).mono ?_; rintro e2 w2 ⟨A2, rfl, hr2, hb2⟩)
                    | (go_at_call 29; refine (entry_any hr2).mono ?_; rintro e3 w3 ⟨rfl, hb3⟩; rw [HOKD.out, HE.out]; simp only [entV]; have hb23 : Below wr.heap.size wr w3 := hb2.trans (hb3.mono hb2.size); have k63 := (hb23.block _ (size_of_block DSH.out.k6)).trans DSH.out.k6; have rr3 := (hb23.block _ (size_of_block DSH.out.rr)).trans DSH.out.rr; obtain ⟨ya0, ya1, yaf0, yaf1⟩ := row2 k63; obtain ⟨va0, va1, vaf0, vaf1⟩ := row2 rr3; have hs3 := size_of_block k63; have hs3R := size_of_block rr3; have HB23 := Lib.hid hb23; have HK63 := Lib.hid k63; have HRR3 := Lib.hid rr3; clear hb2 hb3 hr2 hb23 k63 rr3)
                    | (refine wpList_append_entry rfl (.tmp 89) (.tmp 91) rfl (w1.heap.size + 1) _ es rfl (((DSH.out.own.below HB23.out).alloc _).alloc _) (w3.heap.size + 1) ((ea, el), et, eh, em) 58 rfl (by rw [← World.size_alloc w3]; exact heap_alloc_new _ _) HWF.out (by omega) (by have := HB23.out.size; simp; omega) ?_; intro v4 w4 hown4 hg4; obtain ⟨A4, cc4, rfl⟩ := own_form hown4.1; have hk4 := grow_block hg4 DSH.out HB23.out; obtain ⟨yb0, yb1, ybf0, ybf1⟩ := row2 hk4; have HOWN4 := Lib.hid hown4; have HG4 := Lib.hid hg4; clear hown4 hg4 hk4)
                    | fail)
                  have hlen1 : (es ++ [((ea, el), et, eh, em)]).length = es.length + 1 := by simp
                  have hown4 := HOWN4.out
                  have hg4 : Grow ((w3.alloc _).alloc _) (.slice Ae es.length ce) w4 (.slice A4 (es ++ [((ea, el), et, eh, em)]).length cc4) := HG4.out
                  rw [hlen1] at hown4 hg4
                  have hd : decide (l'.length < 20) = false := by have := HN'.out; simp; omega
                  have hnx := DS.next DSH.out HL0.out HOKE.out HE.out (rest_end DSH.out.rd (List.drop_of_length_le (by have := HN'.out; omega))) HB23.out hown4 hg4
                  rw [hd] at hnx
                  exact ⟨⟨_, _, _, _, _, _, _, _, rfl, rfl, hnx⟩, by simp only [lenOfSl]; omega⟩
                · have hck' : 20 < c' := by omega
                  have hck2 : (20 : Int) < (c' : Int) := by omega
                  go_wp2_with (first
                    | (go_at_call 30; refine (filled_any HP.out (by omega) (by omega)).mono ?_; rintro e2 w2 ⟨A2, rfl, hr2, hb2⟩)
                    | (go_at_call 29; refine (entry_any hr2).mono ?_; rintro e3 w3 ⟨rfl, hb3⟩; rw [HOKD.out, HE.out]; simp only [entV]; have hb23 : Below wr.heap.size wr w3 := hb2.trans (hb3.mono hb2.size); have k63 := (hb23.block _ (size_of_block DSH.out.k6)).trans DSH.out.k6; have rr3 := (hb23.block _ (size_of_block DSH.out.rr)).trans DSH.out.rr; obtain ⟨ya0, ya1, yaf0, yaf1⟩ := row2 k63; obtain ⟨va0, va1, vaf0, vaf1⟩ := row2 rr3; have hs3 := size_of_block k63; have hs3R := size_of_block rr3; have HB23 := Lib.hid hb23; have HK63 := Lib.hid k63; have HRR3 := Lib.hid rr3; clear hb2 hb3 hr2 hb23 k63 rr3)
                    | (refine wpList_append_entry rfl (.tmp 89) (.tmp 91) rfl (w1.heap.size + 1) _ es rfl (((DSH.out.own.below HB23.out).alloc _).alloc _) (w3.heap.size + 1) ((ea, el), et, eh, em) 58 rfl (by rw [← World.size_alloc w3]; exact heap_alloc_new _ _) HWF.out (by omega) (by have := HB23.out.size; simp; omega) ?_; intro v4 w4 hown4 hg4; obtain ⟨A4, cc4, rfl⟩ := own_form hown4.1; have hk4 := grow_block hg4 DSH.out HB23.out; obtain ⟨yb0, yb1, ybf0, ybf1⟩ := row2 hk4; have HOWN4 := Lib.hid hown4; have HG4 := Lib.hid hg4; clear hown4 hg4 hk4)
                    | fail)
                  have hlen1 : (es ++ [((ea, el), et, eh, em)]).length = es.length + 1 := by simp
                  have hown4 := HOWN4.out
                  have hg4 : Grow ((w3.alloc _).alloc _) (.slice Ae es.length ce) w4 (.slice A4 (es ++ [((ea, el), et, eh, em)]).length cc4) := HG4.out
                  rw [hlen1] at hown4 hg4
                  have hd : decide (l'.length < 20) = false := by have := HN'.out; simp; omega
                  have hnx := DS.next DSH.out HL0.out HOKE.out HE.out (rest_read DSH.out.rd 20 (by omega) rfl) HB23.out hown4 hg4
                  rw [hd] at hnx
                  exact ⟨⟨_, _, _, _, _, _, _, _, rfl, rfl, hnx⟩, by simp only [lenOfSl]; omega⟩
          · have hn0 : n' = 0 := by omega
            subst hn0
            have hl0 : l' = [] := List.eq_nil_of_length_eq_zero (by have := HN'.out; omega)
            subst hl0
            cases sb
            · go_wp2
              exact dec_end (set2_block _ _ DSH.out.rr) rfl rfl rfl (dec_ok DSH.out HH.out HL4.out HQQ.out)
            · go_wp2
              exact dec_end (set2_block _ _ DSH.out.rr) rfl rfl rfl (dec_none _ (Nat.le_refl _) (.inr ⟨dec_shortE DSH.out HH.out HL4.out, rfl⟩) DSH.out.bel)
  case inl.inl.inl.inr | inl.inl.inr | inl.inr =>
    rcases ta with ta | ⟨ta, ta'⟩
    all_goals
      go_wp2
      exact dec_end (set2_block _ _ BR.out) rfl rfl rfl (dec_none _ (Nat.le_refl _) (.inl ⟨HBAD.out HX.out, rfl⟩) hB1.out)
  case inr =>
    go_wp2
    exact dec_end (set2_block _ _ BR.out) rfl rfl rfl (dec_none _ (Nat.le_refl _) (.inl ⟨HBAD.out HX.out, rfl⟩) hB1.out)
end Go.Proofs.YtimdnfakgobadaaDoor
