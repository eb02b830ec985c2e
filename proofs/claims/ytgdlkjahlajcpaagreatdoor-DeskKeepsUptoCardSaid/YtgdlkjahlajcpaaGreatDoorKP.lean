/- What the desk's forms do: drop, get. -/
import Derived.Test.YtgdlkjahlajcpaaGreatDoorKO
import Derived.Deep.RegionHeld3
import Derived.BigQuiet
namespace Go.Proofs.YtgdlkjahlajcpaaGreatDoor
open Go.ChangeShapes Go.WideShapes Go.ChangeAt Go.RowKit
set_option linter.unusedVariables false
set_option linter.unusedSimpArgs false

def DoPost (W : World) (T : Nat) (S : Nat → Prop) (w : World) (r : Ans × Tab) (e : Ending) (w' : World) : Prop := e = endA r.1 ∧ Tk W T r.2 S w' ∧ KeptS S w w'
theorem DoPost.of_below {W w w' : World} {T : Nat} {m : Tab} {S : Nat → Prop} {a : Ans} {e : Ending} (h : Tk W T m S w) (he : e = endA a) (hb : Below w.heap.size w w') : DoPost W T S w (a, m) e w' := by
  refine ⟨he, h.below hb, fun g hg => ?_⟩
  obtain ⟨N, hT, hS⟩ := h.ex
  exact hb.block g (hS g hg).1
theorem Tk.lt {W w : World} {T : Nat} {m : Tab} {S : Nat → Prop} (h : Tk W T m S w) {g : Nat} (hg : S g) : g < w.heap.size := by
  obtain ⟨N, hT, hS⟩ := h.ex
  exact (hS g hg).1
theorem KeptS.cell {S : Nat → Prop} {w w' : World} (h : KeptS S w w') {g o : Nat} (hg : S g) : w'.cell? ⟨g, o, none⟩ = w.cell? ⟨g, o, none⟩ := World.cell?_of_block (h g hg)
theorem errV_z : errV 0 = .nilIface := by unfold errV; rw [if_pos rfl]
theorem errV_pan {k : Int} (h : k ≠ 0) : errV k = .iface 35 (.int .i64 k) := by unfold errV; rw [if_neg h]
theorem lt_of_cellG {w : World} {g o : Nat} {v : Value} (h : w.cell? ⟨g, o, none⟩ = some v) : g < w.heap.size := block_of_cell h
section
variable {W w : World} {T g c : Nat} {m : Tab} {S : Nat → Prop} {s : ByteArray}
set_option maxRecDepth 100000 in
set_option maxHeartbeats 4000000 in
theorem Drop_do (h : Tk W T m S w) (hw : HStr W) (hg : S g) (hc : w.cell? ⟨g, 0, none⟩ = some (.string s)) (hs : s.size ≤ 2097152) :
    Calls Tryz.prog 48 #[deskV T, .slice (some ⟨g, 0, none⟩) 1 c] w (DoPost W T S w (dropX m (netO s.data.toList))) := by
  have hb0 := (Below.refl w.heap.size w).alloc (Nat.le_refl _) (.cells #[.pointer (some ⟨T, 0, none⟩)] 40)
  have hT1 := h.more hb0
  have hgl := h.lt hg
  have hng : ¬ w.heap.size = g := by omega
  have HT := Lib.hid h
  have HT1 := Lib.hid hT1
  have HG := Lib.hid hg
  have HB0 := Lib.hid hb0
  have HW : Hid (∀ w' : World, Below W.heap.size W w' → HStr w') := Lib.hid fun w' hb => hw.below hb (Nat.le_refl _)
  have HBW := Lib.hid h.bel
  clear h hT1 hg hb0 hw
  have c0 : (w.alloc (.cells #[.pointer (some ⟨T, 0, none⟩)] 40)).cell? ⟨w.heap.size, 0, none⟩ = some (.pointer (some ⟨T, 0, none⟩)) := row1p (heap_alloc_new _ _)
  have c1 : (w.alloc (.cells #[.pointer (some ⟨T, 0, none⟩)] 40)).cell? ⟨g, 0, none⟩ = some (.string s) := (HB0.out.cell (p := ⟨g, 0, none⟩) hgl).trans hc
  have HBD : Hid (Below w.heap.size w (w.alloc (.cells #[.pointer (some ⟨T, 0, none⟩)] 40)).drew) := Lib.hid (below_drewN HB0.out 1)
  rcases netO_cases s.data.toList with ⟨a, k, ha, hk, hn, hsn, e⟩ | ⟨hno, e⟩
  · rw [e]
    have HN := Lib.hid hn
    have HSN := Lib.hid hsn
    have HI : Hid (is32 (a : Int)) := Lib.hid ⟨by omega, by omega⟩
    rcases getE_net (m := m) hn with ⟨hE, _⟩ | ⟨hE, _⟩
    · have hX : dropX m (some ((a : Int), (k : Int))) = (.ok okT, dropT m ((a : Int), (k : Int))) := by unfold dropX; simp only; rw [if_pos hE]
      rw [hX]
      have HE := Lib.hid hE
      clear hE hn hsn hX e
      go_enter Tryz.func48, Tryz.ntmps48
      go_wp2
      refine wp_region_held_drew (S := (fun w' => w'.cell? ⟨w.heap.size, 0, none⟩ = some (.pointer (some ⟨T, 0, none⟩)) ∧ w'.cell? ⟨g, 0, none⟩ = some (.string s))) (by kernel_rfl) (by go_keep) (fun hHeld => ?_)
      refine' wpAnyH_take (i := 0) ?hia0 ?hsa0 ?hfa0 ?hra0 ?hQa0 ?hya0 ?hSa0 ?ha0
      case hia0 => (simp only [List.getElem?_toArray, List.getElem?_cons_succ, List.getElem?_cons_zero]; exact rfl)
      case hsa0 => kernel_rfl
      case hfa0 => kernel_rfl
      case hra0 => kernel_rfl
      case hQa0 => exact fun _ _ _ h => h
      case hya0 => (first | (refine Or.inr ⟨by rfl, ?_⟩; rfl) | (refine Or.inl ⟨by rfl, ?_⟩; (intro w hSw; (try dsimp only at hSw); go_simp); try with_reducible rfl))
      case hSa0 => assumption
      try simp only [Act.put, List.setIfInBounds_toArray, List.set_cons_zero, List.set_cons_succ]
      refine' wpAnyH_take (i := 1) ?hia1 ?hsa1 ?hfa1 ?hra1 ?hQa1 ?hya1 ?hSa1 ?ha1
      case hia1 => (simp only [List.getElem?_toArray, List.getElem?_cons_succ, List.getElem?_cons_zero]; exact rfl)
      case hsa1 => kernel_rfl
      case hfa1 => kernel_rfl
      case hra1 => kernel_rfl
      case hQa1 => exact fun _ _ _ h => h
      case hya1 => (first | (refine Or.inr ⟨by rfl, ?_⟩; rfl) | (refine Or.inl ⟨by rfl, ?_⟩; (intro w hSw; (try dsimp only at hSw); go_simp); try with_reducible rfl))
      case hSa1 => assumption
      try simp only [Act.put, List.setIfInBounds_toArray, List.set_cons_zero, List.set_cons_succ]
      refine' wpAnyH_take (i := 2) ?hia2 ?hsa2 ?hfa2 ?hra2 ?hQa2 ?hya2 ?hSa2 ?ha2
      case hia2 => (simp only [List.getElem?_toArray, List.getElem?_cons_succ, List.getElem?_cons_zero]; exact rfl)
      case hsa2 => kernel_rfl
      case hfa2 => kernel_rfl
      case hra2 => kernel_rfl
      case hQa2 => exact fun _ _ _ h => h
      case hya2 => (first | (refine Or.inr ⟨by rfl, ?_⟩; rfl) | (refine Or.inl ⟨by rfl, ?_⟩; (intro w hSw; (try dsimp only at hSw); go_simp); try with_reducible rfl))
      case hSa2 => assumption
      try simp only [Act.put, List.setIfInBounds_toArray, List.set_cons_zero, List.set_cons_succ]
      refine' wpAnyH_take (i := 3) ?hia3 ?hsa3 ?hfa3 ?hra3 ?hQa3 ?hya3 ?hSa3 ?ha3
      case hia3 => (simp only [List.getElem?_toArray, List.getElem?_cons_succ, List.getElem?_cons_zero]; exact rfl)
      case hsa3 => kernel_rfl
      case hfa3 => kernel_rfl
      case hra3 => kernel_rfl
      case hQa3 => exact fun _ _ _ h => h
      case hya3 => (first | (refine Or.inr ⟨by rfl, ?_⟩; rfl) | (refine Or.inl ⟨by rfl, ?_⟩; (intro w hSw; (try dsimp only at hSw); go_simp); try with_reducible rfl))
      case hSa3 => assumption
      try simp only [Act.put, List.setIfInBounds_toArray, List.set_cons_zero, List.set_cons_succ]
      refine' wpAnyH_take (i := 4) ?hia4 ?hsa4 ?hfa4 ?hra4 ?hQa4 ?hya4 ?hSa4 ?ha4
      case hia4 => (simp only [List.getElem?_toArray, List.getElem?_cons_succ, List.getElem?_cons_zero]; exact rfl)
      case hsa4 => kernel_rfl
      case hfa4 => kernel_rfl
      case hra4 => kernel_rfl
      case hQa4 => exact fun _ _ _ h => h
      case hya4 => (first | (refine Or.inr ⟨by rfl, ?_⟩; rfl) | (refine Or.inl ⟨by rfl, ?_⟩; (intro w hSw; (try dsimp only at hSw); go_simp); try with_reducible rfl))
      case hSa4 => assumption
      try simp only [Act.put, List.setIfInBounds_toArray, List.set_cons_zero, List.set_cons_succ]
      refine wpAnyH_ready (rs := [5]) (by kernel_rfl) (by simp) ?_
      refine' AllReadyH.cons ?hia5 (fun K hK => ?ha5) AllReadyH.nil
      case hia5 => (simp only [List.getElem?_toArray, List.getElem?_cons_succ, List.getElem?_cons_zero]; exact rfl)
      go_simp
      go_at_call 44
      (with_reducible refine (WNet_ok a k s _ (HW.out _ ?hbw) ha HN.out HSN.out).mono ?_)
      case hbw => exact HBW.out.trans (HBD.out.mono HBW.out.size)
      rintro e w1 ⟨rfl, hb1⟩
      have d0 := (hb1.cell (p := ⟨w.heap.size, 0, none⟩) (by simp)).trans c0
      have d1 := (hb1.cell (p := ⟨g, 0, none⟩) (by simp; omega)).trans c1
      have HD1 := Lib.hid d1
      have HD0 := Lib.hid d0
      have HT2 := Lib.hid ((HT1.out.below (below_drewN (Below.refl _ _) 1)).below hb1)
      have HB1 := Lib.hid (HBD.out.trans (hb1.mono HBD.out.size))
      clear hb1
      refine hK.out _ _ (by go_keep) (fun hHeld => ?_)
      clear hK K
      refine wpAnyH_ready (rs := [6]) (by kernel_rfl) (by simp) ?_
      refine' AllReadyH.cons ?hia6 (fun K hK => ?ha6) AllReadyH.nil
      case hia6 => (simp only [List.getElem?_toArray, List.getElem?_cons_succ, List.getElem?_cons_zero]; exact rfl)
      go_simp
      go_at_call 49
      (with_reducible refine (Drop_t HT2.out HI.out).mono ?_)
      rintro e w2 ⟨rfl, hT3, hK3, _⟩
      have f0 := (hK3.cell (o := 0) (.inr ⟨Nat.le_refl _, by simp⟩)).trans HD0.out
      have f1 := (hK3.cell (o := 0) (.inl HG.out)).trans HD1.out
      have HT3 := Lib.hid hT3
      have HK3 := Lib.hid hK3
      rw [HE.out, errV_z]
      clear hT3 hK3
      refine hK.out _ _ (by go_keep) (fun hHeld => ?_)
      clear hK K
      refine wpAnyH_ready (rs := [7]) (by kernel_rfl) (by simp) ?_
      refine' AllReadyH.cons ?hia7 (fun K hK => ?ha7) AllReadyH.nil
      case hia7 => (simp only [List.getElem?_toArray, List.getElem?_cons_succ, List.getElem?_cons_zero]; exact rfl)
      go_simp
      go_at_call 46
      (with_reducible refine (Done_ok _).mono ?_)
      rintro e w3 ⟨rfl, rfl⟩
      refine hK.out _ _ (by go_keep) (fun hHeld => ?_)
      clear hK K
      refine' wpAnyH_take (i := 8) ?hia8 ?hsa8 ?hfa8 ?hra8 ?hQa8 ?hya8 ?hSa8 ?ha8
      case hia8 => (simp only [List.getElem?_toArray, List.getElem?_cons_succ, List.getElem?_cons_zero]; exact rfl)
      case hsa8 => kernel_rfl
      case hfa8 => kernel_rfl
      case hra8 => kernel_rfl
      case hQa8 => exact fun _ _ _ h => h
      case hya8 => (first | (refine Or.inr ⟨by rfl, ?_⟩; rfl) | (refine Or.inl ⟨by rfl, ?_⟩; (intro w hSw; (try dsimp only at hSw); go_simp); try with_reducible rfl))
      case hSa8 => assumption
      try simp only [Act.put, List.setIfInBounds_toArray, List.set_cons_zero, List.set_cons_succ]
      refine wpAnyH_done (by kernel_rfl) ?_ _
      go_wp2
      go_ret
      refine ⟨rfl, HT3.out.fewer (fun g hg => .inl hg), fun g hg => ?_⟩
      exact (HK3.out g (.inl hg)).trans (HB1.out.block g (HT.out.lt hg))
    · have hX : dropX m (some ((a : Int), (k : Int))) = (.error 2, m) := by unfold dropX; simp only; rw [if_neg (by rw [hE]; decide), hE]
      have hD : dropT m ((a : Int), (k : Int)) = m := by unfold dropT; rw [if_neg (by rw [hE]; decide)]
      rw [hX]
      have HE := Lib.hid hE
      have HDm := Lib.hid hD
      clear hE hn hsn hX hD e
      go_enter Tryz.func48, Tryz.ntmps48
      go_wp2
      refine wp_region_held_drew (S := (fun w' => w'.cell? ⟨w.heap.size, 0, none⟩ = some (.pointer (some ⟨T, 0, none⟩)) ∧ w'.cell? ⟨g, 0, none⟩ = some (.string s))) (by kernel_rfl) (by go_keep) (fun hHeld => ?_)
      refine' wpAnyH_take (i := 0) ?hib0 ?hsb0 ?hfb0 ?hrb0 ?hQb0 ?hyb0 ?hSb0 ?hb0
      case hib0 => (simp only [List.getElem?_toArray, List.getElem?_cons_succ, List.getElem?_cons_zero]; exact rfl)
      case hsb0 => kernel_rfl
      case hfb0 => kernel_rfl
      case hrb0 => kernel_rfl
      case hQb0 => exact fun _ _ _ h => h
      case hyb0 => (first | (refine Or.inr ⟨by rfl, ?_⟩; rfl) | (refine Or.inl ⟨by rfl, ?_⟩; (intro w hSw; (try dsimp only at hSw); go_simp); try with_reducible rfl))
      case hSb0 => assumption
      try simp only [Act.put, List.setIfInBounds_toArray, List.set_cons_zero, List.set_cons_succ]
      refine' wpAnyH_take (i := 1) ?hib1 ?hsb1 ?hfb1 ?hrb1 ?hQb1 ?hyb1 ?hSb1 ?hb1
      case hib1 => (simp only [List.getElem?_toArray, List.getElem?_cons_succ, List.getElem?_cons_zero]; exact rfl)
      case hsb1 => kernel_rfl
      case hfb1 => kernel_rfl
      case hrb1 => kernel_rfl
      case hQb1 => exact fun _ _ _ h => h
      case hyb1 => (first | (refine Or.inr ⟨by rfl, ?_⟩; rfl) | (refine Or.inl ⟨by rfl, ?_⟩; (intro w hSw; (try dsimp only at hSw); go_simp); try with_reducible rfl))
      case hSb1 => assumption
      try simp only [Act.put, List.setIfInBounds_toArray, List.set_cons_zero, List.set_cons_succ]
      refine' wpAnyH_take (i := 2) ?hib2 ?hsb2 ?hfb2 ?hrb2 ?hQb2 ?hyb2 ?hSb2 ?hb2
      case hib2 => (simp only [List.getElem?_toArray, List.getElem?_cons_succ, List.getElem?_cons_zero]; exact rfl)
      case hsb2 => kernel_rfl
      case hfb2 => kernel_rfl
      case hrb2 => kernel_rfl
      case hQb2 => exact fun _ _ _ h => h
      case hyb2 => (first | (refine Or.inr ⟨by rfl, ?_⟩; rfl) | (refine Or.inl ⟨by rfl, ?_⟩; (intro w hSw; (try dsimp only at hSw); go_simp); try with_reducible rfl))
      case hSb2 => assumption
      try simp only [Act.put, List.setIfInBounds_toArray, List.set_cons_zero, List.set_cons_succ]
      refine' wpAnyH_take (i := 3) ?hib3 ?hsb3 ?hfb3 ?hrb3 ?hQb3 ?hyb3 ?hSb3 ?hb3
      case hib3 => (simp only [List.getElem?_toArray, List.getElem?_cons_succ, List.getElem?_cons_zero]; exact rfl)
      case hsb3 => kernel_rfl
      case hfb3 => kernel_rfl
      case hrb3 => kernel_rfl
      case hQb3 => exact fun _ _ _ h => h
      case hyb3 => (first | (refine Or.inr ⟨by rfl, ?_⟩; rfl) | (refine Or.inl ⟨by rfl, ?_⟩; (intro w hSw; (try dsimp only at hSw); go_simp); try with_reducible rfl))
      case hSb3 => assumption
      try simp only [Act.put, List.setIfInBounds_toArray, List.set_cons_zero, List.set_cons_succ]
      refine' wpAnyH_take (i := 4) ?hib4 ?hsb4 ?hfb4 ?hrb4 ?hQb4 ?hyb4 ?hSb4 ?hb4
      case hib4 => (simp only [List.getElem?_toArray, List.getElem?_cons_succ, List.getElem?_cons_zero]; exact rfl)
      case hsb4 => kernel_rfl
      case hfb4 => kernel_rfl
      case hrb4 => kernel_rfl
      case hQb4 => exact fun _ _ _ h => h
      case hyb4 => (first | (refine Or.inr ⟨by rfl, ?_⟩; rfl) | (refine Or.inl ⟨by rfl, ?_⟩; (intro w hSw; (try dsimp only at hSw); go_simp); try with_reducible rfl))
      case hSb4 => assumption
      try simp only [Act.put, List.setIfInBounds_toArray, List.set_cons_zero, List.set_cons_succ]
      refine wpAnyH_ready (rs := [5]) (by kernel_rfl) (by simp) ?_
      refine' AllReadyH.cons ?hib5 (fun K hK => ?hb5) AllReadyH.nil
      case hib5 => (simp only [List.getElem?_toArray, List.getElem?_cons_succ, List.getElem?_cons_zero]; exact rfl)
      go_simp
      go_at_call 44
      (with_reducible refine (WNet_ok a k s _ (HW.out _ ?hbw2) ha HN.out HSN.out).mono ?_)
      case hbw2 => exact HBW.out.trans (HBD.out.mono HBW.out.size)
      rintro e w1 ⟨rfl, hb1⟩
      have d0 := (hb1.cell (p := ⟨w.heap.size, 0, none⟩) (by simp)).trans c0
      have d1 := (hb1.cell (p := ⟨g, 0, none⟩) (by simp; omega)).trans c1
      have HD1 := Lib.hid d1
      have HD0 := Lib.hid d0
      have HT2 := Lib.hid ((HT1.out.below (below_drewN (Below.refl _ _) 1)).below hb1)
      have HB1 := Lib.hid (HBD.out.trans (hb1.mono HBD.out.size))
      clear hb1
      refine hK.out _ _ (by go_keep) (fun hHeld => ?_)
      clear hK K
      refine wpAnyH_ready (rs := [6]) (by kernel_rfl) (by simp) ?_
      refine' AllReadyH.cons ?hib6 (fun K hK => ?hb6) AllReadyH.nil
      case hib6 => (simp only [List.getElem?_toArray, List.getElem?_cons_succ, List.getElem?_cons_zero]; exact rfl)
      go_simp
      go_at_call 49
      (with_reducible refine (Drop_t HT2.out HI.out).mono ?_)
      rintro e w2 ⟨rfl, hT3, hK3, _⟩
      have f0 := (hK3.cell (o := 0) (.inr ⟨Nat.le_refl _, by simp⟩)).trans HD0.out
      have f1 := (hK3.cell (o := 0) (.inl HG.out)).trans HD1.out
      have HT3 := Lib.hid hT3
      have HK3 := Lib.hid hK3
      rw [HE.out, errV_pan (by decide)]
      clear hT3 hK3
      refine hK.out _ _ (by go_keep) (fun hHeld => ?_)
      clear hK K
      refine wpAnyH_ready (rs := [7]) (by kernel_rfl) (by simp) ?_
      refine' AllReadyH.cons ?hib7 (fun K hK => ?hb7) AllReadyH.nil
      case hib7 => (simp only [List.getElem?_toArray, List.getElem?_cons_succ, List.getElem?_cons_zero]; exact rfl)
      go_simp
      go_at_call 46
      (with_reducible refine (Done_bad 2 _).mono ?_)
      rintro e w3 ⟨rfl, rfl⟩
      refine ⟨rfl, rfl, ?_, fun g hg => ?_⟩
      · have := HT3.out.fewer (S' := S) (fun g hg => .inl hg)
        rw [HDm.out] at this
        exact this
      · exact (HK3.out g (.inl hg)).trans (HB1.out.block g (HT.out.lt hg))
  · rw [e]
    have HNO := Lib.hid hno
    clear hno e
    go_enter Tryz.func48, Tryz.ntmps48
    go_wp2
    refine wp_region_held_drew (S := (fun w' => w'.cell? ⟨w.heap.size, 0, none⟩ = some (.pointer (some ⟨T, 0, none⟩)) ∧ w'.cell? ⟨g, 0, none⟩ = some (.string s))) (by kernel_rfl) (by go_keep) (fun hHeld => ?_)
    refine' wpAnyH_take (i := 0) ?hic0 ?hsc0 ?hfc0 ?hrc0 ?hQc0 ?hyc0 ?hSc0 ?hc0
    case hic0 => (simp only [List.getElem?_toArray, List.getElem?_cons_succ, List.getElem?_cons_zero]; exact rfl)
    case hsc0 => kernel_rfl
    case hfc0 => kernel_rfl
    case hrc0 => kernel_rfl
    case hQc0 => exact fun _ _ _ h => h
    case hyc0 => (first | (refine Or.inr ⟨by rfl, ?_⟩; rfl) | (refine Or.inl ⟨by rfl, ?_⟩; (intro w hSw; (try dsimp only at hSw); go_simp); try with_reducible rfl))
    case hSc0 => assumption
    try simp only [Act.put, List.setIfInBounds_toArray, List.set_cons_zero, List.set_cons_succ]
    refine' wpAnyH_take (i := 1) ?hic1 ?hsc1 ?hfc1 ?hrc1 ?hQc1 ?hyc1 ?hSc1 ?hc1
    case hic1 => (simp only [List.getElem?_toArray, List.getElem?_cons_succ, List.getElem?_cons_zero]; exact rfl)
    case hsc1 => kernel_rfl
    case hfc1 => kernel_rfl
    case hrc1 => kernel_rfl
    case hQc1 => exact fun _ _ _ h => h
    case hyc1 => (first | (refine Or.inr ⟨by rfl, ?_⟩; rfl) | (refine Or.inl ⟨by rfl, ?_⟩; (intro w hSw; (try dsimp only at hSw); go_simp); try with_reducible rfl))
    case hSc1 => assumption
    try simp only [Act.put, List.setIfInBounds_toArray, List.set_cons_zero, List.set_cons_succ]
    refine' wpAnyH_take (i := 2) ?hic2 ?hsc2 ?hfc2 ?hrc2 ?hQc2 ?hyc2 ?hSc2 ?hc2
    case hic2 => (simp only [List.getElem?_toArray, List.getElem?_cons_succ, List.getElem?_cons_zero]; exact rfl)
    case hsc2 => kernel_rfl
    case hfc2 => kernel_rfl
    case hrc2 => kernel_rfl
    case hQc2 => exact fun _ _ _ h => h
    case hyc2 => (first | (refine Or.inr ⟨by rfl, ?_⟩; rfl) | (refine Or.inl ⟨by rfl, ?_⟩; (intro w hSw; (try dsimp only at hSw); go_simp); try with_reducible rfl))
    case hSc2 => assumption
    try simp only [Act.put, List.setIfInBounds_toArray, List.set_cons_zero, List.set_cons_succ]
    refine' wpAnyH_take (i := 3) ?hic3 ?hsc3 ?hfc3 ?hrc3 ?hQc3 ?hyc3 ?hSc3 ?hc3
    case hic3 => (simp only [List.getElem?_toArray, List.getElem?_cons_succ, List.getElem?_cons_zero]; exact rfl)
    case hsc3 => kernel_rfl
    case hfc3 => kernel_rfl
    case hrc3 => kernel_rfl
    case hQc3 => exact fun _ _ _ h => h
    case hyc3 => (first | (refine Or.inr ⟨by rfl, ?_⟩; rfl) | (refine Or.inl ⟨by rfl, ?_⟩; (intro w hSw; (try dsimp only at hSw); go_simp); try with_reducible rfl))
    case hSc3 => assumption
    try simp only [Act.put, List.setIfInBounds_toArray, List.set_cons_zero, List.set_cons_succ]
    refine' wpAnyH_take (i := 4) ?hic4 ?hsc4 ?hfc4 ?hrc4 ?hQc4 ?hyc4 ?hSc4 ?hc4
    case hic4 => (simp only [List.getElem?_toArray, List.getElem?_cons_succ, List.getElem?_cons_zero]; exact rfl)
    case hsc4 => kernel_rfl
    case hfc4 => kernel_rfl
    case hrc4 => kernel_rfl
    case hQc4 => exact fun _ _ _ h => h
    case hyc4 => (first | (refine Or.inr ⟨by rfl, ?_⟩; rfl) | (refine Or.inl ⟨by rfl, ?_⟩; (intro w hSw; (try dsimp only at hSw); go_simp); try with_reducible rfl))
    case hSc4 => assumption
    try simp only [Act.put, List.setIfInBounds_toArray, List.set_cons_zero, List.set_cons_succ]
    refine wpAnyH_ready (rs := [5]) (by kernel_rfl) (by simp) ?_
    refine' AllReadyH.cons ?hic5 (fun K hK => ?hc5) AllReadyH.nil
    case hic5 => (simp only [List.getElem?_toArray, List.getElem?_cons_succ, List.getElem?_cons_zero]; exact rfl)
    go_simp
    go_at_call 44
    (with_reducible refine (WNet_bad s _ (HW.out _ ?hbw) hs HNO.out).mono ?_)
    case hbw => exact HBW.out.trans (HBD.out.mono HBW.out.size)
    rintro e w1 ⟨rfl, hb1⟩
    exact ⟨rfl, DoPost.of_below HT.out rfl (HBD.out.trans (hb1.mono HBD.out.size))⟩
set_option maxRecDepth 100000 in
set_option maxHeartbeats 4000000 in
theorem Get_do (h : Tk W T m S w) (hd : DOk m) (hw : HStr W) (hc : w.cell? ⟨g, 0, none⟩ = some (.string s)) (hs : s.size ≤ 2097152) :
    Calls Tryz.prog 50 #[deskV T, .slice (some ⟨g, 0, none⟩) 1 c] w fun e w' => e = endA (getX m (netO s.data.toList)) ∧ Below w.heap.size w w' := by
  have hb0 := (Below.refl w.heap.size w).alloc (Nat.le_refl _) (.cells #[.pointer (some ⟨T, 0, none⟩)] 40)
  have hT1 := h.below hb0
  have hgl := lt_of_cellG hc
  have hng : ¬ w.heap.size = g := by omega
  have HT := Lib.hid h
  have HT1 := Lib.hid hT1
  have HB0 := Lib.hid hb0
  have HDN := Lib.hid hd.num
  have HW : Hid (∀ w' : World, Below W.heap.size W w' → HStr w') := Lib.hid fun w' hb => hw.below hb (Nat.le_refl _)
  have HBW := Lib.hid h.bel
  clear h hT1 hb0 hw hd
  have c0 : (w.alloc (.cells #[.pointer (some ⟨T, 0, none⟩)] 40)).cell? ⟨w.heap.size, 0, none⟩ = some (.pointer (some ⟨T, 0, none⟩)) := row1p (heap_alloc_new _ _)
  have c1 : (w.alloc (.cells #[.pointer (some ⟨T, 0, none⟩)] 40)).cell? ⟨g, 0, none⟩ = some (.string s) := (HB0.out.cell (p := ⟨g, 0, none⟩) hgl).trans hc
  have HBD : Hid (Below w.heap.size w (w.alloc (.cells #[.pointer (some ⟨T, 0, none⟩)] 40)).drew) := Lib.hid (below_drewN HB0.out 1)
  rcases netO_cases s.data.toList with ⟨a, k, ha, hk, hn, hsn, e⟩ | ⟨hno, e⟩
  · rw [e]
    have HN := Lib.hid hn
    have HSN := Lib.hid hsn
    have HI : Hid (is32 (a : Int)) := Lib.hid ⟨by omega, by omega⟩
    rcases getE_net (m := m) hn with ⟨hE, v, hv⟩ | ⟨hE, _⟩
    · have hX : getX m (some ((a : Int), (k : Int))) = .ok (dd (getV m ((a : Int), (k : Int))).toNat) := by unfold getX; simp only; rw [if_pos hE]
      have hvv : getV m ((a : Int), (k : Int)) = v := by unfold getV; rw [if_pos hn, hv]; rfl
      have hvn := HDN.out _ (look_mem hv)
      obtain ⟨q, rfl⟩ := Int.eq_ofNat_of_zero_le hvn.1
      rw [hvv] at hX
      rw [hX]
      have hq : q ≤ 1073741824 := by have := hvn.2; simp only at this; omega
      have HE := Lib.hid hE
      have HV := Lib.hid hvv
      clear hE hn hsn hX e hv hvv hvn
      go_enter Tryz.func50, Tryz.ntmps50
      go_wp2
      refine wp_region_held_drew (S := (fun w' => w'.cell? ⟨w.heap.size, 0, none⟩ = some (.pointer (some ⟨T, 0, none⟩)) ∧ w'.cell? ⟨g, 0, none⟩ = some (.string s))) (by kernel_rfl) (by go_keep) (fun hHeld => ?_)
      refine' wpAnyH_take (i := 0) ?hia0 ?hsa0 ?hfa0 ?hra0 ?hQa0 ?hya0 ?hSa0 ?ha0
      case hia0 => (simp only [List.getElem?_toArray, List.getElem?_cons_succ, List.getElem?_cons_zero]; exact rfl)
      case hsa0 => kernel_rfl
      case hfa0 => kernel_rfl
      case hra0 => kernel_rfl
      case hQa0 => exact fun _ _ _ h => h
      case hya0 => (first | (refine Or.inr ⟨by rfl, ?_⟩; rfl) | (refine Or.inl ⟨by rfl, ?_⟩; (intro w hSw; (try dsimp only at hSw); go_simp); try with_reducible rfl))
      case hSa0 => assumption
      try simp only [Act.put, List.setIfInBounds_toArray, List.set_cons_zero, List.set_cons_succ]
      refine' wpAnyH_take (i := 1) ?hia1 ?hsa1 ?hfa1 ?hra1 ?hQa1 ?hya1 ?hSa1 ?ha1
      case hia1 => (simp only [List.getElem?_toArray, List.getElem?_cons_succ, List.getElem?_cons_zero]; exact rfl)
      case hsa1 => kernel_rfl
      case hfa1 => kernel_rfl
      case hra1 => kernel_rfl
      case hQa1 => exact fun _ _ _ h => h
      case hya1 => (first | (refine Or.inr ⟨by rfl, ?_⟩; rfl) | (refine Or.inl ⟨by rfl, ?_⟩; (intro w hSw; (try dsimp only at hSw); go_simp); try with_reducible rfl))
      case hSa1 => assumption
      try simp only [Act.put, List.setIfInBounds_toArray, List.set_cons_zero, List.set_cons_succ]
      refine' wpAnyH_take (i := 2) ?hia2 ?hsa2 ?hfa2 ?hra2 ?hQa2 ?hya2 ?hSa2 ?ha2
      case hia2 => (simp only [List.getElem?_toArray, List.getElem?_cons_succ, List.getElem?_cons_zero]; exact rfl)
      case hsa2 => kernel_rfl
      case hfa2 => kernel_rfl
      case hra2 => kernel_rfl
      case hQa2 => exact fun _ _ _ h => h
      case hya2 => (first | (refine Or.inr ⟨by rfl, ?_⟩; rfl) | (refine Or.inl ⟨by rfl, ?_⟩; (intro w hSw; (try dsimp only at hSw); go_simp); try with_reducible rfl))
      case hSa2 => assumption
      try simp only [Act.put, List.setIfInBounds_toArray, List.set_cons_zero, List.set_cons_succ]
      refine' wpAnyH_take (i := 3) ?hia3 ?hsa3 ?hfa3 ?hra3 ?hQa3 ?hya3 ?hSa3 ?ha3
      case hia3 => (simp only [List.getElem?_toArray, List.getElem?_cons_succ, List.getElem?_cons_zero]; exact rfl)
      case hsa3 => kernel_rfl
      case hfa3 => kernel_rfl
      case hra3 => kernel_rfl
      case hQa3 => exact fun _ _ _ h => h
      case hya3 => (first | (refine Or.inr ⟨by rfl, ?_⟩; rfl) | (refine Or.inl ⟨by rfl, ?_⟩; (intro w hSw; (try dsimp only at hSw); go_simp); try with_reducible rfl))
      case hSa3 => assumption
      try simp only [Act.put, List.setIfInBounds_toArray, List.set_cons_zero, List.set_cons_succ]
      refine' wpAnyH_take (i := 4) ?hia4 ?hsa4 ?hfa4 ?hra4 ?hQa4 ?hya4 ?hSa4 ?ha4
      case hia4 => (simp only [List.getElem?_toArray, List.getElem?_cons_succ, List.getElem?_cons_zero]; exact rfl)
      case hsa4 => kernel_rfl
      case hfa4 => kernel_rfl
      case hra4 => kernel_rfl
      case hQa4 => exact fun _ _ _ h => h
      case hya4 => (first | (refine Or.inr ⟨by rfl, ?_⟩; rfl) | (refine Or.inl ⟨by rfl, ?_⟩; (intro w hSw; (try dsimp only at hSw); go_simp); try with_reducible rfl))
      case hSa4 => assumption
      try simp only [Act.put, List.setIfInBounds_toArray, List.set_cons_zero, List.set_cons_succ]
      refine wpAnyH_ready (rs := [5]) (by kernel_rfl) (by simp) ?_
      refine' AllReadyH.cons ?hia5 (fun K hK => ?ha5) AllReadyH.nil
      case hia5 => (simp only [List.getElem?_toArray, List.getElem?_cons_succ, List.getElem?_cons_zero]; exact rfl)
      go_simp
      go_at_call 44
      (with_reducible refine (WNet_ok a k s _ (HW.out _ ?hbw) ha HN.out HSN.out).mono ?_)
      case hbw => exact HBW.out.trans (HBD.out.mono HBW.out.size)
      rintro e w1 ⟨rfl, hb1⟩
      have d0 := (hb1.cell (p := ⟨w.heap.size, 0, none⟩) (by simp)).trans c0
      have d1 := (hb1.cell (p := ⟨g, 0, none⟩) (by simp; omega)).trans c1
      have HD1 := Lib.hid d1
      have HD0 := Lib.hid d0
      have HB1 := Lib.hid (HBD.out.trans (hb1.mono HBD.out.size))
      have zw1 := HB1.out.size
      have hW1 : w.heap.size < w1.heap.size := lt_of_cellG d0
      clear hb1
      refine hK.out _ _ (by go_keep) (fun hHeld => ?_)
      clear hK K
      refine wpAnyH_ready (rs := [6]) (by kernel_rfl) (by simp) ?_
      refine' AllReadyH.cons ?hia6 (fun K hK => ?ha6) AllReadyH.nil
      case hia6 => (simp only [List.getElem?_toArray, List.getElem?_cons_succ, List.getElem?_cons_zero]; exact rfl)
      go_simp
      go_at_call 53
      (with_reducible refine (Get_t (HT.out.below HB1.out) HI.out).mono ?_)
      rintro e w2 ⟨rfl, hb2⟩
      have f0 := (hb2.cell (p := ⟨w.heap.size, 0, none⟩) hW1).trans HD0.out
      have f1 := (hb2.cell (p := ⟨g, 0, none⟩) (Nat.lt_trans hgl hW1)).trans HD1.out
      have HB2 := Lib.hid (HB1.out.trans (hb2.mono zw1))
      rw [HE.out, HV.out, errV_z]
      clear hb2
      refine hK.out _ _ (by go_keep) (fun hHeld => ?_)
      clear hK K
      refine' wpAnyH_take (i := 7) ?hia7 ?hsa7 ?hfa7 ?hra7 ?hQa7 ?hya7 ?hSa7 ?ha7
      case hia7 => (simp only [List.getElem?_toArray, List.getElem?_cons_succ, List.getElem?_cons_zero]; exact rfl)
      case hsa7 => kernel_rfl
      case hfa7 => kernel_rfl
      case hra7 => kernel_rfl
      case hQa7 => exact fun _ _ _ h => h
      case hya7 => (first | (refine Or.inr ⟨by rfl, ?_⟩; rfl) | (refine Or.inl ⟨by rfl, ?_⟩; (intro w hSw; (try dsimp only at hSw); go_simp); try with_reducible rfl))
      case hSa7 => assumption
      try simp only [Act.put, List.setIfInBounds_toArray, List.set_cons_zero, List.set_cons_succ]
      refine' wpAnyH_take (i := 8) ?hia8 ?hsa8 ?hfa8 ?hra8 ?hQa8 ?hya8 ?hSa8 ?ha8
      case hia8 => (simp only [List.getElem?_toArray, List.getElem?_cons_succ, List.getElem?_cons_zero]; exact rfl)
      case hsa8 => kernel_rfl
      case hfa8 => kernel_rfl
      case hra8 => kernel_rfl
      case hQa8 => exact fun _ _ _ h => h
      case hya8 => (first | (refine Or.inr ⟨by rfl, ?_⟩; rfl) | (refine Or.inl ⟨by rfl, ?_⟩; (intro w hSw; (try dsimp only at hSw); go_simp); try with_reducible rfl))
      case hSa8 => assumption
      try simp only [Act.put, List.setIfInBounds_toArray, List.set_cons_zero, List.set_cons_succ]
      refine wpAnyH_ready (rs := [9]) (by kernel_rfl) (by simp) ?_
      refine' AllReadyH.cons ?hia9 (fun K hK => ?ha9) AllReadyH.nil
      case hia9 => (simp only [List.getElem?_toArray, List.getElem?_cons_succ, List.getElem?_cons_zero]; exact rfl)
      go_simp
      go_at_call 52
      (with_reducible refine (MustI_ok _ _).mono ?_)
      rintro e w3 ⟨rfl, rfl⟩
      refine hK.out _ _ (by go_keep) (fun hHeld => ?_)
      clear hK K
      refine wpAnyH_ready (rs := [10]) (by kernel_rfl) (by simp) ?_
      refine' AllReadyH.cons ?hia10 (fun K hK => ?ha10) AllReadyH.nil
      case hia10 => (simp only [List.getElem?_toArray, List.getElem?_cons_succ, List.getElem?_cons_zero]; exact rfl)
      go_simp
      go_at_call 51
      (with_reducible refine (Itoa_n q _ (HW.out _ ?hbx) (by omega)).mono ?_)
      case hbx => exact HBW.out.trans (HB2.out.mono HBW.out.size)
      rintro e w4 ⟨rfl, hb4⟩
      have q0 := (hb4.cell (p := ⟨w.heap.size, 0, none⟩) (lt_of_cellG f0)).trans f0
      have q1 := (hb4.cell (p := ⟨g, 0, none⟩) (lt_of_cellG f1)).trans f1
      have HB4 := Lib.hid (HB2.out.trans (hb4.mono HB2.out.size))
      clear hb4
      refine hK.out _ _ (by go_keep) (fun hHeld => ?_)
      clear hK K
      refine' wpAnyH_take (i := 11) ?hia11 ?hsa11 ?hfa11 ?hra11 ?hQa11 ?hya11 ?hSa11 ?ha11
      case hia11 => (simp only [List.getElem?_toArray, List.getElem?_cons_succ, List.getElem?_cons_zero]; exact rfl)
      case hsa11 => kernel_rfl
      case hfa11 => kernel_rfl
      case hra11 => kernel_rfl
      case hQa11 => exact fun _ _ _ h => h
      case hya11 => (first | (refine Or.inr ⟨by rfl, ?_⟩; rfl) | (refine Or.inl ⟨by rfl, ?_⟩; (intro w hSw; (try dsimp only at hSw); go_simp); try with_reducible rfl))
      case hSa11 => assumption
      try simp only [Act.put, List.setIfInBounds_toArray, List.set_cons_zero, List.set_cons_succ]
      refine wpAnyH_done (by kernel_rfl) ?_ _
      go_wp2
      go_ret
      exact ⟨rfl, HB4.out⟩
    · have hX : getX m (some ((a : Int), (k : Int))) = .error 2 := by unfold getX; simp only; rw [if_neg (by rw [hE]; decide), hE]
      rw [hX]
      have HE := Lib.hid hE
      clear hE hn hsn hX e
      go_enter Tryz.func50, Tryz.ntmps50
      go_wp2
      refine wp_region_held_drew (S := (fun w' => w'.cell? ⟨w.heap.size, 0, none⟩ = some (.pointer (some ⟨T, 0, none⟩)) ∧ w'.cell? ⟨g, 0, none⟩ = some (.string s))) (by kernel_rfl) (by go_keep) (fun hHeld => ?_)
      refine' wpAnyH_take (i := 0) ?hib0 ?hsb0 ?hfb0 ?hrb0 ?hQb0 ?hyb0 ?hSb0 ?hb0
      case hib0 => (simp only [List.getElem?_toArray, List.getElem?_cons_succ, List.getElem?_cons_zero]; exact rfl)
      case hsb0 => kernel_rfl
      case hfb0 => kernel_rfl
      case hrb0 => kernel_rfl
      case hQb0 => exact fun _ _ _ h => h
      case hyb0 => (first | (refine Or.inr ⟨by rfl, ?_⟩; rfl) | (refine Or.inl ⟨by rfl, ?_⟩; (intro w hSw; (try dsimp only at hSw); go_simp); try with_reducible rfl))
      case hSb0 => assumption
      try simp only [Act.put, List.setIfInBounds_toArray, List.set_cons_zero, List.set_cons_succ]
      refine' wpAnyH_take (i := 1) ?hib1 ?hsb1 ?hfb1 ?hrb1 ?hQb1 ?hyb1 ?hSb1 ?hb1
      case hib1 => (simp only [List.getElem?_toArray, List.getElem?_cons_succ, List.getElem?_cons_zero]; exact rfl)
      case hsb1 => kernel_rfl
      case hfb1 => kernel_rfl
      case hrb1 => kernel_rfl
      case hQb1 => exact fun _ _ _ h => h
      case hyb1 => (first | (refine Or.inr ⟨by rfl, ?_⟩; rfl) | (refine Or.inl ⟨by rfl, ?_⟩; (intro w hSw; (try dsimp only at hSw); go_simp); try with_reducible rfl))
      case hSb1 => assumption
      try simp only [Act.put, List.setIfInBounds_toArray, List.set_cons_zero, List.set_cons_succ]
      refine' wpAnyH_take (i := 2) ?hib2 ?hsb2 ?hfb2 ?hrb2 ?hQb2 ?hyb2 ?hSb2 ?hb2
      case hib2 => (simp only [List.getElem?_toArray, List.getElem?_cons_succ, List.getElem?_cons_zero]; exact rfl)
      case hsb2 => kernel_rfl
      case hfb2 => kernel_rfl
      case hrb2 => kernel_rfl
      case hQb2 => exact fun _ _ _ h => h
      case hyb2 => (first | (refine Or.inr ⟨by rfl, ?_⟩; rfl) | (refine Or.inl ⟨by rfl, ?_⟩; (intro w hSw; (try dsimp only at hSw); go_simp); try with_reducible rfl))
      case hSb2 => assumption
      try simp only [Act.put, List.setIfInBounds_toArray, List.set_cons_zero, List.set_cons_succ]
      refine' wpAnyH_take (i := 3) ?hib3 ?hsb3 ?hfb3 ?hrb3 ?hQb3 ?hyb3 ?hSb3 ?hb3
      case hib3 => (simp only [List.getElem?_toArray, List.getElem?_cons_succ, List.getElem?_cons_zero]; exact rfl)
      case hsb3 => kernel_rfl
      case hfb3 => kernel_rfl
      case hrb3 => kernel_rfl
      case hQb3 => exact fun _ _ _ h => h
      case hyb3 => (first | (refine Or.inr ⟨by rfl, ?_⟩; rfl) | (refine Or.inl ⟨by rfl, ?_⟩; (intro w hSw; (try dsimp only at hSw); go_simp); try with_reducible rfl))
      case hSb3 => assumption
      try simp only [Act.put, List.setIfInBounds_toArray, List.set_cons_zero, List.set_cons_succ]
      refine' wpAnyH_take (i := 4) ?hib4 ?hsb4 ?hfb4 ?hrb4 ?hQb4 ?hyb4 ?hSb4 ?hb4
      case hib4 => (simp only [List.getElem?_toArray, List.getElem?_cons_succ, List.getElem?_cons_zero]; exact rfl)
      case hsb4 => kernel_rfl
      case hfb4 => kernel_rfl
      case hrb4 => kernel_rfl
      case hQb4 => exact fun _ _ _ h => h
      case hyb4 => (first | (refine Or.inr ⟨by rfl, ?_⟩; rfl) | (refine Or.inl ⟨by rfl, ?_⟩; (intro w hSw; (try dsimp only at hSw); go_simp); try with_reducible rfl))
      case hSb4 => assumption
      try simp only [Act.put, List.setIfInBounds_toArray, List.set_cons_zero, List.set_cons_succ]
      refine wpAnyH_ready (rs := [5]) (by kernel_rfl) (by simp) ?_
      refine' AllReadyH.cons ?hib5 (fun K hK => ?hb5) AllReadyH.nil
      case hib5 => (simp only [List.getElem?_toArray, List.getElem?_cons_succ, List.getElem?_cons_zero]; exact rfl)
      go_simp
      go_at_call 44
      (with_reducible refine (WNet_ok a k s _ (HW.out _ ?hbw2) ha HN.out HSN.out).mono ?_)
      case hbw2 => exact HBW.out.trans (HBD.out.mono HBW.out.size)
      rintro e w1 ⟨rfl, hb1⟩
      have d0 := (hb1.cell (p := ⟨w.heap.size, 0, none⟩) (by simp)).trans c0
      have d1 := (hb1.cell (p := ⟨g, 0, none⟩) (by simp; omega)).trans c1
      have HD1 := Lib.hid d1
      have HD0 := Lib.hid d0
      have HB1 := Lib.hid (HBD.out.trans (hb1.mono HBD.out.size))
      have zw1 := HB1.out.size
      have hW1 : w.heap.size < w1.heap.size := lt_of_cellG d0
      clear hb1
      refine hK.out _ _ (by go_keep) (fun hHeld => ?_)
      clear hK K
      refine wpAnyH_ready (rs := [6]) (by kernel_rfl) (by simp) ?_
      refine' AllReadyH.cons ?hib6 (fun K hK => ?hb6) AllReadyH.nil
      case hib6 => (simp only [List.getElem?_toArray, List.getElem?_cons_succ, List.getElem?_cons_zero]; exact rfl)
      go_simp
      go_at_call 53
      (with_reducible refine (Get_t (HT.out.below HB1.out) HI.out).mono ?_)
      rintro e w2 ⟨rfl, hb2⟩
      have f0 := (hb2.cell (p := ⟨w.heap.size, 0, none⟩) hW1).trans HD0.out
      have f1 := (hb2.cell (p := ⟨g, 0, none⟩) (Nat.lt_trans hgl hW1)).trans HD1.out
      have HB2 := Lib.hid (HB1.out.trans (hb2.mono zw1))
      rw [HE.out, errV_pan (by decide)]
      clear hb2
      refine hK.out _ _ (by go_keep) (fun hHeld => ?_)
      clear hK K
      refine' wpAnyH_take (i := 7) ?hib7 ?hsb7 ?hfb7 ?hrb7 ?hQb7 ?hyb7 ?hSb7 ?hb7
      case hib7 => (simp only [List.getElem?_toArray, List.getElem?_cons_succ, List.getElem?_cons_zero]; exact rfl)
      case hsb7 => kernel_rfl
      case hfb7 => kernel_rfl
      case hrb7 => kernel_rfl
      case hQb7 => exact fun _ _ _ h => h
      case hyb7 => (first | (refine Or.inr ⟨by rfl, ?_⟩; rfl) | (refine Or.inl ⟨by rfl, ?_⟩; (intro w hSw; (try dsimp only at hSw); go_simp); try with_reducible rfl))
      case hSb7 => assumption
      try simp only [Act.put, List.setIfInBounds_toArray, List.set_cons_zero, List.set_cons_succ]
      refine' wpAnyH_take (i := 8) ?hib8 ?hsb8 ?hfb8 ?hrb8 ?hQb8 ?hyb8 ?hSb8 ?hb8
      case hib8 => (simp only [List.getElem?_toArray, List.getElem?_cons_succ, List.getElem?_cons_zero]; exact rfl)
      case hsb8 => kernel_rfl
      case hfb8 => kernel_rfl
      case hrb8 => kernel_rfl
      case hQb8 => exact fun _ _ _ h => h
      case hyb8 => (first | (refine Or.inr ⟨by rfl, ?_⟩; rfl) | (refine Or.inl ⟨by rfl, ?_⟩; (intro w hSw; (try dsimp only at hSw); go_simp); try with_reducible rfl))
      case hSb8 => assumption
      try simp only [Act.put, List.setIfInBounds_toArray, List.set_cons_zero, List.set_cons_succ]
      refine wpAnyH_ready (rs := [9]) (by kernel_rfl) (by simp) ?_
      refine' AllReadyH.cons ?hib9 (fun K hK => ?hb9) AllReadyH.nil
      case hib9 => (simp only [List.getElem?_toArray, List.getElem?_cons_succ, List.getElem?_cons_zero]; exact rfl)
      go_simp
      go_at_call 52
      (with_reducible refine (MustI_bad _ 2 _).mono ?_)
      rintro e w3 ⟨rfl, rfl⟩
      exact ⟨rfl, rfl, HB2.out⟩
  · rw [e]
    have HNO := Lib.hid hno
    clear hno e
    go_enter Tryz.func50, Tryz.ntmps50
    go_wp2
    refine wp_region_held_drew (S := (fun w' => w'.cell? ⟨w.heap.size, 0, none⟩ = some (.pointer (some ⟨T, 0, none⟩)) ∧ w'.cell? ⟨g, 0, none⟩ = some (.string s))) (by kernel_rfl) (by go_keep) (fun hHeld => ?_)
    refine' wpAnyH_take (i := 0) ?hic0 ?hsc0 ?hfc0 ?hrc0 ?hQc0 ?hyc0 ?hSc0 ?hc0
    case hic0 => (simp only [List.getElem?_toArray, List.getElem?_cons_succ, List.getElem?_cons_zero]; exact rfl)
    case hsc0 => kernel_rfl
    case hfc0 => kernel_rfl
    case hrc0 => kernel_rfl
    case hQc0 => exact fun _ _ _ h => h
    case hyc0 => (first | (refine Or.inr ⟨by rfl, ?_⟩; rfl) | (refine Or.inl ⟨by rfl, ?_⟩; (intro w hSw; (try dsimp only at hSw); go_simp); try with_reducible rfl))
    case hSc0 => assumption
    try simp only [Act.put, List.setIfInBounds_toArray, List.set_cons_zero, List.set_cons_succ]
    refine' wpAnyH_take (i := 1) ?hic1 ?hsc1 ?hfc1 ?hrc1 ?hQc1 ?hyc1 ?hSc1 ?hc1
    case hic1 => (simp only [List.getElem?_toArray, List.getElem?_cons_succ, List.getElem?_cons_zero]; exact rfl)
    case hsc1 => kernel_rfl
    case hfc1 => kernel_rfl
    case hrc1 => kernel_rfl
    case hQc1 => exact fun _ _ _ h => h
    case hyc1 => (first | (refine Or.inr ⟨by rfl, ?_⟩; rfl) | (refine Or.inl ⟨by rfl, ?_⟩; (intro w hSw; (try dsimp only at hSw); go_simp); try with_reducible rfl))
    case hSc1 => assumption
    try simp only [Act.put, List.setIfInBounds_toArray, List.set_cons_zero, List.set_cons_succ]
    refine' wpAnyH_take (i := 2) ?hic2 ?hsc2 ?hfc2 ?hrc2 ?hQc2 ?hyc2 ?hSc2 ?hc2
    case hic2 => (simp only [List.getElem?_toArray, List.getElem?_cons_succ, List.getElem?_cons_zero]; exact rfl)
    case hsc2 => kernel_rfl
    case hfc2 => kernel_rfl
    case hrc2 => kernel_rfl
    case hQc2 => exact fun _ _ _ h => h
    case hyc2 => (first | (refine Or.inr ⟨by rfl, ?_⟩; rfl) | (refine Or.inl ⟨by rfl, ?_⟩; (intro w hSw; (try dsimp only at hSw); go_simp); try with_reducible rfl))
    case hSc2 => assumption
    try simp only [Act.put, List.setIfInBounds_toArray, List.set_cons_zero, List.set_cons_succ]
    refine' wpAnyH_take (i := 3) ?hic3 ?hsc3 ?hfc3 ?hrc3 ?hQc3 ?hyc3 ?hSc3 ?hc3
    case hic3 => (simp only [List.getElem?_toArray, List.getElem?_cons_succ, List.getElem?_cons_zero]; exact rfl)
    case hsc3 => kernel_rfl
    case hfc3 => kernel_rfl
    case hrc3 => kernel_rfl
    case hQc3 => exact fun _ _ _ h => h
    case hyc3 => (first | (refine Or.inr ⟨by rfl, ?_⟩; rfl) | (refine Or.inl ⟨by rfl, ?_⟩; (intro w hSw; (try dsimp only at hSw); go_simp); try with_reducible rfl))
    case hSc3 => assumption
    try simp only [Act.put, List.setIfInBounds_toArray, List.set_cons_zero, List.set_cons_succ]
    refine' wpAnyH_take (i := 4) ?hic4 ?hsc4 ?hfc4 ?hrc4 ?hQc4 ?hyc4 ?hSc4 ?hc4
    case hic4 => (simp only [List.getElem?_toArray, List.getElem?_cons_succ, List.getElem?_cons_zero]; exact rfl)
    case hsc4 => kernel_rfl
    case hfc4 => kernel_rfl
    case hrc4 => kernel_rfl
    case hQc4 => exact fun _ _ _ h => h
    case hyc4 => (first | (refine Or.inr ⟨by rfl, ?_⟩; rfl) | (refine Or.inl ⟨by rfl, ?_⟩; (intro w hSw; (try dsimp only at hSw); go_simp); try with_reducible rfl))
    case hSc4 => assumption
    try simp only [Act.put, List.setIfInBounds_toArray, List.set_cons_zero, List.set_cons_succ]
    refine wpAnyH_ready (rs := [5]) (by kernel_rfl) (by simp) ?_
    refine' AllReadyH.cons ?hic5 (fun K hK => ?hc5) AllReadyH.nil
    case hic5 => (simp only [List.getElem?_toArray, List.getElem?_cons_succ, List.getElem?_cons_zero]; exact rfl)
    go_simp
    go_at_call 44
    (with_reducible refine (WNet_bad s _ (HW.out _ ?hbw) hs HNO.out).mono ?_)
    case hbw => exact HBW.out.trans (HBD.out.mono HBW.out.size)
    rintro e w1 ⟨rfl, hb1⟩
    exact ⟨rfl, rfl, HBD.out.trans (hb1.mono HBD.out.size)⟩
end
end Go.Proofs.YtgdlkjahlajcpaaGreatDoor
