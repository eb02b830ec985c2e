/- What the desk's forms do: drop, get. cover.order: which net is first, as a number; it only makes new blocks. waywardensame.Nets. slices.Values, slices.AppendSeq and slices.Collect at nets: a new row of the call's own that holds the same nets. -/
import Derived.Test.YtgdlkjahlajcpaaGreatDoorAH
import Derived.Deep.RegionHeld3
import Derived.BigQuiet
import Derived.Test.YtgdlkjahlajcpaaGreatDoorAC
import Derived.Test.YtgdlkjahlajcpaaGreatDoorAF
import Derived.Shelf.SlSortCmp.Insertion
import Derived.Lib.QuietBelow
import Derived.Test.YtgdlkjahlajcpaaGreatDoorAE
import Derived.RangeFuncNested
import Derived.RangeFuncBound
import Derived.RangeFuncBox
import Derived.RangeFuncCalls
import Derived.RangeFuncLeaves
import Derived.Shelf.Abstract
import Derived.OwnWalkIn
import Derived.TacticsInMore
import Derived.LoopNIn
import Derived.LoopIn
namespace Go.Proofs.YtgdlkjahlajcpaaGreatDoor
open Go.ChangeShapes Go.WideShapes Go.ChangeAt Go.RowKit
set_option linter.unusedVariables false
set_option linter.unusedSimpArgs false

def DoPost (W : World) (T : Nat) (S : Nat → Prop) (w : World) (r : Ans × Tab) (e : Ending) (w' : World) : Prop := e = endA r.1 ∧ Tk W T r.2 S w' ∧ KeptS S w w'
theorem DoPost.of_below {W w w' : World} {T : Nat} {m : Tab} {S : Nat → Prop} {a : Ans} {e : Ending} (h : Tk W T m S w) (he : e = endA a) (hb : Below w.heap.size w w') : DoPost W T S w (a, m) e w' := by
  refine ⟨he, h.below hb, fun g hg => ?_⟩
  obtain ⟨N, hT, hS⟩ := h.ex
  exact hb.block g (hS g hg).1
theorem Tk.lt {W w : World} {T : Nat} {m : Tab} {S : Nat → Prop} (h : Tk W T m S w) {g : Nat} (hg : S g) : g < w.heap.size := by
  obtain ⟨N, hT, hS⟩ := h.ex
  exact (hS g hg).1
theorem KeptS.cell {S : Nat → Prop} {w w' : World} (h : KeptS S w w') {g o : Nat} (hg : S g) : w'.cell? ⟨g, o, none⟩ = w.cell? ⟨g, o, none⟩ := World.cell?_of_block (h g hg)
theorem errV_z : errV 0 = .nilIface := by unfold errV; rw [if_pos rfl]
theorem errV_pan {k : Int} (h : k ≠ 0) : errV k = .iface 35 (.int .i64 k) := by unfold errV; rw [if_neg h]
theorem lt_of_cellG {w : World} {g o : Nat} {v : Value} (h : w.cell? ⟨g, o, none⟩ = some v) : g < w.heap.size := block_of_cell h
section
variable {W w : World} {T g c : Nat} {m : Tab} {S : Nat → Prop} {s : ByteArray}
set_option maxRecDepth 100000 in
set_option maxHeartbeats 4000000 in
theorem Drop_do (h : Tk W T m S w) (hw : HStr W) (hg : S g) (hc : w.cell? ⟨g, 0, none⟩ = some (.string s)) (hs : s.size ≤ 2097152) :
    Calls Tryz.prog 48 #[deskV T, .slice (some ⟨g, 0, none⟩) 1 c] w (DoPost W T S w (dropX m (netO s.data.toList))) := by
  have hb0 := (Below.refl w.heap.size w).alloc (Nat.le_refl _) (.cells #[.pointer (some ⟨T, 0, none⟩)] 40)
  have hT1 := h.more hb0
  have hgl := h.lt hg
  have hng : ¬ w.heap.size = g := by omega
  have HT := Lib.hid h
  have HT1 := Lib.hid hT1
  have HG := Lib.hid hg
  have HB0 := Lib.hid hb0
  have HW : Hid (∀ w' : World, Below W.heap.size W w' → HStr w') := Lib.hid fun w' hb => hw.below hb (Nat.le_refl _)
  have HBW := Lib.hid h.bel
  clear h hT1 hg hb0 hw
  have c0 : (w.alloc (.cells #[.pointer (some ⟨T, 0, none⟩)] 40)).cell? ⟨w.heap.size, 0, none⟩ = some (.pointer (some ⟨T, 0, none⟩)) := row1p (heap_alloc_new _ _)
  have c1 : (w.alloc (.cells #[.pointer (some ⟨T, 0, none⟩)] 40)).cell? ⟨g, 0, none⟩ = some (.string s) := (HB0.out.cell (p := ⟨g, 0, none⟩) hgl).trans hc
  have HBD : Hid (Below w.heap.size w (w.alloc (.cells #[.pointer (some ⟨T, 0, none⟩)] 40)).drew) := Lib.hid (below_drewN HB0.out 1)
  rcases netO_cases s.data.toList with ⟨a, k, ha, hk, hn, hsn, e⟩ | ⟨hno, e⟩
  · rw [e]
    have HN := Lib.hid hn
    have HSN := Lib.hid hsn
    have HI : Hid (is32 (a : Int)) := Lib.hid ⟨by omega, by omega⟩
    rcases getE_net (m := m) hn with ⟨hE, _⟩ | ⟨hE, _⟩
    · have hX : dropX m (some ((a : Int), (k : Int))) = (.ok okT, dropT m ((a : Int), (k : Int))) := by unfold dropX; simp only; rw [if_pos hE]
      rw [hX]
      have HE := Lib.hid hE
      clear hE hn hsn hX e
      go_enter Tryz.func48, Tryz.ntmps48
      go_wp2
      refine wp_region_held_drew (S := (fun w' => w'.cell? ⟨w.heap.size, 0, none⟩ = some (.pointer (some ⟨T, 0, none⟩)) ∧ w'.cell? ⟨g, 0, none⟩ = some (.string s))) (by kernel_rfl) (by go_keep) (fun hHeld => ?_)
      refine' wpAnyH_take (i := 0) ?hia0 ?hsa0 ?hfa0 ?hra0 ?hQa0 ?hya0 ?hSa0 ?ha0
      case hia0 => (simp only [List.getElem?_toArray, List.getElem?_cons_succ, List.getElem?_cons_zero]; exact rfl)
      case hsa0 => kernel_rfl
      case hfa0 => kernel_rfl
      case hra0 => kernel_rfl
      case hQa0 => exact fun _ _ _ h => h
      case hya0 => (first | (refine Or.inr ⟨by rfl, ?_⟩; rfl) | (refine Or.inl ⟨by rfl, ?_⟩; (intro w hSw; (try dsimp only at hSw); go_simp); try with_reducible rfl))
      case hSa0 => assumption
      try simp only [Act.put, List.setIfInBounds_toArray, List.set_cons_zero, List.set_cons_succ]
      refine' wpAnyH_take (i := 1) ?hia1 ?hsa1 ?hfa1 ?hra1 ?hQa1 ?hya1 ?hSa1 ?ha1
      case hia1 => (simp only [List.getElem?_toArray, List.getElem?_cons_succ, List.getElem?_cons_zero]; exact rfl)
      case hsa1 => kernel_rfl
      case hfa1 => kernel_rfl
      case hra1 => kernel_rfl
      case hQa1 => exact fun _ _ _ h => h
      case hya1 => (first | (refine Or.inr ⟨by rfl, ?_⟩; rfl) | (refine Or.inl ⟨by rfl, ?_⟩; (intro w hSw; (try dsimp only at hSw); go_simp); try with_reducible rfl))
      case hSa1 => assumption
      try simp only [Act.put, List.setIfInBounds_toArray, List.set_cons_zero, List.set_cons_succ]
      refine' wpAnyH_take (i := 2) ?hia2 ?hsa2 ?hfa2 ?hra2 ?hQa2 ?hya2 ?hSa2 ?ha2
      case hia2 => (simp only [List.getElem?_toArray, List.getElem?_cons_succ, List.getElem?_cons_zero]; exact rfl)
      case hsa2 => kernel_rfl
      case hfa2 => kernel_rfl
      case hra2 => kernel_rfl
      case hQa2 => exact fun _ _ _ h => h
      case hya2 => (first | (refine Or.inr ⟨by rfl, ?_⟩; rfl) | (refine Or.inl ⟨by rfl, ?_⟩; (intro w hSw; (try dsimp only at hSw); go_simp); try with_reducible rfl))
      case hSa2 => assumption
      try simp only [Act.put, List.setIfInBounds_toArray, List.set_cons_zero, List.set_cons_succ]
      refine' wpAnyH_take (i := 3) ?hia3 ?hsa3 ?hfa3 ?hra3 ?hQa3 ?hya3 ?hSa3 ?ha3
      case hia3 => (simp only [List.getElem?_toArray, List.getElem?_cons_succ, List.getElem?_cons_zero]; exact rfl)
      case hsa3 => kernel_rfl
      case hfa3 => kernel_rfl
      case hra3 => kernel_rfl
      case hQa3 => exact fun _ _ _ h => h
      case hya3 => (first | (refine Or.inr ⟨by rfl, ?_⟩; rfl) | (refine Or.inl ⟨by rfl, ?_⟩; (intro w hSw; (try dsimp only at hSw); go_simp); try with_reducible rfl))
      case hSa3 => assumption
      try simp only [Act.put, List.setIfInBounds_toArray, List.set_cons_zero, List.set_cons_succ]
      refine' wpAnyH_take (i := 4) ?hia4 ?hsa4 ?hfa4 ?hra4 ?hQa4 ?hya4 ?hSa4 ?ha4
      case hia4 => (simp only [List.getElem?_toArray, List.getElem?_cons_succ, List.getElem?_cons_zero]; exact rfl)
      case hsa4 => kernel_rfl
      case hfa4 => kernel_rfl
      case hra4 => kernel_rfl
      case hQa4 => exact fun _ _ _ h => h
      case hya4 => (first | (refine Or.inr ⟨by rfl, ?_⟩; rfl) | (refine Or.inl ⟨by rfl, ?_⟩; (intro w hSw; (try dsimp only at hSw); go_simp); try with_reducible rfl))
      case hSa4 => assumption
      try simp only [Act.put, List.setIfInBounds_toArray, List.set_cons_zero, List.set_cons_succ]
      refine wpAnyH_ready (rs := [5]) (by kernel_rfl) (by simp) ?_
      refine' AllReadyH.cons ?hia5 (fun K hK => ?ha5) AllReadyH.nil
      case hia5 => (simp only [List.getElem?_toArray, List.getElem?_cons_succ, List.getElem?_cons_zero]; exact rfl)
      go_simp
      go_at_call 44
      (with_reducible refine (WNet_ok a k s _ (HW.out _ ?hbw) ha HN.out HSN.out).mono ?_)
      case hbw => exact HBW.out.trans (HBD.out.mono HBW.out.size)
      rintro e w1 ⟨rfl, hb1⟩
      have d0 := (hb1.cell (p := ⟨w.heap.size, 0, none⟩) (by simp)).trans c0
      have d1 := (hb1.cell (p := ⟨g, 0, none⟩) (by simp; omega)).trans c1
      have HD1 := Lib.hid d1
      have HD0 := Lib.hid d0
      have HT2 := Lib.hid ((HT1.out.below (below_drewN (Below.refl _ _) 1)).below hb1)
      have HB1 := Lib.hid (HBD.out.trans (hb1.mono HBD.out.size))
      clear hb1
      refine hK.out _ _ (by go_keep) (fun hHeld => ?_)
      clear hK K
      refine wpAnyH_ready (rs := [6]) (by kernel_rfl) (by simp) ?_
      refine' AllReadyH.cons ?hia6 (fun K hK => ?ha6) AllReadyH.nil
      case hia6 => (simp only [List.getElem?_toArray, List.getElem?_cons_succ, List.getElem?_cons_zero]; exact rfl)
      go_simp
      go_at_call 49
      (with_reducible refine (Drop_t HT2.out HI.out).mono ?_)
      rintro e w2 ⟨rfl, hT3, hK3, _⟩
      have f0 := (hK3.cell (o := 0) (.inr ⟨Nat.le_refl _, by simp⟩)).trans HD0.out
      have f1 := (hK3.cell (o := 0) (.inl HG.out)).trans HD1.out
      have HT3 := Lib.hid hT3
      have HK3 := Lib.hid hK3
      rw [HE.out, errV_z]
      clear hT3 hK3
      refine hK.out _ _ (by go_keep) (fun hHeld => ?_)
      clear hK K
      refine wpAnyH_ready (rs := [7]) (by kernel_rfl) (by simp) ?_
      refine' AllReadyH.cons ?hia7 (fun K hK => ?ha7) AllReadyH.nil
      case hia7 => (simp only [List.getElem?_toArray, List.getElem?_cons_succ, List.getElem?_cons_zero]; exact rfl)
      go_simp
      go_at_call 46
      (with_reducible refine (Done_ok _).mono ?_)
      rintro e w3 ⟨rfl, rfl⟩
      refine hK.out _ _ (by go_keep) (fun hHeld => ?_)
      clear hK K
      refine' wpAnyH_take (i := 8) ?hia8 ?hsa8 ?hfa8 ?hra8 ?hQa8 ?hya8 ?hSa8 ?ha8
      case hia8 => (simp only [List.getElem?_toArray, List.getElem?_cons_succ, List.getElem?_cons_zero]; exact rfl)
      case hsa8 => kernel_rfl
      case hfa8 => kernel_rfl
      case hra8 => kernel_rfl
      case hQa8 => exact fun _ _ _ h => h
      case hya8 => (first | (refine Or.inr ⟨by rfl, ?_⟩; rfl) | (refine Or.inl ⟨by rfl, ?_⟩; (intro w hSw; (try dsimp only at hSw); go_simp); try with_reducible rfl))
      case hSa8 => assumption
      try simp only [Act.put, List.setIfInBounds_toArray, List.set_cons_zero, List.set_cons_succ]
      refine wpAnyH_done (by kernel_rfl) ?_ _
      go_wp2
      go_ret
      refine ⟨rfl, HT3.out.fewer (fun g hg => .inl hg), fun g hg => ?_⟩
      exact (HK3.out g (.inl hg)).trans (HB1.out.block g (HT.out.lt hg))
    · have hX : dropX m (some ((a : Int), (k : Int))) = (.error 2, m) := by unfold dropX; simp only; rw [if_neg (by rw [hE]; decide), hE]
      have hD : dropT m ((a : Int), (k : Int)) = m := by unfold dropT; rw [if_neg (by rw [hE]; decide)]
      rw [hX]
      have HE := Lib.hid hE
      have HDm := Lib.hid hD
      clear hE hn hsn hX hD e
      go_enter Tryz.func48, Tryz.ntmps48
      go_wp2
      refine wp_region_held_drew (S := (fun w' => w'.cell? ⟨w.heap.size, 0, none⟩ = some (.pointer (some ⟨T, 0, none⟩)) ∧ w'.cell? ⟨g, 0, none⟩ = some (.string s))) (by kernel_rfl) (by go_keep) (fun hHeld => ?_)
      refine' wpAnyH_take (i := 0) ?hib0 ?hsb0 ?hfb0 ?hrb0 ?hQb0 ?hyb0 ?hSb0 ?hb0
      case hib0 => (simp only [List.getElem?_toArray, List.getElem?_cons_succ, List.getElem?_cons_zero]; exact rfl)
      case hsb0 => kernel_rfl
      case hfb0 => kernel_rfl
      case hrb0 => kernel_rfl
      case hQb0 => exact fun _ _ _ h => h
      case hyb0 => (first | (refine Or.inr ⟨by rfl, ?_⟩; rfl) | (refine Or.inl ⟨by rfl, ?_⟩; (intro w hSw; (try dsimp only at hSw); go_simp); try with_reducible rfl))
      case hSb0 => assumption
      try simp only [Act.put, List.setIfInBounds_toArray, List.set_cons_zero, List.set_cons_succ]
      refine' wpAnyH_take (i := 1) ?hib1 ?hsb1 ?hfb1 ?hrb1 ?hQb1 ?hyb1 ?hSb1 ?hb1
      case hib1 => (simp only [List.getElem?_toArray, List.getElem?_cons_succ, List.getElem?_cons_zero]; exact rfl)
      case hsb1 => kernel_rfl
      case hfb1 => kernel_rfl
      case hrb1 => kernel_rfl
      case hQb1 => exact fun _ _ _ h => h
      case hyb1 => (first | (refine Or.inr ⟨by rfl, ?_⟩; rfl) | (refine Or.inl ⟨by rfl, ?_⟩; (intro w hSw; (try dsimp only at hSw); go_simp); try with_reducible rfl))
      case hSb1 => assumption
      try simp only [Act.put, List.setIfInBounds_toArray, List.set_cons_zero, List.set_cons_succ]
      refine' wpAnyH_take (i := 2) ?hib2 ?hsb2 ?hfb2 ?hrb2 ?hQb2 ?hyb2 ?hSb2 ?hb2
      case hib2 => (simp only [List.getElem?_toArray, List.getElem?_cons_succ, List.getElem?_cons_zero]; exact rfl)
      case hsb2 => kernel_rfl
      case hfb2 => kernel_rfl
      case hrb2 => kernel_rfl
      case hQb2 => exact fun _ _ _ h => h
      case hyb2 => (first | (refine Or.inr ⟨by rfl, ?_⟩; rfl) | (refine Or.inl ⟨by rfl, ?_⟩; (intro w hSw; (try dsimp only at hSw); go_simp); try with_reducible rfl))
      case hSb2 => assumption
      try simp only [Act.put, List.setIfInBounds_toArray, List.set_cons_zero, List.set_cons_succ]
      refine' wpAnyH_take (i := 3) ?hib3 ?hsb3 ?hfb3 ?hrb3 ?hQb3 ?hyb3 ?hSb3 ?hb3
      case hib3 => (simp only [List.getElem?_toArray, List.getElem?_cons_succ, List.getElem?_cons_zero]; exact rfl)
      case hsb3 => kernel_rfl
      case hfb3 => kernel_rfl
      case hrb3 => kernel_rfl
      case hQb3 => exact fun _ _ _ h => h
      case hyb3 => (first | (refine Or.inr ⟨by rfl, ?_⟩; rfl) | (refine Or.inl ⟨by rfl, ?_⟩; (intro w hSw; (try dsimp only at hSw); go_simp); try with_reducible rfl))
      case hSb3 => assumption
      try simp only [Act.put, List.setIfInBounds_toArray, List.set_cons_zero, List.set_cons_succ]
      refine' wpAnyH_take (i := 4) ?hib4 ?hsb4 ?hfb4 ?hrb4 ?hQb4 ?hyb4 ?hSb4 ?hb4
      case hib4 => (simp only [List.getElem?_toArray, List.getElem?_cons_succ, List.getElem?_cons_zero]; exact rfl)
      case hsb4 => kernel_rfl
      case hfb4 => kernel_rfl
      case hrb4 => kernel_rfl
      case hQb4 => exact fun _ _ _ h => h
      case hyb4 => (first | (refine Or.inr ⟨by rfl, ?_⟩; rfl) | (refine Or.inl ⟨by rfl, ?_⟩; (intro w hSw; (try dsimp only at hSw); go_simp); try with_reducible rfl))
      case hSb4 => assumption
      try simp only [Act.put, List.setIfInBounds_toArray, List.set_cons_zero, List.set_cons_succ]
      refine wpAnyH_ready (rs := [5]) (by kernel_rfl) (by simp) ?_
      refine' AllReadyH.cons ?hib5 (fun K hK => ?hb5) AllReadyH.nil
      case hib5 => (simp only [List.getElem?_toArray, List.getElem?_cons_succ, List.getElem?_cons_zero]; exact rfl)
      go_simp
      go_at_call 44
      (with_reducible refine (WNet_ok a k s _ (HW.out _ ?hbw2) ha HN.out HSN.out).mono ?_)
      case hbw2 => exact HBW.out.trans (HBD.out.mono HBW.out.size)
      rintro e w1 ⟨rfl, hb1⟩
      have d0 := (hb1.cell (p := ⟨w.heap.size, 0, none⟩) (by simp)).trans c0
      have d1 := (hb1.cell (p := ⟨g, 0, none⟩) (by simp; omega)).trans c1
      have HD1 := Lib.hid d1
      have HD0 := Lib.hid d0
      have HT2 := Lib.hid ((HT1.out.below (below_drewN (Below.refl _ _) 1)).below hb1)
      have HB1 := Lib.hid (HBD.out.trans (hb1.mono HBD.out.size))
      clear hb1
      refine hK.out _ _ (by go_keep) (fun hHeld => ?_)
      clear hK K
      refine wpAnyH_ready (rs := [6]) (by kernel_rfl) (by simp) ?_
      refine' AllReadyH.cons ?hib6 (fun K hK => ?hb6) AllReadyH.nil
      case hib6 => (simp only [List.getElem?_toArray, List.getElem?_cons_succ, List.getElem?_cons_zero]; exact rfl)
      go_simp
      go_at_call 49
      (with_reducible refine (Drop_t HT2.out HI.out).mono ?_)
      rintro e w2 ⟨rfl, hT3, hK3, _⟩
      have f0 := (hK3.cell (o := 0) (.inr ⟨Nat.le_refl _, by simp⟩)).trans HD0.out
      have f1 := (hK3.cell (o := 0) (.inl HG.out)).trans HD1.out
      have HT3 := Lib.hid hT3
      have HK3 := Lib.hid hK3
      rw [HE.out, errV_pan (by decide)]
      clear hT3 hK3
      refine hK.out _ _ (by go_keep) (fun hHeld => ?_)
      clear hK K
      refine wpAnyH_ready (rs := [7]) (by kernel_rfl) (by simp) ?_
      refine' AllReadyH.cons ?hib7 (fun K hK => ?hb7) AllReadyH.nil
      case hib7 => (simp only [List.getElem?_toArray, List.getElem?_cons_succ, List.getElem?_cons_zero]; exact rfl)
      go_simp
      go_at_call 46
      (with_reducible refine (Done_bad 2 _).mono ?_)
      rintro e w3 ⟨rfl, rfl⟩
      refine ⟨rfl, rfl, ?_, fun g hg => ?_⟩
      · have := HT3.out.fewer (S' := S) (fun g hg => .inl hg)
        rw [HDm.out] at this
        exact this
      · exact (HK3.out g (.inl hg)).trans (HB1.out.block g (HT.out.lt hg))
  · rw [e]
    have HNO := Lib.hid hno
    clear hno e
    go_enter Tryz.func48, Tryz.ntmps48
    go_wp2
    refine wp_region_held_drew (S := (fun w' => w'.cell? ⟨w.heap.size, 0, none⟩ = some (.pointer (some ⟨T, 0, none⟩)) ∧ w'.cell? ⟨g, 0, none⟩ = some (.string s))) (by kernel_rfl) (by go_keep) (fun hHeld => ?_)
    refine' wpAnyH_take (i := 0) ?hic0 ?hsc0 ?hfc0 ?hrc0 ?hQc0 ?hyc0 ?hSc0 ?hc0
    case hic0 => (simp only [List.getElem?_toArray, List.getElem?_cons_succ, List.getElem?_cons_zero]; exact rfl)
    case hsc0 => kernel_rfl
    case hfc0 => kernel_rfl
    case hrc0 => kernel_rfl
    case hQc0 => exact fun _ _ _ h => h
    case hyc0 => (first | (refine Or.inr ⟨by rfl, ?_⟩; rfl) | (refine Or.inl ⟨by rfl, ?_⟩; (intro w hSw; (try dsimp only at hSw); go_simp); try with_reducible rfl))
    case hSc0 => assumption
    try simp only [Act.put, List.setIfInBounds_toArray, List.set_cons_zero, List.set_cons_succ]
    refine' wpAnyH_take (i := 1) ?hic1 ?hsc1 ?hfc1 ?hrc1 ?hQc1 ?hyc1 ?hSc1 ?hc1
    case hic1 => (simp only [List.getElem?_toArray, List.getElem?_cons_succ, List.getElem?_cons_zero]; exact rfl)
    case hsc1 => kernel_rfl
    case hfc1 => kernel_rfl
    case hrc1 => kernel_rfl
    case hQc1 => exact fun _ _ _ h => h
    case hyc1 => (first | (refine Or.inr ⟨by rfl, ?_⟩; rfl) | (refine Or.inl ⟨by rfl, ?_⟩; (intro w hSw; (try dsimp only at hSw); go_simp); try with_reducible rfl))
    case hSc1 => assumption
    try simp only [Act.put, List.setIfInBounds_toArray, List.set_cons_zero, List.set_cons_succ]
    refine' wpAnyH_take (i := 2) ?hic2 ?hsc2 ?hfc2 ?hrc2 ?hQc2 ?hyc2 ?hSc2 ?hc2
    case hic2 => (simp only [List.getElem?_toArray, List.getElem?_cons_succ, List.getElem?_cons_zero]; exact rfl)
    case hsc2 => kernel_rfl
    case hfc2 => kernel_rfl
    case hrc2 => kernel_rfl
    case hQc2 => exact fun _ _ _ h => h
    case hyc2 => (first | (refine Or.inr ⟨by rfl, ?_⟩; rfl) | (refine Or.inl ⟨by rfl, ?_⟩; (intro w hSw; (try dsimp only at hSw); go_simp); try with_reducible rfl))
    case hSc2 => assumption
    try simp only [Act.put, List.setIfInBounds_toArray, List.set_cons_zero, List.set_cons_succ]
    refine' wpAnyH_take (i := 3) ?hic3 ?hsc3 ?hfc3 ?hrc3 ?hQc3 ?hyc3 ?hSc3 ?hc3
    case hic3 => (simp only [List.getElem?_toArray, List.getElem?_cons_succ, List.getElem?_cons_zero]; exact rfl)
    case hsc3 => kernel_rfl
    case hfc3 => kernel_rfl
    case hrc3 => kernel_rfl
    case hQc3 => exact fun _ _ _ h => h
    case hyc3 => (first | (refine Or.inr ⟨by rfl, ?_⟩; rfl) | (refine Or.inl ⟨by rfl, ?_⟩; (intro w hSw; (try dsimp only at hSw); go_simp); try with_reducible rfl))
    case hSc3 => assumption
    try simp only [Act.put, List.setIfInBounds_toArray, List.set_cons_zero, List.set_cons_succ]
    refine' wpAnyH_take (i := 4) ?hic4 ?hsc4 ?hfc4 ?hrc4 ?hQc4 ?hyc4 ?hSc4 ?hc4
    case hic4 => (simp only [List.getElem?_toArray, List.getElem?_cons_succ, List.getElem?_cons_zero]; exact rfl)
    case hsc4 => kernel_rfl
    case hfc4 => kernel_rfl
    case hrc4 => kernel_rfl
    case hQc4 => exact fun _ _ _ h => h
    case hyc4 => (first | (refine Or.inr ⟨by rfl, ?_⟩; rfl) | (refine Or.inl ⟨by rfl, ?_⟩; (intro w hSw; (try dsimp only at hSw); go_simp); try with_reducible rfl))
    case hSc4 => assumption
    try simp only [Act.put, List.setIfInBounds_toArray, List.set_cons_zero, List.set_cons_succ]
    refine wpAnyH_ready (rs := [5]) (by kernel_rfl) (by simp) ?_
    refine' AllReadyH.cons ?hic5 (fun K hK => ?hc5) AllReadyH.nil
    case hic5 => (simp only [List.getElem?_toArray, List.getElem?_cons_succ, List.getElem?_cons_zero]; exact rfl)
    go_simp
    go_at_call 44
    (with_reducible refine (WNet_bad s _ (HW.out _ ?hbw) hs HNO.out).mono ?_)
    case hbw => exact HBW.out.trans (HBD.out.mono HBW.out.size)
    rintro e w1 ⟨rfl, hb1⟩
    exact ⟨rfl, DoPost.of_below HT.out rfl (HBD.out.trans (hb1.mono HBD.out.size))⟩
set_option maxRecDepth 100000 in
set_option maxHeartbeats 4000000 in
theorem Get_do (h : Tk W T m S w) (hd : DOk m) (hw : HStr W) (hc : w.cell? ⟨g, 0, none⟩ = some (.string s)) (hs : s.size ≤ 2097152) :
    Calls Tryz.prog 50 #[deskV T, .slice (some ⟨g, 0, none⟩) 1 c] w fun e w' => e = endA (getX m (netO s.data.toList)) ∧ Below w.heap.size w w' := by
  have hb0 := (Below.refl w.heap.size w).alloc (Nat.le_refl _) (.cells #[.pointer (some ⟨T, 0, none⟩)] 40)
  have hT1 := h.below hb0
  have hgl := lt_of_cellG hc
  have hng : ¬ w.heap.size = g := by omega
  have HT := Lib.hid h
  have HT1 := Lib.hid hT1
  have HB0 := Lib.hid hb0
  have HDN := Lib.hid hd.num
  have HW : Hid (∀ w' : World, Below W.heap.size W w' → HStr w') := Lib.hid fun w' hb => hw.below hb (Nat.le_refl _)
  have HBW := Lib.hid h.bel
  clear h hT1 hb0 hw hd
  have c0 : (w.alloc (.cells #[.pointer (some ⟨T, 0, none⟩)] 40)).cell? ⟨w.heap.size, 0, none⟩ = some (.pointer (some ⟨T, 0, none⟩)) := row1p (heap_alloc_new _ _)
  have c1 : (w.alloc (.cells #[.pointer (some ⟨T, 0, none⟩)] 40)).cell? ⟨g, 0, none⟩ = some (.string s) := (HB0.out.cell (p := ⟨g, 0, none⟩) hgl).trans hc
  have HBD : Hid (Below w.heap.size w (w.alloc (.cells #[.pointer (some ⟨T, 0, none⟩)] 40)).drew) := Lib.hid (below_drewN HB0.out 1)
  rcases netO_cases s.data.toList with ⟨a, k, ha, hk, hn, hsn, e⟩ | ⟨hno, e⟩
  · rw [e]
    have HN := Lib.hid hn
    have HSN := Lib.hid hsn
    have HI : Hid (is32 (a : Int)) := Lib.hid ⟨by omega, by omega⟩
    rcases getE_net (m := m) hn with ⟨hE, v, hv⟩ | ⟨hE, _⟩
    · have hX : getX m (some ((a : Int), (k : Int))) = .ok (dd (getV m ((a : Int), (k : Int))).toNat) := by unfold getX; simp only; rw [if_pos hE]
      have hvv : getV m ((a : Int), (k : Int)) = v := by unfold getV; rw [if_pos hn, hv]; rfl
      have hvn := HDN.out _ (look_mem hv)
      obtain ⟨q, rfl⟩ := Int.eq_ofNat_of_zero_le hvn.1
      rw [hvv] at hX
      rw [hX]
      have hq : q ≤ 1073741824 := by have := hvn.2; simp only at this; omega
      have HE := Lib.hid hE
      have HV := Lib.hid hvv
      clear hE hn hsn hX e hv hvv hvn
      go_enter Tryz.func50, Tryz.ntmps50
      go_wp2
      refine wp_region_held_drew (S := (fun w' => w'.cell? ⟨w.heap.size, 0, none⟩ = some (.pointer (some ⟨T, 0, none⟩)) ∧ w'.cell? ⟨g, 0, none⟩ = some (.string s))) (by kernel_rfl) (by go_keep) (fun hHeld => ?_)
      refine' wpAnyH_take (i := 0) ?hia0 ?hsa0 ?hfa0 ?hra0 ?hQa0 ?hya0 ?hSa0 ?ha0
      case hia0 => (simp only [List.getElem?_toArray, List.getElem?_cons_succ, List.getElem?_cons_zero]; exact rfl)
      case hsa0 => kernel_rfl
      case hfa0 => kernel_rfl
      case hra0 => kernel_rfl
      case hQa0 => exact fun _ _ _ h => h
      case hya0 => (first | (refine Or.inr ⟨by rfl, ?_⟩; rfl) | (refine Or.inl ⟨by rfl, ?_⟩; (intro w hSw; (try dsimp only at hSw); go_simp); try with_reducible rfl))
      case hSa0 => assumption
      try simp only [Act.put, List.setIfInBounds_toArray, List.set_cons_zero, List.set_cons_succ]
      refine' wpAnyH_take (i := 1) ?hia1 ?hsa1 ?hfa1 ?hra1 ?hQa1 ?hya1 ?hSa1 ?ha1
      case hia1 => (simp only [List.getElem?_toArray, List.getElem?_cons_succ, List.getElem?_cons_zero]; exact rfl)
      case hsa1 => kernel_rfl
      case hfa1 => kernel_rfl
      case hra1 => kernel_rfl
      case hQa1 => exact fun _ _ _ h => h
      case hya1 => (first | (refine Or.inr ⟨by rfl, ?_⟩; rfl) | (refine Or.inl ⟨by rfl, ?_⟩; (intro w hSw; (try dsimp only at hSw); go_simp); try with_reducible rfl))
      case hSa1 => assumption
      try simp only [Act.put, List.setIfInBounds_toArray, List.set_cons_zero, List.set_cons_succ]
      refine' wpAnyH_take (i := 2) ?hia2 ?hsa2 ?hfa2 ?hra2 ?hQa2 ?hya2 ?hSa2 ?ha2
      case hia2 => (simp only [List.getElem?_toArray, List.getElem?_cons_succ, List.getElem?_cons_zero]; exact rfl)
      case hsa2 => kernel_rfl
      case hfa2 => kernel_rfl
      case hra2 => kernel_rfl
      case hQa2 => exact fun _ _ _ h => h
      case hya2 => (first | (refine Or.inr ⟨by rfl, ?_⟩; rfl) | (refine Or.inl ⟨by rfl, ?_⟩; (intro w hSw; (try dsimp only at hSw); go_simp); try with_reducible rfl))
      case hSa2 => assumption
      try simp only [Act.put, List.setIfInBounds_toArray, List.set_cons_zero, List.set_cons_succ]
      refine' wpAnyH_take (i := 3) ?hia3 ?hsa3 ?hfa3 ?hra3 ?hQa3 ?hya3 ?hSa3 ?ha3
      case hia3 => (simp only [List.getElem?_toArray, List.getElem?_cons_succ, List.getElem?_cons_zero]; exact rfl)
      case hsa3 => kernel_rfl
      case hfa3 => kernel_rfl
      case hra3 => kernel_rfl
      case hQa3 => exact fun _ _ _ h => h
      case hya3 => (first | (refine Or.inr ⟨by rfl, ?_⟩; rfl) | (refine Or.inl ⟨by rfl, ?_⟩; (intro w hSw; (try dsimp only at hSw); go_simp); try with_reducible rfl))
      case hSa3 => assumption
      try simp only [Act.put, List.setIfInBounds_toArray, List.set_cons_zero, List.set_cons_succ]
      refine' wpAnyH_take (i := 4) ?hia4 ?hsa4 ?hfa4 ?hra4 ?hQa4 ?hya4 ?hSa4 ?ha4
      case hia4 => (simp only [List.getElem?_toArray, List.getElem?_cons_succ, List.getElem?_cons_zero]; exact rfl)
      case hsa4 => kernel_rfl
      case hfa4 => kernel_rfl
      case hra4 => kernel_rfl
      case hQa4 => exact fun _ _ _ h => h
      case hya4 => (first | (refine Or.inr ⟨by rfl, ?_⟩; rfl) | (refine Or.inl ⟨by rfl, ?_⟩; (intro w hSw; (try dsimp only at hSw); go_simp); try with_reducible rfl))
      case hSa4 => assumption
      try simp only [Act.put, List.setIfInBounds_toArray, List.set_cons_zero, List.set_cons_succ]
      refine wpAnyH_ready (rs := [5]) (by kernel_rfl) (by simp) ?_
      refine' AllReadyH.cons ?hia5 (fun K hK => ?ha5) AllReadyH.nil
      case hia5 => (simp only [List.getElem?_toArray, List.getElem?_cons_succ, List.getElem?_cons_zero]; exact rfl)
      go_simp
      go_at_call 44
      (with_reducible refine (WNet_ok a k s _ (HW.out _ ?hbw) ha HN.out HSN.out).mono ?_)
      case hbw => exact HBW.out.trans (HBD.out.mono HBW.out.size)
      rintro e w1 ⟨rfl, hb1⟩
      have d0 := (hb1.cell (p := ⟨w.heap.size, 0, none⟩) (by simp)).trans c0
      have d1 := (hb1.cell (p := ⟨g, 0, none⟩) (by simp; omega)).trans c1
      have HD1 := Lib.hid d1
      have HD0 := Lib.hid d0
      have HB1 := Lib.hid (HBD.out.trans (hb1.mono HBD.out.size))
      have zw1 := HB1.out.size
      have hW1 : w.heap.size < w1.heap.size := lt_of_cellG d0
      clear hb1
      refine hK.out _ _ (by go_keep) (fun hHeld => ?_)
      clear hK K
      refine wpAnyH_ready (rs := [6]) (by kernel_rfl) (by simp) ?_
      refine' AllReadyH.cons ?hia6 (fun K hK => ?ha6) AllReadyH.nil
      case hia6 => (simp only [List.getElem?_toArray, List.getElem?_cons_succ, List.getElem?_cons_zero]; exact rfl)
      go_simp
      go_at_call 53
      (with_reducible refine (Get_t (HT.out.below HB1.out) HI.out).mono ?_)
      rintro e w2 ⟨rfl, hb2⟩
      have f0 := (hb2.cell (p := ⟨w.heap.size, 0, none⟩) hW1).trans HD0.out
      have f1 := (hb2.cell (p := ⟨g, 0, none⟩) (Nat.lt_trans hgl hW1)).trans HD1.out
      have HB2 := Lib.hid (HB1.out.trans (hb2.mono zw1))
      rw [HE.out, HV.out, errV_z]
      clear hb2
      refine hK.out _ _ (by go_keep) (fun hHeld => ?_)
      clear hK K
      refine' wpAnyH_take (i := 7) ?hia7 ?hsa7 ?hfa7 ?hra7 ?hQa7 ?hya7 ?hSa7 ?ha7
      case hia7 => (simp only [List.getElem?_toArray, List.getElem?_cons_succ, List.getElem?_cons_zero]; exact rfl)
      case hsa7 => kernel_rfl
      case hfa7 => kernel_rfl
      case hra7 => kernel_rfl
      case hQa7 => exact fun _ _ _ h => h
      case hya7 => (first | (refine Or.inr ⟨by rfl, ?_⟩; rfl) | (refine Or.inl ⟨by rfl, ?_⟩; (intro w hSw; (try dsimp only at hSw); go_simp); try with_reducible rfl))
      case hSa7 => assumption
      try simp only [Act.put, List.setIfInBounds_toArray, List.set_cons_zero, List.set_cons_succ]
      refine' wpAnyH_take (i := 8) ?hia8 ?hsa8 ?hfa8 ?hra8 ?hQa8 ?hya8 ?hSa8 ?ha8
      case hia8 => (simp only [List.getElem?_toArray, List.getElem?_cons_succ, List.getElem?_cons_zero]; exact rfl)
      case hsa8 => kernel_rfl
      case hfa8 => kernel_rfl
      case hra8 => kernel_rfl
      case hQa8 => exact fun _ _ _ h => h
      case hya8 => (first | (refine Or.inr ⟨by rfl, ?_⟩; rfl) | (refine Or.inl ⟨by rfl, ?_⟩; (intro w hSw; (try dsimp only at hSw); go_simp); try with_reducible rfl))
      case hSa8 => assumption
      try simp only [Act.put, List.setIfInBounds_toArray, List.set_cons_zero, List.set_cons_succ]
      refine wpAnyH_ready (rs := [9]) (by kernel_rfl) (by simp) ?_
      refine' AllReadyH.cons ?hia9 (fun K hK => ?ha9) AllReadyH.nil
      case hia9 => (simp only [List.getElem?_toArray, List.getElem?_cons_succ, List.getElem?_cons_zero]; exact rfl)
      go_simp
      go_at_call 52
      (with_reducible refine (MustI_ok _ _).mono ?_)
      rintro e w3 ⟨rfl, rfl⟩
      refine hK.out _ _ (by go_keep) (fun hHeld => ?_)
      clear hK K
      refine wpAnyH_ready (rs := [10]) (by kernel_rfl) (by simp) ?_
      refine' AllReadyH.cons ?hia10 (fun K hK => ?ha10) AllReadyH.nil
      case hia10 => (simp only [List.getElem?_toArray, List.getElem?_cons_succ, List.getElem?_cons_zero]; exact rfl)
      go_simp
      go_at_call 51
      (with_reducible refine (Itoa_n q _ (HW.out _ ?hbx) (by omega)).mono ?_)
      case hbx => exact HBW.out.trans (HB2.out.mono HBW.out.size)
      rintro e w4 ⟨rfl, hb4⟩
      have q0 := (hb4.cell (p := ⟨w.heap.size, 0, none⟩) (lt_of_cellG f0)).trans f0
      have q1 := (hb4.cell (p := ⟨g, 0, none⟩) (lt_of_cellG f1)).trans f1
      have HB4 := Lib.hid (HB2.out.trans (hb4.mono HB2.out.size))
      clear hb4
      refine hK.out _ _ (by go_keep) (fun hHeld => ?_)
      clear hK K
      refine' wpAnyH_take (i := 11) ?hia11 ?hsa11 ?hfa11 ?hra11 ?hQa11 ?hya11 ?hSa11 ?ha11
      case hia11 => (simp only [List.getElem?_toArray, List.getElem?_cons_succ, List.getElem?_cons_zero]; exact rfl)
      case hsa11 => kernel_rfl
      case hfa11 => kernel_rfl
      case hra11 => kernel_rfl
      case hQa11 => exact fun _ _ _ h => h
      case hya11 => (first | (refine Or.inr ⟨by rfl, ?_⟩; rfl) | (refine Or.inl ⟨by rfl, ?_⟩; (intro w hSw; (try dsimp only at hSw); go_simp); try with_reducible rfl))
      case hSa11 => assumption
      try simp only [Act.put, List.setIfInBounds_toArray, List.set_cons_zero, List.set_cons_succ]
      refine wpAnyH_done (by kernel_rfl) ?_ _
      go_wp2
      go_ret
      exact ⟨rfl, HB4.out⟩
    · have hX : getX m (some ((a : Int), (k : Int))) = .error 2 := by unfold getX; simp only; rw [if_neg (by rw [hE]; decide), hE]
      rw [hX]
      have HE := Lib.hid hE
      clear hE hn hsn hX e
      go_enter Tryz.func50, Tryz.ntmps50
      go_wp2
      refine wp_region_held_drew (S := (fun w' => w'.cell? ⟨w.heap.size, 0, none⟩ = some (.pointer (some ⟨T, 0, none⟩)) ∧ w'.cell? ⟨g, 0, none⟩ = some (.string s))) (by kernel_rfl) (by go_keep) (fun hHeld => ?_)
      refine' wpAnyH_take (i := 0) ?hib0 ?hsb0 ?hfb0 ?hrb0 ?hQb0 ?hyb0 ?hSb0 ?hb0
      case hib0 => (simp only [List.getElem?_toArray, List.getElem?_cons_succ, List.getElem?_cons_zero]; exact rfl)
      case hsb0 => kernel_rfl
      case hfb0 => kernel_rfl
      case hrb0 => kernel_rfl
      case hQb0 => exact fun _ _ _ h => h
      case hyb0 => (first | (refine Or.inr ⟨by rfl, ?_⟩; rfl) | (refine Or.inl ⟨by rfl, ?_⟩; (intro w hSw; (try dsimp only at hSw); go_simp); try with_reducible rfl))
      case hSb0 => assumption
      try simp only [Act.put, List.setIfInBounds_toArray, List.set_cons_zero, List.set_cons_succ]
      refine' wpAnyH_take (i := 1) ?hib1 ?hsb1 ?hfb1 ?hrb1 ?hQb1 ?hyb1 ?hSb1 ?hb1
      case hib1 => (simp only [List.getElem?_toArray, List.getElem?_cons_succ, List.getElem?_cons_zero]; exact rfl)
      case hsb1 => kernel_rfl
      case hfb1 => kernel_rfl
      case hrb1 => kernel_rfl
      case hQb1 => exact fun _ _ _ h => h
      case hyb1 => (first | (refine Or.inr ⟨by rfl, ?_⟩; rfl) | (refine Or.inl ⟨by rfl, ?_⟩; (intro w hSw; (try dsimp only at hSw); go_simp); try with_reducible rfl))
      case hSb1 => assumption
      try simp only [Act.put, List.setIfInBounds_toArray, List.set_cons_zero, List.set_cons_succ]
      refine' wpAnyH_take (i := 2) ?hib2 ?hsb2 ?hfb2 ?hrb2 ?hQb2 ?hyb2 ?hSb2 ?hb2
      case hib2 => (simp only [List.getElem?_toArray, List.getElem?_cons_succ, List.getElem?_cons_zero]; exact rfl)
      case hsb2 => kernel_rfl
      case hfb2 => kernel_rfl
      case hrb2 => kernel_rfl
      case hQb2 => exact fun _ _ _ h => h
      case hyb2 => (first | (refine Or.inr ⟨by rfl, ?_⟩; rfl) | (refine Or.inl ⟨by rfl, ?_⟩; (intro w hSw; (try dsimp only at hSw); go_simp); try with_reducible rfl))
      case hSb2 => assumption
      try simp only [Act.put, List.setIfInBounds_toArray, List.set_cons_zero, List.set_cons_succ]
      refine' wpAnyH_take (i := 3) ?hib3 ?hsb3 ?hfb3 ?hrb3 ?hQb3 ?hyb3 ?hSb3 ?hb3
      case hib3 => (simp only [List.getElem?_toArray, List.getElem?_cons_succ, List.getElem?_cons_zero]; exact rfl)
      case hsb3 => kernel_rfl
      case hfb3 => kernel_rfl
      case hrb3 => kernel_rfl
      case hQb3 => exact fun _ _ _ h => h
      case hyb3 => (first | (refine Or.inr ⟨by rfl, ?_⟩; rfl) | (refine Or.inl ⟨by rfl, ?_⟩; (intro w hSw; (try dsimp only at hSw); go_simp); try with_reducible rfl))
      case hSb3 => assumption
      try simp only [Act.put, List.setIfInBounds_toArray, List.set_cons_zero, List.set_cons_succ]
      refine' wpAnyH_take (i := 4) ?hib4 ?hsb4 ?hfb4 ?hrb4 ?hQb4 ?hyb4 ?hSb4 ?hb4
      case hib4 => (simp only [List.getElem?_toArray, List.getElem?_cons_succ, List.getElem?_cons_zero]; exact rfl)
      case hsb4 => kernel_rfl
      case hfb4 => kernel_rfl
      case hrb4 => kernel_rfl
      case hQb4 => exact fun _ _ _ h => h
      case hyb4 => (first | (refine Or.inr ⟨by rfl, ?_⟩; rfl) | (refine Or.inl ⟨by rfl, ?_⟩; (intro w hSw; (try dsimp only at hSw); go_simp); try with_reducible rfl))
      case hSb4 => assumption
      try simp only [Act.put, List.setIfInBounds_toArray, List.set_cons_zero, List.set_cons_succ]
      refine wpAnyH_ready (rs := [5]) (by kernel_rfl) (by simp) ?_
      refine' AllReadyH.cons ?hib5 (fun K hK => ?hb5) AllReadyH.nil
      case hib5 => (simp only [List.getElem?_toArray, List.getElem?_cons_succ, List.getElem?_cons_zero]; exact rfl)
      go_simp
      go_at_call 44
      (with_reducible refine (WNet_ok a k s _ (HW.out _ ?hbw2) ha HN.out HSN.out).mono ?_)
      case hbw2 => exact HBW.out.trans (HBD.out.mono HBW.out.size)
      rintro e w1 ⟨rfl, hb1⟩
      have d0 := (hb1.cell (p := ⟨w.heap.size, 0, none⟩) (by simp)).trans c0
      have d1 := (hb1.cell (p := ⟨g, 0, none⟩) (by simp; omega)).trans c1
      have HD1 := Lib.hid d1
      have HD0 := Lib.hid d0
      have HB1 := Lib.hid (HBD.out.trans (hb1.mono HBD.out.size))
      have zw1 := HB1.out.size
      have hW1 : w.heap.size < w1.heap.size := lt_of_cellG d0
      clear hb1
      refine hK.out _ _ (by go_keep) (fun hHeld => ?_)
      clear hK K
      refine wpAnyH_ready (rs := [6]) (by kernel_rfl) (by simp) ?_
      refine' AllReadyH.cons ?hib6 (fun K hK => ?hb6) AllReadyH.nil
      case hib6 => (simp only [List.getElem?_toArray, List.getElem?_cons_succ, List.getElem?_cons_zero]; exact rfl)
      go_simp
      go_at_call 53
      (with_reducible refine (Get_t (HT.out.below HB1.out) HI.out).mono ?_)
      rintro e w2 ⟨rfl, hb2⟩
      have f0 := (hb2.cell (p := ⟨w.heap.size, 0, none⟩) hW1).trans HD0.out
      have f1 := (hb2.cell (p := ⟨g, 0, none⟩) (Nat.lt_trans hgl hW1)).trans HD1.out
      have HB2 := Lib.hid (HB1.out.trans (hb2.mono zw1))
      rw [HE.out, errV_pan (by decide)]
      clear hb2
      refine hK.out _ _ (by go_keep) (fun hHeld => ?_)
      clear hK K
      refine' wpAnyH_take (i := 7) ?hib7 ?hsb7 ?hfb7 ?hrb7 ?hQb7 ?hyb7 ?hSb7 ?hb7
      case hib7 => (simp only [List.getElem?_toArray, List.getElem?_cons_succ, List.getElem?_cons_zero]; exact rfl)
      case hsb7 => kernel_rfl
      case hfb7 => kernel_rfl
      case hrb7 => kernel_rfl
      case hQb7 => exact fun _ _ _ h => h
      case hyb7 => (first | (refine Or.inr ⟨by rfl, ?_⟩; rfl) | (refine Or.inl ⟨by rfl, ?_⟩; (intro w hSw; (try dsimp only at hSw); go_simp); try with_reducible rfl))
      case hSb7 => assumption
      try simp only [Act.put, List.setIfInBounds_toArray, List.set_cons_zero, List.set_cons_succ]
      refine' wpAnyH_take (i := 8) ?hib8 ?hsb8 ?hfb8 ?hrb8 ?hQb8 ?hyb8 ?hSb8 ?hb8
      case hib8 => (simp only [List.getElem?_toArray, List.getElem?_cons_succ, List.getElem?_cons_zero]; exact rfl)
      case hsb8 => kernel_rfl
      case hfb8 => kernel_rfl
      case hrb8 => kernel_rfl
      case hQb8 => exact fun _ _ _ h => h
      case hyb8 => (first | (refine Or.inr ⟨by rfl, ?_⟩; rfl) | (refine Or.inl ⟨by rfl, ?_⟩; (intro w hSw; (try dsimp only at hSw); go_simp); try with_reducible rfl))
      case hSb8 => assumption
      try simp only [Act.put, List.setIfInBounds_toArray, List.set_cons_zero, List.set_cons_succ]
      refine wpAnyH_ready (rs := [9]) (by kernel_rfl) (by simp) ?_
      refine' AllReadyH.cons ?hib9 (fun K hK => ?hb9) AllReadyH.nil
      case hib9 => (simp only [List.getElem?_toArray, List.getElem?_cons_succ, List.getElem?_cons_zero]; exact rfl)
      go_simp
      go_at_call 52
      (with_reducible refine (MustI_bad _ 2 _).mono ?_)
      rintro e w3 ⟨rfl, rfl⟩
      exact ⟨rfl, rfl, HB2.out⟩
  · rw [e]
    have HNO := Lib.hid hno
    clear hno e
    go_enter Tryz.func50, Tryz.ntmps50
    go_wp2
    refine wp_region_held_drew (S := (fun w' => w'.cell? ⟨w.heap.size, 0, none⟩ = some (.pointer (some ⟨T, 0, none⟩)) ∧ w'.cell? ⟨g, 0, none⟩ = some (.string s))) (by kernel_rfl) (by go_keep) (fun hHeld => ?_)
    refine' wpAnyH_take (i := 0) ?hic0 ?hsc0 ?hfc0 ?hrc0 ?hQc0 ?hyc0 ?hSc0 ?hc0
    case hic0 => (simp only [List.getElem?_toArray, List.getElem?_cons_succ, List.getElem?_cons_zero]; exact rfl)
    case hsc0 => kernel_rfl
    case hfc0 => kernel_rfl
    case hrc0 => kernel_rfl
    case hQc0 => exact fun _ _ _ h => h
    case hyc0 => (first | (refine Or.inr ⟨by rfl, ?_⟩; rfl) | (refine Or.inl ⟨by rfl, ?_⟩; (intro w hSw; (try dsimp only at hSw); go_simp); try with_reducible rfl))
    case hSc0 => assumption
    try simp only [Act.put, List.setIfInBounds_toArray, List.set_cons_zero, List.set_cons_succ]
    refine' wpAnyH_take (i := 1) ?hic1 ?hsc1 ?hfc1 ?hrc1 ?hQc1 ?hyc1 ?hSc1 ?hc1
    case hic1 => (simp only [List.getElem?_toArray, List.getElem?_cons_succ, List.getElem?_cons_zero]; exact rfl)
    case hsc1 => kernel_rfl
    case hfc1 => kernel_rfl
    case hrc1 => kernel_rfl
    case hQc1 => exact fun _ _ _ h => h
    case hyc1 => (first | (refine Or.inr ⟨by rfl, ?_⟩; rfl) | (refine Or.inl ⟨by rfl, ?_⟩; (intro w hSw; (try dsimp only at hSw); go_simp); try with_reducible rfl))
    case hSc1 => assumption
    try simp only [Act.put, List.setIfInBounds_toArray, List.set_cons_zero, List.set_cons_succ]
    refine' wpAnyH_take (i := 2) ?hic2 ?hsc2 ?hfc2 ?hrc2 ?hQc2 ?hyc2 ?hSc2 ?hc2
    case hic2 => (simp only [List.getElem?_toArray, List.getElem?_cons_succ, List.getElem?_cons_zero]; exact rfl)
    case hsc2 => kernel_rfl
    case hfc2 => kernel_rfl
    case hrc2 => kernel_rfl
    case hQc2 => exact fun _ _ _ h => h
    case hyc2 => (first | (refine Or.inr ⟨by rfl, ?_⟩; rfl) | (refine Or.inl ⟨by rfl, ?_⟩; (intro w hSw; (try dsimp only at hSw); go_simp); try with_reducible rfl))
    case hSc2 => assumption
    try simp only [Act.put, List.setIfInBounds_toArray, List.set_cons_zero, List.set_cons_succ]
    refine' wpAnyH_take (i := 3) ?hic3 ?hsc3 ?hfc3 ?hrc3 ?hQc3 ?hyc3 ?hSc3 ?hc3
    case hic3 => (simp only [List.getElem?_toArray, List.getElem?_cons_succ, List.getElem?_cons_zero]; exact rfl)
    case hsc3 => kernel_rfl
    case hfc3 => kernel_rfl
    case hrc3 => kernel_rfl
    case hQc3 => exact fun _ _ _ h => h
    case hyc3 => (first | (refine Or.inr ⟨by rfl, ?_⟩; rfl) | (refine Or.inl ⟨by rfl, ?_⟩; (intro w hSw; (try dsimp only at hSw); go_simp); try with_reducible rfl))
    case hSc3 => assumption
    try simp only [Act.put, List.setIfInBounds_toArray, List.set_cons_zero, List.set_cons_succ]
    refine' wpAnyH_take (i := 4) ?hic4 ?hsc4 ?hfc4 ?hrc4 ?hQc4 ?hyc4 ?hSc4 ?hc4
    case hic4 => (simp only [List.getElem?_toArray, List.getElem?_cons_succ, List.getElem?_cons_zero]; exact rfl)
    case hsc4 => kernel_rfl
    case hfc4 => kernel_rfl
    case hrc4 => kernel_rfl
    case hQc4 => exact fun _ _ _ h => h
    case hyc4 => (first | (refine Or.inr ⟨by rfl, ?_⟩; rfl) | (refine Or.inl ⟨by rfl, ?_⟩; (intro w hSw; (try dsimp only at hSw); go_simp); try with_reducible rfl))
    case hSc4 => assumption
    try simp only [Act.put, List.setIfInBounds_toArray, List.set_cons_zero, List.set_cons_succ]
    refine wpAnyH_ready (rs := [5]) (by kernel_rfl) (by simp) ?_
    refine' AllReadyH.cons ?hic5 (fun K hK => ?hc5) AllReadyH.nil
    case hic5 => (simp only [List.getElem?_toArray, List.getElem?_cons_succ, List.getElem?_cons_zero]; exact rfl)
    go_simp
    go_at_call 44
    (with_reducible refine (WNet_bad s _ (HW.out _ ?hbw) hs HNO.out).mono ?_)
    case hbw => exact HBW.out.trans (HBD.out.mono HBW.out.size)
    rintro e w1 ⟨rfl, hb1⟩
    exact ⟨rfl, rfl, HBD.out.trans (hb1.mono HBD.out.size)⟩
end
end Go.Proofs.YtgdlkjahlajcpaaGreatDoor
namespace Go.Proofs.YtgdlkjahlajcpaaGreatDoor
open Go.ChangeShapes Go.WideShapes Go.ChangeAt Go.RowKit
set_option linter.unusedVariables false
set_option linter.unusedSimpArgs false

theorem grow_2 (w : World) (o1 o2 : Obj) : ∃ os, (w.alloc o1).alloc o2 = Sort.grow w os := ⟨_, by rw [Sort.alloc_eq_grow, Sort.alloc_eq_grow, Sort.grow_grow]⟩
theorem grow_t {w w1 w2 : World} (h1 : ∃ os, w1 = Sort.grow w os) (h2 : ∃ os, w2 = Sort.grow w1 os) : ∃ os, w2 = Sort.grow w os := by
  obtain ⟨a, rfl⟩ := h1
  obtain ⟨b, rfl⟩ := h2
  exact ⟨_, Sort.grow_grow _ _ _⟩
theorem grow_b {w w1 : World} (h : ∃ os, w1 = Sort.grow w os) : Below w.heap.size w w1 := by
  obtain ⟨os, rfl⟩ := h
  exact below_regrown w w.drawn os
set_option maxHeartbeats 400000 in
theorem Less_g (a n b m : Int) (w : World) :
    Calls Tryz.prog 112 #[.agg #[.int .u32 a, .int .i64 n], .agg #[.int .u32 b, .int .i64 m]] w fun e w' => e = .returned (.bool (lessB (a, n) (b, m))) ∧ ∃ os, w' = Sort.grow w os := by
  by_cases h1 : a < b
  · have hL : lessB (a, n) (b, m) = true := lessB_iff.2 (.inl h1)
    rw [hL]
    clear hL
    go_enter Tryz.func112, Tryz.ntmps112
    go_wp2
    go_ret
    exact ⟨rfl, grow_2 _ _ _⟩
  · by_cases h2 : a = b
    · subst h2
      have hL : lessB (a, n) (a, m) = decide (n < m) := by unfold lessB; simp
      rw [hL]
      clear hL
      go_enter Tryz.func112, Tryz.ntmps112
      go_wp2
      go_ret
      exact ⟨rfl, grow_2 _ _ _⟩
    · have hL : lessB (a, n) (b, m) = false := by unfold lessB; simp; omega
      have t1 : (a == b) = false := by simpa using h2
      rw [hL]
      clear hL h2
      go_enter Tryz.func112, Tryz.ntmps112
      go_wp2
      go_ret
      exact ⟨rfl, grow_2 _ _ _⟩
def cmpN (x y : Nn) : Int := if lessB x y = true then -1 else if lessB y x = true then 1 else 0
set_option maxHeartbeats 400000 in
theorem Order_g (a n b m : Int) (w : World) :
    Calls Tryz.prog 90 #[.agg #[.int .u32 a, .int .i64 n], .agg #[.int .u32 b, .int .i64 m]] w fun e w' => e = .returned (.int .i64 (cmpN (a, n) (b, m))) ∧ ∃ os, w' = Sort.grow w os := by
  obtain ⟨r, hr⟩ : ∃ r, lessB (a, n) (b, m) = r := ⟨_, rfl⟩
  obtain ⟨q, hq⟩ : ∃ q, lessB (b, m) (a, n) = q := ⟨_, rfl⟩
  have HC : Hid (cmpN (a, n) (b, m) = if r = true then -1 else if q = true then 1 else 0) := Lib.hid (by unfold cmpN; rw [hr, hq])
  have HR := Lib.hid hr
  have HQ := Lib.hid hq
  obtain ⟨C, hC⟩ : ∃ C, cmpN (a, n) (b, m) = C := ⟨_, rfl⟩
  rw [hC] at HC ⊢
  clear hr hq hC
  cases r with
  | true =>
    have HC' : Hid (C = -1) := HC
    clear HC
    go_enter Tryz.func90, Tryz.ntmps90
    go_wp2_with fail
    (with_reducible refine (Less_g a n b m _).mono ?_)
    rw [HR.out]
    rintro e w1 ⟨rfl, hg1⟩
    have HG1 := Lib.hid (grow_t (grow_2 _ _ _) hg1)
    clear hg1
    go_wp2
    go_ret
    exact ⟨by rw [HC'.out]; rfl, HG1.out⟩
  | false =>
    cases q with
    | true =>
      have HC' : Hid (C = 1) := HC
      clear HC
      go_enter Tryz.func90, Tryz.ntmps90
      go_wp2_with fail
      (with_reducible refine (Less_g a n b m _).mono ?_)
      rw [HR.out]
      rintro e w1 ⟨rfl, hg1⟩
      obtain ⟨b0, b1⟩ := box2 (grow_b hg1)
      obtain ⟨c0, c1, _, _⟩ := row2 b0
      obtain ⟨d0, d1, _, _⟩ := row2 b1
      have HG1 := Lib.hid (grow_t (grow_2 _ _ _) hg1)
      clear hg1 b0 b1
      go_wp2_with fail
      (with_reducible refine (Less_g b m a n _).mono ?_)
      rw [HQ.out]
      rintro e w2 ⟨rfl, hg2⟩
      have HG2 := Lib.hid (grow_t HG1.out hg2)
      clear hg2
      go_wp2
      go_ret
      exact ⟨by rw [HC'.out]; rfl, HG2.out⟩
    | false =>
      have HC' : Hid (C = 0) := HC
      clear HC
      go_enter Tryz.func90, Tryz.ntmps90
      go_wp2_with fail
      (with_reducible refine (Less_g a n b m _).mono ?_)
      rw [HR.out]
      rintro e w1 ⟨rfl, hg1⟩
      obtain ⟨b0, b1⟩ := box2 (grow_b hg1)
      obtain ⟨c0, c1, _, _⟩ := row2 b0
      obtain ⟨d0, d1, _, _⟩ := row2 b1
      have HG1 := Lib.hid (grow_t (grow_2 _ _ _) hg1)
      clear hg1 b0 b1
      go_wp2_with fail
      (with_reducible refine (Less_g b m a n _).mono ?_)
      rw [HQ.out]
      rintro e w2 ⟨rfl, hg2⟩
      have HG2 := Lib.hid (grow_t HG1.out hg2)
      clear hg2
      go_wp2
      go_ret
      exact ⟨by rw [HC'.out]; rfl, HG2.out⟩
theorem cmp_lt (x y : Nn) : ltOf cmpN x y = lessB x y := by
  unfold ltOf cmpN
  cases h : lessB x y
  · cases h2 : lessB y x <;> simp
  · simp
theorem cmp_swo : Sort.SWO (ltOf cmpN) where
  irrefl x := by rw [cmp_lt]; exact less_irr x
  trans x y z h1 h2 := by rw [cmp_lt] at *; exact less_trans h1 h2
  ntrans x y z h1 h2 := by
    rw [cmp_lt] at *
    have n1 : ¬ (x.1 < y.1 ∨ x.1 = y.1 ∧ x.2 < y.2) := fun e => by rw [lessB_iff.2 e] at h1; cases h1
    have n2 : ¬ (y.1 < z.1 ∨ y.1 = z.1 ∧ y.2 < z.2) := fun e => by rw [lessB_iff.2 e] at h2; cases h2
    cases h : lessB x z
    · rfl
    · have := lessB_iff.1 h; omega
end Go.Proofs.YtgdlkjahlajcpaaGreatDoor
namespace Go.Proofs.YtgdlkjahlajcpaaGreatDoor
open Go.ChangeShapes Go.WideShapes Go.ChangeAt Go.RowKit
set_option linter.unusedVariables false
theorem takeN_succ {α : Type} {l : List α} {k : Nat} {x : α} (h : l[k]? = some x) : l.take (k + 1) = l.take k ++ [x] := by rw [List.take_add_one, h]; rfl
end Go.Proofs.YtgdlkjahlajcpaaGreatDoor
namespace Go.Proofs.YtgdlkjahlajcpaaGreatDoor
open Go.ChangeShapes Go.WideShapes Go.ChangeAt Go.RowKit Go.Shelf
set_option linter.unusedVariables false
set_option linter.unusedSimpArgs false
attribute [local go_sem] Oper.semAt_some

set_option maxRecDepth 100000 in
set_option maxHeartbeats 2000000 in
theorem Vals1_in (F : Fence) (n : Nat) (h7 : F.fn 111) (hro : F.round = none) (hn : 1 ≤ n) (l Bs n₀ : Nat) (A : Option Addr) (len cap : Nat) (zs : List (Int × Int)) (J Jx : List (Int × Int) → World → Prop)
    (hY : ∀ pre x W, J pre W → pre.length < zs.length → YieldAt F (n - 1) Tryz.prog l #[.agg #[.int .u32 x.1, .int .i64 x.2]] W fun e W' =>
      (e = .returned (.bool true) ∧ J (pre ++ [x]) W' ∧ Below n₀ W W') ∨ (e = .returned (.bool false) ∧ Jx (pre ++ [x]) W'))
    (W : World) (hJ : AbidesFrom W.heap.size J) (hBs : W.cell? ⟨Bs, 0, none⟩ = some (.slice A len cap)) (hn₀ : n₀ ≤ W.heap.size) (hr : rdNets W (· < n₀) [.slice A len cap] zs) (h0 : J [] W) :
    CallsIn F n Tryz.prog 111 #[.func (.yield l) #[] #[], .pointer (some ⟨Bs, 0, none⟩)] W fun e W' => (∃ v, e = .returned v) ∧
      ((∃ ys, ys = zs ∧ J ys W') ∨ (∃ pre, pre <+: zs ∧ Jx pre W')) := by
  obtain ⟨hl, hlc, hcm⟩ := RdSlice.len hr
  have hlm : len ≤ 9223372036854775807 := by unfold maxLen at hcm; omega
  have HR := Lib.hid hr
  have HL := Lib.hid hl
  have HN0 := Lib.hid hn₀
  clear hr hl hcm hlc hn₀
  refine callsIn_of_wp Tryz.func111 rfl h7 ?_ hro
  simp only [Tryz.ntmps111, List.size_toArray, List.length_cons, List.length_nil, Nat.reduceAdd, Nat.reduceSub, Array.replicate_succ, Array.replicate_zero, List.push_toArray, List.append_toArray, List.nil_append, List.cons_append]
  gi_wp2
  gi_loopw [4, 7] (fun _ i wr => ∃ k : Nat, k ≤ len ∧ i = .int .i64 k ∧ J (zs.take k) wr ∧ Below n₀ W wr)
    (fun _ i _ => len - (intOf i).toNat)
  case atStart => exact ⟨0, Nat.zero_le _, rfl, by simpa using h0, Below.refl _ _⟩
  case round =>
    obtain ⟨k, hk, rfl, hJs, hnx⟩ := hrel
    by_cases hlt : k < len
    · obtain ⟨b, o, ⟨x, x'⟩, rfl, hb, HX, _, c0, c1⟩ := RdSlice.atN HR.out hlt
      have d0 := (hnx.cell (p := ⟨b, o + k * 2, none⟩) hb).trans c0
      have d1 := (hnx.cell (p := ⟨b, o + k * 2 + 1, none⟩) hb).trans c1
      have i0 : (0 : Int) ≤ (k : Int) := by omega
      have i1 : (k : Int) < (len : Int) := by omega
      have HS : Hid (zs.take (k + 1) = zs.take k ++ [(x, x')]) := Lib.hid (takeN_succ HX.out)
      have HB2 : Hid (Below n₀ wr (wr.alloc (.cells #[.int .u32 x, .int .i64 x'] 47))) := Lib.hid ((Below.refl n₀ wr).alloc (Nat.le_trans HN0.out hnx.size) _)
      have hJ2 : J (zs.take k) (wr.alloc (.cells #[.int .u32 x, .int .i64 x'] 47)) := hJ _ _ _ none hJs (World.grownBy_alloc wr _ none) (fun r e => by cases e)
      obtain ⟨fn, tmps, assign, body, hy, hR⟩ := hY _ (x, x') _ hJ2 (by rw [List.length_take, HL.out] at *; have := HL.out; omega)
      dsimp only at hy
      clear c0 c1
      gi_wp2
      refine hR.mono ?_
      rintro e W3 (⟨rfl, hJ3, hk3⟩ | ⟨rfl, hJx3⟩)
      · gi_wp2
        go_roundw
        case rel => exact ⟨k + 1, by omega, by go_num, by rw [HS.out]; exact hJ3, hnx.trans (HB2.out.trans hk3)⟩
        case measure => simp [intOf]; omega
      · gi_wp2
        refine bodyPost_ret (results_none rfl _ _ _) rfl ?_
        exact ⟨⟨_, rfl⟩, .inr ⟨_, by rw [← HS.out]; exact List.take_prefix _ _, hJx3⟩⟩
    · obtain rfl : k = len := by omega
      have HT : Hid (zs.take k = zs) := Lib.hid (List.take_of_length_le (by rw [HL.out]; exact Nat.le_refl _))
      gi_wp2
      go_end0
      exact ⟨⟨_, rfl⟩, .inl ⟨_, HT.out, hJs⟩⟩

theorem Vals_stops (F : Fence) (n : Nat) (h7 : F.fn 111) (hro : F.round = none) (hn : 1 ≤ n) (Bs n₀ : Nat) (A : Option Addr) (len cap : Nat) (zs : List (Int × Int)) (w : World) (hBs : Bs < w.heap.size) (hn₀ : n₀ ≤ w.heap.size)
    (hc : w.cell? ⟨Bs, 0, none⟩ = some (.slice A len cap)) (hr : rdNets w (· < n₀) [.slice A len cap] zs) :
    SeqStopsK F n Tryz.prog 111 #[.pointer (some ⟨Bs, 0, none⟩)] (fun x : Int × Int => #[Value.agg #[.int .u32 x.1, .int .i64 x.2]]) (Below n₀) (fun ys => ys = zs) (fun pre => pre <+: zs) zs.length w := fun l J Jx W hW hJ _ hY h0 =>
  Vals1_in F n h7 hro hn l Bs n₀ A len cap zs J Jx hY W hJ ((hW.cell (p := ⟨Bs, 0, none⟩) hBs).trans hc) (Nat.le_trans hn₀ hW.size)
    (RdLaw.keep hr fun p hp => hW.cell (Nat.lt_of_lt_of_le hp hn₀)) h0

theorem cells2_new (w : World) (x : Int × Int) (t : TypeId) : ∀ j u, (nC x)[j]? = some u → (w.alloc (.cells #[.int .u32 x.1, .int .i64 x.2] t)).cell? ((⟨w.heap.size, 0, none⟩ : Addr).add j) = some u := by
  intro j u hu
  rw [addr_add, cell_of_row _ w.heap.size _ _ t (0, 0) (heap_alloc_new w _)]
  simpa [nC] using hu

set_option maxRecDepth 100000 in
set_option maxHeartbeats 2000000 in
theorem AppendSeq_in (F : Fence) (n : Nat) (hA : F.fn 129) (hV : F.fn 111) (hro : F.round = none) (hn : 3 ≤ n) (Bs : Nat) (A : Option Addr) (len cap : Nat) (zs : List (Int × Int)) (w : World) (hz : zs.length ≤ 8796093022000) (hBs : Bs < w.heap.size)
    (hc : w.cell? ⟨Bs, 0, none⟩ = some (.slice A len cap)) (hr : rdNets w (· < w.heap.size) [.slice A len cap] zs) :
    CallsIn F n Tryz.prog 129 #[.slice none 0 0, .func (.func 111) #[] #[.pointer (some ⟨Bs, 0, none⟩)]] w fun e W' =>
      ∃ v, e = .returned v ∧ W'.ownsRow w.heap.size 47 2 v zs.length (zs.flatMap nC) ∧ Below w.heap.size w W' := by
  have h1 : 1 ≤ n := by omega
  obtain ⟨i0, hi, hz0, hz1, hz2⟩ := info_parts net_info
  refine callsIn_of_wp_marks Tryz.func129 rfl hA ?_ hro
  simp only [Tryz.ntmps129, List.size_toArray, List.length_cons, List.length_nil, Nat.reduceAdd, Nat.reduceSub, Array.replicate_succ, Array.replicate_zero, List.push_toArray, List.append_toArray, List.nil_append, List.cons_append]
  gi_wp2
  have bO := Boxed.new w 26 (.slice none 0 0)
  have hB0 : Below w.heap.size w (w.alloc (.cells #[.slice none 0 0] 26)) := (Below.refl _ w).alloc (Nat.le_refl _) _
  obtain ⟨W0, hW0⟩ : ∃ W0, w.alloc (.cells #[.slice none 0 0] 26) = W0 := ⟨_, rfl⟩
  have hsz : W0.heap.size = w.heap.size + 1 := by rw [← hW0]; simp
  rw [hW0] at bO hB0 ⊢
  clear hW0
  refine wpIn_rangeFunc_ownH hro h1 (gf := 111) (lb := #[.pointer (some ⟨Bs, 0, none⟩)]) rfl hV (enters_of Tryz.func111 (by kernel_rfl) rfl)
    (Vals_stops F (n - 1) hV hro (by omega) Bs w.heap.size A len cap zs W0 (by omega) (by omega) ((hB0.cell (p := ⟨Bs, 0, none⟩) hBs).trans hc) (RdLaw.keep hr fun p hp => hB0.cell hp)) belowK_t (belowK_b (by omega)) (Below.refl _ _) (fun _ => rfl)
    (fun (pre : List (Int × Int)) W => (∃ v, Boxed W w.heap.size 26 v ∧ W.ownsRow w.heap.size 47 2 v pre.length (pre.flatMap nC) ∧ True) ∧ Below w.heap.size w W)
    (fun _ _ _ => False)
    (OwnFrom.and (Own.from (holdsRow_own w.heap.size w.heap.size 26 47 2 (fun pre : List (Int × Int) => pre.length) (fun pre : List (Int × Int) => pre.flatMap nC) (fun _ _ => True)) _) (ownFrom_below (Nat.le_refl _) (by omega)))
    (fun _ _ _ _ _ hs _ _ => hs)
    ⟨⟨_, bO, World.ownsRow_nil _ _ _ _, trivial⟩, hB0⟩
    (fun x a' W => ∃ Bx, w.heap.size < Bx ∧ W.heap[Bx]? = some (.cells #[.int .u32 x.1, .int .i64 x.2] 47 (0, 0)) ∧ a' = { tmps := #[.slice none 0 0, .func (.func 111) #[] #[.pointer (some ⟨Bs, 0, none⟩)], .pointer (some ⟨w.heap.size, 0, none⟩), undef, .slice none 0 0, .pointer (some ⟨Bx, 0, none⟩), .func (.func 111) #[] #[.pointer (some ⟨Bs, 0, none⟩)], .agg #[.int .u32 x.1, .int .i64 x.2], undef, undef, undef, undef, undef], defers := [] })
    (fun x a' _ X Y row hs hg hr => by
      obtain ⟨Bx, h1, h2, h3⟩ := hs
      refine ⟨Bx, h1, (hg.block Bx (size_of_block h2) (fun e => ?_)).trans h2, h3⟩
      obtain ⟨_, o, ho, hno⟩ := hr Bx e.symm
      rw [h2] at ho; cases ho; cases hno)
    ?assign ?body ?done ?stop
  case assign =>
    rintro l pre ⟨x, x'⟩ W K ⟨⟨v, hv, hrow, -⟩, hB⟩ hK
    have hlt := hv.lt
    gi_wp2
    exact hK _ _ ((KeepsOthers.alloc _ _).from _) ((Below.refl _ W).alloc hB.size _) ⟨⟨v, hv.alloc _, hrow.alloc _, trivial⟩, hB.alloc hB.size _⟩ ⟨W.heap.size, hlt, heap_alloc_new W _, rfl⟩
  case body =>
    rintro l pre ⟨x, x'⟩ a' W hl ⟨r, hr⟩ ⟨⟨v, hv, hrow, -⟩, hB⟩ ⟨Bx, hBx, hX, rfl⟩ hlt
    have hc := hv.cell
    obtain ⟨c0, c1, _, _⟩ := row2 hX
    gi_wp2_with (gi_at_builtin; refine wpListIn_append_own _ rfl _ _ 26 rfl w.heap.size 47 i0 (.agg #[.int .u32 0, .int .i64 0]) 2 16 Tryz.underlying26 hi hz0 hz1 hz2 rfl (by decide) _ _ _ rfl (hrow.alloc _) ⟨W.heap.size, 0, none⟩ 1 1 (nC (x, x')) rfl rfl (cells2_new W (x, x') _) (one_nC (x, x')) (by simp only [maxLen]; omega) (by omega) (by have := hB.size; simp; omega) ?_; intro v' w1 hown' hgrow _; obtain ⟨g', cap', rfl⟩ := ownsRow_succ hown'; obtain ⟨hv1, hv2, hr2, hk2, hb2⟩ := hv.appended (by decide) hrow hB.size (Nat.le_refl _) hown' hgrow; have hc1 := hv1.cell; have hf1 := hv1.frozen)
    have e1 : (pre ++ [(x, x')]).length = pre.length + 1 := by simp
    have e2 : (pre ++ [(x, x')]).flatMap nC = pre.flatMap nC ++ nC (x, x') := by simp
    exact ⟨hk2.from _, hb2, ⟨_, hv2, by rw [e1, e2]; exact hr2⟩, hB.trans hb2⟩
  case done =>
    rintro D ys W hD rfl ⟨⟨v, hv, hrow, -⟩, hB⟩ hK
    have hc := hv.cell
    gi_wp2
    refine ⟨by simp, .inl ⟨_, _, rfl, run_takeDeferred hK, ?_⟩⟩
    exact ⟨_, results_tmp rfl _ _ _, v, rfl, ownsRow_putObj hrow _ hK rfl, hB.trans (belowK_b (w := w) (Nat.le_refl _) W D _ _ (by omega) hK rfl rfl)⟩
  case stop =>
    rintro D c pre W _ _ h _
    exact h.elim

theorem AppendSeq_any {Bs : Nat} {A : Option Addr} {len cap : Nat} {zs : List (Int × Int)} {w : World} (hz : zs.length ≤ 8796093022000) (hBs : Bs < w.heap.size)
    (hc : w.cell? ⟨Bs, 0, none⟩ = some (.slice A len cap)) (hr : R1 rdNets w (.slice A len cap) zs) :
    Calls Tryz.prog 129 #[.slice none 0 0, .func (.func 111) #[] #[.pointer (some ⟨Bs, 0, none⟩)]] w fun e W' =>
      ∃ v, e = .returned v ∧ W'.ownsRow w.heap.size 47 2 v zs.length (zs.flatMap nC) ∧ Below w.heap.size w W' :=
  callsIn_wide.1 (AppendSeq_in Fence.wide 5 trivial trivial rfl (by omega) Bs A len cap zs w hz hBs hc hr)
theorem wf_of_rd {w : World} {ok : Nat → Prop} {v : Value} {l : List (Int × Int)} (h : rdNets w ok [v] l) : ∀ x ∈ l, wfN x := by
  obtain ⟨A, c, e, _⟩ := id h
  simp only [List.cons.injEq, and_true] at e
  subst e
  intro x hx
  obtain ⟨k, hk, rfl⟩ := List.getElem_of_mem hx
  obtain ⟨_, _, y, _, _, HX, hw, _⟩ := RdSlice.atN h hk
  have := HX.out
  rw [List.getElem?_eq_getElem hk] at this
  simp only [Option.some.injEq] at this
  rw [this]; exact hw
set_option maxHeartbeats 400000 in
theorem Collect_any {Bs : Nat} {A : Option Addr} {len cap : Nat} {zs : List (Int × Int)} {w : World} (hz : zs.length ≤ 8796093022000) (hBs : Bs < w.heap.size)
    (hc : w.cell? ⟨Bs, 0, none⟩ = some (.slice A len cap)) (hr : R1 rdNets w (.slice A len cap) zs) :
    Calls Tryz.prog 109 #[.func (.func 111) #[] #[.pointer (some ⟨Bs, 0, none⟩)]] w fun e W' =>
      ∃ v, e = .returned v ∧ OwnN W' w.heap.size v zs ∧ Below w.heap.size w W' := by
  have HW := Lib.hid (wf_of_rd hr)
  have HA := Lib.hid (AppendSeq_any hz hBs hc hr)
  clear hz hBs hc hr
  go_enter Tryz.func109, Tryz.ntmps109
  go_wp2_with fail
  (with_reducible refine HA.out.mono ?_)
  rintro e w1 ⟨v, rfl, ho, hb⟩
  obtain ⟨A1, c1, rfl⟩ := own_form ho
  have HO := Lib.hid ho
  have HB := Lib.hid hb
  clear ho hb
  go_wp2
  go_ret
  exact ⟨_, rfl, ⟨HO.out, HW.out⟩, HB.out⟩
set_option maxHeartbeats 400000 in
theorem Values_any (A : Option Addr) (len cap : Nat) (w : World) :
    Calls Tryz.prog 89 #[.slice A len cap] w fun e w' => e = .returned (.func (.func 111) #[] #[.pointer (some ⟨w.heap.size, 0, none⟩)]) ∧ w' = w.alloc (.cells #[.slice A len cap] 26) := by
  go_enter Tryz.func89, Tryz.ntmps89
  go_wp2
  go_ret
  exact ⟨rfl, rfl⟩
end Go.Proofs.YtgdlkjahlajcpaaGreatDoor
