/- What the desk's forms do: put. -/
import Derived.Test.YtgdlkjahlajcpaaGreatDoorAI
import Derived.Deep.RegionHeld3
import Derived.BigQuiet
namespace Go.Proofs.YtgdlkjahlajcpaaGreatDoor
open Go.ChangeShapes Go.WideShapes Go.ChangeAt Go.RowKit
set_option linter.unusedVariables false
set_option linter.unusedSimpArgs false
section
variable {W w : World} {T g c : Nat} {m : Tab} {S : Nat → Prop} {s0 s1 : ByteArray} {v : Value}
set_option maxRecDepth 100000 in
set_option maxHeartbeats 16000000 in
theorem PutD_ok (h : Tk W T m S w) (hw : HStr W) (hc0 : w.cell? ⟨g, 0, none⟩ = some (.string s0)) (hc1 : w.cell? ⟨g, 1, none⟩ = some (.string s1)) (hs0 : s0.size ≤ 2097152) (hs1 : s1.size ≤ 2097152) {a k : Nat} (ha : a < 4294967296) (hnf : netF ((a : Int), (k : Int)) = 0) (hsn : s0.data.toList = netT a k) {n : Nat} (hn : n ≤ 1073741824) (hv : s1.data.toList = dd n) (hE : putE m ((a : Int), (k : Int)) = 0) :
    Calls Tryz.prog 43 #[deskV T, .slice (some ⟨g, 0, none⟩) 2 c] w (DoPost W T S w (putX m (netO s0.data.toList) (numO s1.data.toList))) := by
  have hX : putX m (netO s0.data.toList) (numO s1.data.toList) = (.ok okT, putT m ((a : Int), (k : Int)) (n : Int)) := by rw [netO_yes ha hnf hsn, numO_yes hn hv]; unfold putX; simp only; rw [if_pos hE]
  rw [hX]
  have HN := Lib.hid hnf
  have HSN := Lib.hid hsn
  have HI : Hid (is32 (a : Int)) := Lib.hid ⟨by omega, by omega⟩
  clear hX hnf hsn
  have HV := Lib.hid hv
  have HE := Lib.hid hE
  have HVW : Hid ((Lit.int .i64 (n : Int)).wf = true) := Lib.hid (WalkArith.wf_i64 (by omega))
  clear hv hE
  have hgl := lt_of_cellG hc0
  have hb0 := (Below.refl w.heap.size w).alloc (Nat.le_refl _) (.cells #[.pointer (some ⟨T, 0, none⟩)] 40)
  have hT1 : ∀ w' : World, Below (w.alloc (.cells #[.pointer (some ⟨T, 0, none⟩)] 40)).heap.size (w.alloc (.cells #[.pointer (some ⟨T, 0, none⟩)] 40)) w' → Tk W T m (fun g => S g ∨ w.heap.size ≤ g ∧ g < (w.alloc (.cells #[.pointer (some ⟨T, 0, none⟩)] 40)).heap.size) w' := fun w' hb => (h.more hb0).below hb
  have hW1 : ∀ w' : World, Below (w.alloc (.cells #[.pointer (some ⟨T, 0, none⟩)] 40)).heap.size (w.alloc (.cells #[.pointer (some ⟨T, 0, none⟩)] 40)) w' → HStr w' := fun w' hb => hw.below ((h.more hb0).below hb).bel (Nat.le_refl _)
  have c0 : (w.alloc (.cells #[.pointer (some ⟨T, 0, none⟩)] 40)).cell? ⟨w.heap.size, 0, none⟩ = some (.pointer (some ⟨T, 0, none⟩)) := row1p (heap_alloc_new _ _)
  have d0 : (w.alloc (.cells #[.pointer (some ⟨T, 0, none⟩)] 40)).cell? ⟨g, 0, none⟩ = some (.string s0) := (hb0.cell (p := ⟨g, 0, none⟩) hgl).trans hc0
  have d1 : (w.alloc (.cells #[.pointer (some ⟨T, 0, none⟩)] 40)).cell? ⟨g, 1, none⟩ = some (.string s1) := (hb0.cell (p := ⟨g, 1, none⟩) hgl).trans hc1
  have hB1 : w.heap.size < (w.alloc (.cells #[.pointer (some ⟨T, 0, none⟩)] 40)).heap.size := by simp
  have hgl1 : g < (w.alloc (.cells #[.pointer (some ⟨T, 0, none⟩)] 40)).heap.size := by simp; omega
  have HTK := Lib.hid hT1
  have HW := Lib.hid hW1
  have C0 := Lib.hid c0
  have HB0 := Lib.hid hb0
  have HT := Lib.hid h
  have D0 := Lib.hid d0
  have D1 := Lib.hid d1
  clear hT1 hW1 hb0 h hw c0 d0 hc0 d1 hc1
  go_enter Tryz.func43, Tryz.ntmps43
  go_wp2
  generalize hW1e : w.alloc (.cells #[.pointer (some ⟨T, 0, none⟩)] 40) = W1 at *
  have hbd : Below W1.heap.size W1 W1.drew := below_drewN (Below.refl _ _) 1
  have x0 : W1.drew.cell? ⟨w.heap.size, 0, none⟩ = some (.pointer (some ⟨T, 0, none⟩)) := C0.out
  have y0 : W1.drew.cell? ⟨g, 0, none⟩ = some (.string s0) := D0.out
  have y1 : W1.drew.cell? ⟨g, 1, none⟩ = some (.string s1) := D1.out
  refine wp_region_held_drew (S := (fun w' => w'.cell? ⟨w.heap.size, 0, none⟩ = some (.pointer (some ⟨T, 0, none⟩)) ∧ w'.cell? ⟨g, 0, none⟩ = some (.string s0) ∧ w'.cell? ⟨g, 1, none⟩ = some (.string s1))) (by kernel_rfl) (by first | exact ⟨x0, y0, y1⟩ | exact ⟨x0, y0⟩) (fun hHeld => ?_)
  generalize hud : W1.drew = u1 at *
  have HBu1 := Lib.hid hbd
  clear hud hbd hW1e x0 y0 y1
  refine' wpAnyH_take (i := 0) ?hit2 ?hst2 ?hft2 ?hrt2 ?hQt2 ?hyt2 ?hSt2 ?ht2
  case hit2 => (simp only [List.getElem?_toArray, List.getElem?_cons_succ, List.getElem?_cons_zero]; exact rfl)
  case hst2 => kernel_rfl
  case hft2 => kernel_rfl
  case hrt2 => kernel_rfl
  case hQt2 => exact fun _ _ _ h => h
  case hyt2 => (first | (refine Or.inr ⟨by rfl, ?_⟩; rfl) | (refine Or.inl ⟨by rfl, ?_⟩; (intro w hSw; (try dsimp only at hSw); go_simp); try with_reducible rfl))
  case hSt2 => assumption
  try simp only [Act.put, List.setIfInBounds_toArray, List.set_cons_zero, List.set_cons_succ]
  refine' wpAnyH_take (i := 1) ?hit3 ?hst3 ?hft3 ?hrt3 ?hQt3 ?hyt3 ?hSt3 ?ht3
  case hit3 => (simp only [List.getElem?_toArray, List.getElem?_cons_succ, List.getElem?_cons_zero]; exact rfl)
  case hst3 => kernel_rfl
  case hft3 => kernel_rfl
  case hrt3 => kernel_rfl
  case hQt3 => exact fun _ _ _ h => h
  case hyt3 => (first | (refine Or.inr ⟨by rfl, ?_⟩; rfl) | (refine Or.inl ⟨by rfl, ?_⟩; (intro w hSw; (try dsimp only at hSw); go_simp); try with_reducible rfl))
  case hSt3 => assumption
  try simp only [Act.put, List.setIfInBounds_toArray, List.set_cons_zero, List.set_cons_succ]
  refine' wpAnyH_take (i := 2) ?hit4 ?hst4 ?hft4 ?hrt4 ?hQt4 ?hyt4 ?hSt4 ?ht4
  case hit4 => (simp only [List.getElem?_toArray, List.getElem?_cons_succ, List.getElem?_cons_zero]; exact rfl)
  case hst4 => kernel_rfl
  case hft4 => kernel_rfl
  case hrt4 => kernel_rfl
  case hQt4 => exact fun _ _ _ h => h
  case hyt4 => (first | (refine Or.inr ⟨by rfl, ?_⟩; rfl) | (refine Or.inl ⟨by rfl, ?_⟩; (intro w hSw; (try dsimp only at hSw); go_simp); try with_reducible rfl))
  case hSt4 => assumption
  try simp only [Act.put, List.setIfInBounds_toArray, List.set_cons_zero, List.set_cons_succ]
  refine' wpAnyH_take (i := 4) ?hit5 ?hst5 ?hft5 ?hrt5 ?hQt5 ?hyt5 ?hSt5 ?ht5
  case hit5 => (simp only [List.getElem?_toArray, List.getElem?_cons_succ, List.getElem?_cons_zero]; exact rfl)
  case hst5 => kernel_rfl
  case hft5 => kernel_rfl
  case hrt5 => kernel_rfl
  case hQt5 => exact fun _ _ _ h => h
  case hyt5 => (first | (refine Or.inr ⟨by rfl, ?_⟩; rfl) | (refine Or.inl ⟨by rfl, ?_⟩; (intro w hSw; (try dsimp only at hSw); go_simp); try with_reducible rfl))
  case hSt5 => assumption
  try simp only [Act.put, List.setIfInBounds_toArray, List.set_cons_zero, List.set_cons_succ]
  refine' wpAnyH_take (i := 5) ?hit6 ?hst6 ?hft6 ?hrt6 ?hQt6 ?hyt6 ?hSt6 ?ht6
  case hit6 => (simp only [List.getElem?_toArray, List.getElem?_cons_succ, List.getElem?_cons_zero]; exact rfl)
  case hst6 => kernel_rfl
  case hft6 => kernel_rfl
  case hrt6 => kernel_rfl
  case hQt6 => exact fun _ _ _ h => h
  case hyt6 => (first | (refine Or.inr ⟨by rfl, ?_⟩; rfl) | (refine Or.inl ⟨by rfl, ?_⟩; (intro w hSw; (try dsimp only at hSw); go_simp); try with_reducible rfl))
  case hSt6 => assumption
  try simp only [Act.put, List.setIfInBounds_toArray, List.set_cons_zero, List.set_cons_succ]
  refine' wpAnyH_take (i := 6) ?hit7 ?hst7 ?hft7 ?hrt7 ?hQt7 ?hyt7 ?hSt7 ?ht7
  case hit7 => (simp only [List.getElem?_toArray, List.getElem?_cons_succ, List.getElem?_cons_zero]; exact rfl)
  case hst7 => kernel_rfl
  case hft7 => kernel_rfl
  case hrt7 => kernel_rfl
  case hQt7 => exact fun _ _ _ h => h
  case hyt7 => (first | (refine Or.inr ⟨by rfl, ?_⟩; rfl) | (refine Or.inl ⟨by rfl, ?_⟩; (intro w hSw; (try dsimp only at hSw); go_simp); try with_reducible rfl))
  case hSt7 => assumption
  try simp only [Act.put, List.setIfInBounds_toArray, List.set_cons_zero, List.set_cons_succ]
  refine wpAnyH_ready (rs := [3, 8]) (by kernel_rfl) (by simp) ?_
  refine' AllReadyH.cons ?hi8 (fun K hK => ?hg8) (AllReadyH.cons ?hi9 (fun K hK => ?hg9) AllReadyH.nil)
  case hi8 => (simp only [List.getElem?_toArray, List.getElem?_cons_succ, List.getElem?_cons_zero]; exact rfl)
  case hi9 => (simp only [List.getElem?_toArray, List.getElem?_cons_succ, List.getElem?_cons_zero]; exact rfl)
  case hg8 =>
    go_simp
    go_at_call 44
    (with_reducible refine (WNet_ok a k s0 _ (HW.out _ ?q11) ha HN.out HSN.out).mono ?_)
    case q11 => exact HBu1.out
    rintro e b10 ⟨rfl, hb⟩
    have HBb10 := Lib.hid (HBu1.out.trans (hb.mono HBu1.out.size))
    clear hb
    have x0 := (HBb10.out.cell (p := ⟨w.heap.size, 0, none⟩) hB1).trans C0.out
    have y0 := (HBb10.out.cell (p := ⟨g, 0, none⟩) hgl1).trans D0.out
    have y1 := (HBb10.out.cell (p := ⟨g, 1, none⟩) hgl1).trans D1.out
    refine hK.out _ _ (by go_keep) (fun hHeld => ?_)
    clear hK K x0 y0 y1
    refine wpAnyH_ready (rs := [7, 8]) (by kernel_rfl) (by simp) ?_
    refine' AllReadyH.cons ?hi12 (fun K hK => ?hg12) (AllReadyH.cons ?hi13 (fun K hK => ?hg13) AllReadyH.nil)
    case hi12 => (simp only [List.getElem?_toArray, List.getElem?_cons_succ, List.getElem?_cons_zero]; exact rfl)
    case hi13 => (simp only [List.getElem?_toArray, List.getElem?_cons_succ, List.getElem?_cons_zero]; exact rfl)
    case hg12 =>
      go_simp
      go_at_call 45
      (with_reducible refine (WNum_ok n s1 _ (HW.out _ ?q15) hn HV.out).mono ?_)
      case q15 => exact HBb10.out
      rintro e b14 ⟨rfl, hb⟩
      have HBb14 := Lib.hid (HBb10.out.trans (hb.mono HBb10.out.size))
      clear hb
      have x0 := (HBb14.out.cell (p := ⟨w.heap.size, 0, none⟩) hB1).trans C0.out
      have y0 := (HBb14.out.cell (p := ⟨g, 0, none⟩) hgl1).trans D0.out
      have y1 := (HBb14.out.cell (p := ⟨g, 1, none⟩) hgl1).trans D1.out
      refine hK.out _ _ (by go_keep) (fun hHeld => ?_)
      clear hK K x0 y0 y1
      refine wpAnyH_ready (rs := [8]) (by kernel_rfl) (by simp) ?_
      refine' AllReadyH.cons ?hi16 (fun K hK => ?hg16) AllReadyH.nil
      case hi16 => (simp only [List.getElem?_toArray, List.getElem?_cons_succ, List.getElem?_cons_zero]; exact rfl)
      case hg16 =>
        go_simp
        have hb : Below b14.heap.size b14 (b14.alloc (.cells #[.int .u32 0, .int .i64 0] 47)) := (Below.refl _ _).alloc (Nat.le_refl _) _
        have hnew := heap_alloc_new b14 (.cells #[.int .u32 0, .int .i64 0] 47)
        obtain ⟨G8_a17, hG⟩ : ∃ G, b14.heap.size = G := ⟨_, rfl⟩
        have hGlt : W1.heap.size ≤ G8_a17 := by rw [← hG]; exact HBb14.out.size
        rw [hG] at hnew
        (try rw [hG])
        generalize hwn : b14.alloc (.cells #[.int .u32 0, .int .i64 0] 47) = a17 at *
        have HGG8_a17_a17 := Lib.hid hnew
        have HBa17 := Lib.hid (HBb14.out.trans (hb.mono HBb14.out.size))
        clear hb
        have hggG8_a17 : ¬ G8_a17 = g := by omega
        have hgbG8_a17 : ¬ G8_a17 = w.heap.size := by omega
        have hghG8_a17 : ¬ g = G8_a17 := by omega
        have hgkG8_a17 : ¬ w.heap.size = G8_a17 := by omega
        clear hwn hnew hG
        have x0 := (HBa17.out.cell (p := ⟨w.heap.size, 0, none⟩) hB1).trans C0.out
        have y0 := (HBa17.out.cell (p := ⟨g, 0, none⟩) hgl1).trans D0.out
        have y1 := (HBa17.out.cell (p := ⟨g, 1, none⟩) hgl1).trans D1.out
        refine hK.out _ _ (by go_keep) (fun hHeld => ?_)
        clear hK K x0 y0 y1
        refine wpAnyH_ready (rs := [9]) (by kernel_rfl) (by simp) ?_
        refine' AllReadyH.cons ?hi18 (fun K hK => ?hg18) AllReadyH.nil
        case hi18 => (simp only [List.getElem?_toArray, List.getElem?_cons_succ, List.getElem?_cons_zero]; exact rfl)
        obtain ⟨e0, e1, f0, f1⟩ := row2 HGG8_a17_a17.out
        go_simp
        have hbs : Below W1.heap.size W1 ((a17.setCell ⟨G8_a17, 0, none⟩ (.int .u32 (a : Int))).setCell ⟨G8_a17, 1, none⟩ (.int .i64 (k : Int))) := (HBa17.out.setCell (p := ⟨G8_a17, 0, none⟩) (by show W1.heap.size ≤ G8_a17; omega) _).setCell (p := ⟨G8_a17, 1, none⟩) (by show W1.heap.size ≤ G8_a17; omega) _
        have hgs := set2_block (.int .u32 (a : Int)) (.int .i64 (k : Int)) HGG8_a17_a17.out
        generalize hwn : ((a17.setCell ⟨G8_a17, 0, none⟩ (.int .u32 (a : Int))).setCell ⟨G8_a17, 1, none⟩ (.int .i64 (k : Int))) = s19 at *
        have HBs19 := Lib.hid hbs
        have HGG8_a17_s19 := Lib.hid hgs
        clear hwn hbs hgs e0 e1 f0 f1
        have x0 := (HBs19.out.cell (p := ⟨w.heap.size, 0, none⟩) hB1).trans C0.out
        have y0 := (HBs19.out.cell (p := ⟨g, 0, none⟩) hgl1).trans D0.out
        have y1 := (HBs19.out.cell (p := ⟨g, 1, none⟩) hgl1).trans D1.out
        refine hK.out _ _ (by go_keep) (fun hHeld => ?_)
        clear hK K x0 y0 y1
        refine' wpAnyH_take (i := 10) ?hit20 ?hst20 ?hft20 ?hrt20 ?hQt20 ?hyt20 ?hSt20 ?ht20
        case hit20 => (simp only [List.getElem?_toArray, List.getElem?_cons_succ, List.getElem?_cons_zero]; exact rfl)
        case hst20 => kernel_rfl
        case hft20 => kernel_rfl
        case hrt20 => kernel_rfl
        case hQt20 => exact fun _ _ _ h => h
        case hyt20 => (first | (refine Or.inr ⟨by rfl, ?_⟩; rfl) | (refine Or.inl ⟨by rfl, ?_⟩; (intro w hSw; (try dsimp only at hSw); go_simp); try with_reducible rfl))
        case hSt20 => assumption
        try simp only [Act.put, List.setIfInBounds_toArray, List.set_cons_zero, List.set_cons_succ]
        refine wpAnyH_done (by kernel_rfl) ?_ _
        clear hHeld
        have x0 := (HBs19.out.cell (p := ⟨w.heap.size, 0, none⟩) hB1).trans C0.out
        obtain ⟨e0, e1, f0, f1⟩ := row2 HGG8_a17_s19.out
        go_wp2_with (first
          | (go_at_call 47; (with_reducible refine (Put_t (HTK.out _ HBs19.out) HI.out HVW.out).mono ?_); rintro e z1 ⟨rfl, hT3, hK3, _⟩; have HT3 := Lib.hid hT3; have HK3 := Lib.hid hK3; rw [HE.out, errV_z]; clear hT3 hK3)
          | (go_at_call 46; (with_reducible refine (Done_ok _).mono ?_); rintro e z2 ⟨rfl, rfl⟩)
          | fail)
        go_ret
        refine ⟨rfl, HT3.out.fewer (fun g hg => .inl hg), fun g hg => ?_⟩
        exact (HK3.out g (.inl hg)).trans ((HB0.out.trans (HBs19.out.mono HB0.out.size)).block g (HT.out.lt hg))
    case hg13 =>
      go_simp
      have hb : Below b10.heap.size b10 (b10.alloc (.cells #[.int .u32 0, .int .i64 0] 47)) := (Below.refl _ _).alloc (Nat.le_refl _) _
      have hnew := heap_alloc_new b10 (.cells #[.int .u32 0, .int .i64 0] 47)
      obtain ⟨G8_a21, hG⟩ : ∃ G, b10.heap.size = G := ⟨_, rfl⟩
      have hGlt : W1.heap.size ≤ G8_a21 := by rw [← hG]; exact HBb10.out.size
      rw [hG] at hnew
      (try rw [hG])
      generalize hwn : b10.alloc (.cells #[.int .u32 0, .int .i64 0] 47) = a21 at *
      have HGG8_a21_a21 := Lib.hid hnew
      have HBa21 := Lib.hid (HBb10.out.trans (hb.mono HBb10.out.size))
      clear hb
      have hggG8_a21 : ¬ G8_a21 = g := by omega
      have hgbG8_a21 : ¬ G8_a21 = w.heap.size := by omega
      have hghG8_a21 : ¬ g = G8_a21 := by omega
      have hgkG8_a21 : ¬ w.heap.size = G8_a21 := by omega
      clear hwn hnew hG
      have x0 := (HBa21.out.cell (p := ⟨w.heap.size, 0, none⟩) hB1).trans C0.out
      have y0 := (HBa21.out.cell (p := ⟨g, 0, none⟩) hgl1).trans D0.out
      have y1 := (HBa21.out.cell (p := ⟨g, 1, none⟩) hgl1).trans D1.out
      refine hK.out _ _ (by go_keep) (fun hHeld => ?_)
      clear hK K x0 y0 y1
      refine wpAnyH_ready (rs := [7]) (by kernel_rfl) (by simp) ?_
      refine' AllReadyH.cons ?hi22 (fun K hK => ?hg22) AllReadyH.nil
      case hi22 => (simp only [List.getElem?_toArray, List.getElem?_cons_succ, List.getElem?_cons_zero]; exact rfl)
      case hg22 =>
        go_simp
        go_at_call 45
        (with_reducible refine (WNum_ok n s1 _ (HW.out _ ?q24) hn HV.out).mono ?_)
        case q24 => exact HBa21.out
        rintro e b23 ⟨rfl, hb⟩
        have HBb23 := Lib.hid (HBa21.out.trans (hb.mono HBa21.out.size))
        have HGG8_a21_b23 := Lib.hid (below_block hb (size_of_block HGG8_a21_a21.out) HGG8_a21_a21.out)
        clear hb
        have x0 := (HBb23.out.cell (p := ⟨w.heap.size, 0, none⟩) hB1).trans C0.out
        have y0 := (HBb23.out.cell (p := ⟨g, 0, none⟩) hgl1).trans D0.out
        have y1 := (HBb23.out.cell (p := ⟨g, 1, none⟩) hgl1).trans D1.out
        refine hK.out _ _ (by go_keep) (fun hHeld => ?_)
        clear hK K x0 y0 y1
        refine wpAnyH_ready (rs := [9]) (by kernel_rfl) (by simp) ?_
        refine' AllReadyH.cons ?hi25 (fun K hK => ?hg25) AllReadyH.nil
        case hi25 => (simp only [List.getElem?_toArray, List.getElem?_cons_succ, List.getElem?_cons_zero]; exact rfl)
        obtain ⟨e0, e1, f0, f1⟩ := row2 HGG8_a21_b23.out
        go_simp
        have hbs : Below W1.heap.size W1 ((b23.setCell ⟨G8_a21, 0, none⟩ (.int .u32 (a : Int))).setCell ⟨G8_a21, 1, none⟩ (.int .i64 (k : Int))) := (HBb23.out.setCell (p := ⟨G8_a21, 0, none⟩) (by show W1.heap.size ≤ G8_a21; omega) _).setCell (p := ⟨G8_a21, 1, none⟩) (by show W1.heap.size ≤ G8_a21; omega) _
        have hgs := set2_block (.int .u32 (a : Int)) (.int .i64 (k : Int)) HGG8_a21_b23.out
        generalize hwn : ((b23.setCell ⟨G8_a21, 0, none⟩ (.int .u32 (a : Int))).setCell ⟨G8_a21, 1, none⟩ (.int .i64 (k : Int))) = s26 at *
        have HBs26 := Lib.hid hbs
        have HGG8_a21_s26 := Lib.hid hgs
        clear hwn hbs hgs e0 e1 f0 f1
        have x0 := (HBs26.out.cell (p := ⟨w.heap.size, 0, none⟩) hB1).trans C0.out
        have y0 := (HBs26.out.cell (p := ⟨g, 0, none⟩) hgl1).trans D0.out
        have y1 := (HBs26.out.cell (p := ⟨g, 1, none⟩) hgl1).trans D1.out
        refine hK.out _ _ (by go_keep) (fun hHeld => ?_)
        clear hK K x0 y0 y1
        refine' wpAnyH_take (i := 10) ?hit27 ?hst27 ?hft27 ?hrt27 ?hQt27 ?hyt27 ?hSt27 ?ht27
        case hit27 => (simp only [List.getElem?_toArray, List.getElem?_cons_succ, List.getElem?_cons_zero]; exact rfl)
        case hst27 => kernel_rfl
        case hft27 => kernel_rfl
        case hrt27 => kernel_rfl
        case hQt27 => exact fun _ _ _ h => h
        case hyt27 => (first | (refine Or.inr ⟨by rfl, ?_⟩; rfl) | (refine Or.inl ⟨by rfl, ?_⟩; (intro w hSw; (try dsimp only at hSw); go_simp); try with_reducible rfl))
        case hSt27 => assumption
        try simp only [Act.put, List.setIfInBounds_toArray, List.set_cons_zero, List.set_cons_succ]
        refine wpAnyH_done (by kernel_rfl) ?_ _
        clear hHeld
        have x0 := (HBs26.out.cell (p := ⟨w.heap.size, 0, none⟩) hB1).trans C0.out
        obtain ⟨e0, e1, f0, f1⟩ := row2 HGG8_a21_s26.out
        go_wp2_with (first
          | (go_at_call 47; (with_reducible refine (Put_t (HTK.out _ HBs26.out) HI.out HVW.out).mono ?_); rintro e z1 ⟨rfl, hT3, hK3, _⟩; have HT3 := Lib.hid hT3; have HK3 := Lib.hid hK3; rw [HE.out, errV_z]; clear hT3 hK3)
          | (go_at_call 46; (with_reducible refine (Done_ok _).mono ?_); rintro e z2 ⟨rfl, rfl⟩)
          | fail)
        go_ret
        refine ⟨rfl, HT3.out.fewer (fun g hg => .inl hg), fun g hg => ?_⟩
        exact (HK3.out g (.inl hg)).trans ((HB0.out.trans (HBs26.out.mono HB0.out.size)).block g (HT.out.lt hg))
  case hg9 =>
    go_simp
    have hb : Below u1.heap.size u1 (u1.alloc (.cells #[.int .u32 0, .int .i64 0] 47)) := (Below.refl _ _).alloc (Nat.le_refl _) _
    have hnew := heap_alloc_new u1 (.cells #[.int .u32 0, .int .i64 0] 47)
    obtain ⟨G8_a28, hG⟩ : ∃ G, u1.heap.size = G := ⟨_, rfl⟩
    have hGlt : W1.heap.size ≤ G8_a28 := by rw [← hG]; exact HBu1.out.size
    rw [hG] at hnew
    (try rw [hG])
    generalize hwn : u1.alloc (.cells #[.int .u32 0, .int .i64 0] 47) = a28 at *
    have HGG8_a28_a28 := Lib.hid hnew
    have HBa28 := Lib.hid (HBu1.out.trans (hb.mono HBu1.out.size))
    clear hb
    have hggG8_a28 : ¬ G8_a28 = g := by omega
    have hgbG8_a28 : ¬ G8_a28 = w.heap.size := by omega
    have hghG8_a28 : ¬ g = G8_a28 := by omega
    have hgkG8_a28 : ¬ w.heap.size = G8_a28 := by omega
    clear hwn hnew hG
    have x0 := (HBa28.out.cell (p := ⟨w.heap.size, 0, none⟩) hB1).trans C0.out
    have y0 := (HBa28.out.cell (p := ⟨g, 0, none⟩) hgl1).trans D0.out
    have y1 := (HBa28.out.cell (p := ⟨g, 1, none⟩) hgl1).trans D1.out
    refine hK.out _ _ (by go_keep) (fun hHeld => ?_)
    clear hK K x0 y0 y1
    refine wpAnyH_ready (rs := [3]) (by kernel_rfl) (by simp) ?_
    refine' AllReadyH.cons ?hi29 (fun K hK => ?hg29) AllReadyH.nil
    case hi29 => (simp only [List.getElem?_toArray, List.getElem?_cons_succ, List.getElem?_cons_zero]; exact rfl)
    case hg29 =>
      go_simp
      go_at_call 44
      (with_reducible refine (WNet_ok a k s0 _ (HW.out _ ?q31) ha HN.out HSN.out).mono ?_)
      case q31 => exact HBa28.out
      rintro e b30 ⟨rfl, hb⟩
      have HBb30 := Lib.hid (HBa28.out.trans (hb.mono HBa28.out.size))
      have HGG8_a28_b30 := Lib.hid (below_block hb (size_of_block HGG8_a28_a28.out) HGG8_a28_a28.out)
      clear hb
      have x0 := (HBb30.out.cell (p := ⟨w.heap.size, 0, none⟩) hB1).trans C0.out
      have y0 := (HBb30.out.cell (p := ⟨g, 0, none⟩) hgl1).trans D0.out
      have y1 := (HBb30.out.cell (p := ⟨g, 1, none⟩) hgl1).trans D1.out
      refine hK.out _ _ (by go_keep) (fun hHeld => ?_)
      clear hK K x0 y0 y1
      refine wpAnyH_ready (rs := [7]) (by kernel_rfl) (by simp) ?_
      refine' AllReadyH.cons ?hi32 (fun K hK => ?hg32) AllReadyH.nil
      case hi32 => (simp only [List.getElem?_toArray, List.getElem?_cons_succ, List.getElem?_cons_zero]; exact rfl)
      case hg32 =>
        go_simp
        go_at_call 45
        (with_reducible refine (WNum_ok n s1 _ (HW.out _ ?q34) hn HV.out).mono ?_)
        case q34 => exact HBb30.out
        rintro e b33 ⟨rfl, hb⟩
        have HBb33 := Lib.hid (HBb30.out.trans (hb.mono HBb30.out.size))
        have HGG8_a28_b33 := Lib.hid (below_block hb (size_of_block HGG8_a28_b30.out) HGG8_a28_b30.out)
        clear hb
        have x0 := (HBb33.out.cell (p := ⟨w.heap.size, 0, none⟩) hB1).trans C0.out
        have y0 := (HBb33.out.cell (p := ⟨g, 0, none⟩) hgl1).trans D0.out
        have y1 := (HBb33.out.cell (p := ⟨g, 1, none⟩) hgl1).trans D1.out
        refine hK.out _ _ (by go_keep) (fun hHeld => ?_)
        clear hK K x0 y0 y1
        refine wpAnyH_ready (rs := [9]) (by kernel_rfl) (by simp) ?_
        refine' AllReadyH.cons ?hi35 (fun K hK => ?hg35) AllReadyH.nil
        case hi35 => (simp only [List.getElem?_toArray, List.getElem?_cons_succ, List.getElem?_cons_zero]; exact rfl)
        obtain ⟨e0, e1, f0, f1⟩ := row2 HGG8_a28_b33.out
        go_simp
        have hbs : Below W1.heap.size W1 ((b33.setCell ⟨G8_a28, 0, none⟩ (.int .u32 (a : Int))).setCell ⟨G8_a28, 1, none⟩ (.int .i64 (k : Int))) := (HBb33.out.setCell (p := ⟨G8_a28, 0, none⟩) (by show W1.heap.size ≤ G8_a28; omega) _).setCell (p := ⟨G8_a28, 1, none⟩) (by show W1.heap.size ≤ G8_a28; omega) _
        have hgs := set2_block (.int .u32 (a : Int)) (.int .i64 (k : Int)) HGG8_a28_b33.out
        generalize hwn : ((b33.setCell ⟨G8_a28, 0, none⟩ (.int .u32 (a : Int))).setCell ⟨G8_a28, 1, none⟩ (.int .i64 (k : Int))) = s36 at *
        have HBs36 := Lib.hid hbs
        have HGG8_a28_s36 := Lib.hid hgs
        clear hwn hbs hgs e0 e1 f0 f1
        have x0 := (HBs36.out.cell (p := ⟨w.heap.size, 0, none⟩) hB1).trans C0.out
        have y0 := (HBs36.out.cell (p := ⟨g, 0, none⟩) hgl1).trans D0.out
        have y1 := (HBs36.out.cell (p := ⟨g, 1, none⟩) hgl1).trans D1.out
        refine hK.out _ _ (by go_keep) (fun hHeld => ?_)
        clear hK K x0 y0 y1
        refine' wpAnyH_take (i := 10) ?hit37 ?hst37 ?hft37 ?hrt37 ?hQt37 ?hyt37 ?hSt37 ?ht37
        case hit37 => (simp only [List.getElem?_toArray, List.getElem?_cons_succ, List.getElem?_cons_zero]; exact rfl)
        case hst37 => kernel_rfl
        case hft37 => kernel_rfl
        case hrt37 => kernel_rfl
        case hQt37 => exact fun _ _ _ h => h
        case hyt37 => (first | (refine Or.inr ⟨by rfl, ?_⟩; rfl) | (refine Or.inl ⟨by rfl, ?_⟩; (intro w hSw; (try dsimp only at hSw); go_simp); try with_reducible rfl))
        case hSt37 => assumption
        try simp only [Act.put, List.setIfInBounds_toArray, List.set_cons_zero, List.set_cons_succ]
        refine wpAnyH_done (by kernel_rfl) ?_ _
        clear hHeld
        have x0 := (HBs36.out.cell (p := ⟨w.heap.size, 0, none⟩) hB1).trans C0.out
        obtain ⟨e0, e1, f0, f1⟩ := row2 HGG8_a28_s36.out
        go_wp2_with (first
          | (go_at_call 47; (with_reducible refine (Put_t (HTK.out _ HBs36.out) HI.out HVW.out).mono ?_); rintro e z1 ⟨rfl, hT3, hK3, _⟩; have HT3 := Lib.hid hT3; have HK3 := Lib.hid hK3; rw [HE.out, errV_z]; clear hT3 hK3)
          | (go_at_call 46; (with_reducible refine (Done_ok _).mono ?_); rintro e z2 ⟨rfl, rfl⟩)
          | fail)
        go_ret
        refine ⟨rfl, HT3.out.fewer (fun g hg => .inl hg), fun g hg => ?_⟩
        exact (HK3.out g (.inl hg)).trans ((HB0.out.trans (HBs36.out.mono HB0.out.size)).block g (HT.out.lt hg))
set_option maxRecDepth 100000 in
set_option maxHeartbeats 16000000 in
theorem PutD_full (h : Tk W T m S w) (hw : HStr W) (hc0 : w.cell? ⟨g, 0, none⟩ = some (.string s0)) (hc1 : w.cell? ⟨g, 1, none⟩ = some (.string s1)) (hs0 : s0.size ≤ 2097152) (hs1 : s1.size ≤ 2097152) {a k : Nat} (ha : a < 4294967296) (hnf : netF ((a : Int), (k : Int)) = 0) (hsn : s0.data.toList = netT a k) {n : Nat} (hn : n ≤ 1073741824) (hv : s1.data.toList = dd n) (hE : putE m ((a : Int), (k : Int)) = 4) :
    Calls Tryz.prog 43 #[deskV T, .slice (some ⟨g, 0, none⟩) 2 c] w (DoPost W T S w (putX m (netO s0.data.toList) (numO s1.data.toList))) := by
  have hX : putX m (netO s0.data.toList) (numO s1.data.toList) = (.error 4, m) := by rw [netO_yes ha hnf hsn, numO_yes hn hv]; unfold putX; simp only; rw [if_neg (by rw [hE]; decide), hE]
  have HPm : Hid (putT m ((a : Int), (k : Int)) (n : Int) = m) := Lib.hid (by unfold putT; rw [if_neg (by rw [hE]; decide)])
  rw [hX]
  have HN := Lib.hid hnf
  have HSN := Lib.hid hsn
  have HI : Hid (is32 (a : Int)) := Lib.hid ⟨by omega, by omega⟩
  clear hX hnf hsn
  have HV := Lib.hid hv
  have HE := Lib.hid hE
  have HVW : Hid ((Lit.int .i64 (n : Int)).wf = true) := Lib.hid (WalkArith.wf_i64 (by omega))
  clear hv hE
  have hgl := lt_of_cellG hc0
  have hb0 := (Below.refl w.heap.size w).alloc (Nat.le_refl _) (.cells #[.pointer (some ⟨T, 0, none⟩)] 40)
  have hT1 : ∀ w' : World, Below (w.alloc (.cells #[.pointer (some ⟨T, 0, none⟩)] 40)).heap.size (w.alloc (.cells #[.pointer (some ⟨T, 0, none⟩)] 40)) w' → Tk W T m (fun g => S g ∨ w.heap.size ≤ g ∧ g < (w.alloc (.cells #[.pointer (some ⟨T, 0, none⟩)] 40)).heap.size) w' := fun w' hb => (h.more hb0).below hb
  have hW1 : ∀ w' : World, Below (w.alloc (.cells #[.pointer (some ⟨T, 0, none⟩)] 40)).heap.size (w.alloc (.cells #[.pointer (some ⟨T, 0, none⟩)] 40)) w' → HStr w' := fun w' hb => hw.below ((h.more hb0).below hb).bel (Nat.le_refl _)
  have c0 : (w.alloc (.cells #[.pointer (some ⟨T, 0, none⟩)] 40)).cell? ⟨w.heap.size, 0, none⟩ = some (.pointer (some ⟨T, 0, none⟩)) := row1p (heap_alloc_new _ _)
  have d0 : (w.alloc (.cells #[.pointer (some ⟨T, 0, none⟩)] 40)).cell? ⟨g, 0, none⟩ = some (.string s0) := (hb0.cell (p := ⟨g, 0, none⟩) hgl).trans hc0
  have d1 : (w.alloc (.cells #[.pointer (some ⟨T, 0, none⟩)] 40)).cell? ⟨g, 1, none⟩ = some (.string s1) := (hb0.cell (p := ⟨g, 1, none⟩) hgl).trans hc1
  have hB1 : w.heap.size < (w.alloc (.cells #[.pointer (some ⟨T, 0, none⟩)] 40)).heap.size := by simp
  have hgl1 : g < (w.alloc (.cells #[.pointer (some ⟨T, 0, none⟩)] 40)).heap.size := by simp; omega
  have HTK := Lib.hid hT1
  have HW := Lib.hid hW1
  have C0 := Lib.hid c0
  have HB0 := Lib.hid hb0
  have HT := Lib.hid h
  have D0 := Lib.hid d0
  have D1 := Lib.hid d1
  clear hT1 hW1 hb0 h hw c0 d0 hc0 d1 hc1
  go_enter Tryz.func43, Tryz.ntmps43
  go_wp2
  generalize hW1e : w.alloc (.cells #[.pointer (some ⟨T, 0, none⟩)] 40) = W1 at *
  have hbd : Below W1.heap.size W1 W1.drew := below_drewN (Below.refl _ _) 1
  have x0 : W1.drew.cell? ⟨w.heap.size, 0, none⟩ = some (.pointer (some ⟨T, 0, none⟩)) := C0.out
  have y0 : W1.drew.cell? ⟨g, 0, none⟩ = some (.string s0) := D0.out
  have y1 : W1.drew.cell? ⟨g, 1, none⟩ = some (.string s1) := D1.out
  refine wp_region_held_drew (S := (fun w' => w'.cell? ⟨w.heap.size, 0, none⟩ = some (.pointer (some ⟨T, 0, none⟩)) ∧ w'.cell? ⟨g, 0, none⟩ = some (.string s0) ∧ w'.cell? ⟨g, 1, none⟩ = some (.string s1))) (by kernel_rfl) (by first | exact ⟨x0, y0, y1⟩ | exact ⟨x0, y0⟩) (fun hHeld => ?_)
  generalize hud : W1.drew = u38 at *
  have HBu38 := Lib.hid hbd
  clear hud hbd hW1e x0 y0 y1
  refine' wpAnyH_take (i := 0) ?hit39 ?hst39 ?hft39 ?hrt39 ?hQt39 ?hyt39 ?hSt39 ?ht39
  case hit39 => (simp only [List.getElem?_toArray, List.getElem?_cons_succ, List.getElem?_cons_zero]; exact rfl)
  case hst39 => kernel_rfl
  case hft39 => kernel_rfl
  case hrt39 => kernel_rfl
  case hQt39 => exact fun _ _ _ h => h
  case hyt39 => (first | (refine Or.inr ⟨by rfl, ?_⟩; rfl) | (refine Or.inl ⟨by rfl, ?_⟩; (intro w hSw; (try dsimp only at hSw); go_simp); try with_reducible rfl))
  case hSt39 => assumption
  try simp only [Act.put, List.setIfInBounds_toArray, List.set_cons_zero, List.set_cons_succ]
  refine' wpAnyH_take (i := 1) ?hit40 ?hst40 ?hft40 ?hrt40 ?hQt40 ?hyt40 ?hSt40 ?ht40
  case hit40 => (simp only [List.getElem?_toArray, List.getElem?_cons_succ, List.getElem?_cons_zero]; exact rfl)
  case hst40 => kernel_rfl
  case hft40 => kernel_rfl
  case hrt40 => kernel_rfl
  case hQt40 => exact fun _ _ _ h => h
  case hyt40 => (first | (refine Or.inr ⟨by rfl, ?_⟩; rfl) | (refine Or.inl ⟨by rfl, ?_⟩; (intro w hSw; (try dsimp only at hSw); go_simp); try with_reducible rfl))
  case hSt40 => assumption
  try simp only [Act.put, List.setIfInBounds_toArray, List.set_cons_zero, List.set_cons_succ]
  refine' wpAnyH_take (i := 2) ?hit41 ?hst41 ?hft41 ?hrt41 ?hQt41 ?hyt41 ?hSt41 ?ht41
  case hit41 => (simp only [List.getElem?_toArray, List.getElem?_cons_succ, List.getElem?_cons_zero]; exact rfl)
  case hst41 => kernel_rfl
  case hft41 => kernel_rfl
  case hrt41 => kernel_rfl
  case hQt41 => exact fun _ _ _ h => h
  case hyt41 => (first | (refine Or.inr ⟨by rfl, ?_⟩; rfl) | (refine Or.inl ⟨by rfl, ?_⟩; (intro w hSw; (try dsimp only at hSw); go_simp); try with_reducible rfl))
  case hSt41 => assumption
  try simp only [Act.put, List.setIfInBounds_toArray, List.set_cons_zero, List.set_cons_succ]
  refine' wpAnyH_take (i := 4) ?hit42 ?hst42 ?hft42 ?hrt42 ?hQt42 ?hyt42 ?hSt42 ?ht42
  case hit42 => (simp only [List.getElem?_toArray, List.getElem?_cons_succ, List.getElem?_cons_zero]; exact rfl)
  case hst42 => kernel_rfl
  case hft42 => kernel_rfl
  case hrt42 => kernel_rfl
  case hQt42 => exact fun _ _ _ h => h
  case hyt42 => (first | (refine Or.inr ⟨by rfl, ?_⟩; rfl) | (refine Or.inl ⟨by rfl, ?_⟩; (intro w hSw; (try dsimp only at hSw); go_simp); try with_reducible rfl))
  case hSt42 => assumption
  try simp only [Act.put, List.setIfInBounds_toArray, List.set_cons_zero, List.set_cons_succ]
  refine' wpAnyH_take (i := 5) ?hit43 ?hst43 ?hft43 ?hrt43 ?hQt43 ?hyt43 ?hSt43 ?ht43
  case hit43 => (simp only [List.getElem?_toArray, List.getElem?_cons_succ, List.getElem?_cons_zero]; exact rfl)
  case hst43 => kernel_rfl
  case hft43 => kernel_rfl
  case hrt43 => kernel_rfl
  case hQt43 => exact fun _ _ _ h => h
  case hyt43 => (first | (refine Or.inr ⟨by rfl, ?_⟩; rfl) | (refine Or.inl ⟨by rfl, ?_⟩; (intro w hSw; (try dsimp only at hSw); go_simp); try with_reducible rfl))
  case hSt43 => assumption
  try simp only [Act.put, List.setIfInBounds_toArray, List.set_cons_zero, List.set_cons_succ]
  refine' wpAnyH_take (i := 6) ?hit44 ?hst44 ?hft44 ?hrt44 ?hQt44 ?hyt44 ?hSt44 ?ht44
  case hit44 => (simp only [List.getElem?_toArray, List.getElem?_cons_succ, List.getElem?_cons_zero]; exact rfl)
  case hst44 => kernel_rfl
  case hft44 => kernel_rfl
  case hrt44 => kernel_rfl
  case hQt44 => exact fun _ _ _ h => h
  case hyt44 => (first | (refine Or.inr ⟨by rfl, ?_⟩; rfl) | (refine Or.inl ⟨by rfl, ?_⟩; (intro w hSw; (try dsimp only at hSw); go_simp); try with_reducible rfl))
  case hSt44 => assumption
  try simp only [Act.put, List.setIfInBounds_toArray, List.set_cons_zero, List.set_cons_succ]
  refine wpAnyH_ready (rs := [3, 8]) (by kernel_rfl) (by simp) ?_
  refine' AllReadyH.cons ?hi45 (fun K hK => ?hg45) (AllReadyH.cons ?hi46 (fun K hK => ?hg46) AllReadyH.nil)
  case hi45 => (simp only [List.getElem?_toArray, List.getElem?_cons_succ, List.getElem?_cons_zero]; exact rfl)
  case hi46 => (simp only [List.getElem?_toArray, List.getElem?_cons_succ, List.getElem?_cons_zero]; exact rfl)
  case hg45 =>
    go_simp
    go_at_call 44
    (with_reducible refine (WNet_ok a k s0 _ (HW.out _ ?q48) ha HN.out HSN.out).mono ?_)
    case q48 => exact HBu38.out
    rintro e b47 ⟨rfl, hb⟩
    have HBb47 := Lib.hid (HBu38.out.trans (hb.mono HBu38.out.size))
    clear hb
    have x0 := (HBb47.out.cell (p := ⟨w.heap.size, 0, none⟩) hB1).trans C0.out
    have y0 := (HBb47.out.cell (p := ⟨g, 0, none⟩) hgl1).trans D0.out
    have y1 := (HBb47.out.cell (p := ⟨g, 1, none⟩) hgl1).trans D1.out
    refine hK.out _ _ (by go_keep) (fun hHeld => ?_)
    clear hK K x0 y0 y1
    refine wpAnyH_ready (rs := [7, 8]) (by kernel_rfl) (by simp) ?_
    refine' AllReadyH.cons ?hi49 (fun K hK => ?hg49) (AllReadyH.cons ?hi50 (fun K hK => ?hg50) AllReadyH.nil)
    case hi49 => (simp only [List.getElem?_toArray, List.getElem?_cons_succ, List.getElem?_cons_zero]; exact rfl)
    case hi50 => (simp only [List.getElem?_toArray, List.getElem?_cons_succ, List.getElem?_cons_zero]; exact rfl)
    case hg49 =>
      go_simp
      go_at_call 45
      (with_reducible refine (WNum_ok n s1 _ (HW.out _ ?q52) hn HV.out).mono ?_)
      case q52 => exact HBb47.out
      rintro e b51 ⟨rfl, hb⟩
      have HBb51 := Lib.hid (HBb47.out.trans (hb.mono HBb47.out.size))
      clear hb
      have x0 := (HBb51.out.cell (p := ⟨w.heap.size, 0, none⟩) hB1).trans C0.out
      have y0 := (HBb51.out.cell (p := ⟨g, 0, none⟩) hgl1).trans D0.out
      have y1 := (HBb51.out.cell (p := ⟨g, 1, none⟩) hgl1).trans D1.out
      refine hK.out _ _ (by go_keep) (fun hHeld => ?_)
      clear hK K x0 y0 y1
      refine wpAnyH_ready (rs := [8]) (by kernel_rfl) (by simp) ?_
      refine' AllReadyH.cons ?hi53 (fun K hK => ?hg53) AllReadyH.nil
      case hi53 => (simp only [List.getElem?_toArray, List.getElem?_cons_succ, List.getElem?_cons_zero]; exact rfl)
      case hg53 =>
        go_simp
        have hb : Below b51.heap.size b51 (b51.alloc (.cells #[.int .u32 0, .int .i64 0] 47)) := (Below.refl _ _).alloc (Nat.le_refl _) _
        have hnew := heap_alloc_new b51 (.cells #[.int .u32 0, .int .i64 0] 47)
        obtain ⟨G8_a54, hG⟩ : ∃ G, b51.heap.size = G := ⟨_, rfl⟩
        have hGlt : W1.heap.size ≤ G8_a54 := by rw [← hG]; exact HBb51.out.size
        rw [hG] at hnew
        (try rw [hG])
        generalize hwn : b51.alloc (.cells #[.int .u32 0, .int .i64 0] 47) = a54 at *
        have HGG8_a54_a54 := Lib.hid hnew
        have HBa54 := Lib.hid (HBb51.out.trans (hb.mono HBb51.out.size))
        clear hb
        have hggG8_a54 : ¬ G8_a54 = g := by omega
        have hgbG8_a54 : ¬ G8_a54 = w.heap.size := by omega
        have hghG8_a54 : ¬ g = G8_a54 := by omega
        have hgkG8_a54 : ¬ w.heap.size = G8_a54 := by omega
        clear hwn hnew hG
        have x0 := (HBa54.out.cell (p := ⟨w.heap.size, 0, none⟩) hB1).trans C0.out
        have y0 := (HBa54.out.cell (p := ⟨g, 0, none⟩) hgl1).trans D0.out
        have y1 := (HBa54.out.cell (p := ⟨g, 1, none⟩) hgl1).trans D1.out
        refine hK.out _ _ (by go_keep) (fun hHeld => ?_)
        clear hK K x0 y0 y1
        refine wpAnyH_ready (rs := [9]) (by kernel_rfl) (by simp) ?_
        refine' AllReadyH.cons ?hi55 (fun K hK => ?hg55) AllReadyH.nil
        case hi55 => (simp only [List.getElem?_toArray, List.getElem?_cons_succ, List.getElem?_cons_zero]; exact rfl)
        obtain ⟨e0, e1, f0, f1⟩ := row2 HGG8_a54_a54.out
        go_simp
        have hbs : Below W1.heap.size W1 ((a54.setCell ⟨G8_a54, 0, none⟩ (.int .u32 (a : Int))).setCell ⟨G8_a54, 1, none⟩ (.int .i64 (k : Int))) := (HBa54.out.setCell (p := ⟨G8_a54, 0, none⟩) (by show W1.heap.size ≤ G8_a54; omega) _).setCell (p := ⟨G8_a54, 1, none⟩) (by show W1.heap.size ≤ G8_a54; omega) _
        have hgs := set2_block (.int .u32 (a : Int)) (.int .i64 (k : Int)) HGG8_a54_a54.out
        generalize hwn : ((a54.setCell ⟨G8_a54, 0, none⟩ (.int .u32 (a : Int))).setCell ⟨G8_a54, 1, none⟩ (.int .i64 (k : Int))) = s56 at *
        have HBs56 := Lib.hid hbs
        have HGG8_a54_s56 := Lib.hid hgs
        clear hwn hbs hgs e0 e1 f0 f1
        have x0 := (HBs56.out.cell (p := ⟨w.heap.size, 0, none⟩) hB1).trans C0.out
        have y0 := (HBs56.out.cell (p := ⟨g, 0, none⟩) hgl1).trans D0.out
        have y1 := (HBs56.out.cell (p := ⟨g, 1, none⟩) hgl1).trans D1.out
        refine hK.out _ _ (by go_keep) (fun hHeld => ?_)
        clear hK K x0 y0 y1
        refine' wpAnyH_take (i := 10) ?hit57 ?hst57 ?hft57 ?hrt57 ?hQt57 ?hyt57 ?hSt57 ?ht57
        case hit57 => (simp only [List.getElem?_toArray, List.getElem?_cons_succ, List.getElem?_cons_zero]; exact rfl)
        case hst57 => kernel_rfl
        case hft57 => kernel_rfl
        case hrt57 => kernel_rfl
        case hQt57 => exact fun _ _ _ h => h
        case hyt57 => (first | (refine Or.inr ⟨by rfl, ?_⟩; rfl) | (refine Or.inl ⟨by rfl, ?_⟩; (intro w hSw; (try dsimp only at hSw); go_simp); try with_reducible rfl))
        case hSt57 => assumption
        try simp only [Act.put, List.setIfInBounds_toArray, List.set_cons_zero, List.set_cons_succ]
        refine wpAnyH_done (by kernel_rfl) ?_ _
        clear hHeld
        have x0 := (HBs56.out.cell (p := ⟨w.heap.size, 0, none⟩) hB1).trans C0.out
        obtain ⟨e0, e1, f0, f1⟩ := row2 HGG8_a54_s56.out
        go_wp2_with (first
          | (go_at_call 47; (with_reducible refine (Put_t (HTK.out _ HBs56.out) HI.out HVW.out).mono ?_); rintro e z1 ⟨rfl, hT3, hK3, _⟩; have HT3 := Lib.hid hT3; have HK3 := Lib.hid hK3; rw [HE.out, errV_pan (by decide)]; clear hT3 hK3)
          | (go_at_call 46; (with_reducible refine (Done_bad 4 _).mono ?_); rintro e z2 ⟨rfl, rfl⟩)
          | fail)
        refine ⟨rfl, rfl, ?_, fun g hg => ?_⟩
        · have := HT3.out.fewer (S' := S) (fun g hg => .inl hg)
          rw [HPm.out] at this
          exact this
        · exact (HK3.out g (.inl hg)).trans ((HB0.out.trans (HBs56.out.mono HB0.out.size)).block g (HT.out.lt hg))
    case hg50 =>
      go_simp
      have hb : Below b47.heap.size b47 (b47.alloc (.cells #[.int .u32 0, .int .i64 0] 47)) := (Below.refl _ _).alloc (Nat.le_refl _) _
      have hnew := heap_alloc_new b47 (.cells #[.int .u32 0, .int .i64 0] 47)
      obtain ⟨G8_a58, hG⟩ : ∃ G, b47.heap.size = G := ⟨_, rfl⟩
      have hGlt : W1.heap.size ≤ G8_a58 := by rw [← hG]; exact HBb47.out.size
      rw [hG] at hnew
      (try rw [hG])
      generalize hwn : b47.alloc (.cells #[.int .u32 0, .int .i64 0] 47) = a58 at *
      have HGG8_a58_a58 := Lib.hid hnew
      have HBa58 := Lib.hid (HBb47.out.trans (hb.mono HBb47.out.size))
      clear hb
      have hggG8_a58 : ¬ G8_a58 = g := by omega
      have hgbG8_a58 : ¬ G8_a58 = w.heap.size := by omega
      have hghG8_a58 : ¬ g = G8_a58 := by omega
      have hgkG8_a58 : ¬ w.heap.size = G8_a58 := by omega
      clear hwn hnew hG
      have x0 := (HBa58.out.cell (p := ⟨w.heap.size, 0, none⟩) hB1).trans C0.out
      have y0 := (HBa58.out.cell (p := ⟨g, 0, none⟩) hgl1).trans D0.out
      have y1 := (HBa58.out.cell (p := ⟨g, 1, none⟩) hgl1).trans D1.out
      refine hK.out _ _ (by go_keep) (fun hHeld => ?_)
      clear hK K x0 y0 y1
      refine wpAnyH_ready (rs := [7]) (by kernel_rfl) (by simp) ?_
      refine' AllReadyH.cons ?hi59 (fun K hK => ?hg59) AllReadyH.nil
      case hi59 => (simp only [List.getElem?_toArray, List.getElem?_cons_succ, List.getElem?_cons_zero]; exact rfl)
      case hg59 =>
        go_simp
        go_at_call 45
        (with_reducible refine (WNum_ok n s1 _ (HW.out _ ?q61) hn HV.out).mono ?_)
        case q61 => exact HBa58.out
        rintro e b60 ⟨rfl, hb⟩
        have HBb60 := Lib.hid (HBa58.out.trans (hb.mono HBa58.out.size))
        have HGG8_a58_b60 := Lib.hid (below_block hb (size_of_block HGG8_a58_a58.out) HGG8_a58_a58.out)
        clear hb
        have x0 := (HBb60.out.cell (p := ⟨w.heap.size, 0, none⟩) hB1).trans C0.out
        have y0 := (HBb60.out.cell (p := ⟨g, 0, none⟩) hgl1).trans D0.out
        have y1 := (HBb60.out.cell (p := ⟨g, 1, none⟩) hgl1).trans D1.out
        refine hK.out _ _ (by go_keep) (fun hHeld => ?_)
        clear hK K x0 y0 y1
        refine wpAnyH_ready (rs := [9]) (by kernel_rfl) (by simp) ?_
        refine' AllReadyH.cons ?hi62 (fun K hK => ?hg62) AllReadyH.nil
        case hi62 => (simp only [List.getElem?_toArray, List.getElem?_cons_succ, List.getElem?_cons_zero]; exact rfl)
        obtain ⟨e0, e1, f0, f1⟩ := row2 HGG8_a58_b60.out
        go_simp
        have hbs : Below W1.heap.size W1 ((b60.setCell ⟨G8_a58, 0, none⟩ (.int .u32 (a : Int))).setCell ⟨G8_a58, 1, none⟩ (.int .i64 (k : Int))) := (HBb60.out.setCell (p := ⟨G8_a58, 0, none⟩) (by show W1.heap.size ≤ G8_a58; omega) _).setCell (p := ⟨G8_a58, 1, none⟩) (by show W1.heap.size ≤ G8_a58; omega) _
        have hgs := set2_block (.int .u32 (a : Int)) (.int .i64 (k : Int)) HGG8_a58_b60.out
        generalize hwn : ((b60.setCell ⟨G8_a58, 0, none⟩ (.int .u32 (a : Int))).setCell ⟨G8_a58, 1, none⟩ (.int .i64 (k : Int))) = s63 at *
        have HBs63 := Lib.hid hbs
        have HGG8_a58_s63 := Lib.hid hgs
        clear hwn hbs hgs e0 e1 f0 f1
        have x0 := (HBs63.out.cell (p := ⟨w.heap.size, 0, none⟩) hB1).trans C0.out
        have y0 := (HBs63.out.cell (p := ⟨g, 0, none⟩) hgl1).trans D0.out
        have y1 := (HBs63.out.cell (p := ⟨g, 1, none⟩) hgl1).trans D1.out
        refine hK.out _ _ (by go_keep) (fun hHeld => ?_)
        clear hK K x0 y0 y1
        refine' wpAnyH_take (i := 10) ?hit64 ?hst64 ?hft64 ?hrt64 ?hQt64 ?hyt64 ?hSt64 ?ht64
        case hit64 => (simp only [List.getElem?_toArray, List.getElem?_cons_succ, List.getElem?_cons_zero]; exact rfl)
        case hst64 => kernel_rfl
        case hft64 => kernel_rfl
        case hrt64 => kernel_rfl
        case hQt64 => exact fun _ _ _ h => h
        case hyt64 => (first | (refine Or.inr ⟨by rfl, ?_⟩; rfl) | (refine Or.inl ⟨by rfl, ?_⟩; (intro w hSw; (try dsimp only at hSw); go_simp); try with_reducible rfl))
        case hSt64 => assumption
        try simp only [Act.put, List.setIfInBounds_toArray, List.set_cons_zero, List.set_cons_succ]
        refine wpAnyH_done (by kernel_rfl) ?_ _
        clear hHeld
        have x0 := (HBs63.out.cell (p := ⟨w.heap.size, 0, none⟩) hB1).trans C0.out
        obtain ⟨e0, e1, f0, f1⟩ := row2 HGG8_a58_s63.out
        go_wp2_with (first
          | (go_at_call 47; (with_reducible refine (Put_t (HTK.out _ HBs63.out) HI.out HVW.out).mono ?_); rintro e z1 ⟨rfl, hT3, hK3, _⟩; have HT3 := Lib.hid hT3; have HK3 := Lib.hid hK3; rw [HE.out, errV_pan (by decide)]; clear hT3 hK3)
          | (go_at_call 46; (with_reducible refine (Done_bad 4 _).mono ?_); rintro e z2 ⟨rfl, rfl⟩)
          | fail)
        refine ⟨rfl, rfl, ?_, fun g hg => ?_⟩
        · have := HT3.out.fewer (S' := S) (fun g hg => .inl hg)
          rw [HPm.out] at this
          exact this
        · exact (HK3.out g (.inl hg)).trans ((HB0.out.trans (HBs63.out.mono HB0.out.size)).block g (HT.out.lt hg))
  case hg46 =>
    go_simp
    have hb : Below u38.heap.size u38 (u38.alloc (.cells #[.int .u32 0, .int .i64 0] 47)) := (Below.refl _ _).alloc (Nat.le_refl _) _
    have hnew := heap_alloc_new u38 (.cells #[.int .u32 0, .int .i64 0] 47)
    obtain ⟨G8_a65, hG⟩ : ∃ G, u38.heap.size = G := ⟨_, rfl⟩
    have hGlt : W1.heap.size ≤ G8_a65 := by rw [← hG]; exact HBu38.out.size
    rw [hG] at hnew
    (try rw [hG])
    generalize hwn : u38.alloc (.cells #[.int .u32 0, .int .i64 0] 47) = a65 at *
    have HGG8_a65_a65 := Lib.hid hnew
    have HBa65 := Lib.hid (HBu38.out.trans (hb.mono HBu38.out.size))
    clear hb
    have hggG8_a65 : ¬ G8_a65 = g := by omega
    have hgbG8_a65 : ¬ G8_a65 = w.heap.size := by omega
    have hghG8_a65 : ¬ g = G8_a65 := by omega
    have hgkG8_a65 : ¬ w.heap.size = G8_a65 := by omega
    clear hwn hnew hG
    have x0 := (HBa65.out.cell (p := ⟨w.heap.size, 0, none⟩) hB1).trans C0.out
    have y0 := (HBa65.out.cell (p := ⟨g, 0, none⟩) hgl1).trans D0.out
    have y1 := (HBa65.out.cell (p := ⟨g, 1, none⟩) hgl1).trans D1.out
    refine hK.out _ _ (by go_keep) (fun hHeld => ?_)
    clear hK K x0 y0 y1
    refine wpAnyH_ready (rs := [3]) (by kernel_rfl) (by simp) ?_
    refine' AllReadyH.cons ?hi66 (fun K hK => ?hg66) AllReadyH.nil
    case hi66 => (simp only [List.getElem?_toArray, List.getElem?_cons_succ, List.getElem?_cons_zero]; exact rfl)
    case hg66 =>
      go_simp
      go_at_call 44
      (with_reducible refine (WNet_ok a k s0 _ (HW.out _ ?q68) ha HN.out HSN.out).mono ?_)
      case q68 => exact HBa65.out
      rintro e b67 ⟨rfl, hb⟩
      have HBb67 := Lib.hid (HBa65.out.trans (hb.mono HBa65.out.size))
      have HGG8_a65_b67 := Lib.hid (below_block hb (size_of_block HGG8_a65_a65.out) HGG8_a65_a65.out)
      clear hb
      have x0 := (HBb67.out.cell (p := ⟨w.heap.size, 0, none⟩) hB1).trans C0.out
      have y0 := (HBb67.out.cell (p := ⟨g, 0, none⟩) hgl1).trans D0.out
      have y1 := (HBb67.out.cell (p := ⟨g, 1, none⟩) hgl1).trans D1.out
      refine hK.out _ _ (by go_keep) (fun hHeld => ?_)
      clear hK K x0 y0 y1
      refine wpAnyH_ready (rs := [7]) (by kernel_rfl) (by simp) ?_
      refine' AllReadyH.cons ?hi69 (fun K hK => ?hg69) AllReadyH.nil
      case hi69 => (simp only [List.getElem?_toArray, List.getElem?_cons_succ, List.getElem?_cons_zero]; exact rfl)
      case hg69 =>
        go_simp
        go_at_call 45
        (with_reducible refine (WNum_ok n s1 _ (HW.out _ ?q71) hn HV.out).mono ?_)
        case q71 => exact HBb67.out
        rintro e b70 ⟨rfl, hb⟩
        have HBb70 := Lib.hid (HBb67.out.trans (hb.mono HBb67.out.size))
        have HGG8_a65_b70 := Lib.hid (below_block hb (size_of_block HGG8_a65_b67.out) HGG8_a65_b67.out)
        clear hb
        have x0 := (HBb70.out.cell (p := ⟨w.heap.size, 0, none⟩) hB1).trans C0.out
        have y0 := (HBb70.out.cell (p := ⟨g, 0, none⟩) hgl1).trans D0.out
        have y1 := (HBb70.out.cell (p := ⟨g, 1, none⟩) hgl1).trans D1.out
        refine hK.out _ _ (by go_keep) (fun hHeld => ?_)
        clear hK K x0 y0 y1
        refine wpAnyH_ready (rs := [9]) (by kernel_rfl) (by simp) ?_
        refine' AllReadyH.cons ?hi72 (fun K hK => ?hg72) AllReadyH.nil
        case hi72 => (simp only [List.getElem?_toArray, List.getElem?_cons_succ, List.getElem?_cons_zero]; exact rfl)
        obtain ⟨e0, e1, f0, f1⟩ := row2 HGG8_a65_b70.out
        go_simp
        have hbs : Below W1.heap.size W1 ((b70.setCell ⟨G8_a65, 0, none⟩ (.int .u32 (a : Int))).setCell ⟨G8_a65, 1, none⟩ (.int .i64 (k : Int))) := (HBb70.out.setCell (p := ⟨G8_a65, 0, none⟩) (by show W1.heap.size ≤ G8_a65; omega) _).setCell (p := ⟨G8_a65, 1, none⟩) (by show W1.heap.size ≤ G8_a65; omega) _
        have hgs := set2_block (.int .u32 (a : Int)) (.int .i64 (k : Int)) HGG8_a65_b70.out
        generalize hwn : ((b70.setCell ⟨G8_a65, 0, none⟩ (.int .u32 (a : Int))).setCell ⟨G8_a65, 1, none⟩ (.int .i64 (k : Int))) = s73 at *
        have HBs73 := Lib.hid hbs
        have HGG8_a65_s73 := Lib.hid hgs
        clear hwn hbs hgs e0 e1 f0 f1
        have x0 := (HBs73.out.cell (p := ⟨w.heap.size, 0, none⟩) hB1).trans C0.out
        have y0 := (HBs73.out.cell (p := ⟨g, 0, none⟩) hgl1).trans D0.out
        have y1 := (HBs73.out.cell (p := ⟨g, 1, none⟩) hgl1).trans D1.out
        refine hK.out _ _ (by go_keep) (fun hHeld => ?_)
        clear hK K x0 y0 y1
        refine' wpAnyH_take (i := 10) ?hit74 ?hst74 ?hft74 ?hrt74 ?hQt74 ?hyt74 ?hSt74 ?ht74
        case hit74 => (simp only [List.getElem?_toArray, List.getElem?_cons_succ, List.getElem?_cons_zero]; exact rfl)
        case hst74 => kernel_rfl
        case hft74 => kernel_rfl
        case hrt74 => kernel_rfl
        case hQt74 => exact fun _ _ _ h => h
        case hyt74 => (first | (refine Or.inr ⟨by rfl, ?_⟩; rfl) | (refine Or.inl ⟨by rfl, ?_⟩; (intro w hSw; (try dsimp only at hSw); go_simp); try with_reducible rfl))
        case hSt74 => assumption
        try simp only [Act.put, List.setIfInBounds_toArray, List.set_cons_zero, List.set_cons_succ]
        refine wpAnyH_done (by kernel_rfl) ?_ _
        clear hHeld
        have x0 := (HBs73.out.cell (p := ⟨w.heap.size, 0, none⟩) hB1).trans C0.out
        obtain ⟨e0, e1, f0, f1⟩ := row2 HGG8_a65_s73.out
        go_wp2_with (first
          | (go_at_call 47; (with_reducible refine (Put_t (HTK.out _ HBs73.out) HI.out HVW.out).mono ?_); rintro e z1 ⟨rfl, hT3, hK3, _⟩; have HT3 := Lib.hid hT3; have HK3 := Lib.hid hK3; rw [HE.out, errV_pan (by decide)]; clear hT3 hK3)
          | (go_at_call 46; (with_reducible refine (Done_bad 4 _).mono ?_); rintro e z2 ⟨rfl, rfl⟩)
          | fail)
        refine ⟨rfl, rfl, ?_, fun g hg => ?_⟩
        · have := HT3.out.fewer (S' := S) (fun g hg => .inl hg)
          rw [HPm.out] at this
          exact this
        · exact (HK3.out g (.inl hg)).trans ((HB0.out.trans (HBs73.out.mono HB0.out.size)).block g (HT.out.lt hg))
set_option maxRecDepth 100000 in
set_option maxHeartbeats 16000000 in
theorem PutD_num (h : Tk W T m S w) (hw : HStr W) (hc0 : w.cell? ⟨g, 0, none⟩ = some (.string s0)) (hc1 : w.cell? ⟨g, 1, none⟩ = some (.string s1)) (hs0 : s0.size ≤ 2097152) (hs1 : s1.size ≤ 2097152) {a k : Nat} (ha : a < 4294967296) (hnf : netF ((a : Int), (k : Int)) = 0) (hsn : s0.data.toList = netT a k) (hnv : ∀ n : Nat, n ≤ 1073741824 → s1.data.toList ≠ dd n) :
    Calls Tryz.prog 43 #[deskV T, .slice (some ⟨g, 0, none⟩) 2 c] w (DoPost W T S w (putX m (netO s0.data.toList) (numO s1.data.toList))) := by
  have hX : putX m (netO s0.data.toList) (numO s1.data.toList) = (.error 7, m) := by rw [netO_yes ha hnf hsn, numO_no hnv]; rfl
  have HNV := Lib.hid hnv
  clear hnv
  rw [hX]
  have HN := Lib.hid hnf
  have HSN := Lib.hid hsn
  have HI : Hid (is32 (a : Int)) := Lib.hid ⟨by omega, by omega⟩
  clear hX hnf hsn
  have hgl := lt_of_cellG hc0
  have hb0 := (Below.refl w.heap.size w).alloc (Nat.le_refl _) (.cells #[.pointer (some ⟨T, 0, none⟩)] 40)
  have hT1 : ∀ w' : World, Below (w.alloc (.cells #[.pointer (some ⟨T, 0, none⟩)] 40)).heap.size (w.alloc (.cells #[.pointer (some ⟨T, 0, none⟩)] 40)) w' → Tk W T m (fun g => S g ∨ w.heap.size ≤ g ∧ g < (w.alloc (.cells #[.pointer (some ⟨T, 0, none⟩)] 40)).heap.size) w' := fun w' hb => (h.more hb0).below hb
  have hW1 : ∀ w' : World, Below (w.alloc (.cells #[.pointer (some ⟨T, 0, none⟩)] 40)).heap.size (w.alloc (.cells #[.pointer (some ⟨T, 0, none⟩)] 40)) w' → HStr w' := fun w' hb => hw.below ((h.more hb0).below hb).bel (Nat.le_refl _)
  have c0 : (w.alloc (.cells #[.pointer (some ⟨T, 0, none⟩)] 40)).cell? ⟨w.heap.size, 0, none⟩ = some (.pointer (some ⟨T, 0, none⟩)) := row1p (heap_alloc_new _ _)
  have d0 : (w.alloc (.cells #[.pointer (some ⟨T, 0, none⟩)] 40)).cell? ⟨g, 0, none⟩ = some (.string s0) := (hb0.cell (p := ⟨g, 0, none⟩) hgl).trans hc0
  have d1 : (w.alloc (.cells #[.pointer (some ⟨T, 0, none⟩)] 40)).cell? ⟨g, 1, none⟩ = some (.string s1) := (hb0.cell (p := ⟨g, 1, none⟩) hgl).trans hc1
  have hB1 : w.heap.size < (w.alloc (.cells #[.pointer (some ⟨T, 0, none⟩)] 40)).heap.size := by simp
  have hgl1 : g < (w.alloc (.cells #[.pointer (some ⟨T, 0, none⟩)] 40)).heap.size := by simp; omega
  have HTK := Lib.hid hT1
  have HW := Lib.hid hW1
  have C0 := Lib.hid c0
  have HB0 := Lib.hid hb0
  have HT := Lib.hid h
  have D0 := Lib.hid d0
  have D1 := Lib.hid d1
  clear hT1 hW1 hb0 h hw c0 d0 hc0 d1 hc1
  go_enter Tryz.func43, Tryz.ntmps43
  go_wp2
  generalize hW1e : w.alloc (.cells #[.pointer (some ⟨T, 0, none⟩)] 40) = W1 at *
  have hbd : Below W1.heap.size W1 W1.drew := below_drewN (Below.refl _ _) 1
  have x0 : W1.drew.cell? ⟨w.heap.size, 0, none⟩ = some (.pointer (some ⟨T, 0, none⟩)) := C0.out
  have y0 : W1.drew.cell? ⟨g, 0, none⟩ = some (.string s0) := D0.out
  have y1 : W1.drew.cell? ⟨g, 1, none⟩ = some (.string s1) := D1.out
  refine wp_region_held_drew (S := (fun w' => w'.cell? ⟨w.heap.size, 0, none⟩ = some (.pointer (some ⟨T, 0, none⟩)) ∧ w'.cell? ⟨g, 0, none⟩ = some (.string s0) ∧ w'.cell? ⟨g, 1, none⟩ = some (.string s1))) (by kernel_rfl) (by first | exact ⟨x0, y0, y1⟩ | exact ⟨x0, y0⟩) (fun hHeld => ?_)
  generalize hud : W1.drew = u75 at *
  have HBu75 := Lib.hid hbd
  clear hud hbd hW1e x0 y0 y1
  refine' wpAnyH_take (i := 0) ?hit76 ?hst76 ?hft76 ?hrt76 ?hQt76 ?hyt76 ?hSt76 ?ht76
  case hit76 => (simp only [List.getElem?_toArray, List.getElem?_cons_succ, List.getElem?_cons_zero]; exact rfl)
  case hst76 => kernel_rfl
  case hft76 => kernel_rfl
  case hrt76 => kernel_rfl
  case hQt76 => exact fun _ _ _ h => h
  case hyt76 => (first | (refine Or.inr ⟨by rfl, ?_⟩; rfl) | (refine Or.inl ⟨by rfl, ?_⟩; (intro w hSw; (try dsimp only at hSw); go_simp); try with_reducible rfl))
  case hSt76 => assumption
  try simp only [Act.put, List.setIfInBounds_toArray, List.set_cons_zero, List.set_cons_succ]
  refine' wpAnyH_take (i := 1) ?hit77 ?hst77 ?hft77 ?hrt77 ?hQt77 ?hyt77 ?hSt77 ?ht77
  case hit77 => (simp only [List.getElem?_toArray, List.getElem?_cons_succ, List.getElem?_cons_zero]; exact rfl)
  case hst77 => kernel_rfl
  case hft77 => kernel_rfl
  case hrt77 => kernel_rfl
  case hQt77 => exact fun _ _ _ h => h
  case hyt77 => (first | (refine Or.inr ⟨by rfl, ?_⟩; rfl) | (refine Or.inl ⟨by rfl, ?_⟩; (intro w hSw; (try dsimp only at hSw); go_simp); try with_reducible rfl))
  case hSt77 => assumption
  try simp only [Act.put, List.setIfInBounds_toArray, List.set_cons_zero, List.set_cons_succ]
  refine' wpAnyH_take (i := 2) ?hit78 ?hst78 ?hft78 ?hrt78 ?hQt78 ?hyt78 ?hSt78 ?ht78
  case hit78 => (simp only [List.getElem?_toArray, List.getElem?_cons_succ, List.getElem?_cons_zero]; exact rfl)
  case hst78 => kernel_rfl
  case hft78 => kernel_rfl
  case hrt78 => kernel_rfl
  case hQt78 => exact fun _ _ _ h => h
  case hyt78 => (first | (refine Or.inr ⟨by rfl, ?_⟩; rfl) | (refine Or.inl ⟨by rfl, ?_⟩; (intro w hSw; (try dsimp only at hSw); go_simp); try with_reducible rfl))
  case hSt78 => assumption
  try simp only [Act.put, List.setIfInBounds_toArray, List.set_cons_zero, List.set_cons_succ]
  refine' wpAnyH_take (i := 4) ?hit79 ?hst79 ?hft79 ?hrt79 ?hQt79 ?hyt79 ?hSt79 ?ht79
  case hit79 => (simp only [List.getElem?_toArray, List.getElem?_cons_succ, List.getElem?_cons_zero]; exact rfl)
  case hst79 => kernel_rfl
  case hft79 => kernel_rfl
  case hrt79 => kernel_rfl
  case hQt79 => exact fun _ _ _ h => h
  case hyt79 => (first | (refine Or.inr ⟨by rfl, ?_⟩; rfl) | (refine Or.inl ⟨by rfl, ?_⟩; (intro w hSw; (try dsimp only at hSw); go_simp); try with_reducible rfl))
  case hSt79 => assumption
  try simp only [Act.put, List.setIfInBounds_toArray, List.set_cons_zero, List.set_cons_succ]
  refine' wpAnyH_take (i := 5) ?hit80 ?hst80 ?hft80 ?hrt80 ?hQt80 ?hyt80 ?hSt80 ?ht80
  case hit80 => (simp only [List.getElem?_toArray, List.getElem?_cons_succ, List.getElem?_cons_zero]; exact rfl)
  case hst80 => kernel_rfl
  case hft80 => kernel_rfl
  case hrt80 => kernel_rfl
  case hQt80 => exact fun _ _ _ h => h
  case hyt80 => (first | (refine Or.inr ⟨by rfl, ?_⟩; rfl) | (refine Or.inl ⟨by rfl, ?_⟩; (intro w hSw; (try dsimp only at hSw); go_simp); try with_reducible rfl))
  case hSt80 => assumption
  try simp only [Act.put, List.setIfInBounds_toArray, List.set_cons_zero, List.set_cons_succ]
  refine' wpAnyH_take (i := 6) ?hit81 ?hst81 ?hft81 ?hrt81 ?hQt81 ?hyt81 ?hSt81 ?ht81
  case hit81 => (simp only [List.getElem?_toArray, List.getElem?_cons_succ, List.getElem?_cons_zero]; exact rfl)
  case hst81 => kernel_rfl
  case hft81 => kernel_rfl
  case hrt81 => kernel_rfl
  case hQt81 => exact fun _ _ _ h => h
  case hyt81 => (first | (refine Or.inr ⟨by rfl, ?_⟩; rfl) | (refine Or.inl ⟨by rfl, ?_⟩; (intro w hSw; (try dsimp only at hSw); go_simp); try with_reducible rfl))
  case hSt81 => assumption
  try simp only [Act.put, List.setIfInBounds_toArray, List.set_cons_zero, List.set_cons_succ]
  refine wpAnyH_ready (rs := [3, 8]) (by kernel_rfl) (by simp) ?_
  refine' AllReadyH.cons ?hi82 (fun K hK => ?hg82) (AllReadyH.cons ?hi83 (fun K hK => ?hg83) AllReadyH.nil)
  case hi82 => (simp only [List.getElem?_toArray, List.getElem?_cons_succ, List.getElem?_cons_zero]; exact rfl)
  case hi83 => (simp only [List.getElem?_toArray, List.getElem?_cons_succ, List.getElem?_cons_zero]; exact rfl)
  case hg82 =>
    go_simp
    go_at_call 44
    (with_reducible refine (WNet_ok a k s0 _ (HW.out _ ?q85) ha HN.out HSN.out).mono ?_)
    case q85 => exact HBu75.out
    rintro e b84 ⟨rfl, hb⟩
    have HBb84 := Lib.hid (HBu75.out.trans (hb.mono HBu75.out.size))
    clear hb
    have x0 := (HBb84.out.cell (p := ⟨w.heap.size, 0, none⟩) hB1).trans C0.out
    have y0 := (HBb84.out.cell (p := ⟨g, 0, none⟩) hgl1).trans D0.out
    have y1 := (HBb84.out.cell (p := ⟨g, 1, none⟩) hgl1).trans D1.out
    refine hK.out _ _ (by go_keep) (fun hHeld => ?_)
    clear hK K x0 y0 y1
    refine wpAnyH_ready (rs := [7, 8]) (by kernel_rfl) (by simp) ?_
    refine' AllReadyH.cons ?hi86 (fun K hK => ?hg86) (AllReadyH.cons ?hi87 (fun K hK => ?hg87) AllReadyH.nil)
    case hi86 => (simp only [List.getElem?_toArray, List.getElem?_cons_succ, List.getElem?_cons_zero]; exact rfl)
    case hi87 => (simp only [List.getElem?_toArray, List.getElem?_cons_succ, List.getElem?_cons_zero]; exact rfl)
    case hg86 =>
      go_simp
      go_at_call 45
      (with_reducible refine (WNum_bad s1 _ (HW.out _ ?q89) hs1 HNV.out).mono ?_)
      case q89 => exact HBb84.out
      rintro e b88 ⟨rfl, hb⟩
      exact ⟨rfl, DoPost.of_below HT.out rfl (HB0.out.trans ((HBb84.out.trans (hb.mono HBb84.out.size)).mono HB0.out.size))⟩
    case hg87 =>
      go_simp
      have hb : Below b84.heap.size b84 (b84.alloc (.cells #[.int .u32 0, .int .i64 0] 47)) := (Below.refl _ _).alloc (Nat.le_refl _) _
      have hnew := heap_alloc_new b84 (.cells #[.int .u32 0, .int .i64 0] 47)
      obtain ⟨G8_a90, hG⟩ : ∃ G, b84.heap.size = G := ⟨_, rfl⟩
      have hGlt : W1.heap.size ≤ G8_a90 := by rw [← hG]; exact HBb84.out.size
      rw [hG] at hnew
      (try rw [hG])
      generalize hwn : b84.alloc (.cells #[.int .u32 0, .int .i64 0] 47) = a90 at *
      have HGG8_a90_a90 := Lib.hid hnew
      have HBa90 := Lib.hid (HBb84.out.trans (hb.mono HBb84.out.size))
      clear hb
      have hggG8_a90 : ¬ G8_a90 = g := by omega
      have hgbG8_a90 : ¬ G8_a90 = w.heap.size := by omega
      have hghG8_a90 : ¬ g = G8_a90 := by omega
      have hgkG8_a90 : ¬ w.heap.size = G8_a90 := by omega
      clear hwn hnew hG
      have x0 := (HBa90.out.cell (p := ⟨w.heap.size, 0, none⟩) hB1).trans C0.out
      have y0 := (HBa90.out.cell (p := ⟨g, 0, none⟩) hgl1).trans D0.out
      have y1 := (HBa90.out.cell (p := ⟨g, 1, none⟩) hgl1).trans D1.out
      refine hK.out _ _ (by go_keep) (fun hHeld => ?_)
      clear hK K x0 y0 y1
      refine wpAnyH_ready (rs := [7]) (by kernel_rfl) (by simp) ?_
      refine' AllReadyH.cons ?hi91 (fun K hK => ?hg91) AllReadyH.nil
      case hi91 => (simp only [List.getElem?_toArray, List.getElem?_cons_succ, List.getElem?_cons_zero]; exact rfl)
      case hg91 =>
        go_simp
        go_at_call 45
        (with_reducible refine (WNum_bad s1 _ (HW.out _ ?q93) hs1 HNV.out).mono ?_)
        case q93 => exact HBa90.out
        rintro e b92 ⟨rfl, hb⟩
        exact ⟨rfl, DoPost.of_below HT.out rfl (HB0.out.trans ((HBa90.out.trans (hb.mono HBa90.out.size)).mono HB0.out.size))⟩
  case hg83 =>
    go_simp
    have hb : Below u75.heap.size u75 (u75.alloc (.cells #[.int .u32 0, .int .i64 0] 47)) := (Below.refl _ _).alloc (Nat.le_refl _) _
    have hnew := heap_alloc_new u75 (.cells #[.int .u32 0, .int .i64 0] 47)
    obtain ⟨G8_a94, hG⟩ : ∃ G, u75.heap.size = G := ⟨_, rfl⟩
    have hGlt : W1.heap.size ≤ G8_a94 := by rw [← hG]; exact HBu75.out.size
    rw [hG] at hnew
    (try rw [hG])
    generalize hwn : u75.alloc (.cells #[.int .u32 0, .int .i64 0] 47) = a94 at *
    have HGG8_a94_a94 := Lib.hid hnew
    have HBa94 := Lib.hid (HBu75.out.trans (hb.mono HBu75.out.size))
    clear hb
    have hggG8_a94 : ¬ G8_a94 = g := by omega
    have hgbG8_a94 : ¬ G8_a94 = w.heap.size := by omega
    have hghG8_a94 : ¬ g = G8_a94 := by omega
    have hgkG8_a94 : ¬ w.heap.size = G8_a94 := by omega
    clear hwn hnew hG
    have x0 := (HBa94.out.cell (p := ⟨w.heap.size, 0, none⟩) hB1).trans C0.out
    have y0 := (HBa94.out.cell (p := ⟨g, 0, none⟩) hgl1).trans D0.out
    have y1 := (HBa94.out.cell (p := ⟨g, 1, none⟩) hgl1).trans D1.out
    refine hK.out _ _ (by go_keep) (fun hHeld => ?_)
    clear hK K x0 y0 y1
    refine wpAnyH_ready (rs := [3]) (by kernel_rfl) (by simp) ?_
    refine' AllReadyH.cons ?hi95 (fun K hK => ?hg95) AllReadyH.nil
    case hi95 => (simp only [List.getElem?_toArray, List.getElem?_cons_succ, List.getElem?_cons_zero]; exact rfl)
    case hg95 =>
      go_simp
      go_at_call 44
      (with_reducible refine (WNet_ok a k s0 _ (HW.out _ ?q97) ha HN.out HSN.out).mono ?_)
      case q97 => exact HBa94.out
      rintro e b96 ⟨rfl, hb⟩
      have HBb96 := Lib.hid (HBa94.out.trans (hb.mono HBa94.out.size))
      have HGG8_a94_b96 := Lib.hid (below_block hb (size_of_block HGG8_a94_a94.out) HGG8_a94_a94.out)
      clear hb
      have x0 := (HBb96.out.cell (p := ⟨w.heap.size, 0, none⟩) hB1).trans C0.out
      have y0 := (HBb96.out.cell (p := ⟨g, 0, none⟩) hgl1).trans D0.out
      have y1 := (HBb96.out.cell (p := ⟨g, 1, none⟩) hgl1).trans D1.out
      refine hK.out _ _ (by go_keep) (fun hHeld => ?_)
      clear hK K x0 y0 y1
      refine wpAnyH_ready (rs := [7]) (by kernel_rfl) (by simp) ?_
      refine' AllReadyH.cons ?hi98 (fun K hK => ?hg98) AllReadyH.nil
      case hi98 => (simp only [List.getElem?_toArray, List.getElem?_cons_succ, List.getElem?_cons_zero]; exact rfl)
      case hg98 =>
        go_simp
        go_at_call 45
        (with_reducible refine (WNum_bad s1 _ (HW.out _ ?q100) hs1 HNV.out).mono ?_)
        case q100 => exact HBb96.out
        rintro e b99 ⟨rfl, hb⟩
        exact ⟨rfl, DoPost.of_below HT.out rfl (HB0.out.trans ((HBb96.out.trans (hb.mono HBb96.out.size)).mono HB0.out.size))⟩
set_option maxRecDepth 100000 in
set_option maxHeartbeats 16000000 in
theorem PutD_net (h : Tk W T m S w) (hw : HStr W) (hc0 : w.cell? ⟨g, 0, none⟩ = some (.string s0)) (hc1 : w.cell? ⟨g, 1, none⟩ = some (.string s1)) (hs0 : s0.size ≤ 2097152) (hs1 : s1.size ≤ 2097152) (hno : ∀ a k : Nat, a < 4294967296 → netF ((a : Int), (k : Int)) = 0 → s0.data.toList ≠ netT a k) :
    Calls Tryz.prog 43 #[deskV T, .slice (some ⟨g, 0, none⟩) 2 c] w (DoPost W T S w (putX m (netO s0.data.toList) (numO s1.data.toList))) := by
  have hX : putX m (netO s0.data.toList) (numO s1.data.toList) = (.error 7, m) := by rw [netO_no hno]; rfl
  rw [hX]
  have HNO := Lib.hid hno
  clear hX hno
  have hgl := lt_of_cellG hc0
  have hb0 := (Below.refl w.heap.size w).alloc (Nat.le_refl _) (.cells #[.pointer (some ⟨T, 0, none⟩)] 40)
  have hT1 : ∀ w' : World, Below (w.alloc (.cells #[.pointer (some ⟨T, 0, none⟩)] 40)).heap.size (w.alloc (.cells #[.pointer (some ⟨T, 0, none⟩)] 40)) w' → Tk W T m (fun g => S g ∨ w.heap.size ≤ g ∧ g < (w.alloc (.cells #[.pointer (some ⟨T, 0, none⟩)] 40)).heap.size) w' := fun w' hb => (h.more hb0).below hb
  have hW1 : ∀ w' : World, Below (w.alloc (.cells #[.pointer (some ⟨T, 0, none⟩)] 40)).heap.size (w.alloc (.cells #[.pointer (some ⟨T, 0, none⟩)] 40)) w' → HStr w' := fun w' hb => hw.below ((h.more hb0).below hb).bel (Nat.le_refl _)
  have c0 : (w.alloc (.cells #[.pointer (some ⟨T, 0, none⟩)] 40)).cell? ⟨w.heap.size, 0, none⟩ = some (.pointer (some ⟨T, 0, none⟩)) := row1p (heap_alloc_new _ _)
  have d0 : (w.alloc (.cells #[.pointer (some ⟨T, 0, none⟩)] 40)).cell? ⟨g, 0, none⟩ = some (.string s0) := (hb0.cell (p := ⟨g, 0, none⟩) hgl).trans hc0
  have d1 : (w.alloc (.cells #[.pointer (some ⟨T, 0, none⟩)] 40)).cell? ⟨g, 1, none⟩ = some (.string s1) := (hb0.cell (p := ⟨g, 1, none⟩) hgl).trans hc1
  have hB1 : w.heap.size < (w.alloc (.cells #[.pointer (some ⟨T, 0, none⟩)] 40)).heap.size := by simp
  have hgl1 : g < (w.alloc (.cells #[.pointer (some ⟨T, 0, none⟩)] 40)).heap.size := by simp; omega
  have HTK := Lib.hid hT1
  have HW := Lib.hid hW1
  have C0 := Lib.hid c0
  have HB0 := Lib.hid hb0
  have HT := Lib.hid h
  have D0 := Lib.hid d0
  have D1 := Lib.hid d1
  clear hT1 hW1 hb0 h hw c0 d0 hc0 d1 hc1
  go_enter Tryz.func43, Tryz.ntmps43
  go_wp2
  generalize hW1e : w.alloc (.cells #[.pointer (some ⟨T, 0, none⟩)] 40) = W1 at *
  have hbd : Below W1.heap.size W1 W1.drew := below_drewN (Below.refl _ _) 1
  have x0 : W1.drew.cell? ⟨w.heap.size, 0, none⟩ = some (.pointer (some ⟨T, 0, none⟩)) := C0.out
  have y0 : W1.drew.cell? ⟨g, 0, none⟩ = some (.string s0) := D0.out
  have y1 : W1.drew.cell? ⟨g, 1, none⟩ = some (.string s1) := D1.out
  refine wp_region_held_drew (S := (fun w' => w'.cell? ⟨w.heap.size, 0, none⟩ = some (.pointer (some ⟨T, 0, none⟩)) ∧ w'.cell? ⟨g, 0, none⟩ = some (.string s0) ∧ w'.cell? ⟨g, 1, none⟩ = some (.string s1))) (by kernel_rfl) (by first | exact ⟨x0, y0, y1⟩ | exact ⟨x0, y0⟩) (fun hHeld => ?_)
  generalize hud : W1.drew = u101 at *
  have HBu101 := Lib.hid hbd
  clear hud hbd hW1e x0 y0 y1
  refine' wpAnyH_take (i := 0) ?hit102 ?hst102 ?hft102 ?hrt102 ?hQt102 ?hyt102 ?hSt102 ?ht102
  case hit102 => (simp only [List.getElem?_toArray, List.getElem?_cons_succ, List.getElem?_cons_zero]; exact rfl)
  case hst102 => kernel_rfl
  case hft102 => kernel_rfl
  case hrt102 => kernel_rfl
  case hQt102 => exact fun _ _ _ h => h
  case hyt102 => (first | (refine Or.inr ⟨by rfl, ?_⟩; rfl) | (refine Or.inl ⟨by rfl, ?_⟩; (intro w hSw; (try dsimp only at hSw); go_simp); try with_reducible rfl))
  case hSt102 => assumption
  try simp only [Act.put, List.setIfInBounds_toArray, List.set_cons_zero, List.set_cons_succ]
  refine' wpAnyH_take (i := 1) ?hit103 ?hst103 ?hft103 ?hrt103 ?hQt103 ?hyt103 ?hSt103 ?ht103
  case hit103 => (simp only [List.getElem?_toArray, List.getElem?_cons_succ, List.getElem?_cons_zero]; exact rfl)
  case hst103 => kernel_rfl
  case hft103 => kernel_rfl
  case hrt103 => kernel_rfl
  case hQt103 => exact fun _ _ _ h => h
  case hyt103 => (first | (refine Or.inr ⟨by rfl, ?_⟩; rfl) | (refine Or.inl ⟨by rfl, ?_⟩; (intro w hSw; (try dsimp only at hSw); go_simp); try with_reducible rfl))
  case hSt103 => assumption
  try simp only [Act.put, List.setIfInBounds_toArray, List.set_cons_zero, List.set_cons_succ]
  refine' wpAnyH_take (i := 2) ?hit104 ?hst104 ?hft104 ?hrt104 ?hQt104 ?hyt104 ?hSt104 ?ht104
  case hit104 => (simp only [List.getElem?_toArray, List.getElem?_cons_succ, List.getElem?_cons_zero]; exact rfl)
  case hst104 => kernel_rfl
  case hft104 => kernel_rfl
  case hrt104 => kernel_rfl
  case hQt104 => exact fun _ _ _ h => h
  case hyt104 => (first | (refine Or.inr ⟨by rfl, ?_⟩; rfl) | (refine Or.inl ⟨by rfl, ?_⟩; (intro w hSw; (try dsimp only at hSw); go_simp); try with_reducible rfl))
  case hSt104 => assumption
  try simp only [Act.put, List.setIfInBounds_toArray, List.set_cons_zero, List.set_cons_succ]
  refine' wpAnyH_take (i := 4) ?hit105 ?hst105 ?hft105 ?hrt105 ?hQt105 ?hyt105 ?hSt105 ?ht105
  case hit105 => (simp only [List.getElem?_toArray, List.getElem?_cons_succ, List.getElem?_cons_zero]; exact rfl)
  case hst105 => kernel_rfl
  case hft105 => kernel_rfl
  case hrt105 => kernel_rfl
  case hQt105 => exact fun _ _ _ h => h
  case hyt105 => (first | (refine Or.inr ⟨by rfl, ?_⟩; rfl) | (refine Or.inl ⟨by rfl, ?_⟩; (intro w hSw; (try dsimp only at hSw); go_simp); try with_reducible rfl))
  case hSt105 => assumption
  try simp only [Act.put, List.setIfInBounds_toArray, List.set_cons_zero, List.set_cons_succ]
  refine' wpAnyH_take (i := 5) ?hit106 ?hst106 ?hft106 ?hrt106 ?hQt106 ?hyt106 ?hSt106 ?ht106
  case hit106 => (simp only [List.getElem?_toArray, List.getElem?_cons_succ, List.getElem?_cons_zero]; exact rfl)
  case hst106 => kernel_rfl
  case hft106 => kernel_rfl
  case hrt106 => kernel_rfl
  case hQt106 => exact fun _ _ _ h => h
  case hyt106 => (first | (refine Or.inr ⟨by rfl, ?_⟩; rfl) | (refine Or.inl ⟨by rfl, ?_⟩; (intro w hSw; (try dsimp only at hSw); go_simp); try with_reducible rfl))
  case hSt106 => assumption
  try simp only [Act.put, List.setIfInBounds_toArray, List.set_cons_zero, List.set_cons_succ]
  refine' wpAnyH_take (i := 6) ?hit107 ?hst107 ?hft107 ?hrt107 ?hQt107 ?hyt107 ?hSt107 ?ht107
  case hit107 => (simp only [List.getElem?_toArray, List.getElem?_cons_succ, List.getElem?_cons_zero]; exact rfl)
  case hst107 => kernel_rfl
  case hft107 => kernel_rfl
  case hrt107 => kernel_rfl
  case hQt107 => exact fun _ _ _ h => h
  case hyt107 => (first | (refine Or.inr ⟨by rfl, ?_⟩; rfl) | (refine Or.inl ⟨by rfl, ?_⟩; (intro w hSw; (try dsimp only at hSw); go_simp); try with_reducible rfl))
  case hSt107 => assumption
  try simp only [Act.put, List.setIfInBounds_toArray, List.set_cons_zero, List.set_cons_succ]
  refine wpAnyH_ready (rs := [3, 8]) (by kernel_rfl) (by simp) ?_
  refine' AllReadyH.cons ?hi108 (fun K hK => ?hg108) (AllReadyH.cons ?hi109 (fun K hK => ?hg109) AllReadyH.nil)
  case hi108 => (simp only [List.getElem?_toArray, List.getElem?_cons_succ, List.getElem?_cons_zero]; exact rfl)
  case hi109 => (simp only [List.getElem?_toArray, List.getElem?_cons_succ, List.getElem?_cons_zero]; exact rfl)
  case hg108 =>
    go_simp
    go_at_call 44
    (with_reducible refine (WNet_bad s0 _ (HW.out _ ?q111) hs0 HNO.out).mono ?_)
    case q111 => exact HBu101.out
    rintro e b110 ⟨rfl, hb⟩
    exact ⟨rfl, DoPost.of_below HT.out rfl (HB0.out.trans ((HBu101.out.trans (hb.mono HBu101.out.size)).mono HB0.out.size))⟩
  case hg109 =>
    go_simp
    have hb : Below u101.heap.size u101 (u101.alloc (.cells #[.int .u32 0, .int .i64 0] 47)) := (Below.refl _ _).alloc (Nat.le_refl _) _
    have hnew := heap_alloc_new u101 (.cells #[.int .u32 0, .int .i64 0] 47)
    obtain ⟨G8_a112, hG⟩ : ∃ G, u101.heap.size = G := ⟨_, rfl⟩
    have hGlt : W1.heap.size ≤ G8_a112 := by rw [← hG]; exact HBu101.out.size
    rw [hG] at hnew
    (try rw [hG])
    generalize hwn : u101.alloc (.cells #[.int .u32 0, .int .i64 0] 47) = a112 at *
    have HGG8_a112_a112 := Lib.hid hnew
    have HBa112 := Lib.hid (HBu101.out.trans (hb.mono HBu101.out.size))
    clear hb
    have hggG8_a112 : ¬ G8_a112 = g := by omega
    have hgbG8_a112 : ¬ G8_a112 = w.heap.size := by omega
    have hghG8_a112 : ¬ g = G8_a112 := by omega
    have hgkG8_a112 : ¬ w.heap.size = G8_a112 := by omega
    clear hwn hnew hG
    have x0 := (HBa112.out.cell (p := ⟨w.heap.size, 0, none⟩) hB1).trans C0.out
    have y0 := (HBa112.out.cell (p := ⟨g, 0, none⟩) hgl1).trans D0.out
    have y1 := (HBa112.out.cell (p := ⟨g, 1, none⟩) hgl1).trans D1.out
    refine hK.out _ _ (by go_keep) (fun hHeld => ?_)
    clear hK K x0 y0 y1
    refine wpAnyH_ready (rs := [3]) (by kernel_rfl) (by simp) ?_
    refine' AllReadyH.cons ?hi113 (fun K hK => ?hg113) AllReadyH.nil
    case hi113 => (simp only [List.getElem?_toArray, List.getElem?_cons_succ, List.getElem?_cons_zero]; exact rfl)
    case hg113 =>
      go_simp
      go_at_call 44
      (with_reducible refine (WNet_bad s0 _ (HW.out _ ?q115) hs0 HNO.out).mono ?_)
      case q115 => exact HBa112.out
      rintro e b114 ⟨rfl, hb⟩
      exact ⟨rfl, DoPost.of_below HT.out rfl (HB0.out.trans ((HBa112.out.trans (hb.mono HBa112.out.size)).mono HB0.out.size))⟩
theorem Put_do (h : Tk W T m S w) (hw : HStr W) (hc0 : w.cell? ⟨g, 0, none⟩ = some (.string s0)) (hc1 : w.cell? ⟨g, 1, none⟩ = some (.string s1)) (hs0 : s0.size ≤ 2097152) (hs1 : s1.size ≤ 2097152) :
    Calls Tryz.prog 43 #[deskV T, .slice (some ⟨g, 0, none⟩) 2 c] w (DoPost W T S w (putX m (netO s0.data.toList) (numO s1.data.toList))) := by
  rcases netO_cases s0.data.toList with ⟨a, k, ha, hk, hn, hsn, e⟩ | ⟨hno, e⟩
  · rcases numO_cases s1.data.toList with ⟨n, hnn, hv, e2⟩ | ⟨hnv, e2⟩
    · rcases putE_net (m := m) hn with hE | hE
      · exact PutD_ok h hw hc0 hc1 hs0 hs1 ha hn hsn hnn hv hE
      · exact PutD_full h hw hc0 hc1 hs0 hs1 ha hn hsn hnn hv hE
    · exact PutD_num h hw hc0 hc1 hs0 hs1 ha hn hsn hnv
  · exact PutD_net h hw hc0 hc1 hs0 hs1 hno
end
end Go.Proofs.YtgdlkjahlajcpaaGreatDoor
