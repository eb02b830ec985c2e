/- What the desk's forms do: common. -/
import Derived.Test.YtgdlkjahlajcpaaGreatDoorAI
import Derived.Deep.RegionHeld3
import Derived.BigQuiet
namespace Go.Proofs.YtgdlkjahlajcpaaGreatDoor
open Go.ChangeShapes Go.WideShapes Go.ChangeAt Go.RowKit
set_option linter.unusedVariables false
set_option linter.unusedSimpArgs false
theorem mustn_end {W : World} {R : Nat} {a : Act} {v0 v1 : Value} {t : TypeId} {K : Ending → World → Prop} (h : W.heap[R]? = some (.cells #[v0, v1] t (0, 0))) (h2 : a.tmps[4]?.getD undef = .pointer (some ⟨R, 0, none⟩)) (hd : a.defers = [])
    (hK : K (.returned (.agg #[v0, v1])) W) : bodyPost Tryz.prog Tryz.f66 K .ret a W := by
  have e0 : W.cell? ⟨R, 0, none⟩ = some v0 := by rw [cell_of_row _ R _ _ _ (0, 0) h]; rfl
  have e1 : W.cell? ⟨R, 1, none⟩ = some v1 := by rw [cell_of_row _ R _ _ _ (0, 0) h]; rfl
  exact bodyPost_ret (by simp [results, Tryz.results66, go_sem, h2, e0, e1]) hd hK
theorem MustN_ok (a k : Int) (w : World) : Calls Tryz.prog 66 #[.agg #[.int .u32 a, .int .i64 k], .nilIface] w fun e w' => e = .returned (.agg #[.int .u32 a, .int .i64 k]) ∧ Below w.heap.size w w' := by
  have hn : ¬ (w.heap.size = w.heap.size + 1) := by omega
  go_enter Tryz.func66, Tryz.ntmps66
  go_wp2
  have hb := (((Below.refl w.heap.size w).alloc (Nat.le_refl _) (.cells #[.int .u32 a, .int .i64 k] 47)).alloc (by simp) (.cells #[.int .u32 a, .int .i64 k] 47))
  have hblk : ((w.alloc (.cells #[.int .u32 a, .int .i64 k] 47)).alloc (.cells #[.int .u32 a, .int .i64 k] 47)).heap[w.heap.size + 1]? = some (.cells #[.int .u32 a, .int .i64 k] 47 (0, 0)) := by
    have e := heap_alloc_new (w.alloc (.cells #[.int .u32 a, .int .i64 k] 47)) (.cells #[.int .u32 a, .int .i64 k] 47)
    rw [show (w.alloc (.cells #[.int .u32 a, .int .i64 k] 47)).heap.size = w.heap.size + 1 from by simp] at e
    exact e
  exact mustn_end hblk rfl rfl ⟨rfl, hb⟩
section
variable {W w : World} {T g c : Nat} {m : Tab} {S : Nat → Prop} {s0 s1 : ByteArray} {v : Value}
set_option maxRecDepth 100000 in
set_option maxHeartbeats 16000000 in
theorem ComD_okD (h : Tk W T m S w) (hw : HStr W) (hc0 : w.cell? ⟨g, 0, none⟩ = some (.string s0)) (hc1 : w.cell? ⟨g, 1, none⟩ = some (.string s1)) (hs0 : s0.size ≤ 2097152) (hs1 : s1.size ≤ 2097152) {a k : Nat} (ha : a < 4294967296) (hnf : netF ((a : Int), (k : Int)) = 0) (hsn : s0.data.toList = netT a k) {b j : Nat} (hb : b < 4294967296) (hnf1 : netF ((b : Int), (j : Int)) = 0) (hsn1 : s1.data.toList = netT b j) :
    Calls Tryz.prog 65 #[deskV T, .slice (some ⟨g, 0, none⟩) 2 c] w fun e w' => e = endA (comX (netO s0.data.toList) (netO s1.data.toList)) ∧ Below w.heap.size w w' := by
  have HI : Hid (is32 (a : Int)) := Lib.hid ⟨by omega, by omega⟩
  have HI1 : Hid (is32 (b : Int)) := Lib.hid ⟨by omega, by omega⟩
  obtain ⟨p, q, hp, hq, hC⟩ : ∃ p q : Nat, p < 4294967296 ∧ q ≤ 32 ∧ comN ((a : Int), (k : Int)) ((b : Int), (j : Int)) = ((p : Int), (q : Int)) := by
    have h32 : is32 (comN ((a : Int), (k : Int)) ((b : Int), (j : Int))).1 := trim_is HI.out _
    obtain ⟨p, hpe⟩ := Int.eq_ofNat_of_zero_le h32.1
    exact ⟨p, comL ((a : Int), (k : Int)) ((b : Int), (j : Int)), by have := h32.2; omega, comL_le _ _, Prod.ext hpe rfl⟩
  have hX : comX (netO s0.data.toList) (netO s1.data.toList) = .ok (netT p q) := by rw [netO_yes ha hnf hsn, netO_yes hb hnf1 hsn1]; show Except.ok (netX (comN ((a : Int), (k : Int)) ((b : Int), (j : Int)))) = _; rw [hC]; rfl
  have HCV : Hid (netV (comN ((a : Int), (k : Int)) ((b : Int), (j : Int))) = .agg #[.int .u32 (p : Int), .int .i64 (q : Int)]) := Lib.hid (by rw [hC]; rfl)
  have HN1 := Lib.hid hnf1
  have HSN1 := Lib.hid hsn1
  clear hnf1 hsn1 hC
  rw [hX]
  have HN := Lib.hid hnf
  have HSN := Lib.hid hsn
  clear hX hnf hsn
  have hgl := lt_of_cellG hc0
  have hb0 := (Below.refl w.heap.size w).alloc (Nat.le_refl _) (.cells #[.pointer (some ⟨T, 0, none⟩)] 40)
  have hT1 : ∀ w' : World, Below (w.alloc (.cells #[.pointer (some ⟨T, 0, none⟩)] 40)).heap.size (w.alloc (.cells #[.pointer (some ⟨T, 0, none⟩)] 40)) w' → Tk W T m (fun g => S g ∨ w.heap.size ≤ g ∧ g < (w.alloc (.cells #[.pointer (some ⟨T, 0, none⟩)] 40)).heap.size) w' := fun w' hb => (h.more hb0).below hb
  have hW1 : ∀ w' : World, Below (w.alloc (.cells #[.pointer (some ⟨T, 0, none⟩)] 40)).heap.size (w.alloc (.cells #[.pointer (some ⟨T, 0, none⟩)] 40)) w' → HStr w' := fun w' hb => hw.below ((h.more hb0).below hb).bel (Nat.le_refl _)
  have c0 : (w.alloc (.cells #[.pointer (some ⟨T, 0, none⟩)] 40)).cell? ⟨w.heap.size, 0, none⟩ = some (.pointer (some ⟨T, 0, none⟩)) := row1p (heap_alloc_new _ _)
  have d0 : (w.alloc (.cells #[.pointer (some ⟨T, 0, none⟩)] 40)).cell? ⟨g, 0, none⟩ = some (.string s0) := (hb0.cell (p := ⟨g, 0, none⟩) hgl).trans hc0
  have d1 : (w.alloc (.cells #[.pointer (some ⟨T, 0, none⟩)] 40)).cell? ⟨g, 1, none⟩ = some (.string s1) := (hb0.cell (p := ⟨g, 1, none⟩) hgl).trans hc1
  have hB1 : w.heap.size < (w.alloc (.cells #[.pointer (some ⟨T, 0, none⟩)] 40)).heap.size := by simp
  have hgl1 : g < (w.alloc (.cells #[.pointer (some ⟨T, 0, none⟩)] 40)).heap.size := by simp; omega
  have HTK := Lib.hid hT1
  have HW := Lib.hid hW1
  have C0 := Lib.hid c0
  have HB0 := Lib.hid hb0
  have HT := Lib.hid h
  have D0 := Lib.hid d0
  have D1 := Lib.hid d1
  clear hT1 hW1 hb0 h hw c0 d0 hc0 d1 hc1
  go_enter Tryz.func65, Tryz.ntmps65
  go_wp2
  generalize hW1e : w.alloc (.cells #[.pointer (some ⟨T, 0, none⟩)] 40) = W1 at *
  have hbd : Below W1.heap.size W1 W1.drew := below_drewN (Below.refl _ _) 1
  have x0 : W1.drew.cell? ⟨w.heap.size, 0, none⟩ = some (.pointer (some ⟨T, 0, none⟩)) := C0.out
  have y0 : W1.drew.cell? ⟨g, 0, none⟩ = some (.string s0) := D0.out
  have y1 : W1.drew.cell? ⟨g, 1, none⟩ = some (.string s1) := D1.out
  refine wp_region_held_drew (S := (fun w' => w'.cell? ⟨w.heap.size, 0, none⟩ = some (.pointer (some ⟨T, 0, none⟩)) ∧ w'.cell? ⟨g, 0, none⟩ = some (.string s0) ∧ w'.cell? ⟨g, 1, none⟩ = some (.string s1))) (by kernel_rfl) (by first | exact ⟨x0, y0, y1⟩ | exact ⟨x0, y0⟩) (fun hHeld => ?_)
  generalize hud : W1.drew = u1 at *
  have HBu1 := Lib.hid hbd
  clear hud hbd hW1e x0 y0 y1
  refine' wpAnyH_take (i := 0) ?hit2 ?hst2 ?hft2 ?hrt2 ?hQt2 ?hyt2 ?hSt2 ?ht2
  case hit2 => (simp only [List.getElem?_toArray, List.getElem?_cons_succ, List.getElem?_cons_zero]; exact rfl)
  case hst2 => kernel_rfl
  case hft2 => kernel_rfl
  case hrt2 => kernel_rfl
  case hQt2 => exact fun _ _ _ h => h
  case hyt2 => (first | (refine Or.inr ⟨by rfl, ?_⟩; rfl) | (refine Or.inl ⟨by rfl, ?_⟩; (intro w hSw; (try dsimp only at hSw); go_simp); try with_reducible rfl))
  case hSt2 => assumption
  try simp only [Act.put, List.setIfInBounds_toArray, List.set_cons_zero, List.set_cons_succ]
  refine' wpAnyH_take (i := 1) ?hit3 ?hst3 ?hft3 ?hrt3 ?hQt3 ?hyt3 ?hSt3 ?ht3
  case hit3 => (simp only [List.getElem?_toArray, List.getElem?_cons_succ, List.getElem?_cons_zero]; exact rfl)
  case hst3 => kernel_rfl
  case hft3 => kernel_rfl
  case hrt3 => kernel_rfl
  case hQt3 => exact fun _ _ _ h => h
  case hyt3 => (first | (refine Or.inr ⟨by rfl, ?_⟩; rfl) | (refine Or.inl ⟨by rfl, ?_⟩; (intro w hSw; (try dsimp only at hSw); go_simp); try with_reducible rfl))
  case hSt3 => assumption
  try simp only [Act.put, List.setIfInBounds_toArray, List.set_cons_zero, List.set_cons_succ]
  refine' wpAnyH_take (i := 2) ?hit4 ?hst4 ?hft4 ?hrt4 ?hQt4 ?hyt4 ?hSt4 ?ht4
  case hit4 => (simp only [List.getElem?_toArray, List.getElem?_cons_succ, List.getElem?_cons_zero]; exact rfl)
  case hst4 => kernel_rfl
  case hft4 => kernel_rfl
  case hrt4 => kernel_rfl
  case hQt4 => exact fun _ _ _ h => h
  case hyt4 => (first | (refine Or.inr ⟨by rfl, ?_⟩; rfl) | (refine Or.inl ⟨by rfl, ?_⟩; (intro w hSw; (try dsimp only at hSw); go_simp); try with_reducible rfl))
  case hSt4 => assumption
  try simp only [Act.put, List.setIfInBounds_toArray, List.set_cons_zero, List.set_cons_succ]
  refine' wpAnyH_take (i := 4) ?hit5 ?hst5 ?hft5 ?hrt5 ?hQt5 ?hyt5 ?hSt5 ?ht5
  case hit5 => (simp only [List.getElem?_toArray, List.getElem?_cons_succ, List.getElem?_cons_zero]; exact rfl)
  case hst5 => kernel_rfl
  case hft5 => kernel_rfl
  case hrt5 => kernel_rfl
  case hQt5 => exact fun _ _ _ h => h
  case hyt5 => (first | (refine Or.inr ⟨by rfl, ?_⟩; rfl) | (refine Or.inl ⟨by rfl, ?_⟩; (intro w hSw; (try dsimp only at hSw); go_simp); try with_reducible rfl))
  case hSt5 => assumption
  try simp only [Act.put, List.setIfInBounds_toArray, List.set_cons_zero, List.set_cons_succ]
  refine' wpAnyH_take (i := 5) ?hit6 ?hst6 ?hft6 ?hrt6 ?hQt6 ?hyt6 ?hSt6 ?ht6
  case hit6 => (simp only [List.getElem?_toArray, List.getElem?_cons_succ, List.getElem?_cons_zero]; exact rfl)
  case hst6 => kernel_rfl
  case hft6 => kernel_rfl
  case hrt6 => kernel_rfl
  case hQt6 => exact fun _ _ _ h => h
  case hyt6 => (first | (refine Or.inr ⟨by rfl, ?_⟩; rfl) | (refine Or.inl ⟨by rfl, ?_⟩; (intro w hSw; (try dsimp only at hSw); go_simp); try with_reducible rfl))
  case hSt6 => assumption
  try simp only [Act.put, List.setIfInBounds_toArray, List.set_cons_zero, List.set_cons_succ]
  refine' wpAnyH_take (i := 6) ?hit7 ?hst7 ?hft7 ?hrt7 ?hQt7 ?hyt7 ?hSt7 ?ht7
  case hit7 => (simp only [List.getElem?_toArray, List.getElem?_cons_succ, List.getElem?_cons_zero]; exact rfl)
  case hst7 => kernel_rfl
  case hft7 => kernel_rfl
  case hrt7 => kernel_rfl
  case hQt7 => exact fun _ _ _ h => h
  case hyt7 => (first | (refine Or.inr ⟨by rfl, ?_⟩; rfl) | (refine Or.inl ⟨by rfl, ?_⟩; (intro w hSw; (try dsimp only at hSw); go_simp); try with_reducible rfl))
  case hSt7 => assumption
  try simp only [Act.put, List.setIfInBounds_toArray, List.set_cons_zero, List.set_cons_succ]
  refine wpAnyH_ready (rs := [3, 8, 9]) (by kernel_rfl) (by simp) ?_
  refine' AllReadyH.cons ?hi8 (fun K hK => ?hg8) (AllReadyH.cons ?hi9 (fun K hK => ?hg9) (AllReadyH.cons ?hi10 (fun K hK => ?hg10) AllReadyH.nil))
  case hi8 => (simp only [List.getElem?_toArray, List.getElem?_cons_succ, List.getElem?_cons_zero]; exact rfl)
  case hi9 => (simp only [List.getElem?_toArray, List.getElem?_cons_succ, List.getElem?_cons_zero]; exact rfl)
  case hi10 => (simp only [List.getElem?_toArray, List.getElem?_cons_succ, List.getElem?_cons_zero]; exact rfl)
  case hg8 =>
    go_simp
    go_at_call 44
    (with_reducible refine (WNet_ok a k s0 _ (HW.out _ ?q12) ha HN.out HSN.out).mono ?_)
    case q12 => exact HBu1.out
    rintro e b11 ⟨rfl, hb⟩
    have HBb11 := Lib.hid (HBu1.out.trans (hb.mono HBu1.out.size))
    clear hb
    have x0 := (HBb11.out.cell (p := ⟨w.heap.size, 0, none⟩) hB1).trans C0.out
    have y0 := (HBb11.out.cell (p := ⟨g, 0, none⟩) hgl1).trans D0.out
    have y1 := (HBb11.out.cell (p := ⟨g, 1, none⟩) hgl1).trans D1.out
    refine hK.out _ _ (by go_keep) (fun hHeld => ?_)
    clear hK K x0 y0 y1
    refine wpAnyH_ready (rs := [7, 8, 9]) (by kernel_rfl) (by simp) ?_
    refine' AllReadyH.cons ?hi13 (fun K hK => ?hg13) (AllReadyH.cons ?hi14 (fun K hK => ?hg14) (AllReadyH.cons ?hi15 (fun K hK => ?hg15) AllReadyH.nil))
    case hi13 => (simp only [List.getElem?_toArray, List.getElem?_cons_succ, List.getElem?_cons_zero]; exact rfl)
    case hi14 => (simp only [List.getElem?_toArray, List.getElem?_cons_succ, List.getElem?_cons_zero]; exact rfl)
    case hi15 => (simp only [List.getElem?_toArray, List.getElem?_cons_succ, List.getElem?_cons_zero]; exact rfl)
    case hg13 =>
      go_simp
      go_at_call 44
      (with_reducible refine (WNet_ok b j s1 _ (HW.out _ ?q17) hb HN1.out HSN1.out).mono ?_)
      case q17 => exact HBb11.out
      rintro e b16 ⟨rfl, hb⟩
      have HBb16 := Lib.hid (HBb11.out.trans (hb.mono HBb11.out.size))
      clear hb
      have x0 := (HBb16.out.cell (p := ⟨w.heap.size, 0, none⟩) hB1).trans C0.out
      have y0 := (HBb16.out.cell (p := ⟨g, 0, none⟩) hgl1).trans D0.out
      have y1 := (HBb16.out.cell (p := ⟨g, 1, none⟩) hgl1).trans D1.out
      refine hK.out _ _ (by go_keep) (fun hHeld => ?_)
      clear hK K x0 y0 y1
      refine wpAnyH_ready (rs := [8, 9]) (by kernel_rfl) (by simp) ?_
      refine' AllReadyH.cons ?hi18 (fun K hK => ?hg18) (AllReadyH.cons ?hi19 (fun K hK => ?hg19) AllReadyH.nil)
      case hi18 => (simp only [List.getElem?_toArray, List.getElem?_cons_succ, List.getElem?_cons_zero]; exact rfl)
      case hi19 => (simp only [List.getElem?_toArray, List.getElem?_cons_succ, List.getElem?_cons_zero]; exact rfl)
      case hg18 =>
        go_simp
        have hb : Below b16.heap.size b16 (b16.alloc (.cells #[.int .u32 0, .int .i64 0] 47)) := (Below.refl _ _).alloc (Nat.le_refl _) _
        have hnew := heap_alloc_new b16 (.cells #[.int .u32 0, .int .i64 0] 47)
        obtain ⟨G8_a20, hG⟩ : ∃ G, b16.heap.size = G := ⟨_, rfl⟩
        have hGlt : W1.heap.size ≤ G8_a20 := by rw [← hG]; exact HBb16.out.size
        rw [hG] at hnew
        (try rw [hG])
        generalize hwn : b16.alloc (.cells #[.int .u32 0, .int .i64 0] 47) = a20 at *
        have HGG8_a20_a20 := Lib.hid hnew
        have HBa20 := Lib.hid (HBb16.out.trans (hb.mono HBb16.out.size))
        clear hb
        have hggG8_a20 : ¬ G8_a20 = g := by omega
        have hgbG8_a20 : ¬ G8_a20 = w.heap.size := by omega
        have hghG8_a20 : ¬ g = G8_a20 := by omega
        have hgkG8_a20 : ¬ w.heap.size = G8_a20 := by omega
        clear hwn hnew hG
        have x0 := (HBa20.out.cell (p := ⟨w.heap.size, 0, none⟩) hB1).trans C0.out
        have y0 := (HBa20.out.cell (p := ⟨g, 0, none⟩) hgl1).trans D0.out
        have y1 := (HBa20.out.cell (p := ⟨g, 1, none⟩) hgl1).trans D1.out
        refine hK.out _ _ (by go_keep) (fun hHeld => ?_)
        clear hK K x0 y0 y1
        refine wpAnyH_ready (rs := [9]) (by kernel_rfl) (by simp) ?_
        refine' AllReadyH.cons ?hi21 (fun K hK => ?hg21) AllReadyH.nil
        case hi21 => (simp only [List.getElem?_toArray, List.getElem?_cons_succ, List.getElem?_cons_zero]; exact rfl)
        case hg21 =>
          go_simp
          have hb : Below a20.heap.size a20 (a20.alloc (.cells #[.int .u32 0, .int .i64 0] 47)) := (Below.refl _ _).alloc (Nat.le_refl _) _
          have hnew := heap_alloc_new a20 (.cells #[.int .u32 0, .int .i64 0] 47)
          obtain ⟨G9_a22, hG⟩ : ∃ G, a20.heap.size = G := ⟨_, rfl⟩
          have hGlt : W1.heap.size ≤ G9_a22 := by rw [← hG]; exact HBa20.out.size
          have hneG8_a20_G9_a22 : ¬ G9_a22 = G8_a20 := by have := size_of_block HGG8_a20_a20.out; omega
          have hnfG8_a20_G9_a22 : ¬ G8_a20 = G9_a22 := by have := size_of_block HGG8_a20_a20.out; omega
          rw [hG] at hnew
          (try rw [hG])
          generalize hwn : a20.alloc (.cells #[.int .u32 0, .int .i64 0] 47) = a22 at *
          have HGG9_a22_a22 := Lib.hid hnew
          have HBa22 := Lib.hid (HBa20.out.trans (hb.mono HBa20.out.size))
          have HGG8_a20_a22 := Lib.hid (below_block hb (size_of_block HGG8_a20_a20.out) HGG8_a20_a20.out)
          clear hb
          have hggG9_a22 : ¬ G9_a22 = g := by omega
          have hgbG9_a22 : ¬ G9_a22 = w.heap.size := by omega
          have hghG9_a22 : ¬ g = G9_a22 := by omega
          have hgkG9_a22 : ¬ w.heap.size = G9_a22 := by omega
          clear hwn hnew hG
          have x0 := (HBa22.out.cell (p := ⟨w.heap.size, 0, none⟩) hB1).trans C0.out
          have y0 := (HBa22.out.cell (p := ⟨g, 0, none⟩) hgl1).trans D0.out
          have y1 := (HBa22.out.cell (p := ⟨g, 1, none⟩) hgl1).trans D1.out
          refine hK.out _ _ (by go_keep) (fun hHeld => ?_)
          clear hK K x0 y0 y1
          refine wpAnyH_ready (rs := [10]) (by kernel_rfl) (by simp) ?_
          refine' AllReadyH.cons ?hi23 (fun K hK => ?hg23) AllReadyH.nil
          case hi23 => (simp only [List.getElem?_toArray, List.getElem?_cons_succ, List.getElem?_cons_zero]; exact rfl)
          obtain ⟨e0, e1, f0, f1⟩ := row2 HGG8_a20_a22.out
          go_simp
          have hbs : Below W1.heap.size W1 ((a22.setCell ⟨G8_a20, 0, none⟩ (.int .u32 (a : Int))).setCell ⟨G8_a20, 1, none⟩ (.int .i64 (k : Int))) := (HBa22.out.setCell (p := ⟨G8_a20, 0, none⟩) (by show W1.heap.size ≤ G8_a20; omega) _).setCell (p := ⟨G8_a20, 1, none⟩) (by show W1.heap.size ≤ G8_a20; omega) _
          have hgs := set2_block (.int .u32 (a : Int)) (.int .i64 (k : Int)) HGG8_a20_a22.out
          have hoG9_a22 : ((a22.setCell ⟨G8_a20, 0, none⟩ (.int .u32 (a : Int))).setCell ⟨G8_a20, 1, none⟩ (.int .i64 (k : Int))).heap[G9_a22]? = _ := ((heap_setCell_other _ _ _ _ (show G9_a22 ≠ G8_a20 by omega)).trans (heap_setCell_other _ _ _ _ (show G9_a22 ≠ G8_a20 by omega))).trans HGG9_a22_a22.out
          generalize hwn : ((a22.setCell ⟨G8_a20, 0, none⟩ (.int .u32 (a : Int))).setCell ⟨G8_a20, 1, none⟩ (.int .i64 (k : Int))) = s24 at *
          have HBs24 := Lib.hid hbs
          have HGG8_a20_s24 := Lib.hid hgs
          have HGG9_a22_s24 := Lib.hid hoG9_a22
          clear hoG9_a22
          clear hwn hbs hgs e0 e1 f0 f1
          have x0 := (HBs24.out.cell (p := ⟨w.heap.size, 0, none⟩) hB1).trans C0.out
          have y0 := (HBs24.out.cell (p := ⟨g, 0, none⟩) hgl1).trans D0.out
          have y1 := (HBs24.out.cell (p := ⟨g, 1, none⟩) hgl1).trans D1.out
          refine hK.out _ _ (by go_keep) (fun hHeld => ?_)
          clear hK K x0 y0 y1
          refine wpAnyH_ready (rs := [11]) (by kernel_rfl) (by simp) ?_
          refine' AllReadyH.cons ?hi25 (fun K hK => ?hg25) AllReadyH.nil
          case hi25 => (simp only [List.getElem?_toArray, List.getElem?_cons_succ, List.getElem?_cons_zero]; exact rfl)
          obtain ⟨e0, e1, f0, f1⟩ := row2 HGG9_a22_s24.out
          go_simp
          have hbs : Below W1.heap.size W1 ((s24.setCell ⟨G9_a22, 0, none⟩ (.int .u32 (b : Int))).setCell ⟨G9_a22, 1, none⟩ (.int .i64 (j : Int))) := (HBs24.out.setCell (p := ⟨G9_a22, 0, none⟩) (by show W1.heap.size ≤ G9_a22; omega) _).setCell (p := ⟨G9_a22, 1, none⟩) (by show W1.heap.size ≤ G9_a22; omega) _
          have hgs := set2_block (.int .u32 (b : Int)) (.int .i64 (j : Int)) HGG9_a22_s24.out
          have hoG8_a20 : ((s24.setCell ⟨G9_a22, 0, none⟩ (.int .u32 (b : Int))).setCell ⟨G9_a22, 1, none⟩ (.int .i64 (j : Int))).heap[G8_a20]? = _ := ((heap_setCell_other _ _ _ _ (show G8_a20 ≠ G9_a22 by omega)).trans (heap_setCell_other _ _ _ _ (show G8_a20 ≠ G9_a22 by omega))).trans HGG8_a20_s24.out
          generalize hwn : ((s24.setCell ⟨G9_a22, 0, none⟩ (.int .u32 (b : Int))).setCell ⟨G9_a22, 1, none⟩ (.int .i64 (j : Int))) = s26 at *
          have HBs26 := Lib.hid hbs
          have HGG9_a22_s26 := Lib.hid hgs
          have HGG8_a20_s26 := Lib.hid hoG8_a20
          clear hoG8_a20
          clear hwn hbs hgs e0 e1 f0 f1
          have x0 := (HBs26.out.cell (p := ⟨w.heap.size, 0, none⟩) hB1).trans C0.out
          have y0 := (HBs26.out.cell (p := ⟨g, 0, none⟩) hgl1).trans D0.out
          have y1 := (HBs26.out.cell (p := ⟨g, 1, none⟩) hgl1).trans D1.out
          refine hK.out _ _ (by go_keep) (fun hHeld => ?_)
          clear hK K x0 y0 y1
          refine wpAnyH_done (by kernel_rfl) ?_ _
          clear hHeld
          obtain ⟨e0, e1, f0, f1⟩ := row2 HGG8_a20_s26.out
          obtain ⟨e2, e3, f2, f3⟩ := row2 HGG9_a22_s26.out
          go_wp2_with (first
            | (go_at_call 67; (with_reducible refine (Common_ok _ HI.out HI1.out HN.out HN1.out).mono ?_); rintro e z1 ⟨rfl, hb1⟩; rw [HCV.out]; have HBz := Lib.hid (HBs26.out.trans (hb1.mono HBs26.out.size)); clear hb1)
            | (go_at_call 66; (with_reducible refine (MustN_ok _ _ _).mono ?_); rintro e z2 ⟨rfl, hb2⟩; have HBy := Lib.hid (HBz.out.trans (hb2.mono HBz.out.size)); clear hb2)
            | (go_at_call 58; (with_reducible refine (NText_any p q _ (HW.out _ HBy.out) hp hq).mono ?_); rintro e z3 ⟨rfl, hb3⟩; have HBx := Lib.hid (HBy.out.trans (hb3.mono HBy.out.size)); clear hb3)
            | fail)
          go_ret
          exact ⟨rfl, HB0.out.trans (HBx.out.mono HB0.out.size)⟩
      case hg19 =>
        go_simp
        have hb : Below b16.heap.size b16 (b16.alloc (.cells #[.int .u32 0, .int .i64 0] 47)) := (Below.refl _ _).alloc (Nat.le_refl _) _
        have hnew := heap_alloc_new b16 (.cells #[.int .u32 0, .int .i64 0] 47)
        obtain ⟨G9_a27, hG⟩ : ∃ G, b16.heap.size = G := ⟨_, rfl⟩
        have hGlt : W1.heap.size ≤ G9_a27 := by rw [← hG]; exact HBb16.out.size
        rw [hG] at hnew
        (try rw [hG])
        generalize hwn : b16.alloc (.cells #[.int .u32 0, .int .i64 0] 47) = a27 at *
        have HGG9_a27_a27 := Lib.hid hnew
        have HBa27 := Lib.hid (HBb16.out.trans (hb.mono HBb16.out.size))
        clear hb
        have hggG9_a27 : ¬ G9_a27 = g := by omega
        have hgbG9_a27 : ¬ G9_a27 = w.heap.size := by omega
        have hghG9_a27 : ¬ g = G9_a27 := by omega
        have hgkG9_a27 : ¬ w.heap.size = G9_a27 := by omega
        clear hwn hnew hG
        have x0 := (HBa27.out.cell (p := ⟨w.heap.size, 0, none⟩) hB1).trans C0.out
        have y0 := (HBa27.out.cell (p := ⟨g, 0, none⟩) hgl1).trans D0.out
        have y1 := (HBa27.out.cell (p := ⟨g, 1, none⟩) hgl1).trans D1.out
        refine hK.out _ _ (by go_keep) (fun hHeld => ?_)
        clear hK K x0 y0 y1
        refine wpAnyH_ready (rs := [8]) (by kernel_rfl) (by simp) ?_
        refine' AllReadyH.cons ?hi28 (fun K hK => ?hg28) AllReadyH.nil
        case hi28 => (simp only [List.getElem?_toArray, List.getElem?_cons_succ, List.getElem?_cons_zero]; exact rfl)
        case hg28 =>
          go_simp
          have hb : Below a27.heap.size a27 (a27.alloc (.cells #[.int .u32 0, .int .i64 0] 47)) := (Below.refl _ _).alloc (Nat.le_refl _) _
          have hnew := heap_alloc_new a27 (.cells #[.int .u32 0, .int .i64 0] 47)
          obtain ⟨G8_a29, hG⟩ : ∃ G, a27.heap.size = G := ⟨_, rfl⟩
          have hGlt : W1.heap.size ≤ G8_a29 := by rw [← hG]; exact HBa27.out.size
          have hneG9_a27_G8_a29 : ¬ G8_a29 = G9_a27 := by have := size_of_block HGG9_a27_a27.out; omega
          have hnfG9_a27_G8_a29 : ¬ G9_a27 = G8_a29 := by have := size_of_block HGG9_a27_a27.out; omega
          rw [hG] at hnew
          (try rw [hG])
          generalize hwn : a27.alloc (.cells #[.int .u32 0, .int .i64 0] 47) = a29 at *
          have HGG8_a29_a29 := Lib.hid hnew
          have HBa29 := Lib.hid (HBa27.out.trans (hb.mono HBa27.out.size))
          have HGG9_a27_a29 := Lib.hid (below_block hb (size_of_block HGG9_a27_a27.out) HGG9_a27_a27.out)
          clear hb
          have hggG8_a29 : ¬ G8_a29 = g := by omega
          have hgbG8_a29 : ¬ G8_a29 = w.heap.size := by omega
          have hghG8_a29 : ¬ g = G8_a29 := by omega
          have hgkG8_a29 : ¬ w.heap.size = G8_a29 := by omega
          clear hwn hnew hG
          have x0 := (HBa29.out.cell (p := ⟨w.heap.size, 0, none⟩) hB1).trans C0.out
          have y0 := (HBa29.out.cell (p := ⟨g, 0, none⟩) hgl1).trans D0.out
          have y1 := (HBa29.out.cell (p := ⟨g, 1, none⟩) hgl1).trans D1.out
          refine hK.out _ _ (by go_keep) (fun hHeld => ?_)
          clear hK K x0 y0 y1
          refine wpAnyH_ready (rs := [10]) (by kernel_rfl) (by simp) ?_
          refine' AllReadyH.cons ?hi30 (fun K hK => ?hg30) AllReadyH.nil
          case hi30 => (simp only [List.getElem?_toArray, List.getElem?_cons_succ, List.getElem?_cons_zero]; exact rfl)
          obtain ⟨e0, e1, f0, f1⟩ := row2 HGG8_a29_a29.out
          go_simp
          have hbs : Below W1.heap.size W1 ((a29.setCell ⟨G8_a29, 0, none⟩ (.int .u32 (a : Int))).setCell ⟨G8_a29, 1, none⟩ (.int .i64 (k : Int))) := (HBa29.out.setCell (p := ⟨G8_a29, 0, none⟩) (by show W1.heap.size ≤ G8_a29; omega) _).setCell (p := ⟨G8_a29, 1, none⟩) (by show W1.heap.size ≤ G8_a29; omega) _
          have hgs := set2_block (.int .u32 (a : Int)) (.int .i64 (k : Int)) HGG8_a29_a29.out
          have hoG9_a27 : ((a29.setCell ⟨G8_a29, 0, none⟩ (.int .u32 (a : Int))).setCell ⟨G8_a29, 1, none⟩ (.int .i64 (k : Int))).heap[G9_a27]? = _ := ((heap_setCell_other _ _ _ _ (show G9_a27 ≠ G8_a29 by omega)).trans (heap_setCell_other _ _ _ _ (show G9_a27 ≠ G8_a29 by omega))).trans HGG9_a27_a29.out
          generalize hwn : ((a29.setCell ⟨G8_a29, 0, none⟩ (.int .u32 (a : Int))).setCell ⟨G8_a29, 1, none⟩ (.int .i64 (k : Int))) = s31 at *
          have HBs31 := Lib.hid hbs
          have HGG8_a29_s31 := Lib.hid hgs
          have HGG9_a27_s31 := Lib.hid hoG9_a27
          clear hoG9_a27
          clear hwn hbs hgs e0 e1 f0 f1
          have x0 := (HBs31.out.cell (p := ⟨w.heap.size, 0, none⟩) hB1).trans C0.out
          have y0 := (HBs31.out.cell (p := ⟨g, 0, none⟩) hgl1).trans D0.out
          have y1 := (HBs31.out.cell (p := ⟨g, 1, none⟩) hgl1).trans D1.out
          refine hK.out _ _ (by go_keep) (fun hHeld => ?_)
          clear hK K x0 y0 y1
          refine wpAnyH_ready (rs := [11]) (by kernel_rfl) (by simp) ?_
          refine' AllReadyH.cons ?hi32 (fun K hK => ?hg32) AllReadyH.nil
          case hi32 => (simp only [List.getElem?_toArray, List.getElem?_cons_succ, List.getElem?_cons_zero]; exact rfl)
          obtain ⟨e0, e1, f0, f1⟩ := row2 HGG9_a27_s31.out
          go_simp
          have hbs : Below W1.heap.size W1 ((s31.setCell ⟨G9_a27, 0, none⟩ (.int .u32 (b : Int))).setCell ⟨G9_a27, 1, none⟩ (.int .i64 (j : Int))) := (HBs31.out.setCell (p := ⟨G9_a27, 0, none⟩) (by show W1.heap.size ≤ G9_a27; omega) _).setCell (p := ⟨G9_a27, 1, none⟩) (by show W1.heap.size ≤ G9_a27; omega) _
          have hgs := set2_block (.int .u32 (b : Int)) (.int .i64 (j : Int)) HGG9_a27_s31.out
          have hoG8_a29 : ((s31.setCell ⟨G9_a27, 0, none⟩ (.int .u32 (b : Int))).setCell ⟨G9_a27, 1, none⟩ (.int .i64 (j : Int))).heap[G8_a29]? = _ := ((heap_setCell_other _ _ _ _ (show G8_a29 ≠ G9_a27 by omega)).trans (heap_setCell_other _ _ _ _ (show G8_a29 ≠ G9_a27 by omega))).trans HGG8_a29_s31.out
          generalize hwn : ((s31.setCell ⟨G9_a27, 0, none⟩ (.int .u32 (b : Int))).setCell ⟨G9_a27, 1, none⟩ (.int .i64 (j : Int))) = s33 at *
          have HBs33 := Lib.hid hbs
          have HGG9_a27_s33 := Lib.hid hgs
          have HGG8_a29_s33 := Lib.hid hoG8_a29
          clear hoG8_a29
          clear hwn hbs hgs e0 e1 f0 f1
          have x0 := (HBs33.out.cell (p := ⟨w.heap.size, 0, none⟩) hB1).trans C0.out
          have y0 := (HBs33.out.cell (p := ⟨g, 0, none⟩) hgl1).trans D0.out
          have y1 := (HBs33.out.cell (p := ⟨g, 1, none⟩) hgl1).trans D1.out
          refine hK.out _ _ (by go_keep) (fun hHeld => ?_)
          clear hK K x0 y0 y1
          refine wpAnyH_done (by kernel_rfl) ?_ _
          clear hHeld
          obtain ⟨e0, e1, f0, f1⟩ := row2 HGG8_a29_s33.out
          obtain ⟨e2, e3, f2, f3⟩ := row2 HGG9_a27_s33.out
          go_wp2_with (first
            | (go_at_call 67; (with_reducible refine (Common_ok _ HI.out HI1.out HN.out HN1.out).mono ?_); rintro e z1 ⟨rfl, hb1⟩; rw [HCV.out]; have HBz := Lib.hid (HBs33.out.trans (hb1.mono HBs33.out.size)); clear hb1)
            | (go_at_call 66; (with_reducible refine (MustN_ok _ _ _).mono ?_); rintro e z2 ⟨rfl, hb2⟩; have HBy := Lib.hid (HBz.out.trans (hb2.mono HBz.out.size)); clear hb2)
            | (go_at_call 58; (with_reducible refine (NText_any p q _ (HW.out _ HBy.out) hp hq).mono ?_); rintro e z3 ⟨rfl, hb3⟩; have HBx := Lib.hid (HBy.out.trans (hb3.mono HBy.out.size)); clear hb3)
            | fail)
          go_ret
          exact ⟨rfl, HB0.out.trans (HBx.out.mono HB0.out.size)⟩
    case hg14 =>
      go_simp
      have hb : Below b11.heap.size b11 (b11.alloc (.cells #[.int .u32 0, .int .i64 0] 47)) := (Below.refl _ _).alloc (Nat.le_refl _) _
      have hnew := heap_alloc_new b11 (.cells #[.int .u32 0, .int .i64 0] 47)
      obtain ⟨G8_a34, hG⟩ : ∃ G, b11.heap.size = G := ⟨_, rfl⟩
      have hGlt : W1.heap.size ≤ G8_a34 := by rw [← hG]; exact HBb11.out.size
      rw [hG] at hnew
      (try rw [hG])
      generalize hwn : b11.alloc (.cells #[.int .u32 0, .int .i64 0] 47) = a34 at *
      have HGG8_a34_a34 := Lib.hid hnew
      have HBa34 := Lib.hid (HBb11.out.trans (hb.mono HBb11.out.size))
      clear hb
      have hggG8_a34 : ¬ G8_a34 = g := by omega
      have hgbG8_a34 : ¬ G8_a34 = w.heap.size := by omega
      have hghG8_a34 : ¬ g = G8_a34 := by omega
      have hgkG8_a34 : ¬ w.heap.size = G8_a34 := by omega
      clear hwn hnew hG
      have x0 := (HBa34.out.cell (p := ⟨w.heap.size, 0, none⟩) hB1).trans C0.out
      have y0 := (HBa34.out.cell (p := ⟨g, 0, none⟩) hgl1).trans D0.out
      have y1 := (HBa34.out.cell (p := ⟨g, 1, none⟩) hgl1).trans D1.out
      refine hK.out _ _ (by go_keep) (fun hHeld => ?_)
      clear hK K x0 y0 y1
      refine wpAnyH_ready (rs := [7, 9]) (by kernel_rfl) (by simp) ?_
      refine' AllReadyH.cons ?hi35 (fun K hK => ?hg35) (AllReadyH.cons ?hi36 (fun K hK => ?hg36) AllReadyH.nil)
      case hi35 => (simp only [List.getElem?_toArray, List.getElem?_cons_succ, List.getElem?_cons_zero]; exact rfl)
      case hi36 => (simp only [List.getElem?_toArray, List.getElem?_cons_succ, List.getElem?_cons_zero]; exact rfl)
      case hg35 =>
        go_simp
        go_at_call 44
        (with_reducible refine (WNet_ok b j s1 _ (HW.out _ ?q38) hb HN1.out HSN1.out).mono ?_)
        case q38 => exact HBa34.out
        rintro e b37 ⟨rfl, hb⟩
        have HBb37 := Lib.hid (HBa34.out.trans (hb.mono HBa34.out.size))
        have HGG8_a34_b37 := Lib.hid (below_block hb (size_of_block HGG8_a34_a34.out) HGG8_a34_a34.out)
        clear hb
        have x0 := (HBb37.out.cell (p := ⟨w.heap.size, 0, none⟩) hB1).trans C0.out
        have y0 := (HBb37.out.cell (p := ⟨g, 0, none⟩) hgl1).trans D0.out
        have y1 := (HBb37.out.cell (p := ⟨g, 1, none⟩) hgl1).trans D1.out
        refine hK.out _ _ (by go_keep) (fun hHeld => ?_)
        clear hK K x0 y0 y1
        refine wpAnyH_ready (rs := [9]) (by kernel_rfl) (by simp) ?_
        refine' AllReadyH.cons ?hi39 (fun K hK => ?hg39) AllReadyH.nil
        case hi39 => (simp only [List.getElem?_toArray, List.getElem?_cons_succ, List.getElem?_cons_zero]; exact rfl)
        case hg39 =>
          go_simp
          have hb : Below b37.heap.size b37 (b37.alloc (.cells #[.int .u32 0, .int .i64 0] 47)) := (Below.refl _ _).alloc (Nat.le_refl _) _
          have hnew := heap_alloc_new b37 (.cells #[.int .u32 0, .int .i64 0] 47)
          obtain ⟨G9_a40, hG⟩ : ∃ G, b37.heap.size = G := ⟨_, rfl⟩
          have hGlt : W1.heap.size ≤ G9_a40 := by rw [← hG]; exact HBb37.out.size
          have hneG8_a34_G9_a40 : ¬ G9_a40 = G8_a34 := by have := size_of_block HGG8_a34_b37.out; omega
          have hnfG8_a34_G9_a40 : ¬ G8_a34 = G9_a40 := by have := size_of_block HGG8_a34_b37.out; omega
          rw [hG] at hnew
          (try rw [hG])
          generalize hwn : b37.alloc (.cells #[.int .u32 0, .int .i64 0] 47) = a40 at *
          have HGG9_a40_a40 := Lib.hid hnew
          have HBa40 := Lib.hid (HBb37.out.trans (hb.mono HBb37.out.size))
          have HGG8_a34_a40 := Lib.hid (below_block hb (size_of_block HGG8_a34_b37.out) HGG8_a34_b37.out)
          clear hb
          have hggG9_a40 : ¬ G9_a40 = g := by omega
          have hgbG9_a40 : ¬ G9_a40 = w.heap.size := by omega
          have hghG9_a40 : ¬ g = G9_a40 := by omega
          have hgkG9_a40 : ¬ w.heap.size = G9_a40 := by omega
          clear hwn hnew hG
          have x0 := (HBa40.out.cell (p := ⟨w.heap.size, 0, none⟩) hB1).trans C0.out
          have y0 := (HBa40.out.cell (p := ⟨g, 0, none⟩) hgl1).trans D0.out
          have y1 := (HBa40.out.cell (p := ⟨g, 1, none⟩) hgl1).trans D1.out
          refine hK.out _ _ (by go_keep) (fun hHeld => ?_)
          clear hK K x0 y0 y1
          refine wpAnyH_ready (rs := [10]) (by kernel_rfl) (by simp) ?_
          refine' AllReadyH.cons ?hi41 (fun K hK => ?hg41) AllReadyH.nil
          case hi41 => (simp only [List.getElem?_toArray, List.getElem?_cons_succ, List.getElem?_cons_zero]; exact rfl)
          obtain ⟨e0, e1, f0, f1⟩ := row2 HGG8_a34_a40.out
          go_simp
          have hbs : Below W1.heap.size W1 ((a40.setCell ⟨G8_a34, 0, none⟩ (.int .u32 (a : Int))).setCell ⟨G8_a34, 1, none⟩ (.int .i64 (k : Int))) := (HBa40.out.setCell (p := ⟨G8_a34, 0, none⟩) (by show W1.heap.size ≤ G8_a34; omega) _).setCell (p := ⟨G8_a34, 1, none⟩) (by show W1.heap.size ≤ G8_a34; omega) _
          have hgs := set2_block (.int .u32 (a : Int)) (.int .i64 (k : Int)) HGG8_a34_a40.out
          have hoG9_a40 : ((a40.setCell ⟨G8_a34, 0, none⟩ (.int .u32 (a : Int))).setCell ⟨G8_a34, 1, none⟩ (.int .i64 (k : Int))).heap[G9_a40]? = _ := ((heap_setCell_other _ _ _ _ (show G9_a40 ≠ G8_a34 by omega)).trans (heap_setCell_other _ _ _ _ (show G9_a40 ≠ G8_a34 by omega))).trans HGG9_a40_a40.out
          generalize hwn : ((a40.setCell ⟨G8_a34, 0, none⟩ (.int .u32 (a : Int))).setCell ⟨G8_a34, 1, none⟩ (.int .i64 (k : Int))) = s42 at *
          have HBs42 := Lib.hid hbs
          have HGG8_a34_s42 := Lib.hid hgs
          have HGG9_a40_s42 := Lib.hid hoG9_a40
          clear hoG9_a40
          clear hwn hbs hgs e0 e1 f0 f1
          have x0 := (HBs42.out.cell (p := ⟨w.heap.size, 0, none⟩) hB1).trans C0.out
          have y0 := (HBs42.out.cell (p := ⟨g, 0, none⟩) hgl1).trans D0.out
          have y1 := (HBs42.out.cell (p := ⟨g, 1, none⟩) hgl1).trans D1.out
          refine hK.out _ _ (by go_keep) (fun hHeld => ?_)
          clear hK K x0 y0 y1
          refine wpAnyH_ready (rs := [11]) (by kernel_rfl) (by simp) ?_
          refine' AllReadyH.cons ?hi43 (fun K hK => ?hg43) AllReadyH.nil
          case hi43 => (simp only [List.getElem?_toArray, List.getElem?_cons_succ, List.getElem?_cons_zero]; exact rfl)
          obtain ⟨e0, e1, f0, f1⟩ := row2 HGG9_a40_s42.out
          go_simp
          have hbs : Below W1.heap.size W1 ((s42.setCell ⟨G9_a40, 0, none⟩ (.int .u32 (b : Int))).setCell ⟨G9_a40, 1, none⟩ (.int .i64 (j : Int))) := (HBs42.out.setCell (p := ⟨G9_a40, 0, none⟩) (by show W1.heap.size ≤ G9_a40; omega) _).setCell (p := ⟨G9_a40, 1, none⟩) (by show W1.heap.size ≤ G9_a40; omega) _
          have hgs := set2_block (.int .u32 (b : Int)) (.int .i64 (j : Int)) HGG9_a40_s42.out
          have hoG8_a34 : ((s42.setCell ⟨G9_a40, 0, none⟩ (.int .u32 (b : Int))).setCell ⟨G9_a40, 1, none⟩ (.int .i64 (j : Int))).heap[G8_a34]? = _ := ((heap_setCell_other _ _ _ _ (show G8_a34 ≠ G9_a40 by omega)).trans (heap_setCell_other _ _ _ _ (show G8_a34 ≠ G9_a40 by omega))).trans HGG8_a34_s42.out
          generalize hwn : ((s42.setCell ⟨G9_a40, 0, none⟩ (.int .u32 (b : Int))).setCell ⟨G9_a40, 1, none⟩ (.int .i64 (j : Int))) = s44 at *
          have HBs44 := Lib.hid hbs
          have HGG9_a40_s44 := Lib.hid hgs
          have HGG8_a34_s44 := Lib.hid hoG8_a34
          clear hoG8_a34
          clear hwn hbs hgs e0 e1 f0 f1
          have x0 := (HBs44.out.cell (p := ⟨w.heap.size, 0, none⟩) hB1).trans C0.out
          have y0 := (HBs44.out.cell (p := ⟨g, 0, none⟩) hgl1).trans D0.out
          have y1 := (HBs44.out.cell (p := ⟨g, 1, none⟩) hgl1).trans D1.out
          refine hK.out _ _ (by go_keep) (fun hHeld => ?_)
          clear hK K x0 y0 y1
          refine wpAnyH_done (by kernel_rfl) ?_ _
          clear hHeld
          obtain ⟨e0, e1, f0, f1⟩ := row2 HGG8_a34_s44.out
          obtain ⟨e2, e3, f2, f3⟩ := row2 HGG9_a40_s44.out
          go_wp2_with (first
            | (go_at_call 67; (with_reducible refine (Common_ok _ HI.out HI1.out HN.out HN1.out).mono ?_); rintro e z1 ⟨rfl, hb1⟩; rw [HCV.out]; have HBz := Lib.hid (HBs44.out.trans (hb1.mono HBs44.out.size)); clear hb1)
            | (go_at_call 66; (with_reducible refine (MustN_ok _ _ _).mono ?_); rintro e z2 ⟨rfl, hb2⟩; have HBy := Lib.hid (HBz.out.trans (hb2.mono HBz.out.size)); clear hb2)
            | (go_at_call 58; (with_reducible refine (NText_any p q _ (HW.out _ HBy.out) hp hq).mono ?_); rintro e z3 ⟨rfl, hb3⟩; have HBx := Lib.hid (HBy.out.trans (hb3.mono HBy.out.size)); clear hb3)
            | fail)
          go_ret
          exact ⟨rfl, HB0.out.trans (HBx.out.mono HB0.out.size)⟩
      case hg36 =>
        go_simp
        have hb : Below a34.heap.size a34 (a34.alloc (.cells #[.int .u32 0, .int .i64 0] 47)) := (Below.refl _ _).alloc (Nat.le_refl _) _
        have hnew := heap_alloc_new a34 (.cells #[.int .u32 0, .int .i64 0] 47)
        obtain ⟨G9_a45, hG⟩ : ∃ G, a34.heap.size = G := ⟨_, rfl⟩
        have hGlt : W1.heap.size ≤ G9_a45 := by rw [← hG]; exact HBa34.out.size
        have hneG8_a34_G9_a45 : ¬ G9_a45 = G8_a34 := by have := size_of_block HGG8_a34_a34.out; omega
        have hnfG8_a34_G9_a45 : ¬ G8_a34 = G9_a45 := by have := size_of_block HGG8_a34_a34.out; omega
        rw [hG] at hnew
        (try rw [hG])
        generalize hwn : a34.alloc (.cells #[.int .u32 0, .int .i64 0] 47) = a45 at *
        have HGG9_a45_a45 := Lib.hid hnew
        have HBa45 := Lib.hid (HBa34.out.trans (hb.mono HBa34.out.size))
        have HGG8_a34_a45 := Lib.hid (below_block hb (size_of_block HGG8_a34_a34.out) HGG8_a34_a34.out)
        clear hb
        have hggG9_a45 : ¬ G9_a45 = g := by omega
        have hgbG9_a45 : ¬ G9_a45 = w.heap.size := by omega
        have hghG9_a45 : ¬ g = G9_a45 := by omega
        have hgkG9_a45 : ¬ w.heap.size = G9_a45 := by omega
        clear hwn hnew hG
        have x0 := (HBa45.out.cell (p := ⟨w.heap.size, 0, none⟩) hB1).trans C0.out
        have y0 := (HBa45.out.cell (p := ⟨g, 0, none⟩) hgl1).trans D0.out
        have y1 := (HBa45.out.cell (p := ⟨g, 1, none⟩) hgl1).trans D1.out
        refine hK.out _ _ (by go_keep) (fun hHeld => ?_)
        clear hK K x0 y0 y1
        refine wpAnyH_ready (rs := [7]) (by kernel_rfl) (by simp) ?_
        refine' AllReadyH.cons ?hi46 (fun K hK => ?hg46) AllReadyH.nil
        case hi46 => (simp only [List.getElem?_toArray, List.getElem?_cons_succ, List.getElem?_cons_zero]; exact rfl)
        case hg46 =>
          go_simp
          go_at_call 44
          (with_reducible refine (WNet_ok b j s1 _ (HW.out _ ?q48) hb HN1.out HSN1.out).mono ?_)
          case q48 => exact HBa45.out
          rintro e b47 ⟨rfl, hb⟩
          have HBb47 := Lib.hid (HBa45.out.trans (hb.mono HBa45.out.size))
          have HGG8_a34_b47 := Lib.hid (below_block hb (size_of_block HGG8_a34_a45.out) HGG8_a34_a45.out)
          have HGG9_a45_b47 := Lib.hid (below_block hb (size_of_block HGG9_a45_a45.out) HGG9_a45_a45.out)
          clear hb
          have x0 := (HBb47.out.cell (p := ⟨w.heap.size, 0, none⟩) hB1).trans C0.out
          have y0 := (HBb47.out.cell (p := ⟨g, 0, none⟩) hgl1).trans D0.out
          have y1 := (HBb47.out.cell (p := ⟨g, 1, none⟩) hgl1).trans D1.out
          refine hK.out _ _ (by go_keep) (fun hHeld => ?_)
          clear hK K x0 y0 y1
          refine wpAnyH_ready (rs := [10]) (by kernel_rfl) (by simp) ?_
          refine' AllReadyH.cons ?hi49 (fun K hK => ?hg49) AllReadyH.nil
          case hi49 => (simp only [List.getElem?_toArray, List.getElem?_cons_succ, List.getElem?_cons_zero]; exact rfl)
          obtain ⟨e0, e1, f0, f1⟩ := row2 HGG8_a34_b47.out
          go_simp
          have hbs : Below W1.heap.size W1 ((b47.setCell ⟨G8_a34, 0, none⟩ (.int .u32 (a : Int))).setCell ⟨G8_a34, 1, none⟩ (.int .i64 (k : Int))) := (HBb47.out.setCell (p := ⟨G8_a34, 0, none⟩) (by show W1.heap.size ≤ G8_a34; omega) _).setCell (p := ⟨G8_a34, 1, none⟩) (by show W1.heap.size ≤ G8_a34; omega) _
          have hgs := set2_block (.int .u32 (a : Int)) (.int .i64 (k : Int)) HGG8_a34_b47.out
          have hoG9_a45 : ((b47.setCell ⟨G8_a34, 0, none⟩ (.int .u32 (a : Int))).setCell ⟨G8_a34, 1, none⟩ (.int .i64 (k : Int))).heap[G9_a45]? = _ := ((heap_setCell_other _ _ _ _ (show G9_a45 ≠ G8_a34 by omega)).trans (heap_setCell_other _ _ _ _ (show G9_a45 ≠ G8_a34 by omega))).trans HGG9_a45_b47.out
          generalize hwn : ((b47.setCell ⟨G8_a34, 0, none⟩ (.int .u32 (a : Int))).setCell ⟨G8_a34, 1, none⟩ (.int .i64 (k : Int))) = s50 at *
          have HBs50 := Lib.hid hbs
          have HGG8_a34_s50 := Lib.hid hgs
          have HGG9_a45_s50 := Lib.hid hoG9_a45
          clear hoG9_a45
          clear hwn hbs hgs e0 e1 f0 f1
          have x0 := (HBs50.out.cell (p := ⟨w.heap.size, 0, none⟩) hB1).trans C0.out
          have y0 := (HBs50.out.cell (p := ⟨g, 0, none⟩) hgl1).trans D0.out
          have y1 := (HBs50.out.cell (p := ⟨g, 1, none⟩) hgl1).trans D1.out
          refine hK.out _ _ (by go_keep) (fun hHeld => ?_)
          clear hK K x0 y0 y1
          refine wpAnyH_ready (rs := [11]) (by kernel_rfl) (by simp) ?_
          refine' AllReadyH.cons ?hi51 (fun K hK => ?hg51) AllReadyH.nil
          case hi51 => (simp only [List.getElem?_toArray, List.getElem?_cons_succ, List.getElem?_cons_zero]; exact rfl)
          obtain ⟨e0, e1, f0, f1⟩ := row2 HGG9_a45_s50.out
          go_simp
          have hbs : Below W1.heap.size W1 ((s50.setCell ⟨G9_a45, 0, none⟩ (.int .u32 (b : Int))).setCell ⟨G9_a45, 1, none⟩ (.int .i64 (j : Int))) := (HBs50.out.setCell (p := ⟨G9_a45, 0, none⟩) (by show W1.heap.size ≤ G9_a45; omega) _).setCell (p := ⟨G9_a45, 1, none⟩) (by show W1.heap.size ≤ G9_a45; omega) _
          have hgs := set2_block (.int .u32 (b : Int)) (.int .i64 (j : Int)) HGG9_a45_s50.out
          have hoG8_a34 : ((s50.setCell ⟨G9_a45, 0, none⟩ (.int .u32 (b : Int))).setCell ⟨G9_a45, 1, none⟩ (.int .i64 (j : Int))).heap[G8_a34]? = _ := ((heap_setCell_other _ _ _ _ (show G8_a34 ≠ G9_a45 by omega)).trans (heap_setCell_other _ _ _ _ (show G8_a34 ≠ G9_a45 by omega))).trans HGG8_a34_s50.out
          generalize hwn : ((s50.setCell ⟨G9_a45, 0, none⟩ (.int .u32 (b : Int))).setCell ⟨G9_a45, 1, none⟩ (.int .i64 (j : Int))) = s52 at *
          have HBs52 := Lib.hid hbs
          have HGG9_a45_s52 := Lib.hid hgs
          have HGG8_a34_s52 := Lib.hid hoG8_a34
          clear hoG8_a34
          clear hwn hbs hgs e0 e1 f0 f1
          have x0 := (HBs52.out.cell (p := ⟨w.heap.size, 0, none⟩) hB1).trans C0.out
          have y0 := (HBs52.out.cell (p := ⟨g, 0, none⟩) hgl1).trans D0.out
          have y1 := (HBs52.out.cell (p := ⟨g, 1, none⟩) hgl1).trans D1.out
          refine hK.out _ _ (by go_keep) (fun hHeld => ?_)
          clear hK K x0 y0 y1
          refine wpAnyH_done (by kernel_rfl) ?_ _
          clear hHeld
          obtain ⟨e0, e1, f0, f1⟩ := row2 HGG8_a34_s52.out
          obtain ⟨e2, e3, f2, f3⟩ := row2 HGG9_a45_s52.out
          go_wp2_with (first
            | (go_at_call 67; (with_reducible refine (Common_ok _ HI.out HI1.out HN.out HN1.out).mono ?_); rintro e z1 ⟨rfl, hb1⟩; rw [HCV.out]; have HBz := Lib.hid (HBs52.out.trans (hb1.mono HBs52.out.size)); clear hb1)
            | (go_at_call 66; (with_reducible refine (MustN_ok _ _ _).mono ?_); rintro e z2 ⟨rfl, hb2⟩; have HBy := Lib.hid (HBz.out.trans (hb2.mono HBz.out.size)); clear hb2)
            | (go_at_call 58; (with_reducible refine (NText_any p q _ (HW.out _ HBy.out) hp hq).mono ?_); rintro e z3 ⟨rfl, hb3⟩; have HBx := Lib.hid (HBy.out.trans (hb3.mono HBy.out.size)); clear hb3)
            | fail)
          go_ret
          exact ⟨rfl, HB0.out.trans (HBx.out.mono HB0.out.size)⟩
    case hg15 =>
      go_simp
      have hb : Below b11.heap.size b11 (b11.alloc (.cells #[.int .u32 0, .int .i64 0] 47)) := (Below.refl _ _).alloc (Nat.le_refl _) _
      have hnew := heap_alloc_new b11 (.cells #[.int .u32 0, .int .i64 0] 47)
      obtain ⟨G9_a53, hG⟩ : ∃ G, b11.heap.size = G := ⟨_, rfl⟩
      have hGlt : W1.heap.size ≤ G9_a53 := by rw [← hG]; exact HBb11.out.size
      rw [hG] at hnew
      (try rw [hG])
      generalize hwn : b11.alloc (.cells #[.int .u32 0, .int .i64 0] 47) = a53 at *
      have HGG9_a53_a53 := Lib.hid hnew
      have HBa53 := Lib.hid (HBb11.out.trans (hb.mono HBb11.out.size))
      clear hb
      have hggG9_a53 : ¬ G9_a53 = g := by omega
      have hgbG9_a53 : ¬ G9_a53 = w.heap.size := by omega
      have hghG9_a53 : ¬ g = G9_a53 := by omega
      have hgkG9_a53 : ¬ w.heap.size = G9_a53 := by omega
      clear hwn hnew hG
      have x0 := (HBa53.out.cell (p := ⟨w.heap.size, 0, none⟩) hB1).trans C0.out
      have y0 := (HBa53.out.cell (p := ⟨g, 0, none⟩) hgl1).trans D0.out
      have y1 := (HBa53.out.cell (p := ⟨g, 1, none⟩) hgl1).trans D1.out
      refine hK.out _ _ (by go_keep) (fun hHeld => ?_)
      clear hK K x0 y0 y1
      refine wpAnyH_ready (rs := [7, 8]) (by kernel_rfl) (by simp) ?_
      refine' AllReadyH.cons ?hi54 (fun K hK => ?hg54) (AllReadyH.cons ?hi55 (fun K hK => ?hg55) AllReadyH.nil)
      case hi54 => (simp only [List.getElem?_toArray, List.getElem?_cons_succ, List.getElem?_cons_zero]; exact rfl)
      case hi55 => (simp only [List.getElem?_toArray, List.getElem?_cons_succ, List.getElem?_cons_zero]; exact rfl)
      case hg54 =>
        go_simp
        go_at_call 44
        (with_reducible refine (WNet_ok b j s1 _ (HW.out _ ?q57) hb HN1.out HSN1.out).mono ?_)
        case q57 => exact HBa53.out
        rintro e b56 ⟨rfl, hb⟩
        have HBb56 := Lib.hid (HBa53.out.trans (hb.mono HBa53.out.size))
        have HGG9_a53_b56 := Lib.hid (below_block hb (size_of_block HGG9_a53_a53.out) HGG9_a53_a53.out)
        clear hb
        have x0 := (HBb56.out.cell (p := ⟨w.heap.size, 0, none⟩) hB1).trans C0.out
        have y0 := (HBb56.out.cell (p := ⟨g, 0, none⟩) hgl1).trans D0.out
        have y1 := (HBb56.out.cell (p := ⟨g, 1, none⟩) hgl1).trans D1.out
        refine hK.out _ _ (by go_keep) (fun hHeld => ?_)
        clear hK K x0 y0 y1
        refine wpAnyH_ready (rs := [8]) (by kernel_rfl) (by simp) ?_
        refine' AllReadyH.cons ?hi58 (fun K hK => ?hg58) AllReadyH.nil
        case hi58 => (simp only [List.getElem?_toArray, List.getElem?_cons_succ, List.getElem?_cons_zero]; exact rfl)
        case hg58 =>
          go_simp
          have hb : Below b56.heap.size b56 (b56.alloc (.cells #[.int .u32 0, .int .i64 0] 47)) := (Below.refl _ _).alloc (Nat.le_refl _) _
          have hnew := heap_alloc_new b56 (.cells #[.int .u32 0, .int .i64 0] 47)
          obtain ⟨G8_a59, hG⟩ : ∃ G, b56.heap.size = G := ⟨_, rfl⟩
          have hGlt : W1.heap.size ≤ G8_a59 := by rw [← hG]; exact HBb56.out.size
          have hneG9_a53_G8_a59 : ¬ G8_a59 = G9_a53 := by have := size_of_block HGG9_a53_b56.out; omega
          have hnfG9_a53_G8_a59 : ¬ G9_a53 = G8_a59 := by have := size_of_block HGG9_a53_b56.out; omega
          rw [hG] at hnew
          (try rw [hG])
          generalize hwn : b56.alloc (.cells #[.int .u32 0, .int .i64 0] 47) = a59 at *
          have HGG8_a59_a59 := Lib.hid hnew
          have HBa59 := Lib.hid (HBb56.out.trans (hb.mono HBb56.out.size))
          have HGG9_a53_a59 := Lib.hid (below_block hb (size_of_block HGG9_a53_b56.out) HGG9_a53_b56.out)
          clear hb
          have hggG8_a59 : ¬ G8_a59 = g := by omega
          have hgbG8_a59 : ¬ G8_a59 = w.heap.size := by omega
          have hghG8_a59 : ¬ g = G8_a59 := by omega
          have hgkG8_a59 : ¬ w.heap.size = G8_a59 := by omega
          clear hwn hnew hG
          have x0 := (HBa59.out.cell (p := ⟨w.heap.size, 0, none⟩) hB1).trans C0.out
          have y0 := (HBa59.out.cell (p := ⟨g, 0, none⟩) hgl1).trans D0.out
          have y1 := (HBa59.out.cell (p := ⟨g, 1, none⟩) hgl1).trans D1.out
          refine hK.out _ _ (by go_keep) (fun hHeld => ?_)
          clear hK K x0 y0 y1
          refine wpAnyH_ready (rs := [10]) (by kernel_rfl) (by simp) ?_
          refine' AllReadyH.cons ?hi60 (fun K hK => ?hg60) AllReadyH.nil
          case hi60 => (simp only [List.getElem?_toArray, List.getElem?_cons_succ, List.getElem?_cons_zero]; exact rfl)
          obtain ⟨e0, e1, f0, f1⟩ := row2 HGG8_a59_a59.out
          go_simp
          have hbs : Below W1.heap.size W1 ((a59.setCell ⟨G8_a59, 0, none⟩ (.int .u32 (a : Int))).setCell ⟨G8_a59, 1, none⟩ (.int .i64 (k : Int))) := (HBa59.out.setCell (p := ⟨G8_a59, 0, none⟩) (by show W1.heap.size ≤ G8_a59; omega) _).setCell (p := ⟨G8_a59, 1, none⟩) (by show W1.heap.size ≤ G8_a59; omega) _
          have hgs := set2_block (.int .u32 (a : Int)) (.int .i64 (k : Int)) HGG8_a59_a59.out
          have hoG9_a53 : ((a59.setCell ⟨G8_a59, 0, none⟩ (.int .u32 (a : Int))).setCell ⟨G8_a59, 1, none⟩ (.int .i64 (k : Int))).heap[G9_a53]? = _ := ((heap_setCell_other _ _ _ _ (show G9_a53 ≠ G8_a59 by omega)).trans (heap_setCell_other _ _ _ _ (show G9_a53 ≠ G8_a59 by omega))).trans HGG9_a53_a59.out
          generalize hwn : ((a59.setCell ⟨G8_a59, 0, none⟩ (.int .u32 (a : Int))).setCell ⟨G8_a59, 1, none⟩ (.int .i64 (k : Int))) = s61 at *
          have HBs61 := Lib.hid hbs
          have HGG8_a59_s61 := Lib.hid hgs
          have HGG9_a53_s61 := Lib.hid hoG9_a53
          clear hoG9_a53
          clear hwn hbs hgs e0 e1 f0 f1
          have x0 := (HBs61.out.cell (p := ⟨w.heap.size, 0, none⟩) hB1).trans C0.out
          have y0 := (HBs61.out.cell (p := ⟨g, 0, none⟩) hgl1).trans D0.out
          have y1 := (HBs61.out.cell (p := ⟨g, 1, none⟩) hgl1).trans D1.out
          refine hK.out _ _ (by go_keep) (fun hHeld => ?_)
          clear hK K x0 y0 y1
          refine wpAnyH_ready (rs := [11]) (by kernel_rfl) (by simp) ?_
          refine' AllReadyH.cons ?hi62 (fun K hK => ?hg62) AllReadyH.nil
          case hi62 => (simp only [List.getElem?_toArray, List.getElem?_cons_succ, List.getElem?_cons_zero]; exact rfl)
          obtain ⟨e0, e1, f0, f1⟩ := row2 HGG9_a53_s61.out
          go_simp
          have hbs : Below W1.heap.size W1 ((s61.setCell ⟨G9_a53, 0, none⟩ (.int .u32 (b : Int))).setCell ⟨G9_a53, 1, none⟩ (.int .i64 (j : Int))) := (HBs61.out.setCell (p := ⟨G9_a53, 0, none⟩) (by show W1.heap.size ≤ G9_a53; omega) _).setCell (p := ⟨G9_a53, 1, none⟩) (by show W1.heap.size ≤ G9_a53; omega) _
          have hgs := set2_block (.int .u32 (b : Int)) (.int .i64 (j : Int)) HGG9_a53_s61.out
          have hoG8_a59 : ((s61.setCell ⟨G9_a53, 0, none⟩ (.int .u32 (b : Int))).setCell ⟨G9_a53, 1, none⟩ (.int .i64 (j : Int))).heap[G8_a59]? = _ := ((heap_setCell_other _ _ _ _ (show G8_a59 ≠ G9_a53 by omega)).trans (heap_setCell_other _ _ _ _ (show G8_a59 ≠ G9_a53 by omega))).trans HGG8_a59_s61.out
          generalize hwn : ((s61.setCell ⟨G9_a53, 0, none⟩ (.int .u32 (b : Int))).setCell ⟨G9_a53, 1, none⟩ (.int .i64 (j : Int))) = s63 at *
          have HBs63 := Lib.hid hbs
          have HGG9_a53_s63 := Lib.hid hgs
          have HGG8_a59_s63 := Lib.hid hoG8_a59
          clear hoG8_a59
          clear hwn hbs hgs e0 e1 f0 f1
          have x0 := (HBs63.out.cell (p := ⟨w.heap.size, 0, none⟩) hB1).trans C0.out
          have y0 := (HBs63.out.cell (p := ⟨g, 0, none⟩) hgl1).trans D0.out
          have y1 := (HBs63.out.cell (p := ⟨g, 1, none⟩) hgl1).trans D1.out
          refine hK.out _ _ (by go_keep) (fun hHeld => ?_)
          clear hK K x0 y0 y1
          refine wpAnyH_done (by kernel_rfl) ?_ _
          clear hHeld
          obtain ⟨e0, e1, f0, f1⟩ := row2 HGG8_a59_s63.out
          obtain ⟨e2, e3, f2, f3⟩ := row2 HGG9_a53_s63.out
          go_wp2_with (first
            | (go_at_call 67; (with_reducible refine (Common_ok _ HI.out HI1.out HN.out HN1.out).mono ?_); rintro e z1 ⟨rfl, hb1⟩; rw [HCV.out]; have HBz := Lib.hid (HBs63.out.trans (hb1.mono HBs63.out.size)); clear hb1)
            | (go_at_call 66; (with_reducible refine (MustN_ok _ _ _).mono ?_); rintro e z2 ⟨rfl, hb2⟩; have HBy := Lib.hid (HBz.out.trans (hb2.mono HBz.out.size)); clear hb2)
            | (go_at_call 58; (with_reducible refine (NText_any p q _ (HW.out _ HBy.out) hp hq).mono ?_); rintro e z3 ⟨rfl, hb3⟩; have HBx := Lib.hid (HBy.out.trans (hb3.mono HBy.out.size)); clear hb3)
            | fail)
          go_ret
          exact ⟨rfl, HB0.out.trans (HBx.out.mono HB0.out.size)⟩
      case hg55 =>
        go_simp
        have hb : Below a53.heap.size a53 (a53.alloc (.cells #[.int .u32 0, .int .i64 0] 47)) := (Below.refl _ _).alloc (Nat.le_refl _) _
        have hnew := heap_alloc_new a53 (.cells #[.int .u32 0, .int .i64 0] 47)
        obtain ⟨G8_a64, hG⟩ : ∃ G, a53.heap.size = G := ⟨_, rfl⟩
        have hGlt : W1.heap.size ≤ G8_a64 := by rw [← hG]; exact HBa53.out.size
        have hneG9_a53_G8_a64 : ¬ G8_a64 = G9_a53 := by have := size_of_block HGG9_a53_a53.out; omega
        have hnfG9_a53_G8_a64 : ¬ G9_a53 = G8_a64 := by have := size_of_block HGG9_a53_a53.out; omega
        rw [hG] at hnew
        (try rw [hG])
        generalize hwn : a53.alloc (.cells #[.int .u32 0, .int .i64 0] 47) = a64 at *
        have HGG8_a64_a64 := Lib.hid hnew
        have HBa64 := Lib.hid (HBa53.out.trans (hb.mono HBa53.out.size))
        have HGG9_a53_a64 := Lib.hid (below_block hb (size_of_block HGG9_a53_a53.out) HGG9_a53_a53.out)
        clear hb
        have hggG8_a64 : ¬ G8_a64 = g := by omega
        have hgbG8_a64 : ¬ G8_a64 = w.heap.size := by omega
        have hghG8_a64 : ¬ g = G8_a64 := by omega
        have hgkG8_a64 : ¬ w.heap.size = G8_a64 := by omega
        clear hwn hnew hG
        have x0 := (HBa64.out.cell (p := ⟨w.heap.size, 0, none⟩) hB1).trans C0.out
        have y0 := (HBa64.out.cell (p := ⟨g, 0, none⟩) hgl1).trans D0.out
        have y1 := (HBa64.out.cell (p := ⟨g, 1, none⟩) hgl1).trans D1.out
        refine hK.out _ _ (by go_keep) (fun hHeld => ?_)
        clear hK K x0 y0 y1
        refine wpAnyH_ready (rs := [7]) (by kernel_rfl) (by simp) ?_
        refine' AllReadyH.cons ?hi65 (fun K hK => ?hg65) AllReadyH.nil
        case hi65 => (simp only [List.getElem?_toArray, List.getElem?_cons_succ, List.getElem?_cons_zero]; exact rfl)
        case hg65 =>
          go_simp
          go_at_call 44
          (with_reducible refine (WNet_ok b j s1 _ (HW.out _ ?q67) hb HN1.out HSN1.out).mono ?_)
          case q67 => exact HBa64.out
          rintro e b66 ⟨rfl, hb⟩
          have HBb66 := Lib.hid (HBa64.out.trans (hb.mono HBa64.out.size))
          have HGG9_a53_b66 := Lib.hid (below_block hb (size_of_block HGG9_a53_a64.out) HGG9_a53_a64.out)
          have HGG8_a64_b66 := Lib.hid (below_block hb (size_of_block HGG8_a64_a64.out) HGG8_a64_a64.out)
          clear hb
          have x0 := (HBb66.out.cell (p := ⟨w.heap.size, 0, none⟩) hB1).trans C0.out
          have y0 := (HBb66.out.cell (p := ⟨g, 0, none⟩) hgl1).trans D0.out
          have y1 := (HBb66.out.cell (p := ⟨g, 1, none⟩) hgl1).trans D1.out
          refine hK.out _ _ (by go_keep) (fun hHeld => ?_)
          clear hK K x0 y0 y1
          refine wpAnyH_ready (rs := [10]) (by kernel_rfl) (by simp) ?_
          refine' AllReadyH.cons ?hi68 (fun K hK => ?hg68) AllReadyH.nil
          case hi68 => (simp only [List.getElem?_toArray, List.getElem?_cons_succ, List.getElem?_cons_zero]; exact rfl)
          obtain ⟨e0, e1, f0, f1⟩ := row2 HGG8_a64_b66.out
          go_simp
          have hbs : Below W1.heap.size W1 ((b66.setCell ⟨G8_a64, 0, none⟩ (.int .u32 (a : Int))).setCell ⟨G8_a64, 1, none⟩ (.int .i64 (k : Int))) := (HBb66.out.setCell (p := ⟨G8_a64, 0, none⟩) (by show W1.heap.size ≤ G8_a64; omega) _).setCell (p := ⟨G8_a64, 1, none⟩) (by show W1.heap.size ≤ G8_a64; omega) _
          have hgs := set2_block (.int .u32 (a : Int)) (.int .i64 (k : Int)) HGG8_a64_b66.out
          have hoG9_a53 : ((b66.setCell ⟨G8_a64, 0, none⟩ (.int .u32 (a : Int))).setCell ⟨G8_a64, 1, none⟩ (.int .i64 (k : Int))).heap[G9_a53]? = _ := ((heap_setCell_other _ _ _ _ (show G9_a53 ≠ G8_a64 by omega)).trans (heap_setCell_other _ _ _ _ (show G9_a53 ≠ G8_a64 by omega))).trans HGG9_a53_b66.out
          generalize hwn : ((b66.setCell ⟨G8_a64, 0, none⟩ (.int .u32 (a : Int))).setCell ⟨G8_a64, 1, none⟩ (.int .i64 (k : Int))) = s69 at *
          have HBs69 := Lib.hid hbs
          have HGG8_a64_s69 := Lib.hid hgs
          have HGG9_a53_s69 := Lib.hid hoG9_a53
          clear hoG9_a53
          clear hwn hbs hgs e0 e1 f0 f1
          have x0 := (HBs69.out.cell (p := ⟨w.heap.size, 0, none⟩) hB1).trans C0.out
          have y0 := (HBs69.out.cell (p := ⟨g, 0, none⟩) hgl1).trans D0.out
          have y1 := (HBs69.out.cell (p := ⟨g, 1, none⟩) hgl1).trans D1.out
          refine hK.out _ _ (by go_keep) (fun hHeld => ?_)
          clear hK K x0 y0 y1
          refine wpAnyH_ready (rs := [11]) (by kernel_rfl) (by simp) ?_
          refine' AllReadyH.cons ?hi70 (fun K hK => ?hg70) AllReadyH.nil
          case hi70 => (simp only [List.getElem?_toArray, List.getElem?_cons_succ, List.getElem?_cons_zero]; exact rfl)
          obtain ⟨e0, e1, f0, f1⟩ := row2 HGG9_a53_s69.out
          go_simp
          have hbs : Below W1.heap.size W1 ((s69.setCell ⟨G9_a53, 0, none⟩ (.int .u32 (b : Int))).setCell ⟨G9_a53, 1, none⟩ (.int .i64 (j : Int))) := (HBs69.out.setCell (p := ⟨G9_a53, 0, none⟩) (by show W1.heap.size ≤ G9_a53; omega) _).setCell (p := ⟨G9_a53, 1, none⟩) (by show W1.heap.size ≤ G9_a53; omega) _
          have hgs := set2_block (.int .u32 (b : Int)) (.int .i64 (j : Int)) HGG9_a53_s69.out
          have hoG8_a64 : ((s69.setCell ⟨G9_a53, 0, none⟩ (.int .u32 (b : Int))).setCell ⟨G9_a53, 1, none⟩ (.int .i64 (j : Int))).heap[G8_a64]? = _ := ((heap_setCell_other _ _ _ _ (show G8_a64 ≠ G9_a53 by omega)).trans (heap_setCell_other _ _ _ _ (show G8_a64 ≠ G9_a53 by omega))).trans HGG8_a64_s69.out
          generalize hwn : ((s69.setCell ⟨G9_a53, 0, none⟩ (.int .u32 (b : Int))).setCell ⟨G9_a53, 1, none⟩ (.int .i64 (j : Int))) = s71 at *
          have HBs71 := Lib.hid hbs
          have HGG9_a53_s71 := Lib.hid hgs
          have HGG8_a64_s71 := Lib.hid hoG8_a64
          clear hoG8_a64
          clear hwn hbs hgs e0 e1 f0 f1
          have x0 := (HBs71.out.cell (p := ⟨w.heap.size, 0, none⟩) hB1).trans C0.out
          have y0 := (HBs71.out.cell (p := ⟨g, 0, none⟩) hgl1).trans D0.out
          have y1 := (HBs71.out.cell (p := ⟨g, 1, none⟩) hgl1).trans D1.out
          refine hK.out _ _ (by go_keep) (fun hHeld => ?_)
          clear hK K x0 y0 y1
          refine wpAnyH_done (by kernel_rfl) ?_ _
          clear hHeld
          obtain ⟨e0, e1, f0, f1⟩ := row2 HGG8_a64_s71.out
          obtain ⟨e2, e3, f2, f3⟩ := row2 HGG9_a53_s71.out
          go_wp2_with (first
            | (go_at_call 67; (with_reducible refine (Common_ok _ HI.out HI1.out HN.out HN1.out).mono ?_); rintro e z1 ⟨rfl, hb1⟩; rw [HCV.out]; have HBz := Lib.hid (HBs71.out.trans (hb1.mono HBs71.out.size)); clear hb1)
            | (go_at_call 66; (with_reducible refine (MustN_ok _ _ _).mono ?_); rintro e z2 ⟨rfl, hb2⟩; have HBy := Lib.hid (HBz.out.trans (hb2.mono HBz.out.size)); clear hb2)
            | (go_at_call 58; (with_reducible refine (NText_any p q _ (HW.out _ HBy.out) hp hq).mono ?_); rintro e z3 ⟨rfl, hb3⟩; have HBx := Lib.hid (HBy.out.trans (hb3.mono HBy.out.size)); clear hb3)
            | fail)
          go_ret
          exact ⟨rfl, HB0.out.trans (HBx.out.mono HB0.out.size)⟩
  case hg9 =>
    go_simp
    have hb : Below u1.heap.size u1 (u1.alloc (.cells #[.int .u32 0, .int .i64 0] 47)) := (Below.refl _ _).alloc (Nat.le_refl _) _
    have hnew := heap_alloc_new u1 (.cells #[.int .u32 0, .int .i64 0] 47)
    obtain ⟨G8_a72, hG⟩ : ∃ G, u1.heap.size = G := ⟨_, rfl⟩
    have hGlt : W1.heap.size ≤ G8_a72 := by rw [← hG]; exact HBu1.out.size
    rw [hG] at hnew
    (try rw [hG])
    generalize hwn : u1.alloc (.cells #[.int .u32 0, .int .i64 0] 47) = a72 at *
    have HGG8_a72_a72 := Lib.hid hnew
    have HBa72 := Lib.hid (HBu1.out.trans (hb.mono HBu1.out.size))
    clear hb
    have hggG8_a72 : ¬ G8_a72 = g := by omega
    have hgbG8_a72 : ¬ G8_a72 = w.heap.size := by omega
    have hghG8_a72 : ¬ g = G8_a72 := by omega
    have hgkG8_a72 : ¬ w.heap.size = G8_a72 := by omega
    clear hwn hnew hG
    have x0 := (HBa72.out.cell (p := ⟨w.heap.size, 0, none⟩) hB1).trans C0.out
    have y0 := (HBa72.out.cell (p := ⟨g, 0, none⟩) hgl1).trans D0.out
    have y1 := (HBa72.out.cell (p := ⟨g, 1, none⟩) hgl1).trans D1.out
    refine hK.out _ _ (by go_keep) (fun hHeld => ?_)
    clear hK K x0 y0 y1
    refine wpAnyH_ready (rs := [3, 9]) (by kernel_rfl) (by simp) ?_
    refine' AllReadyH.cons ?hi73 (fun K hK => ?hg73) (AllReadyH.cons ?hi74 (fun K hK => ?hg74) AllReadyH.nil)
    case hi73 => (simp only [List.getElem?_toArray, List.getElem?_cons_succ, List.getElem?_cons_zero]; exact rfl)
    case hi74 => (simp only [List.getElem?_toArray, List.getElem?_cons_succ, List.getElem?_cons_zero]; exact rfl)
    case hg73 =>
      go_simp
      go_at_call 44
      (with_reducible refine (WNet_ok a k s0 _ (HW.out _ ?q76) ha HN.out HSN.out).mono ?_)
      case q76 => exact HBa72.out
      rintro e b75 ⟨rfl, hb⟩
      have HBb75 := Lib.hid (HBa72.out.trans (hb.mono HBa72.out.size))
      have HGG8_a72_b75 := Lib.hid (below_block hb (size_of_block HGG8_a72_a72.out) HGG8_a72_a72.out)
      clear hb
      have x0 := (HBb75.out.cell (p := ⟨w.heap.size, 0, none⟩) hB1).trans C0.out
      have y0 := (HBb75.out.cell (p := ⟨g, 0, none⟩) hgl1).trans D0.out
      have y1 := (HBb75.out.cell (p := ⟨g, 1, none⟩) hgl1).trans D1.out
      refine hK.out _ _ (by go_keep) (fun hHeld => ?_)
      clear hK K x0 y0 y1
      refine wpAnyH_ready (rs := [7, 9]) (by kernel_rfl) (by simp) ?_
      refine' AllReadyH.cons ?hi77 (fun K hK => ?hg77) (AllReadyH.cons ?hi78 (fun K hK => ?hg78) AllReadyH.nil)
      case hi77 => (simp only [List.getElem?_toArray, List.getElem?_cons_succ, List.getElem?_cons_zero]; exact rfl)
      case hi78 => (simp only [List.getElem?_toArray, List.getElem?_cons_succ, List.getElem?_cons_zero]; exact rfl)
      case hg77 =>
        go_simp
        go_at_call 44
        (with_reducible refine (WNet_ok b j s1 _ (HW.out _ ?q80) hb HN1.out HSN1.out).mono ?_)
        case q80 => exact HBb75.out
        rintro e b79 ⟨rfl, hb⟩
        have HBb79 := Lib.hid (HBb75.out.trans (hb.mono HBb75.out.size))
        have HGG8_a72_b79 := Lib.hid (below_block hb (size_of_block HGG8_a72_b75.out) HGG8_a72_b75.out)
        clear hb
        have x0 := (HBb79.out.cell (p := ⟨w.heap.size, 0, none⟩) hB1).trans C0.out
        have y0 := (HBb79.out.cell (p := ⟨g, 0, none⟩) hgl1).trans D0.out
        have y1 := (HBb79.out.cell (p := ⟨g, 1, none⟩) hgl1).trans D1.out
        refine hK.out _ _ (by go_keep) (fun hHeld => ?_)
        clear hK K x0 y0 y1
        refine wpAnyH_ready (rs := [9]) (by kernel_rfl) (by simp) ?_
        refine' AllReadyH.cons ?hi81 (fun K hK => ?hg81) AllReadyH.nil
        case hi81 => (simp only [List.getElem?_toArray, List.getElem?_cons_succ, List.getElem?_cons_zero]; exact rfl)
        case hg81 =>
          go_simp
          have hb : Below b79.heap.size b79 (b79.alloc (.cells #[.int .u32 0, .int .i64 0] 47)) := (Below.refl _ _).alloc (Nat.le_refl _) _
          have hnew := heap_alloc_new b79 (.cells #[.int .u32 0, .int .i64 0] 47)
          obtain ⟨G9_a82, hG⟩ : ∃ G, b79.heap.size = G := ⟨_, rfl⟩
          have hGlt : W1.heap.size ≤ G9_a82 := by rw [← hG]; exact HBb79.out.size
          have hneG8_a72_G9_a82 : ¬ G9_a82 = G8_a72 := by have := size_of_block HGG8_a72_b79.out; omega
          have hnfG8_a72_G9_a82 : ¬ G8_a72 = G9_a82 := by have := size_of_block HGG8_a72_b79.out; omega
          rw [hG] at hnew
          (try rw [hG])
          generalize hwn : b79.alloc (.cells #[.int .u32 0, .int .i64 0] 47) = a82 at *
          have HGG9_a82_a82 := Lib.hid hnew
          have HBa82 := Lib.hid (HBb79.out.trans (hb.mono HBb79.out.size))
          have HGG8_a72_a82 := Lib.hid (below_block hb (size_of_block HGG8_a72_b79.out) HGG8_a72_b79.out)
          clear hb
          have hggG9_a82 : ¬ G9_a82 = g := by omega
          have hgbG9_a82 : ¬ G9_a82 = w.heap.size := by omega
          have hghG9_a82 : ¬ g = G9_a82 := by omega
          have hgkG9_a82 : ¬ w.heap.size = G9_a82 := by omega
          clear hwn hnew hG
          have x0 := (HBa82.out.cell (p := ⟨w.heap.size, 0, none⟩) hB1).trans C0.out
          have y0 := (HBa82.out.cell (p := ⟨g, 0, none⟩) hgl1).trans D0.out
          have y1 := (HBa82.out.cell (p := ⟨g, 1, none⟩) hgl1).trans D1.out
          refine hK.out _ _ (by go_keep) (fun hHeld => ?_)
          clear hK K x0 y0 y1
          refine wpAnyH_ready (rs := [10]) (by kernel_rfl) (by simp) ?_
          refine' AllReadyH.cons ?hi83 (fun K hK => ?hg83) AllReadyH.nil
          case hi83 => (simp only [List.getElem?_toArray, List.getElem?_cons_succ, List.getElem?_cons_zero]; exact rfl)
          obtain ⟨e0, e1, f0, f1⟩ := row2 HGG8_a72_a82.out
          go_simp
          have hbs : Below W1.heap.size W1 ((a82.setCell ⟨G8_a72, 0, none⟩ (.int .u32 (a : Int))).setCell ⟨G8_a72, 1, none⟩ (.int .i64 (k : Int))) := (HBa82.out.setCell (p := ⟨G8_a72, 0, none⟩) (by show W1.heap.size ≤ G8_a72; omega) _).setCell (p := ⟨G8_a72, 1, none⟩) (by show W1.heap.size ≤ G8_a72; omega) _
          have hgs := set2_block (.int .u32 (a : Int)) (.int .i64 (k : Int)) HGG8_a72_a82.out
          have hoG9_a82 : ((a82.setCell ⟨G8_a72, 0, none⟩ (.int .u32 (a : Int))).setCell ⟨G8_a72, 1, none⟩ (.int .i64 (k : Int))).heap[G9_a82]? = _ := ((heap_setCell_other _ _ _ _ (show G9_a82 ≠ G8_a72 by omega)).trans (heap_setCell_other _ _ _ _ (show G9_a82 ≠ G8_a72 by omega))).trans HGG9_a82_a82.out
          generalize hwn : ((a82.setCell ⟨G8_a72, 0, none⟩ (.int .u32 (a : Int))).setCell ⟨G8_a72, 1, none⟩ (.int .i64 (k : Int))) = s84 at *
          have HBs84 := Lib.hid hbs
          have HGG8_a72_s84 := Lib.hid hgs
          have HGG9_a82_s84 := Lib.hid hoG9_a82
          clear hoG9_a82
          clear hwn hbs hgs e0 e1 f0 f1
          have x0 := (HBs84.out.cell (p := ⟨w.heap.size, 0, none⟩) hB1).trans C0.out
          have y0 := (HBs84.out.cell (p := ⟨g, 0, none⟩) hgl1).trans D0.out
          have y1 := (HBs84.out.cell (p := ⟨g, 1, none⟩) hgl1).trans D1.out
          refine hK.out _ _ (by go_keep) (fun hHeld => ?_)
          clear hK K x0 y0 y1
          refine wpAnyH_ready (rs := [11]) (by kernel_rfl) (by simp) ?_
          refine' AllReadyH.cons ?hi85 (fun K hK => ?hg85) AllReadyH.nil
          case hi85 => (simp only [List.getElem?_toArray, List.getElem?_cons_succ, List.getElem?_cons_zero]; exact rfl)
          obtain ⟨e0, e1, f0, f1⟩ := row2 HGG9_a82_s84.out
          go_simp
          have hbs : Below W1.heap.size W1 ((s84.setCell ⟨G9_a82, 0, none⟩ (.int .u32 (b : Int))).setCell ⟨G9_a82, 1, none⟩ (.int .i64 (j : Int))) := (HBs84.out.setCell (p := ⟨G9_a82, 0, none⟩) (by show W1.heap.size ≤ G9_a82; omega) _).setCell (p := ⟨G9_a82, 1, none⟩) (by show W1.heap.size ≤ G9_a82; omega) _
          have hgs := set2_block (.int .u32 (b : Int)) (.int .i64 (j : Int)) HGG9_a82_s84.out
          have hoG8_a72 : ((s84.setCell ⟨G9_a82, 0, none⟩ (.int .u32 (b : Int))).setCell ⟨G9_a82, 1, none⟩ (.int .i64 (j : Int))).heap[G8_a72]? = _ := ((heap_setCell_other _ _ _ _ (show G8_a72 ≠ G9_a82 by omega)).trans (heap_setCell_other _ _ _ _ (show G8_a72 ≠ G9_a82 by omega))).trans HGG8_a72_s84.out
          generalize hwn : ((s84.setCell ⟨G9_a82, 0, none⟩ (.int .u32 (b : Int))).setCell ⟨G9_a82, 1, none⟩ (.int .i64 (j : Int))) = s86 at *
          have HBs86 := Lib.hid hbs
          have HGG9_a82_s86 := Lib.hid hgs
          have HGG8_a72_s86 := Lib.hid hoG8_a72
          clear hoG8_a72
          clear hwn hbs hgs e0 e1 f0 f1
          have x0 := (HBs86.out.cell (p := ⟨w.heap.size, 0, none⟩) hB1).trans C0.out
          have y0 := (HBs86.out.cell (p := ⟨g, 0, none⟩) hgl1).trans D0.out
          have y1 := (HBs86.out.cell (p := ⟨g, 1, none⟩) hgl1).trans D1.out
          refine hK.out _ _ (by go_keep) (fun hHeld => ?_)
          clear hK K x0 y0 y1
          refine wpAnyH_done (by kernel_rfl) ?_ _
          clear hHeld
          obtain ⟨e0, e1, f0, f1⟩ := row2 HGG8_a72_s86.out
          obtain ⟨e2, e3, f2, f3⟩ := row2 HGG9_a82_s86.out
          go_wp2_with (first
            | (go_at_call 67; (with_reducible refine (Common_ok _ HI.out HI1.out HN.out HN1.out).mono ?_); rintro e z1 ⟨rfl, hb1⟩; rw [HCV.out]; have HBz := Lib.hid (HBs86.out.trans (hb1.mono HBs86.out.size)); clear hb1)
            | (go_at_call 66; (with_reducible refine (MustN_ok _ _ _).mono ?_); rintro e z2 ⟨rfl, hb2⟩; have HBy := Lib.hid (HBz.out.trans (hb2.mono HBz.out.size)); clear hb2)
            | (go_at_call 58; (with_reducible refine (NText_any p q _ (HW.out _ HBy.out) hp hq).mono ?_); rintro e z3 ⟨rfl, hb3⟩; have HBx := Lib.hid (HBy.out.trans (hb3.mono HBy.out.size)); clear hb3)
            | fail)
          go_ret
          exact ⟨rfl, HB0.out.trans (HBx.out.mono HB0.out.size)⟩
      case hg78 =>
        go_simp
        have hb : Below b75.heap.size b75 (b75.alloc (.cells #[.int .u32 0, .int .i64 0] 47)) := (Below.refl _ _).alloc (Nat.le_refl _) _
        have hnew := heap_alloc_new b75 (.cells #[.int .u32 0, .int .i64 0] 47)
        obtain ⟨G9_a87, hG⟩ : ∃ G, b75.heap.size = G := ⟨_, rfl⟩
        have hGlt : W1.heap.size ≤ G9_a87 := by rw [← hG]; exact HBb75.out.size
        have hneG8_a72_G9_a87 : ¬ G9_a87 = G8_a72 := by have := size_of_block HGG8_a72_b75.out; omega
        have hnfG8_a72_G9_a87 : ¬ G8_a72 = G9_a87 := by have := size_of_block HGG8_a72_b75.out; omega
        rw [hG] at hnew
        (try rw [hG])
        generalize hwn : b75.alloc (.cells #[.int .u32 0, .int .i64 0] 47) = a87 at *
        have HGG9_a87_a87 := Lib.hid hnew
        have HBa87 := Lib.hid (HBb75.out.trans (hb.mono HBb75.out.size))
        have HGG8_a72_a87 := Lib.hid (below_block hb (size_of_block HGG8_a72_b75.out) HGG8_a72_b75.out)
        clear hb
        have hggG9_a87 : ¬ G9_a87 = g := by omega
        have hgbG9_a87 : ¬ G9_a87 = w.heap.size := by omega
        have hghG9_a87 : ¬ g = G9_a87 := by omega
        have hgkG9_a87 : ¬ w.heap.size = G9_a87 := by omega
        clear hwn hnew hG
        have x0 := (HBa87.out.cell (p := ⟨w.heap.size, 0, none⟩) hB1).trans C0.out
        have y0 := (HBa87.out.cell (p := ⟨g, 0, none⟩) hgl1).trans D0.out
        have y1 := (HBa87.out.cell (p := ⟨g, 1, none⟩) hgl1).trans D1.out
        refine hK.out _ _ (by go_keep) (fun hHeld => ?_)
        clear hK K x0 y0 y1
        refine wpAnyH_ready (rs := [7]) (by kernel_rfl) (by simp) ?_
        refine' AllReadyH.cons ?hi88 (fun K hK => ?hg88) AllReadyH.nil
        case hi88 => (simp only [List.getElem?_toArray, List.getElem?_cons_succ, List.getElem?_cons_zero]; exact rfl)
        case hg88 =>
          go_simp
          go_at_call 44
          (with_reducible refine (WNet_ok b j s1 _ (HW.out _ ?q90) hb HN1.out HSN1.out).mono ?_)
          case q90 => exact HBa87.out
          rintro e b89 ⟨rfl, hb⟩
          have HBb89 := Lib.hid (HBa87.out.trans (hb.mono HBa87.out.size))
          have HGG8_a72_b89 := Lib.hid (below_block hb (size_of_block HGG8_a72_a87.out) HGG8_a72_a87.out)
          have HGG9_a87_b89 := Lib.hid (below_block hb (size_of_block HGG9_a87_a87.out) HGG9_a87_a87.out)
          clear hb
          have x0 := (HBb89.out.cell (p := ⟨w.heap.size, 0, none⟩) hB1).trans C0.out
          have y0 := (HBb89.out.cell (p := ⟨g, 0, none⟩) hgl1).trans D0.out
          have y1 := (HBb89.out.cell (p := ⟨g, 1, none⟩) hgl1).trans D1.out
          refine hK.out _ _ (by go_keep) (fun hHeld => ?_)
          clear hK K x0 y0 y1
          refine wpAnyH_ready (rs := [10]) (by kernel_rfl) (by simp) ?_
          refine' AllReadyH.cons ?hi91 (fun K hK => ?hg91) AllReadyH.nil
          case hi91 => (simp only [List.getElem?_toArray, List.getElem?_cons_succ, List.getElem?_cons_zero]; exact rfl)
          obtain ⟨e0, e1, f0, f1⟩ := row2 HGG8_a72_b89.out
          go_simp
          have hbs : Below W1.heap.size W1 ((b89.setCell ⟨G8_a72, 0, none⟩ (.int .u32 (a : Int))).setCell ⟨G8_a72, 1, none⟩ (.int .i64 (k : Int))) := (HBb89.out.setCell (p := ⟨G8_a72, 0, none⟩) (by show W1.heap.size ≤ G8_a72; omega) _).setCell (p := ⟨G8_a72, 1, none⟩) (by show W1.heap.size ≤ G8_a72; omega) _
          have hgs := set2_block (.int .u32 (a : Int)) (.int .i64 (k : Int)) HGG8_a72_b89.out
          have hoG9_a87 : ((b89.setCell ⟨G8_a72, 0, none⟩ (.int .u32 (a : Int))).setCell ⟨G8_a72, 1, none⟩ (.int .i64 (k : Int))).heap[G9_a87]? = _ := ((heap_setCell_other _ _ _ _ (show G9_a87 ≠ G8_a72 by omega)).trans (heap_setCell_other _ _ _ _ (show G9_a87 ≠ G8_a72 by omega))).trans HGG9_a87_b89.out
          generalize hwn : ((b89.setCell ⟨G8_a72, 0, none⟩ (.int .u32 (a : Int))).setCell ⟨G8_a72, 1, none⟩ (.int .i64 (k : Int))) = s92 at *
          have HBs92 := Lib.hid hbs
          have HGG8_a72_s92 := Lib.hid hgs
          have HGG9_a87_s92 := Lib.hid hoG9_a87
          clear hoG9_a87
          clear hwn hbs hgs e0 e1 f0 f1
          have x0 := (HBs92.out.cell (p := ⟨w.heap.size, 0, none⟩) hB1).trans C0.out
          have y0 := (HBs92.out.cell (p := ⟨g, 0, none⟩) hgl1).trans D0.out
          have y1 := (HBs92.out.cell (p := ⟨g, 1, none⟩) hgl1).trans D1.out
          refine hK.out _ _ (by go_keep) (fun hHeld => ?_)
          clear hK K x0 y0 y1
          refine wpAnyH_ready (rs := [11]) (by kernel_rfl) (by simp) ?_
          refine' AllReadyH.cons ?hi93 (fun K hK => ?hg93) AllReadyH.nil
          case hi93 => (simp only [List.getElem?_toArray, List.getElem?_cons_succ, List.getElem?_cons_zero]; exact rfl)
          obtain ⟨e0, e1, f0, f1⟩ := row2 HGG9_a87_s92.out
          go_simp
          have hbs : Below W1.heap.size W1 ((s92.setCell ⟨G9_a87, 0, none⟩ (.int .u32 (b : Int))).setCell ⟨G9_a87, 1, none⟩ (.int .i64 (j : Int))) := (HBs92.out.setCell (p := ⟨G9_a87, 0, none⟩) (by show W1.heap.size ≤ G9_a87; omega) _).setCell (p := ⟨G9_a87, 1, none⟩) (by show W1.heap.size ≤ G9_a87; omega) _
          have hgs := set2_block (.int .u32 (b : Int)) (.int .i64 (j : Int)) HGG9_a87_s92.out
          have hoG8_a72 : ((s92.setCell ⟨G9_a87, 0, none⟩ (.int .u32 (b : Int))).setCell ⟨G9_a87, 1, none⟩ (.int .i64 (j : Int))).heap[G8_a72]? = _ := ((heap_setCell_other _ _ _ _ (show G8_a72 ≠ G9_a87 by omega)).trans (heap_setCell_other _ _ _ _ (show G8_a72 ≠ G9_a87 by omega))).trans HGG8_a72_s92.out
          generalize hwn : ((s92.setCell ⟨G9_a87, 0, none⟩ (.int .u32 (b : Int))).setCell ⟨G9_a87, 1, none⟩ (.int .i64 (j : Int))) = s94 at *
          have HBs94 := Lib.hid hbs
          have HGG9_a87_s94 := Lib.hid hgs
          have HGG8_a72_s94 := Lib.hid hoG8_a72
          clear hoG8_a72
          clear hwn hbs hgs e0 e1 f0 f1
          have x0 := (HBs94.out.cell (p := ⟨w.heap.size, 0, none⟩) hB1).trans C0.out
          have y0 := (HBs94.out.cell (p := ⟨g, 0, none⟩) hgl1).trans D0.out
          have y1 := (HBs94.out.cell (p := ⟨g, 1, none⟩) hgl1).trans D1.out
          refine hK.out _ _ (by go_keep) (fun hHeld => ?_)
          clear hK K x0 y0 y1
          refine wpAnyH_done (by kernel_rfl) ?_ _
          clear hHeld
          obtain ⟨e0, e1, f0, f1⟩ := row2 HGG8_a72_s94.out
          obtain ⟨e2, e3, f2, f3⟩ := row2 HGG9_a87_s94.out
          go_wp2_with (first
            | (go_at_call 67; (with_reducible refine (Common_ok _ HI.out HI1.out HN.out HN1.out).mono ?_); rintro e z1 ⟨rfl, hb1⟩; rw [HCV.out]; have HBz := Lib.hid (HBs94.out.trans (hb1.mono HBs94.out.size)); clear hb1)
            | (go_at_call 66; (with_reducible refine (MustN_ok _ _ _).mono ?_); rintro e z2 ⟨rfl, hb2⟩; have HBy := Lib.hid (HBz.out.trans (hb2.mono HBz.out.size)); clear hb2)
            | (go_at_call 58; (with_reducible refine (NText_any p q _ (HW.out _ HBy.out) hp hq).mono ?_); rintro e z3 ⟨rfl, hb3⟩; have HBx := Lib.hid (HBy.out.trans (hb3.mono HBy.out.size)); clear hb3)
            | fail)
          go_ret
          exact ⟨rfl, HB0.out.trans (HBx.out.mono HB0.out.size)⟩
    case hg74 =>
      go_simp
      have hb : Below a72.heap.size a72 (a72.alloc (.cells #[.int .u32 0, .int .i64 0] 47)) := (Below.refl _ _).alloc (Nat.le_refl _) _
      have hnew := heap_alloc_new a72 (.cells #[.int .u32 0, .int .i64 0] 47)
      obtain ⟨G9_a95, hG⟩ : ∃ G, a72.heap.size = G := ⟨_, rfl⟩
      have hGlt : W1.heap.size ≤ G9_a95 := by rw [← hG]; exact HBa72.out.size
      have hneG8_a72_G9_a95 : ¬ G9_a95 = G8_a72 := by have := size_of_block HGG8_a72_a72.out; omega
      have hnfG8_a72_G9_a95 : ¬ G8_a72 = G9_a95 := by have := size_of_block HGG8_a72_a72.out; omega
      rw [hG] at hnew
      (try rw [hG])
      generalize hwn : a72.alloc (.cells #[.int .u32 0, .int .i64 0] 47) = a95 at *
      have HGG9_a95_a95 := Lib.hid hnew
      have HBa95 := Lib.hid (HBa72.out.trans (hb.mono HBa72.out.size))
      have HGG8_a72_a95 := Lib.hid (below_block hb (size_of_block HGG8_a72_a72.out) HGG8_a72_a72.out)
      clear hb
      have hggG9_a95 : ¬ G9_a95 = g := by omega
      have hgbG9_a95 : ¬ G9_a95 = w.heap.size := by omega
      have hghG9_a95 : ¬ g = G9_a95 := by omega
      have hgkG9_a95 : ¬ w.heap.size = G9_a95 := by omega
      clear hwn hnew hG
      have x0 := (HBa95.out.cell (p := ⟨w.heap.size, 0, none⟩) hB1).trans C0.out
      have y0 := (HBa95.out.cell (p := ⟨g, 0, none⟩) hgl1).trans D0.out
      have y1 := (HBa95.out.cell (p := ⟨g, 1, none⟩) hgl1).trans D1.out
      refine hK.out _ _ (by go_keep) (fun hHeld => ?_)
      clear hK K x0 y0 y1
      refine wpAnyH_ready (rs := [3]) (by kernel_rfl) (by simp) ?_
      refine' AllReadyH.cons ?hi96 (fun K hK => ?hg96) AllReadyH.nil
      case hi96 => (simp only [List.getElem?_toArray, List.getElem?_cons_succ, List.getElem?_cons_zero]; exact rfl)
      case hg96 =>
        go_simp
        go_at_call 44
        (with_reducible refine (WNet_ok a k s0 _ (HW.out _ ?q98) ha HN.out HSN.out).mono ?_)
        case q98 => exact HBa95.out
        rintro e b97 ⟨rfl, hb⟩
        have HBb97 := Lib.hid (HBa95.out.trans (hb.mono HBa95.out.size))
        have HGG8_a72_b97 := Lib.hid (below_block hb (size_of_block HGG8_a72_a95.out) HGG8_a72_a95.out)
        have HGG9_a95_b97 := Lib.hid (below_block hb (size_of_block HGG9_a95_a95.out) HGG9_a95_a95.out)
        clear hb
        have x0 := (HBb97.out.cell (p := ⟨w.heap.size, 0, none⟩) hB1).trans C0.out
        have y0 := (HBb97.out.cell (p := ⟨g, 0, none⟩) hgl1).trans D0.out
        have y1 := (HBb97.out.cell (p := ⟨g, 1, none⟩) hgl1).trans D1.out
        refine hK.out _ _ (by go_keep) (fun hHeld => ?_)
        clear hK K x0 y0 y1
        refine wpAnyH_ready (rs := [7]) (by kernel_rfl) (by simp) ?_
        refine' AllReadyH.cons ?hi99 (fun K hK => ?hg99) AllReadyH.nil
        case hi99 => (simp only [List.getElem?_toArray, List.getElem?_cons_succ, List.getElem?_cons_zero]; exact rfl)
        case hg99 =>
          go_simp
          go_at_call 44
          (with_reducible refine (WNet_ok b j s1 _ (HW.out _ ?q101) hb HN1.out HSN1.out).mono ?_)
          case q101 => exact HBb97.out
          rintro e b100 ⟨rfl, hb⟩
          have HBb100 := Lib.hid (HBb97.out.trans (hb.mono HBb97.out.size))
          have HGG8_a72_b100 := Lib.hid (below_block hb (size_of_block HGG8_a72_b97.out) HGG8_a72_b97.out)
          have HGG9_a95_b100 := Lib.hid (below_block hb (size_of_block HGG9_a95_b97.out) HGG9_a95_b97.out)
          clear hb
          have x0 := (HBb100.out.cell (p := ⟨w.heap.size, 0, none⟩) hB1).trans C0.out
          have y0 := (HBb100.out.cell (p := ⟨g, 0, none⟩) hgl1).trans D0.out
          have y1 := (HBb100.out.cell (p := ⟨g, 1, none⟩) hgl1).trans D1.out
          refine hK.out _ _ (by go_keep) (fun hHeld => ?_)
          clear hK K x0 y0 y1
          refine wpAnyH_ready (rs := [10]) (by kernel_rfl) (by simp) ?_
          refine' AllReadyH.cons ?hi102 (fun K hK => ?hg102) AllReadyH.nil
          case hi102 => (simp only [List.getElem?_toArray, List.getElem?_cons_succ, List.getElem?_cons_zero]; exact rfl)
          obtain ⟨e0, e1, f0, f1⟩ := row2 HGG8_a72_b100.out
          go_simp
          have hbs : Below W1.heap.size W1 ((b100.setCell ⟨G8_a72, 0, none⟩ (.int .u32 (a : Int))).setCell ⟨G8_a72, 1, none⟩ (.int .i64 (k : Int))) := (HBb100.out.setCell (p := ⟨G8_a72, 0, none⟩) (by show W1.heap.size ≤ G8_a72; omega) _).setCell (p := ⟨G8_a72, 1, none⟩) (by show W1.heap.size ≤ G8_a72; omega) _
          have hgs := set2_block (.int .u32 (a : Int)) (.int .i64 (k : Int)) HGG8_a72_b100.out
          have hoG9_a95 : ((b100.setCell ⟨G8_a72, 0, none⟩ (.int .u32 (a : Int))).setCell ⟨G8_a72, 1, none⟩ (.int .i64 (k : Int))).heap[G9_a95]? = _ := ((heap_setCell_other _ _ _ _ (show G9_a95 ≠ G8_a72 by omega)).trans (heap_setCell_other _ _ _ _ (show G9_a95 ≠ G8_a72 by omega))).trans HGG9_a95_b100.out
          generalize hwn : ((b100.setCell ⟨G8_a72, 0, none⟩ (.int .u32 (a : Int))).setCell ⟨G8_a72, 1, none⟩ (.int .i64 (k : Int))) = s103 at *
          have HBs103 := Lib.hid hbs
          have HGG8_a72_s103 := Lib.hid hgs
          have HGG9_a95_s103 := Lib.hid hoG9_a95
          clear hoG9_a95
          clear hwn hbs hgs e0 e1 f0 f1
          have x0 := (HBs103.out.cell (p := ⟨w.heap.size, 0, none⟩) hB1).trans C0.out
          have y0 := (HBs103.out.cell (p := ⟨g, 0, none⟩) hgl1).trans D0.out
          have y1 := (HBs103.out.cell (p := ⟨g, 1, none⟩) hgl1).trans D1.out
          refine hK.out _ _ (by go_keep) (fun hHeld => ?_)
          clear hK K x0 y0 y1
          refine wpAnyH_ready (rs := [11]) (by kernel_rfl) (by simp) ?_
          refine' AllReadyH.cons ?hi104 (fun K hK => ?hg104) AllReadyH.nil
          case hi104 => (simp only [List.getElem?_toArray, List.getElem?_cons_succ, List.getElem?_cons_zero]; exact rfl)
          obtain ⟨e0, e1, f0, f1⟩ := row2 HGG9_a95_s103.out
          go_simp
          have hbs : Below W1.heap.size W1 ((s103.setCell ⟨G9_a95, 0, none⟩ (.int .u32 (b : Int))).setCell ⟨G9_a95, 1, none⟩ (.int .i64 (j : Int))) := (HBs103.out.setCell (p := ⟨G9_a95, 0, none⟩) (by show W1.heap.size ≤ G9_a95; omega) _).setCell (p := ⟨G9_a95, 1, none⟩) (by show W1.heap.size ≤ G9_a95; omega) _
          have hgs := set2_block (.int .u32 (b : Int)) (.int .i64 (j : Int)) HGG9_a95_s103.out
          have hoG8_a72 : ((s103.setCell ⟨G9_a95, 0, none⟩ (.int .u32 (b : Int))).setCell ⟨G9_a95, 1, none⟩ (.int .i64 (j : Int))).heap[G8_a72]? = _ := ((heap_setCell_other _ _ _ _ (show G8_a72 ≠ G9_a95 by omega)).trans (heap_setCell_other _ _ _ _ (show G8_a72 ≠ G9_a95 by omega))).trans HGG8_a72_s103.out
          generalize hwn : ((s103.setCell ⟨G9_a95, 0, none⟩ (.int .u32 (b : Int))).setCell ⟨G9_a95, 1, none⟩ (.int .i64 (j : Int))) = s105 at *
          have HBs105 := Lib.hid hbs
          have HGG9_a95_s105 := Lib.hid hgs
          have HGG8_a72_s105 := Lib.hid hoG8_a72
          clear hoG8_a72
          clear hwn hbs hgs e0 e1 f0 f1
          have x0 := (HBs105.out.cell (p := ⟨w.heap.size, 0, none⟩) hB1).trans C0.out
          have y0 := (HBs105.out.cell (p := ⟨g, 0, none⟩) hgl1).trans D0.out
          have y1 := (HBs105.out.cell (p := ⟨g, 1, none⟩) hgl1).trans D1.out
          refine hK.out _ _ (by go_keep) (fun hHeld => ?_)
          clear hK K x0 y0 y1
          refine wpAnyH_done (by kernel_rfl) ?_ _
          clear hHeld
          obtain ⟨e0, e1, f0, f1⟩ := row2 HGG8_a72_s105.out
          obtain ⟨e2, e3, f2, f3⟩ := row2 HGG9_a95_s105.out
          go_wp2_with (first
            | (go_at_call 67; (with_reducible refine (Common_ok _ HI.out HI1.out HN.out HN1.out).mono ?_); rintro e z1 ⟨rfl, hb1⟩; rw [HCV.out]; have HBz := Lib.hid (HBs105.out.trans (hb1.mono HBs105.out.size)); clear hb1)
            | (go_at_call 66; (with_reducible refine (MustN_ok _ _ _).mono ?_); rintro e z2 ⟨rfl, hb2⟩; have HBy := Lib.hid (HBz.out.trans (hb2.mono HBz.out.size)); clear hb2)
            | (go_at_call 58; (with_reducible refine (NText_any p q _ (HW.out _ HBy.out) hp hq).mono ?_); rintro e z3 ⟨rfl, hb3⟩; have HBx := Lib.hid (HBy.out.trans (hb3.mono HBy.out.size)); clear hb3)
            | fail)
          go_ret
          exact ⟨rfl, HB0.out.trans (HBx.out.mono HB0.out.size)⟩
  case hg10 =>
    go_simp
    have hb : Below u1.heap.size u1 (u1.alloc (.cells #[.int .u32 0, .int .i64 0] 47)) := (Below.refl _ _).alloc (Nat.le_refl _) _
    have hnew := heap_alloc_new u1 (.cells #[.int .u32 0, .int .i64 0] 47)
    obtain ⟨G9_a106, hG⟩ : ∃ G, u1.heap.size = G := ⟨_, rfl⟩
    have hGlt : W1.heap.size ≤ G9_a106 := by rw [← hG]; exact HBu1.out.size
    rw [hG] at hnew
    (try rw [hG])
    generalize hwn : u1.alloc (.cells #[.int .u32 0, .int .i64 0] 47) = a106 at *
    have HGG9_a106_a106 := Lib.hid hnew
    have HBa106 := Lib.hid (HBu1.out.trans (hb.mono HBu1.out.size))
    clear hb
    have hggG9_a106 : ¬ G9_a106 = g := by omega
    have hgbG9_a106 : ¬ G9_a106 = w.heap.size := by omega
    have hghG9_a106 : ¬ g = G9_a106 := by omega
    have hgkG9_a106 : ¬ w.heap.size = G9_a106 := by omega
    clear hwn hnew hG
    have x0 := (HBa106.out.cell (p := ⟨w.heap.size, 0, none⟩) hB1).trans C0.out
    have y0 := (HBa106.out.cell (p := ⟨g, 0, none⟩) hgl1).trans D0.out
    have y1 := (HBa106.out.cell (p := ⟨g, 1, none⟩) hgl1).trans D1.out
    refine hK.out _ _ (by go_keep) (fun hHeld => ?_)
    clear hK K x0 y0 y1
    refine wpAnyH_ready (rs := [3, 8]) (by kernel_rfl) (by simp) ?_
    refine' AllReadyH.cons ?hi107 (fun K hK => ?hg107) (AllReadyH.cons ?hi108 (fun K hK => ?hg108) AllReadyH.nil)
    case hi107 => (simp only [List.getElem?_toArray, List.getElem?_cons_succ, List.getElem?_cons_zero]; exact rfl)
    case hi108 => (simp only [List.getElem?_toArray, List.getElem?_cons_succ, List.getElem?_cons_zero]; exact rfl)
    case hg107 =>
      go_simp
      go_at_call 44
      (with_reducible refine (WNet_ok a k s0 _ (HW.out _ ?q110) ha HN.out HSN.out).mono ?_)
      case q110 => exact HBa106.out
      rintro e b109 ⟨rfl, hb⟩
      have HBb109 := Lib.hid (HBa106.out.trans (hb.mono HBa106.out.size))
      have HGG9_a106_b109 := Lib.hid (below_block hb (size_of_block HGG9_a106_a106.out) HGG9_a106_a106.out)
      clear hb
      have x0 := (HBb109.out.cell (p := ⟨w.heap.size, 0, none⟩) hB1).trans C0.out
      have y0 := (HBb109.out.cell (p := ⟨g, 0, none⟩) hgl1).trans D0.out
      have y1 := (HBb109.out.cell (p := ⟨g, 1, none⟩) hgl1).trans D1.out
      refine hK.out _ _ (by go_keep) (fun hHeld => ?_)
      clear hK K x0 y0 y1
      refine wpAnyH_ready (rs := [7, 8]) (by kernel_rfl) (by simp) ?_
      refine' AllReadyH.cons ?hi111 (fun K hK => ?hg111) (AllReadyH.cons ?hi112 (fun K hK => ?hg112) AllReadyH.nil)
      case hi111 => (simp only [List.getElem?_toArray, List.getElem?_cons_succ, List.getElem?_cons_zero]; exact rfl)
      case hi112 => (simp only [List.getElem?_toArray, List.getElem?_cons_succ, List.getElem?_cons_zero]; exact rfl)
      case hg111 =>
        go_simp
        go_at_call 44
        (with_reducible refine (WNet_ok b j s1 _ (HW.out _ ?q114) hb HN1.out HSN1.out).mono ?_)
        case q114 => exact HBb109.out
        rintro e b113 ⟨rfl, hb⟩
        have HBb113 := Lib.hid (HBb109.out.trans (hb.mono HBb109.out.size))
        have HGG9_a106_b113 := Lib.hid (below_block hb (size_of_block HGG9_a106_b109.out) HGG9_a106_b109.out)
        clear hb
        have x0 := (HBb113.out.cell (p := ⟨w.heap.size, 0, none⟩) hB1).trans C0.out
        have y0 := (HBb113.out.cell (p := ⟨g, 0, none⟩) hgl1).trans D0.out
        have y1 := (HBb113.out.cell (p := ⟨g, 1, none⟩) hgl1).trans D1.out
        refine hK.out _ _ (by go_keep) (fun hHeld => ?_)
        clear hK K x0 y0 y1
        refine wpAnyH_ready (rs := [8]) (by kernel_rfl) (by simp) ?_
        refine' AllReadyH.cons ?hi115 (fun K hK => ?hg115) AllReadyH.nil
        case hi115 => (simp only [List.getElem?_toArray, List.getElem?_cons_succ, List.getElem?_cons_zero]; exact rfl)
        case hg115 =>
          go_simp
          have hb : Below b113.heap.size b113 (b113.alloc (.cells #[.int .u32 0, .int .i64 0] 47)) := (Below.refl _ _).alloc (Nat.le_refl _) _
          have hnew := heap_alloc_new b113 (.cells #[.int .u32 0, .int .i64 0] 47)
          obtain ⟨G8_a116, hG⟩ : ∃ G, b113.heap.size = G := ⟨_, rfl⟩
          have hGlt : W1.heap.size ≤ G8_a116 := by rw [← hG]; exact HBb113.out.size
          have hneG9_a106_G8_a116 : ¬ G8_a116 = G9_a106 := by have := size_of_block HGG9_a106_b113.out; omega
          have hnfG9_a106_G8_a116 : ¬ G9_a106 = G8_a116 := by have := size_of_block HGG9_a106_b113.out; omega
          rw [hG] at hnew
          (try rw [hG])
          generalize hwn : b113.alloc (.cells #[.int .u32 0, .int .i64 0] 47) = a116 at *
          have HGG8_a116_a116 := Lib.hid hnew
          have HBa116 := Lib.hid (HBb113.out.trans (hb.mono HBb113.out.size))
          have HGG9_a106_a116 := Lib.hid (below_block hb (size_of_block HGG9_a106_b113.out) HGG9_a106_b113.out)
          clear hb
          have hggG8_a116 : ¬ G8_a116 = g := by omega
          have hgbG8_a116 : ¬ G8_a116 = w.heap.size := by omega
          have hghG8_a116 : ¬ g = G8_a116 := by omega
          have hgkG8_a116 : ¬ w.heap.size = G8_a116 := by omega
          clear hwn hnew hG
          have x0 := (HBa116.out.cell (p := ⟨w.heap.size, 0, none⟩) hB1).trans C0.out
          have y0 := (HBa116.out.cell (p := ⟨g, 0, none⟩) hgl1).trans D0.out
          have y1 := (HBa116.out.cell (p := ⟨g, 1, none⟩) hgl1).trans D1.out
          refine hK.out _ _ (by go_keep) (fun hHeld => ?_)
          clear hK K x0 y0 y1
          refine wpAnyH_ready (rs := [10]) (by kernel_rfl) (by simp) ?_
          refine' AllReadyH.cons ?hi117 (fun K hK => ?hg117) AllReadyH.nil
          case hi117 => (simp only [List.getElem?_toArray, List.getElem?_cons_succ, List.getElem?_cons_zero]; exact rfl)
          obtain ⟨e0, e1, f0, f1⟩ := row2 HGG8_a116_a116.out
          go_simp
          have hbs : Below W1.heap.size W1 ((a116.setCell ⟨G8_a116, 0, none⟩ (.int .u32 (a : Int))).setCell ⟨G8_a116, 1, none⟩ (.int .i64 (k : Int))) := (HBa116.out.setCell (p := ⟨G8_a116, 0, none⟩) (by show W1.heap.size ≤ G8_a116; omega) _).setCell (p := ⟨G8_a116, 1, none⟩) (by show W1.heap.size ≤ G8_a116; omega) _
          have hgs := set2_block (.int .u32 (a : Int)) (.int .i64 (k : Int)) HGG8_a116_a116.out
          have hoG9_a106 : ((a116.setCell ⟨G8_a116, 0, none⟩ (.int .u32 (a : Int))).setCell ⟨G8_a116, 1, none⟩ (.int .i64 (k : Int))).heap[G9_a106]? = _ := ((heap_setCell_other _ _ _ _ (show G9_a106 ≠ G8_a116 by omega)).trans (heap_setCell_other _ _ _ _ (show G9_a106 ≠ G8_a116 by omega))).trans HGG9_a106_a116.out
          generalize hwn : ((a116.setCell ⟨G8_a116, 0, none⟩ (.int .u32 (a : Int))).setCell ⟨G8_a116, 1, none⟩ (.int .i64 (k : Int))) = s118 at *
          have HBs118 := Lib.hid hbs
          have HGG8_a116_s118 := Lib.hid hgs
          have HGG9_a106_s118 := Lib.hid hoG9_a106
          clear hoG9_a106
          clear hwn hbs hgs e0 e1 f0 f1
          have x0 := (HBs118.out.cell (p := ⟨w.heap.size, 0, none⟩) hB1).trans C0.out
          have y0 := (HBs118.out.cell (p := ⟨g, 0, none⟩) hgl1).trans D0.out
          have y1 := (HBs118.out.cell (p := ⟨g, 1, none⟩) hgl1).trans D1.out
          refine hK.out _ _ (by go_keep) (fun hHeld => ?_)
          clear hK K x0 y0 y1
          refine wpAnyH_ready (rs := [11]) (by kernel_rfl) (by simp) ?_
          refine' AllReadyH.cons ?hi119 (fun K hK => ?hg119) AllReadyH.nil
          case hi119 => (simp only [List.getElem?_toArray, List.getElem?_cons_succ, List.getElem?_cons_zero]; exact rfl)
          obtain ⟨e0, e1, f0, f1⟩ := row2 HGG9_a106_s118.out
          go_simp
          have hbs : Below W1.heap.size W1 ((s118.setCell ⟨G9_a106, 0, none⟩ (.int .u32 (b : Int))).setCell ⟨G9_a106, 1, none⟩ (.int .i64 (j : Int))) := (HBs118.out.setCell (p := ⟨G9_a106, 0, none⟩) (by show W1.heap.size ≤ G9_a106; omega) _).setCell (p := ⟨G9_a106, 1, none⟩) (by show W1.heap.size ≤ G9_a106; omega) _
          have hgs := set2_block (.int .u32 (b : Int)) (.int .i64 (j : Int)) HGG9_a106_s118.out
          have hoG8_a116 : ((s118.setCell ⟨G9_a106, 0, none⟩ (.int .u32 (b : Int))).setCell ⟨G9_a106, 1, none⟩ (.int .i64 (j : Int))).heap[G8_a116]? = _ := ((heap_setCell_other _ _ _ _ (show G8_a116 ≠ G9_a106 by omega)).trans (heap_setCell_other _ _ _ _ (show G8_a116 ≠ G9_a106 by omega))).trans HGG8_a116_s118.out
          generalize hwn : ((s118.setCell ⟨G9_a106, 0, none⟩ (.int .u32 (b : Int))).setCell ⟨G9_a106, 1, none⟩ (.int .i64 (j : Int))) = s120 at *
          have HBs120 := Lib.hid hbs
          have HGG9_a106_s120 := Lib.hid hgs
          have HGG8_a116_s120 := Lib.hid hoG8_a116
          clear hoG8_a116
          clear hwn hbs hgs e0 e1 f0 f1
          have x0 := (HBs120.out.cell (p := ⟨w.heap.size, 0, none⟩) hB1).trans C0.out
          have y0 := (HBs120.out.cell (p := ⟨g, 0, none⟩) hgl1).trans D0.out
          have y1 := (HBs120.out.cell (p := ⟨g, 1, none⟩) hgl1).trans D1.out
          refine hK.out _ _ (by go_keep) (fun hHeld => ?_)
          clear hK K x0 y0 y1
          refine wpAnyH_done (by kernel_rfl) ?_ _
          clear hHeld
          obtain ⟨e0, e1, f0, f1⟩ := row2 HGG8_a116_s120.out
          obtain ⟨e2, e3, f2, f3⟩ := row2 HGG9_a106_s120.out
          go_wp2_with (first
            | (go_at_call 67; (with_reducible refine (Common_ok _ HI.out HI1.out HN.out HN1.out).mono ?_); rintro e z1 ⟨rfl, hb1⟩; rw [HCV.out]; have HBz := Lib.hid (HBs120.out.trans (hb1.mono HBs120.out.size)); clear hb1)
            | (go_at_call 66; (with_reducible refine (MustN_ok _ _ _).mono ?_); rintro e z2 ⟨rfl, hb2⟩; have HBy := Lib.hid (HBz.out.trans (hb2.mono HBz.out.size)); clear hb2)
            | (go_at_call 58; (with_reducible refine (NText_any p q _ (HW.out _ HBy.out) hp hq).mono ?_); rintro e z3 ⟨rfl, hb3⟩; have HBx := Lib.hid (HBy.out.trans (hb3.mono HBy.out.size)); clear hb3)
            | fail)
          go_ret
          exact ⟨rfl, HB0.out.trans (HBx.out.mono HB0.out.size)⟩
      case hg112 =>
        go_simp
        have hb : Below b109.heap.size b109 (b109.alloc (.cells #[.int .u32 0, .int .i64 0] 47)) := (Below.refl _ _).alloc (Nat.le_refl _) _
        have hnew := heap_alloc_new b109 (.cells #[.int .u32 0, .int .i64 0] 47)
        obtain ⟨G8_a121, hG⟩ : ∃ G, b109.heap.size = G := ⟨_, rfl⟩
        have hGlt : W1.heap.size ≤ G8_a121 := by rw [← hG]; exact HBb109.out.size
        have hneG9_a106_G8_a121 : ¬ G8_a121 = G9_a106 := by have := size_of_block HGG9_a106_b109.out; omega
        have hnfG9_a106_G8_a121 : ¬ G9_a106 = G8_a121 := by have := size_of_block HGG9_a106_b109.out; omega
        rw [hG] at hnew
        (try rw [hG])
        generalize hwn : b109.alloc (.cells #[.int .u32 0, .int .i64 0] 47) = a121 at *
        have HGG8_a121_a121 := Lib.hid hnew
        have HBa121 := Lib.hid (HBb109.out.trans (hb.mono HBb109.out.size))
        have HGG9_a106_a121 := Lib.hid (below_block hb (size_of_block HGG9_a106_b109.out) HGG9_a106_b109.out)
        clear hb
        have hggG8_a121 : ¬ G8_a121 = g := by omega
        have hgbG8_a121 : ¬ G8_a121 = w.heap.size := by omega
        have hghG8_a121 : ¬ g = G8_a121 := by omega
        have hgkG8_a121 : ¬ w.heap.size = G8_a121 := by omega
        clear hwn hnew hG
        have x0 := (HBa121.out.cell (p := ⟨w.heap.size, 0, none⟩) hB1).trans C0.out
        have y0 := (HBa121.out.cell (p := ⟨g, 0, none⟩) hgl1).trans D0.out
        have y1 := (HBa121.out.cell (p := ⟨g, 1, none⟩) hgl1).trans D1.out
        refine hK.out _ _ (by go_keep) (fun hHeld => ?_)
        clear hK K x0 y0 y1
        refine wpAnyH_ready (rs := [7]) (by kernel_rfl) (by simp) ?_
        refine' AllReadyH.cons ?hi122 (fun K hK => ?hg122) AllReadyH.nil
        case hi122 => (simp only [List.getElem?_toArray, List.getElem?_cons_succ, List.getElem?_cons_zero]; exact rfl)
        case hg122 =>
          go_simp
          go_at_call 44
          (with_reducible refine (WNet_ok b j s1 _ (HW.out _ ?q124) hb HN1.out HSN1.out).mono ?_)
          case q124 => exact HBa121.out
          rintro e b123 ⟨rfl, hb⟩
          have HBb123 := Lib.hid (HBa121.out.trans (hb.mono HBa121.out.size))
          have HGG9_a106_b123 := Lib.hid (below_block hb (size_of_block HGG9_a106_a121.out) HGG9_a106_a121.out)
          have HGG8_a121_b123 := Lib.hid (below_block hb (size_of_block HGG8_a121_a121.out) HGG8_a121_a121.out)
          clear hb
          have x0 := (HBb123.out.cell (p := ⟨w.heap.size, 0, none⟩) hB1).trans C0.out
          have y0 := (HBb123.out.cell (p := ⟨g, 0, none⟩) hgl1).trans D0.out
          have y1 := (HBb123.out.cell (p := ⟨g, 1, none⟩) hgl1).trans D1.out
          refine hK.out _ _ (by go_keep) (fun hHeld => ?_)
          clear hK K x0 y0 y1
          refine wpAnyH_ready (rs := [10]) (by kernel_rfl) (by simp) ?_
          refine' AllReadyH.cons ?hi125 (fun K hK => ?hg125) AllReadyH.nil
          case hi125 => (simp only [List.getElem?_toArray, List.getElem?_cons_succ, List.getElem?_cons_zero]; exact rfl)
          obtain ⟨e0, e1, f0, f1⟩ := row2 HGG8_a121_b123.out
          go_simp
          have hbs : Below W1.heap.size W1 ((b123.setCell ⟨G8_a121, 0, none⟩ (.int .u32 (a : Int))).setCell ⟨G8_a121, 1, none⟩ (.int .i64 (k : Int))) := (HBb123.out.setCell (p := ⟨G8_a121, 0, none⟩) (by show W1.heap.size ≤ G8_a121; omega) _).setCell (p := ⟨G8_a121, 1, none⟩) (by show W1.heap.size ≤ G8_a121; omega) _
          have hgs := set2_block (.int .u32 (a : Int)) (.int .i64 (k : Int)) HGG8_a121_b123.out
          have hoG9_a106 : ((b123.setCell ⟨G8_a121, 0, none⟩ (.int .u32 (a : Int))).setCell ⟨G8_a121, 1, none⟩ (.int .i64 (k : Int))).heap[G9_a106]? = _ := ((heap_setCell_other _ _ _ _ (show G9_a106 ≠ G8_a121 by omega)).trans (heap_setCell_other _ _ _ _ (show G9_a106 ≠ G8_a121 by omega))).trans HGG9_a106_b123.out
          generalize hwn : ((b123.setCell ⟨G8_a121, 0, none⟩ (.int .u32 (a : Int))).setCell ⟨G8_a121, 1, none⟩ (.int .i64 (k : Int))) = s126 at *
          have HBs126 := Lib.hid hbs
          have HGG8_a121_s126 := Lib.hid hgs
          have HGG9_a106_s126 := Lib.hid hoG9_a106
          clear hoG9_a106
          clear hwn hbs hgs e0 e1 f0 f1
          have x0 := (HBs126.out.cell (p := ⟨w.heap.size, 0, none⟩) hB1).trans C0.out
          have y0 := (HBs126.out.cell (p := ⟨g, 0, none⟩) hgl1).trans D0.out
          have y1 := (HBs126.out.cell (p := ⟨g, 1, none⟩) hgl1).trans D1.out
          refine hK.out _ _ (by go_keep) (fun hHeld => ?_)
          clear hK K x0 y0 y1
          refine wpAnyH_ready (rs := [11]) (by kernel_rfl) (by simp) ?_
          refine' AllReadyH.cons ?hi127 (fun K hK => ?hg127) AllReadyH.nil
          case hi127 => (simp only [List.getElem?_toArray, List.getElem?_cons_succ, List.getElem?_cons_zero]; exact rfl)
          obtain ⟨e0, e1, f0, f1⟩ := row2 HGG9_a106_s126.out
          go_simp
          have hbs : Below W1.heap.size W1 ((s126.setCell ⟨G9_a106, 0, none⟩ (.int .u32 (b : Int))).setCell ⟨G9_a106, 1, none⟩ (.int .i64 (j : Int))) := (HBs126.out.setCell (p := ⟨G9_a106, 0, none⟩) (by show W1.heap.size ≤ G9_a106; omega) _).setCell (p := ⟨G9_a106, 1, none⟩) (by show W1.heap.size ≤ G9_a106; omega) _
          have hgs := set2_block (.int .u32 (b : Int)) (.int .i64 (j : Int)) HGG9_a106_s126.out
          have hoG8_a121 : ((s126.setCell ⟨G9_a106, 0, none⟩ (.int .u32 (b : Int))).setCell ⟨G9_a106, 1, none⟩ (.int .i64 (j : Int))).heap[G8_a121]? = _ := ((heap_setCell_other _ _ _ _ (show G8_a121 ≠ G9_a106 by omega)).trans (heap_setCell_other _ _ _ _ (show G8_a121 ≠ G9_a106 by omega))).trans HGG8_a121_s126.out
          generalize hwn : ((s126.setCell ⟨G9_a106, 0, none⟩ (.int .u32 (b : Int))).setCell ⟨G9_a106, 1, none⟩ (.int .i64 (j : Int))) = s128 at *
          have HBs128 := Lib.hid hbs
          have HGG9_a106_s128 := Lib.hid hgs
          have HGG8_a121_s128 := Lib.hid hoG8_a121
          clear hoG8_a121
          clear hwn hbs hgs e0 e1 f0 f1
          have x0 := (HBs128.out.cell (p := ⟨w.heap.size, 0, none⟩) hB1).trans C0.out
          have y0 := (HBs128.out.cell (p := ⟨g, 0, none⟩) hgl1).trans D0.out
          have y1 := (HBs128.out.cell (p := ⟨g, 1, none⟩) hgl1).trans D1.out
          refine hK.out _ _ (by go_keep) (fun hHeld => ?_)
          clear hK K x0 y0 y1
          refine wpAnyH_done (by kernel_rfl) ?_ _
          clear hHeld
          obtain ⟨e0, e1, f0, f1⟩ := row2 HGG8_a121_s128.out
          obtain ⟨e2, e3, f2, f3⟩ := row2 HGG9_a106_s128.out
          go_wp2_with (first
            | (go_at_call 67; (with_reducible refine (Common_ok _ HI.out HI1.out HN.out HN1.out).mono ?_); rintro e z1 ⟨rfl, hb1⟩; rw [HCV.out]; have HBz := Lib.hid (HBs128.out.trans (hb1.mono HBs128.out.size)); clear hb1)
            | (go_at_call 66; (with_reducible refine (MustN_ok _ _ _).mono ?_); rintro e z2 ⟨rfl, hb2⟩; have HBy := Lib.hid (HBz.out.trans (hb2.mono HBz.out.size)); clear hb2)
            | (go_at_call 58; (with_reducible refine (NText_any p q _ (HW.out _ HBy.out) hp hq).mono ?_); rintro e z3 ⟨rfl, hb3⟩; have HBx := Lib.hid (HBy.out.trans (hb3.mono HBy.out.size)); clear hb3)
            | fail)
          go_ret
          exact ⟨rfl, HB0.out.trans (HBx.out.mono HB0.out.size)⟩
    case hg108 =>
      go_simp
      have hb : Below a106.heap.size a106 (a106.alloc (.cells #[.int .u32 0, .int .i64 0] 47)) := (Below.refl _ _).alloc (Nat.le_refl _) _
      have hnew := heap_alloc_new a106 (.cells #[.int .u32 0, .int .i64 0] 47)
      obtain ⟨G8_a129, hG⟩ : ∃ G, a106.heap.size = G := ⟨_, rfl⟩
      have hGlt : W1.heap.size ≤ G8_a129 := by rw [← hG]; exact HBa106.out.size
      have hneG9_a106_G8_a129 : ¬ G8_a129 = G9_a106 := by have := size_of_block HGG9_a106_a106.out; omega
      have hnfG9_a106_G8_a129 : ¬ G9_a106 = G8_a129 := by have := size_of_block HGG9_a106_a106.out; omega
      rw [hG] at hnew
      (try rw [hG])
      generalize hwn : a106.alloc (.cells #[.int .u32 0, .int .i64 0] 47) = a129 at *
      have HGG8_a129_a129 := Lib.hid hnew
      have HBa129 := Lib.hid (HBa106.out.trans (hb.mono HBa106.out.size))
      have HGG9_a106_a129 := Lib.hid (below_block hb (size_of_block HGG9_a106_a106.out) HGG9_a106_a106.out)
      clear hb
      have hggG8_a129 : ¬ G8_a129 = g := by omega
      have hgbG8_a129 : ¬ G8_a129 = w.heap.size := by omega
      have hghG8_a129 : ¬ g = G8_a129 := by omega
      have hgkG8_a129 : ¬ w.heap.size = G8_a129 := by omega
      clear hwn hnew hG
      have x0 := (HBa129.out.cell (p := ⟨w.heap.size, 0, none⟩) hB1).trans C0.out
      have y0 := (HBa129.out.cell (p := ⟨g, 0, none⟩) hgl1).trans D0.out
      have y1 := (HBa129.out.cell (p := ⟨g, 1, none⟩) hgl1).trans D1.out
      refine hK.out _ _ (by go_keep) (fun hHeld => ?_)
      clear hK K x0 y0 y1
      refine wpAnyH_ready (rs := [3]) (by kernel_rfl) (by simp) ?_
      refine' AllReadyH.cons ?hi130 (fun K hK => ?hg130) AllReadyH.nil
      case hi130 => (simp only [List.getElem?_toArray, List.getElem?_cons_succ, List.getElem?_cons_zero]; exact rfl)
      case hg130 =>
        go_simp
        go_at_call 44
        (with_reducible refine (WNet_ok a k s0 _ (HW.out _ ?q132) ha HN.out HSN.out).mono ?_)
        case q132 => exact HBa129.out
        rintro e b131 ⟨rfl, hb⟩
        have HBb131 := Lib.hid (HBa129.out.trans (hb.mono HBa129.out.size))
        have HGG9_a106_b131 := Lib.hid (below_block hb (size_of_block HGG9_a106_a129.out) HGG9_a106_a129.out)
        have HGG8_a129_b131 := Lib.hid (below_block hb (size_of_block HGG8_a129_a129.out) HGG8_a129_a129.out)
        clear hb
        have x0 := (HBb131.out.cell (p := ⟨w.heap.size, 0, none⟩) hB1).trans C0.out
        have y0 := (HBb131.out.cell (p := ⟨g, 0, none⟩) hgl1).trans D0.out
        have y1 := (HBb131.out.cell (p := ⟨g, 1, none⟩) hgl1).trans D1.out
        refine hK.out _ _ (by go_keep) (fun hHeld => ?_)
        clear hK K x0 y0 y1
        refine wpAnyH_ready (rs := [7]) (by kernel_rfl) (by simp) ?_
        refine' AllReadyH.cons ?hi133 (fun K hK => ?hg133) AllReadyH.nil
        case hi133 => (simp only [List.getElem?_toArray, List.getElem?_cons_succ, List.getElem?_cons_zero]; exact rfl)
        case hg133 =>
          go_simp
          go_at_call 44
          (with_reducible refine (WNet_ok b j s1 _ (HW.out _ ?q135) hb HN1.out HSN1.out).mono ?_)
          case q135 => exact HBb131.out
          rintro e b134 ⟨rfl, hb⟩
          have HBb134 := Lib.hid (HBb131.out.trans (hb.mono HBb131.out.size))
          have HGG9_a106_b134 := Lib.hid (below_block hb (size_of_block HGG9_a106_b131.out) HGG9_a106_b131.out)
          have HGG8_a129_b134 := Lib.hid (below_block hb (size_of_block HGG8_a129_b131.out) HGG8_a129_b131.out)
          clear hb
          have x0 := (HBb134.out.cell (p := ⟨w.heap.size, 0, none⟩) hB1).trans C0.out
          have y0 := (HBb134.out.cell (p := ⟨g, 0, none⟩) hgl1).trans D0.out
          have y1 := (HBb134.out.cell (p := ⟨g, 1, none⟩) hgl1).trans D1.out
          refine hK.out _ _ (by go_keep) (fun hHeld => ?_)
          clear hK K x0 y0 y1
          refine wpAnyH_ready (rs := [10]) (by kernel_rfl) (by simp) ?_
          refine' AllReadyH.cons ?hi136 (fun K hK => ?hg136) AllReadyH.nil
          case hi136 => (simp only [List.getElem?_toArray, List.getElem?_cons_succ, List.getElem?_cons_zero]; exact rfl)
          obtain ⟨e0, e1, f0, f1⟩ := row2 HGG8_a129_b134.out
          go_simp
          have hbs : Below W1.heap.size W1 ((b134.setCell ⟨G8_a129, 0, none⟩ (.int .u32 (a : Int))).setCell ⟨G8_a129, 1, none⟩ (.int .i64 (k : Int))) := (HBb134.out.setCell (p := ⟨G8_a129, 0, none⟩) (by show W1.heap.size ≤ G8_a129; omega) _).setCell (p := ⟨G8_a129, 1, none⟩) (by show W1.heap.size ≤ G8_a129; omega) _
          have hgs := set2_block (.int .u32 (a : Int)) (.int .i64 (k : Int)) HGG8_a129_b134.out
          have hoG9_a106 : ((b134.setCell ⟨G8_a129, 0, none⟩ (.int .u32 (a : Int))).setCell ⟨G8_a129, 1, none⟩ (.int .i64 (k : Int))).heap[G9_a106]? = _ := ((heap_setCell_other _ _ _ _ (show G9_a106 ≠ G8_a129 by omega)).trans (heap_setCell_other _ _ _ _ (show G9_a106 ≠ G8_a129 by omega))).trans HGG9_a106_b134.out
          generalize hwn : ((b134.setCell ⟨G8_a129, 0, none⟩ (.int .u32 (a : Int))).setCell ⟨G8_a129, 1, none⟩ (.int .i64 (k : Int))) = s137 at *
          have HBs137 := Lib.hid hbs
          have HGG8_a129_s137 := Lib.hid hgs
          have HGG9_a106_s137 := Lib.hid hoG9_a106
          clear hoG9_a106
          clear hwn hbs hgs e0 e1 f0 f1
          have x0 := (HBs137.out.cell (p := ⟨w.heap.size, 0, none⟩) hB1).trans C0.out
          have y0 := (HBs137.out.cell (p := ⟨g, 0, none⟩) hgl1).trans D0.out
          have y1 := (HBs137.out.cell (p := ⟨g, 1, none⟩) hgl1).trans D1.out
          refine hK.out _ _ (by go_keep) (fun hHeld => ?_)
          clear hK K x0 y0 y1
          refine wpAnyH_ready (rs := [11]) (by kernel_rfl) (by simp) ?_
          refine' AllReadyH.cons ?hi138 (fun K hK => ?hg138) AllReadyH.nil
          case hi138 => (simp only [List.getElem?_toArray, List.getElem?_cons_succ, List.getElem?_cons_zero]; exact rfl)
          obtain ⟨e0, e1, f0, f1⟩ := row2 HGG9_a106_s137.out
          go_simp
          have hbs : Below W1.heap.size W1 ((s137.setCell ⟨G9_a106, 0, none⟩ (.int .u32 (b : Int))).setCell ⟨G9_a106, 1, none⟩ (.int .i64 (j : Int))) := (HBs137.out.setCell (p := ⟨G9_a106, 0, none⟩) (by show W1.heap.size ≤ G9_a106; omega) _).setCell (p := ⟨G9_a106, 1, none⟩) (by show W1.heap.size ≤ G9_a106; omega) _
          have hgs := set2_block (.int .u32 (b : Int)) (.int .i64 (j : Int)) HGG9_a106_s137.out
          have hoG8_a129 : ((s137.setCell ⟨G9_a106, 0, none⟩ (.int .u32 (b : Int))).setCell ⟨G9_a106, 1, none⟩ (.int .i64 (j : Int))).heap[G8_a129]? = _ := ((heap_setCell_other _ _ _ _ (show G8_a129 ≠ G9_a106 by omega)).trans (heap_setCell_other _ _ _ _ (show G8_a129 ≠ G9_a106 by omega))).trans HGG8_a129_s137.out
          generalize hwn : ((s137.setCell ⟨G9_a106, 0, none⟩ (.int .u32 (b : Int))).setCell ⟨G9_a106, 1, none⟩ (.int .i64 (j : Int))) = s139 at *
          have HBs139 := Lib.hid hbs
          have HGG9_a106_s139 := Lib.hid hgs
          have HGG8_a129_s139 := Lib.hid hoG8_a129
          clear hoG8_a129
          clear hwn hbs hgs e0 e1 f0 f1
          have x0 := (HBs139.out.cell (p := ⟨w.heap.size, 0, none⟩) hB1).trans C0.out
          have y0 := (HBs139.out.cell (p := ⟨g, 0, none⟩) hgl1).trans D0.out
          have y1 := (HBs139.out.cell (p := ⟨g, 1, none⟩) hgl1).trans D1.out
          refine hK.out _ _ (by go_keep) (fun hHeld => ?_)
          clear hK K x0 y0 y1
          refine wpAnyH_done (by kernel_rfl) ?_ _
          clear hHeld
          obtain ⟨e0, e1, f0, f1⟩ := row2 HGG8_a129_s139.out
          obtain ⟨e2, e3, f2, f3⟩ := row2 HGG9_a106_s139.out
          go_wp2_with (first
            | (go_at_call 67; (with_reducible refine (Common_ok _ HI.out HI1.out HN.out HN1.out).mono ?_); rintro e z1 ⟨rfl, hb1⟩; rw [HCV.out]; have HBz := Lib.hid (HBs139.out.trans (hb1.mono HBs139.out.size)); clear hb1)
            | (go_at_call 66; (with_reducible refine (MustN_ok _ _ _).mono ?_); rintro e z2 ⟨rfl, hb2⟩; have HBy := Lib.hid (HBz.out.trans (hb2.mono HBz.out.size)); clear hb2)
            | (go_at_call 58; (with_reducible refine (NText_any p q _ (HW.out _ HBy.out) hp hq).mono ?_); rintro e z3 ⟨rfl, hb3⟩; have HBx := Lib.hid (HBy.out.trans (hb3.mono HBy.out.size)); clear hb3)
            | fail)
          go_ret
          exact ⟨rfl, HB0.out.trans (HBx.out.mono HB0.out.size)⟩
set_option maxRecDepth 100000 in
set_option maxHeartbeats 16000000 in
theorem ComD_two (h : Tk W T m S w) (hw : HStr W) (hc0 : w.cell? ⟨g, 0, none⟩ = some (.string s0)) (hc1 : w.cell? ⟨g, 1, none⟩ = some (.string s1)) (hs0 : s0.size ≤ 2097152) (hs1 : s1.size ≤ 2097152) {a k : Nat} (ha : a < 4294967296) (hnf : netF ((a : Int), (k : Int)) = 0) (hsn : s0.data.toList = netT a k) (hno1 : ∀ a k : Nat, a < 4294967296 → netF ((a : Int), (k : Int)) = 0 → s1.data.toList ≠ netT a k) :
    Calls Tryz.prog 65 #[deskV T, .slice (some ⟨g, 0, none⟩) 2 c] w fun e w' => e = endA (comX (netO s0.data.toList) (netO s1.data.toList)) ∧ Below w.heap.size w w' := by
  have hX : comX (netO s0.data.toList) (netO s1.data.toList) = .error 7 := by rw [netO_yes ha hnf hsn, netO_no hno1]; rfl
  have HNO1 := Lib.hid hno1
  clear hno1
  rw [hX]
  have HN := Lib.hid hnf
  have HSN := Lib.hid hsn
  clear hX hnf hsn
  have hgl := lt_of_cellG hc0
  have hb0 := (Below.refl w.heap.size w).alloc (Nat.le_refl _) (.cells #[.pointer (some ⟨T, 0, none⟩)] 40)
  have hT1 : ∀ w' : World, Below (w.alloc (.cells #[.pointer (some ⟨T, 0, none⟩)] 40)).heap.size (w.alloc (.cells #[.pointer (some ⟨T, 0, none⟩)] 40)) w' → Tk W T m (fun g => S g ∨ w.heap.size ≤ g ∧ g < (w.alloc (.cells #[.pointer (some ⟨T, 0, none⟩)] 40)).heap.size) w' := fun w' hb => (h.more hb0).below hb
  have hW1 : ∀ w' : World, Below (w.alloc (.cells #[.pointer (some ⟨T, 0, none⟩)] 40)).heap.size (w.alloc (.cells #[.pointer (some ⟨T, 0, none⟩)] 40)) w' → HStr w' := fun w' hb => hw.below ((h.more hb0).below hb).bel (Nat.le_refl _)
  have c0 : (w.alloc (.cells #[.pointer (some ⟨T, 0, none⟩)] 40)).cell? ⟨w.heap.size, 0, none⟩ = some (.pointer (some ⟨T, 0, none⟩)) := row1p (heap_alloc_new _ _)
  have d0 : (w.alloc (.cells #[.pointer (some ⟨T, 0, none⟩)] 40)).cell? ⟨g, 0, none⟩ = some (.string s0) := (hb0.cell (p := ⟨g, 0, none⟩) hgl).trans hc0
  have d1 : (w.alloc (.cells #[.pointer (some ⟨T, 0, none⟩)] 40)).cell? ⟨g, 1, none⟩ = some (.string s1) := (hb0.cell (p := ⟨g, 1, none⟩) hgl).trans hc1
  have hB1 : w.heap.size < (w.alloc (.cells #[.pointer (some ⟨T, 0, none⟩)] 40)).heap.size := by simp
  have hgl1 : g < (w.alloc (.cells #[.pointer (some ⟨T, 0, none⟩)] 40)).heap.size := by simp; omega
  have HTK := Lib.hid hT1
  have HW := Lib.hid hW1
  have C0 := Lib.hid c0
  have HB0 := Lib.hid hb0
  have HT := Lib.hid h
  have D0 := Lib.hid d0
  have D1 := Lib.hid d1
  clear hT1 hW1 hb0 h hw c0 d0 hc0 d1 hc1
  go_enter Tryz.func65, Tryz.ntmps65
  go_wp2
  generalize hW1e : w.alloc (.cells #[.pointer (some ⟨T, 0, none⟩)] 40) = W1 at *
  have hbd : Below W1.heap.size W1 W1.drew := below_drewN (Below.refl _ _) 1
  have x0 : W1.drew.cell? ⟨w.heap.size, 0, none⟩ = some (.pointer (some ⟨T, 0, none⟩)) := C0.out
  have y0 : W1.drew.cell? ⟨g, 0, none⟩ = some (.string s0) := D0.out
  have y1 : W1.drew.cell? ⟨g, 1, none⟩ = some (.string s1) := D1.out
  refine wp_region_held_drew (S := (fun w' => w'.cell? ⟨w.heap.size, 0, none⟩ = some (.pointer (some ⟨T, 0, none⟩)) ∧ w'.cell? ⟨g, 0, none⟩ = some (.string s0) ∧ w'.cell? ⟨g, 1, none⟩ = some (.string s1))) (by kernel_rfl) (by first | exact ⟨x0, y0, y1⟩ | exact ⟨x0, y0⟩) (fun hHeld => ?_)
  generalize hud : W1.drew = u140 at *
  have HBu140 := Lib.hid hbd
  clear hud hbd hW1e x0 y0 y1
  refine' wpAnyH_take (i := 0) ?hit141 ?hst141 ?hft141 ?hrt141 ?hQt141 ?hyt141 ?hSt141 ?ht141
  case hit141 => (simp only [List.getElem?_toArray, List.getElem?_cons_succ, List.getElem?_cons_zero]; exact rfl)
  case hst141 => kernel_rfl
  case hft141 => kernel_rfl
  case hrt141 => kernel_rfl
  case hQt141 => exact fun _ _ _ h => h
  case hyt141 => (first | (refine Or.inr ⟨by rfl, ?_⟩; rfl) | (refine Or.inl ⟨by rfl, ?_⟩; (intro w hSw; (try dsimp only at hSw); go_simp); try with_reducible rfl))
  case hSt141 => assumption
  try simp only [Act.put, List.setIfInBounds_toArray, List.set_cons_zero, List.set_cons_succ]
  refine' wpAnyH_take (i := 1) ?hit142 ?hst142 ?hft142 ?hrt142 ?hQt142 ?hyt142 ?hSt142 ?ht142
  case hit142 => (simp only [List.getElem?_toArray, List.getElem?_cons_succ, List.getElem?_cons_zero]; exact rfl)
  case hst142 => kernel_rfl
  case hft142 => kernel_rfl
  case hrt142 => kernel_rfl
  case hQt142 => exact fun _ _ _ h => h
  case hyt142 => (first | (refine Or.inr ⟨by rfl, ?_⟩; rfl) | (refine Or.inl ⟨by rfl, ?_⟩; (intro w hSw; (try dsimp only at hSw); go_simp); try with_reducible rfl))
  case hSt142 => assumption
  try simp only [Act.put, List.setIfInBounds_toArray, List.set_cons_zero, List.set_cons_succ]
  refine' wpAnyH_take (i := 2) ?hit143 ?hst143 ?hft143 ?hrt143 ?hQt143 ?hyt143 ?hSt143 ?ht143
  case hit143 => (simp only [List.getElem?_toArray, List.getElem?_cons_succ, List.getElem?_cons_zero]; exact rfl)
  case hst143 => kernel_rfl
  case hft143 => kernel_rfl
  case hrt143 => kernel_rfl
  case hQt143 => exact fun _ _ _ h => h
  case hyt143 => (first | (refine Or.inr ⟨by rfl, ?_⟩; rfl) | (refine Or.inl ⟨by rfl, ?_⟩; (intro w hSw; (try dsimp only at hSw); go_simp); try with_reducible rfl))
  case hSt143 => assumption
  try simp only [Act.put, List.setIfInBounds_toArray, List.set_cons_zero, List.set_cons_succ]
  refine' wpAnyH_take (i := 4) ?hit144 ?hst144 ?hft144 ?hrt144 ?hQt144 ?hyt144 ?hSt144 ?ht144
  case hit144 => (simp only [List.getElem?_toArray, List.getElem?_cons_succ, List.getElem?_cons_zero]; exact rfl)
  case hst144 => kernel_rfl
  case hft144 => kernel_rfl
  case hrt144 => kernel_rfl
  case hQt144 => exact fun _ _ _ h => h
  case hyt144 => (first | (refine Or.inr ⟨by rfl, ?_⟩; rfl) | (refine Or.inl ⟨by rfl, ?_⟩; (intro w hSw; (try dsimp only at hSw); go_simp); try with_reducible rfl))
  case hSt144 => assumption
  try simp only [Act.put, List.setIfInBounds_toArray, List.set_cons_zero, List.set_cons_succ]
  refine' wpAnyH_take (i := 5) ?hit145 ?hst145 ?hft145 ?hrt145 ?hQt145 ?hyt145 ?hSt145 ?ht145
  case hit145 => (simp only [List.getElem?_toArray, List.getElem?_cons_succ, List.getElem?_cons_zero]; exact rfl)
  case hst145 => kernel_rfl
  case hft145 => kernel_rfl
  case hrt145 => kernel_rfl
  case hQt145 => exact fun _ _ _ h => h
  case hyt145 => (first | (refine Or.inr ⟨by rfl, ?_⟩; rfl) | (refine Or.inl ⟨by rfl, ?_⟩; (intro w hSw; (try dsimp only at hSw); go_simp); try with_reducible rfl))
  case hSt145 => assumption
  try simp only [Act.put, List.setIfInBounds_toArray, List.set_cons_zero, List.set_cons_succ]
  refine' wpAnyH_take (i := 6) ?hit146 ?hst146 ?hft146 ?hrt146 ?hQt146 ?hyt146 ?hSt146 ?ht146
  case hit146 => (simp only [List.getElem?_toArray, List.getElem?_cons_succ, List.getElem?_cons_zero]; exact rfl)
  case hst146 => kernel_rfl
  case hft146 => kernel_rfl
  case hrt146 => kernel_rfl
  case hQt146 => exact fun _ _ _ h => h
  case hyt146 => (first | (refine Or.inr ⟨by rfl, ?_⟩; rfl) | (refine Or.inl ⟨by rfl, ?_⟩; (intro w hSw; (try dsimp only at hSw); go_simp); try with_reducible rfl))
  case hSt146 => assumption
  try simp only [Act.put, List.setIfInBounds_toArray, List.set_cons_zero, List.set_cons_succ]
  refine wpAnyH_ready (rs := [3, 8, 9]) (by kernel_rfl) (by simp) ?_
  refine' AllReadyH.cons ?hi147 (fun K hK => ?hg147) (AllReadyH.cons ?hi148 (fun K hK => ?hg148) (AllReadyH.cons ?hi149 (fun K hK => ?hg149) AllReadyH.nil))
  case hi147 => (simp only [List.getElem?_toArray, List.getElem?_cons_succ, List.getElem?_cons_zero]; exact rfl)
  case hi148 => (simp only [List.getElem?_toArray, List.getElem?_cons_succ, List.getElem?_cons_zero]; exact rfl)
  case hi149 => (simp only [List.getElem?_toArray, List.getElem?_cons_succ, List.getElem?_cons_zero]; exact rfl)
  case hg147 =>
    go_simp
    go_at_call 44
    (with_reducible refine (WNet_ok a k s0 _ (HW.out _ ?q151) ha HN.out HSN.out).mono ?_)
    case q151 => exact HBu140.out
    rintro e b150 ⟨rfl, hb⟩
    have HBb150 := Lib.hid (HBu140.out.trans (hb.mono HBu140.out.size))
    clear hb
    have x0 := (HBb150.out.cell (p := ⟨w.heap.size, 0, none⟩) hB1).trans C0.out
    have y0 := (HBb150.out.cell (p := ⟨g, 0, none⟩) hgl1).trans D0.out
    have y1 := (HBb150.out.cell (p := ⟨g, 1, none⟩) hgl1).trans D1.out
    refine hK.out _ _ (by go_keep) (fun hHeld => ?_)
    clear hK K x0 y0 y1
    refine wpAnyH_ready (rs := [7, 8, 9]) (by kernel_rfl) (by simp) ?_
    refine' AllReadyH.cons ?hi152 (fun K hK => ?hg152) (AllReadyH.cons ?hi153 (fun K hK => ?hg153) (AllReadyH.cons ?hi154 (fun K hK => ?hg154) AllReadyH.nil))
    case hi152 => (simp only [List.getElem?_toArray, List.getElem?_cons_succ, List.getElem?_cons_zero]; exact rfl)
    case hi153 => (simp only [List.getElem?_toArray, List.getElem?_cons_succ, List.getElem?_cons_zero]; exact rfl)
    case hi154 => (simp only [List.getElem?_toArray, List.getElem?_cons_succ, List.getElem?_cons_zero]; exact rfl)
    case hg152 =>
      go_simp
      go_at_call 44
      (with_reducible refine (WNet_bad s1 _ (HW.out _ ?q156) hs1 HNO1.out).mono ?_)
      case q156 => exact HBb150.out
      rintro e b155 ⟨rfl, hb⟩
      exact ⟨rfl, rfl, HB0.out.trans ((HBb150.out.trans (hb.mono HBb150.out.size)).mono HB0.out.size)⟩
    case hg153 =>
      go_simp
      have hb : Below b150.heap.size b150 (b150.alloc (.cells #[.int .u32 0, .int .i64 0] 47)) := (Below.refl _ _).alloc (Nat.le_refl _) _
      have hnew := heap_alloc_new b150 (.cells #[.int .u32 0, .int .i64 0] 47)
      obtain ⟨G8_a157, hG⟩ : ∃ G, b150.heap.size = G := ⟨_, rfl⟩
      have hGlt : W1.heap.size ≤ G8_a157 := by rw [← hG]; exact HBb150.out.size
      rw [hG] at hnew
      (try rw [hG])
      generalize hwn : b150.alloc (.cells #[.int .u32 0, .int .i64 0] 47) = a157 at *
      have HGG8_a157_a157 := Lib.hid hnew
      have HBa157 := Lib.hid (HBb150.out.trans (hb.mono HBb150.out.size))
      clear hb
      have hggG8_a157 : ¬ G8_a157 = g := by omega
      have hgbG8_a157 : ¬ G8_a157 = w.heap.size := by omega
      have hghG8_a157 : ¬ g = G8_a157 := by omega
      have hgkG8_a157 : ¬ w.heap.size = G8_a157 := by omega
      clear hwn hnew hG
      have x0 := (HBa157.out.cell (p := ⟨w.heap.size, 0, none⟩) hB1).trans C0.out
      have y0 := (HBa157.out.cell (p := ⟨g, 0, none⟩) hgl1).trans D0.out
      have y1 := (HBa157.out.cell (p := ⟨g, 1, none⟩) hgl1).trans D1.out
      refine hK.out _ _ (by go_keep) (fun hHeld => ?_)
      clear hK K x0 y0 y1
      refine wpAnyH_ready (rs := [7, 9]) (by kernel_rfl) (by simp) ?_
      refine' AllReadyH.cons ?hi158 (fun K hK => ?hg158) (AllReadyH.cons ?hi159 (fun K hK => ?hg159) AllReadyH.nil)
      case hi158 => (simp only [List.getElem?_toArray, List.getElem?_cons_succ, List.getElem?_cons_zero]; exact rfl)
      case hi159 => (simp only [List.getElem?_toArray, List.getElem?_cons_succ, List.getElem?_cons_zero]; exact rfl)
      case hg158 =>
        go_simp
        go_at_call 44
        (with_reducible refine (WNet_bad s1 _ (HW.out _ ?q161) hs1 HNO1.out).mono ?_)
        case q161 => exact HBa157.out
        rintro e b160 ⟨rfl, hb⟩
        exact ⟨rfl, rfl, HB0.out.trans ((HBa157.out.trans (hb.mono HBa157.out.size)).mono HB0.out.size)⟩
      case hg159 =>
        go_simp
        have hb : Below a157.heap.size a157 (a157.alloc (.cells #[.int .u32 0, .int .i64 0] 47)) := (Below.refl _ _).alloc (Nat.le_refl _) _
        have hnew := heap_alloc_new a157 (.cells #[.int .u32 0, .int .i64 0] 47)
        obtain ⟨G9_a162, hG⟩ : ∃ G, a157.heap.size = G := ⟨_, rfl⟩
        have hGlt : W1.heap.size ≤ G9_a162 := by rw [← hG]; exact HBa157.out.size
        have hneG8_a157_G9_a162 : ¬ G9_a162 = G8_a157 := by have := size_of_block HGG8_a157_a157.out; omega
        have hnfG8_a157_G9_a162 : ¬ G8_a157 = G9_a162 := by have := size_of_block HGG8_a157_a157.out; omega
        rw [hG] at hnew
        (try rw [hG])
        generalize hwn : a157.alloc (.cells #[.int .u32 0, .int .i64 0] 47) = a162 at *
        have HGG9_a162_a162 := Lib.hid hnew
        have HBa162 := Lib.hid (HBa157.out.trans (hb.mono HBa157.out.size))
        have HGG8_a157_a162 := Lib.hid (below_block hb (size_of_block HGG8_a157_a157.out) HGG8_a157_a157.out)
        clear hb
        have hggG9_a162 : ¬ G9_a162 = g := by omega
        have hgbG9_a162 : ¬ G9_a162 = w.heap.size := by omega
        have hghG9_a162 : ¬ g = G9_a162 := by omega
        have hgkG9_a162 : ¬ w.heap.size = G9_a162 := by omega
        clear hwn hnew hG
        have x0 := (HBa162.out.cell (p := ⟨w.heap.size, 0, none⟩) hB1).trans C0.out
        have y0 := (HBa162.out.cell (p := ⟨g, 0, none⟩) hgl1).trans D0.out
        have y1 := (HBa162.out.cell (p := ⟨g, 1, none⟩) hgl1).trans D1.out
        refine hK.out _ _ (by go_keep) (fun hHeld => ?_)
        clear hK K x0 y0 y1
        refine wpAnyH_ready (rs := [7]) (by kernel_rfl) (by simp) ?_
        refine' AllReadyH.cons ?hi163 (fun K hK => ?hg163) AllReadyH.nil
        case hi163 => (simp only [List.getElem?_toArray, List.getElem?_cons_succ, List.getElem?_cons_zero]; exact rfl)
        case hg163 =>
          go_simp
          go_at_call 44
          (with_reducible refine (WNet_bad s1 _ (HW.out _ ?q165) hs1 HNO1.out).mono ?_)
          case q165 => exact HBa162.out
          rintro e b164 ⟨rfl, hb⟩
          exact ⟨rfl, rfl, HB0.out.trans ((HBa162.out.trans (hb.mono HBa162.out.size)).mono HB0.out.size)⟩
    case hg154 =>
      go_simp
      have hb : Below b150.heap.size b150 (b150.alloc (.cells #[.int .u32 0, .int .i64 0] 47)) := (Below.refl _ _).alloc (Nat.le_refl _) _
      have hnew := heap_alloc_new b150 (.cells #[.int .u32 0, .int .i64 0] 47)
      obtain ⟨G9_a166, hG⟩ : ∃ G, b150.heap.size = G := ⟨_, rfl⟩
      have hGlt : W1.heap.size ≤ G9_a166 := by rw [← hG]; exact HBb150.out.size
      rw [hG] at hnew
      (try rw [hG])
      generalize hwn : b150.alloc (.cells #[.int .u32 0, .int .i64 0] 47) = a166 at *
      have HGG9_a166_a166 := Lib.hid hnew
      have HBa166 := Lib.hid (HBb150.out.trans (hb.mono HBb150.out.size))
      clear hb
      have hggG9_a166 : ¬ G9_a166 = g := by omega
      have hgbG9_a166 : ¬ G9_a166 = w.heap.size := by omega
      have hghG9_a166 : ¬ g = G9_a166 := by omega
      have hgkG9_a166 : ¬ w.heap.size = G9_a166 := by omega
      clear hwn hnew hG
      have x0 := (HBa166.out.cell (p := ⟨w.heap.size, 0, none⟩) hB1).trans C0.out
      have y0 := (HBa166.out.cell (p := ⟨g, 0, none⟩) hgl1).trans D0.out
      have y1 := (HBa166.out.cell (p := ⟨g, 1, none⟩) hgl1).trans D1.out
      refine hK.out _ _ (by go_keep) (fun hHeld => ?_)
      clear hK K x0 y0 y1
      refine wpAnyH_ready (rs := [7, 8]) (by kernel_rfl) (by simp) ?_
      refine' AllReadyH.cons ?hi167 (fun K hK => ?hg167) (AllReadyH.cons ?hi168 (fun K hK => ?hg168) AllReadyH.nil)
      case hi167 => (simp only [List.getElem?_toArray, List.getElem?_cons_succ, List.getElem?_cons_zero]; exact rfl)
      case hi168 => (simp only [List.getElem?_toArray, List.getElem?_cons_succ, List.getElem?_cons_zero]; exact rfl)
      case hg167 =>
        go_simp
        go_at_call 44
        (with_reducible refine (WNet_bad s1 _ (HW.out _ ?q170) hs1 HNO1.out).mono ?_)
        case q170 => exact HBa166.out
        rintro e b169 ⟨rfl, hb⟩
        exact ⟨rfl, rfl, HB0.out.trans ((HBa166.out.trans (hb.mono HBa166.out.size)).mono HB0.out.size)⟩
      case hg168 =>
        go_simp
        have hb : Below a166.heap.size a166 (a166.alloc (.cells #[.int .u32 0, .int .i64 0] 47)) := (Below.refl _ _).alloc (Nat.le_refl _) _
        have hnew := heap_alloc_new a166 (.cells #[.int .u32 0, .int .i64 0] 47)
        obtain ⟨G8_a171, hG⟩ : ∃ G, a166.heap.size = G := ⟨_, rfl⟩
        have hGlt : W1.heap.size ≤ G8_a171 := by rw [← hG]; exact HBa166.out.size
        have hneG9_a166_G8_a171 : ¬ G8_a171 = G9_a166 := by have := size_of_block HGG9_a166_a166.out; omega
        have hnfG9_a166_G8_a171 : ¬ G9_a166 = G8_a171 := by have := size_of_block HGG9_a166_a166.out; omega
        rw [hG] at hnew
        (try rw [hG])
        generalize hwn : a166.alloc (.cells #[.int .u32 0, .int .i64 0] 47) = a171 at *
        have HGG8_a171_a171 := Lib.hid hnew
        have HBa171 := Lib.hid (HBa166.out.trans (hb.mono HBa166.out.size))
        have HGG9_a166_a171 := Lib.hid (below_block hb (size_of_block HGG9_a166_a166.out) HGG9_a166_a166.out)
        clear hb
        have hggG8_a171 : ¬ G8_a171 = g := by omega
        have hgbG8_a171 : ¬ G8_a171 = w.heap.size := by omega
        have hghG8_a171 : ¬ g = G8_a171 := by omega
        have hgkG8_a171 : ¬ w.heap.size = G8_a171 := by omega
        clear hwn hnew hG
        have x0 := (HBa171.out.cell (p := ⟨w.heap.size, 0, none⟩) hB1).trans C0.out
        have y0 := (HBa171.out.cell (p := ⟨g, 0, none⟩) hgl1).trans D0.out
        have y1 := (HBa171.out.cell (p := ⟨g, 1, none⟩) hgl1).trans D1.out
        refine hK.out _ _ (by go_keep) (fun hHeld => ?_)
        clear hK K x0 y0 y1
        refine wpAnyH_ready (rs := [7]) (by kernel_rfl) (by simp) ?_
        refine' AllReadyH.cons ?hi172 (fun K hK => ?hg172) AllReadyH.nil
        case hi172 => (simp only [List.getElem?_toArray, List.getElem?_cons_succ, List.getElem?_cons_zero]; exact rfl)
        case hg172 =>
          go_simp
          go_at_call 44
          (with_reducible refine (WNet_bad s1 _ (HW.out _ ?q174) hs1 HNO1.out).mono ?_)
          case q174 => exact HBa171.out
          rintro e b173 ⟨rfl, hb⟩
          exact ⟨rfl, rfl, HB0.out.trans ((HBa171.out.trans (hb.mono HBa171.out.size)).mono HB0.out.size)⟩
  case hg148 =>
    go_simp
    have hb : Below u140.heap.size u140 (u140.alloc (.cells #[.int .u32 0, .int .i64 0] 47)) := (Below.refl _ _).alloc (Nat.le_refl _) _
    have hnew := heap_alloc_new u140 (.cells #[.int .u32 0, .int .i64 0] 47)
    obtain ⟨G8_a175, hG⟩ : ∃ G, u140.heap.size = G := ⟨_, rfl⟩
    have hGlt : W1.heap.size ≤ G8_a175 := by rw [← hG]; exact HBu140.out.size
    rw [hG] at hnew
    (try rw [hG])
    generalize hwn : u140.alloc (.cells #[.int .u32 0, .int .i64 0] 47) = a175 at *
    have HGG8_a175_a175 := Lib.hid hnew
    have HBa175 := Lib.hid (HBu140.out.trans (hb.mono HBu140.out.size))
    clear hb
    have hggG8_a175 : ¬ G8_a175 = g := by omega
    have hgbG8_a175 : ¬ G8_a175 = w.heap.size := by omega
    have hghG8_a175 : ¬ g = G8_a175 := by omega
    have hgkG8_a175 : ¬ w.heap.size = G8_a175 := by omega
    clear hwn hnew hG
    have x0 := (HBa175.out.cell (p := ⟨w.heap.size, 0, none⟩) hB1).trans C0.out
    have y0 := (HBa175.out.cell (p := ⟨g, 0, none⟩) hgl1).trans D0.out
    have y1 := (HBa175.out.cell (p := ⟨g, 1, none⟩) hgl1).trans D1.out
    refine hK.out _ _ (by go_keep) (fun hHeld => ?_)
    clear hK K x0 y0 y1
    refine wpAnyH_ready (rs := [3, 9]) (by kernel_rfl) (by simp) ?_
    refine' AllReadyH.cons ?hi176 (fun K hK => ?hg176) (AllReadyH.cons ?hi177 (fun K hK => ?hg177) AllReadyH.nil)
    case hi176 => (simp only [List.getElem?_toArray, List.getElem?_cons_succ, List.getElem?_cons_zero]; exact rfl)
    case hi177 => (simp only [List.getElem?_toArray, List.getElem?_cons_succ, List.getElem?_cons_zero]; exact rfl)
    case hg176 =>
      go_simp
      go_at_call 44
      (with_reducible refine (WNet_ok a k s0 _ (HW.out _ ?q179) ha HN.out HSN.out).mono ?_)
      case q179 => exact HBa175.out
      rintro e b178 ⟨rfl, hb⟩
      have HBb178 := Lib.hid (HBa175.out.trans (hb.mono HBa175.out.size))
      have HGG8_a175_b178 := Lib.hid (below_block hb (size_of_block HGG8_a175_a175.out) HGG8_a175_a175.out)
      clear hb
      have x0 := (HBb178.out.cell (p := ⟨w.heap.size, 0, none⟩) hB1).trans C0.out
      have y0 := (HBb178.out.cell (p := ⟨g, 0, none⟩) hgl1).trans D0.out
      have y1 := (HBb178.out.cell (p := ⟨g, 1, none⟩) hgl1).trans D1.out
      refine hK.out _ _ (by go_keep) (fun hHeld => ?_)
      clear hK K x0 y0 y1
      refine wpAnyH_ready (rs := [7, 9]) (by kernel_rfl) (by simp) ?_
      refine' AllReadyH.cons ?hi180 (fun K hK => ?hg180) (AllReadyH.cons ?hi181 (fun K hK => ?hg181) AllReadyH.nil)
      case hi180 => (simp only [List.getElem?_toArray, List.getElem?_cons_succ, List.getElem?_cons_zero]; exact rfl)
      case hi181 => (simp only [List.getElem?_toArray, List.getElem?_cons_succ, List.getElem?_cons_zero]; exact rfl)
      case hg180 =>
        go_simp
        go_at_call 44
        (with_reducible refine (WNet_bad s1 _ (HW.out _ ?q183) hs1 HNO1.out).mono ?_)
        case q183 => exact HBb178.out
        rintro e b182 ⟨rfl, hb⟩
        exact ⟨rfl, rfl, HB0.out.trans ((HBb178.out.trans (hb.mono HBb178.out.size)).mono HB0.out.size)⟩
      case hg181 =>
        go_simp
        have hb : Below b178.heap.size b178 (b178.alloc (.cells #[.int .u32 0, .int .i64 0] 47)) := (Below.refl _ _).alloc (Nat.le_refl _) _
        have hnew := heap_alloc_new b178 (.cells #[.int .u32 0, .int .i64 0] 47)
        obtain ⟨G9_a184, hG⟩ : ∃ G, b178.heap.size = G := ⟨_, rfl⟩
        have hGlt : W1.heap.size ≤ G9_a184 := by rw [← hG]; exact HBb178.out.size
        have hneG8_a175_G9_a184 : ¬ G9_a184 = G8_a175 := by have := size_of_block HGG8_a175_b178.out; omega
        have hnfG8_a175_G9_a184 : ¬ G8_a175 = G9_a184 := by have := size_of_block HGG8_a175_b178.out; omega
        rw [hG] at hnew
        (try rw [hG])
        generalize hwn : b178.alloc (.cells #[.int .u32 0, .int .i64 0] 47) = a184 at *
        have HGG9_a184_a184 := Lib.hid hnew
        have HBa184 := Lib.hid (HBb178.out.trans (hb.mono HBb178.out.size))
        have HGG8_a175_a184 := Lib.hid (below_block hb (size_of_block HGG8_a175_b178.out) HGG8_a175_b178.out)
        clear hb
        have hggG9_a184 : ¬ G9_a184 = g := by omega
        have hgbG9_a184 : ¬ G9_a184 = w.heap.size := by omega
        have hghG9_a184 : ¬ g = G9_a184 := by omega
        have hgkG9_a184 : ¬ w.heap.size = G9_a184 := by omega
        clear hwn hnew hG
        have x0 := (HBa184.out.cell (p := ⟨w.heap.size, 0, none⟩) hB1).trans C0.out
        have y0 := (HBa184.out.cell (p := ⟨g, 0, none⟩) hgl1).trans D0.out
        have y1 := (HBa184.out.cell (p := ⟨g, 1, none⟩) hgl1).trans D1.out
        refine hK.out _ _ (by go_keep) (fun hHeld => ?_)
        clear hK K x0 y0 y1
        refine wpAnyH_ready (rs := [7]) (by kernel_rfl) (by simp) ?_
        refine' AllReadyH.cons ?hi185 (fun K hK => ?hg185) AllReadyH.nil
        case hi185 => (simp only [List.getElem?_toArray, List.getElem?_cons_succ, List.getElem?_cons_zero]; exact rfl)
        case hg185 =>
          go_simp
          go_at_call 44
          (with_reducible refine (WNet_bad s1 _ (HW.out _ ?q187) hs1 HNO1.out).mono ?_)
          case q187 => exact HBa184.out
          rintro e b186 ⟨rfl, hb⟩
          exact ⟨rfl, rfl, HB0.out.trans ((HBa184.out.trans (hb.mono HBa184.out.size)).mono HB0.out.size)⟩
    case hg177 =>
      go_simp
      have hb : Below a175.heap.size a175 (a175.alloc (.cells #[.int .u32 0, .int .i64 0] 47)) := (Below.refl _ _).alloc (Nat.le_refl _) _
      have hnew := heap_alloc_new a175 (.cells #[.int .u32 0, .int .i64 0] 47)
      obtain ⟨G9_a188, hG⟩ : ∃ G, a175.heap.size = G := ⟨_, rfl⟩
      have hGlt : W1.heap.size ≤ G9_a188 := by rw [← hG]; exact HBa175.out.size
      have hneG8_a175_G9_a188 : ¬ G9_a188 = G8_a175 := by have := size_of_block HGG8_a175_a175.out; omega
      have hnfG8_a175_G9_a188 : ¬ G8_a175 = G9_a188 := by have := size_of_block HGG8_a175_a175.out; omega
      rw [hG] at hnew
      (try rw [hG])
      generalize hwn : a175.alloc (.cells #[.int .u32 0, .int .i64 0] 47) = a188 at *
      have HGG9_a188_a188 := Lib.hid hnew
      have HBa188 := Lib.hid (HBa175.out.trans (hb.mono HBa175.out.size))
      have HGG8_a175_a188 := Lib.hid (below_block hb (size_of_block HGG8_a175_a175.out) HGG8_a175_a175.out)
      clear hb
      have hggG9_a188 : ¬ G9_a188 = g := by omega
      have hgbG9_a188 : ¬ G9_a188 = w.heap.size := by omega
      have hghG9_a188 : ¬ g = G9_a188 := by omega
      have hgkG9_a188 : ¬ w.heap.size = G9_a188 := by omega
      clear hwn hnew hG
      have x0 := (HBa188.out.cell (p := ⟨w.heap.size, 0, none⟩) hB1).trans C0.out
      have y0 := (HBa188.out.cell (p := ⟨g, 0, none⟩) hgl1).trans D0.out
      have y1 := (HBa188.out.cell (p := ⟨g, 1, none⟩) hgl1).trans D1.out
      refine hK.out _ _ (by go_keep) (fun hHeld => ?_)
      clear hK K x0 y0 y1
      refine wpAnyH_ready (rs := [3]) (by kernel_rfl) (by simp) ?_
      refine' AllReadyH.cons ?hi189 (fun K hK => ?hg189) AllReadyH.nil
      case hi189 => (simp only [List.getElem?_toArray, List.getElem?_cons_succ, List.getElem?_cons_zero]; exact rfl)
      case hg189 =>
        go_simp
        go_at_call 44
        (with_reducible refine (WNet_ok a k s0 _ (HW.out _ ?q191) ha HN.out HSN.out).mono ?_)
        case q191 => exact HBa188.out
        rintro e b190 ⟨rfl, hb⟩
        have HBb190 := Lib.hid (HBa188.out.trans (hb.mono HBa188.out.size))
        have HGG8_a175_b190 := Lib.hid (below_block hb (size_of_block HGG8_a175_a188.out) HGG8_a175_a188.out)
        have HGG9_a188_b190 := Lib.hid (below_block hb (size_of_block HGG9_a188_a188.out) HGG9_a188_a188.out)
        clear hb
        have x0 := (HBb190.out.cell (p := ⟨w.heap.size, 0, none⟩) hB1).trans C0.out
        have y0 := (HBb190.out.cell (p := ⟨g, 0, none⟩) hgl1).trans D0.out
        have y1 := (HBb190.out.cell (p := ⟨g, 1, none⟩) hgl1).trans D1.out
        refine hK.out _ _ (by go_keep) (fun hHeld => ?_)
        clear hK K x0 y0 y1
        refine wpAnyH_ready (rs := [7]) (by kernel_rfl) (by simp) ?_
        refine' AllReadyH.cons ?hi192 (fun K hK => ?hg192) AllReadyH.nil
        case hi192 => (simp only [List.getElem?_toArray, List.getElem?_cons_succ, List.getElem?_cons_zero]; exact rfl)
        case hg192 =>
          go_simp
          go_at_call 44
          (with_reducible refine (WNet_bad s1 _ (HW.out _ ?q194) hs1 HNO1.out).mono ?_)
          case q194 => exact HBb190.out
          rintro e b193 ⟨rfl, hb⟩
          exact ⟨rfl, rfl, HB0.out.trans ((HBb190.out.trans (hb.mono HBb190.out.size)).mono HB0.out.size)⟩
  case hg149 =>
    go_simp
    have hb : Below u140.heap.size u140 (u140.alloc (.cells #[.int .u32 0, .int .i64 0] 47)) := (Below.refl _ _).alloc (Nat.le_refl _) _
    have hnew := heap_alloc_new u140 (.cells #[.int .u32 0, .int .i64 0] 47)
    obtain ⟨G9_a195, hG⟩ : ∃ G, u140.heap.size = G := ⟨_, rfl⟩
    have hGlt : W1.heap.size ≤ G9_a195 := by rw [← hG]; exact HBu140.out.size
    rw [hG] at hnew
    (try rw [hG])
    generalize hwn : u140.alloc (.cells #[.int .u32 0, .int .i64 0] 47) = a195 at *
    have HGG9_a195_a195 := Lib.hid hnew
    have HBa195 := Lib.hid (HBu140.out.trans (hb.mono HBu140.out.size))
    clear hb
    have hggG9_a195 : ¬ G9_a195 = g := by omega
    have hgbG9_a195 : ¬ G9_a195 = w.heap.size := by omega
    have hghG9_a195 : ¬ g = G9_a195 := by omega
    have hgkG9_a195 : ¬ w.heap.size = G9_a195 := by omega
    clear hwn hnew hG
    have x0 := (HBa195.out.cell (p := ⟨w.heap.size, 0, none⟩) hB1).trans C0.out
    have y0 := (HBa195.out.cell (p := ⟨g, 0, none⟩) hgl1).trans D0.out
    have y1 := (HBa195.out.cell (p := ⟨g, 1, none⟩) hgl1).trans D1.out
    refine hK.out _ _ (by go_keep) (fun hHeld => ?_)
    clear hK K x0 y0 y1
    refine wpAnyH_ready (rs := [3, 8]) (by kernel_rfl) (by simp) ?_
    refine' AllReadyH.cons ?hi196 (fun K hK => ?hg196) (AllReadyH.cons ?hi197 (fun K hK => ?hg197) AllReadyH.nil)
    case hi196 => (simp only [List.getElem?_toArray, List.getElem?_cons_succ, List.getElem?_cons_zero]; exact rfl)
    case hi197 => (simp only [List.getElem?_toArray, List.getElem?_cons_succ, List.getElem?_cons_zero]; exact rfl)
    case hg196 =>
      go_simp
      go_at_call 44
      (with_reducible refine (WNet_ok a k s0 _ (HW.out _ ?q199) ha HN.out HSN.out).mono ?_)
      case q199 => exact HBa195.out
      rintro e b198 ⟨rfl, hb⟩
      have HBb198 := Lib.hid (HBa195.out.trans (hb.mono HBa195.out.size))
      have HGG9_a195_b198 := Lib.hid (below_block hb (size_of_block HGG9_a195_a195.out) HGG9_a195_a195.out)
      clear hb
      have x0 := (HBb198.out.cell (p := ⟨w.heap.size, 0, none⟩) hB1).trans C0.out
      have y0 := (HBb198.out.cell (p := ⟨g, 0, none⟩) hgl1).trans D0.out
      have y1 := (HBb198.out.cell (p := ⟨g, 1, none⟩) hgl1).trans D1.out
      refine hK.out _ _ (by go_keep) (fun hHeld => ?_)
      clear hK K x0 y0 y1
      refine wpAnyH_ready (rs := [7, 8]) (by kernel_rfl) (by simp) ?_
      refine' AllReadyH.cons ?hi200 (fun K hK => ?hg200) (AllReadyH.cons ?hi201 (fun K hK => ?hg201) AllReadyH.nil)
      case hi200 => (simp only [List.getElem?_toArray, List.getElem?_cons_succ, List.getElem?_cons_zero]; exact rfl)
      case hi201 => (simp only [List.getElem?_toArray, List.getElem?_cons_succ, List.getElem?_cons_zero]; exact rfl)
      case hg200 =>
        go_simp
        go_at_call 44
        (with_reducible refine (WNet_bad s1 _ (HW.out _ ?q203) hs1 HNO1.out).mono ?_)
        case q203 => exact HBb198.out
        rintro e b202 ⟨rfl, hb⟩
        exact ⟨rfl, rfl, HB0.out.trans ((HBb198.out.trans (hb.mono HBb198.out.size)).mono HB0.out.size)⟩
      case hg201 =>
        go_simp
        have hb : Below b198.heap.size b198 (b198.alloc (.cells #[.int .u32 0, .int .i64 0] 47)) := (Below.refl _ _).alloc (Nat.le_refl _) _
        have hnew := heap_alloc_new b198 (.cells #[.int .u32 0, .int .i64 0] 47)
        obtain ⟨G8_a204, hG⟩ : ∃ G, b198.heap.size = G := ⟨_, rfl⟩
        have hGlt : W1.heap.size ≤ G8_a204 := by rw [← hG]; exact HBb198.out.size
        have hneG9_a195_G8_a204 : ¬ G8_a204 = G9_a195 := by have := size_of_block HGG9_a195_b198.out; omega
        have hnfG9_a195_G8_a204 : ¬ G9_a195 = G8_a204 := by have := size_of_block HGG9_a195_b198.out; omega
        rw [hG] at hnew
        (try rw [hG])
        generalize hwn : b198.alloc (.cells #[.int .u32 0, .int .i64 0] 47) = a204 at *
        have HGG8_a204_a204 := Lib.hid hnew
        have HBa204 := Lib.hid (HBb198.out.trans (hb.mono HBb198.out.size))
        have HGG9_a195_a204 := Lib.hid (below_block hb (size_of_block HGG9_a195_b198.out) HGG9_a195_b198.out)
        clear hb
        have hggG8_a204 : ¬ G8_a204 = g := by omega
        have hgbG8_a204 : ¬ G8_a204 = w.heap.size := by omega
        have hghG8_a204 : ¬ g = G8_a204 := by omega
        have hgkG8_a204 : ¬ w.heap.size = G8_a204 := by omega
        clear hwn hnew hG
        have x0 := (HBa204.out.cell (p := ⟨w.heap.size, 0, none⟩) hB1).trans C0.out
        have y0 := (HBa204.out.cell (p := ⟨g, 0, none⟩) hgl1).trans D0.out
        have y1 := (HBa204.out.cell (p := ⟨g, 1, none⟩) hgl1).trans D1.out
        refine hK.out _ _ (by go_keep) (fun hHeld => ?_)
        clear hK K x0 y0 y1
        refine wpAnyH_ready (rs := [7]) (by kernel_rfl) (by simp) ?_
        refine' AllReadyH.cons ?hi205 (fun K hK => ?hg205) AllReadyH.nil
        case hi205 => (simp only [List.getElem?_toArray, List.getElem?_cons_succ, List.getElem?_cons_zero]; exact rfl)
        case hg205 =>
          go_simp
          go_at_call 44
          (with_reducible refine (WNet_bad s1 _ (HW.out _ ?q207) hs1 HNO1.out).mono ?_)
          case q207 => exact HBa204.out
          rintro e b206 ⟨rfl, hb⟩
          exact ⟨rfl, rfl, HB0.out.trans ((HBa204.out.trans (hb.mono HBa204.out.size)).mono HB0.out.size)⟩
    case hg197 =>
      go_simp
      have hb : Below a195.heap.size a195 (a195.alloc (.cells #[.int .u32 0, .int .i64 0] 47)) := (Below.refl _ _).alloc (Nat.le_refl _) _
      have hnew := heap_alloc_new a195 (.cells #[.int .u32 0, .int .i64 0] 47)
      obtain ⟨G8_a208, hG⟩ : ∃ G, a195.heap.size = G := ⟨_, rfl⟩
      have hGlt : W1.heap.size ≤ G8_a208 := by rw [← hG]; exact HBa195.out.size
      have hneG9_a195_G8_a208 : ¬ G8_a208 = G9_a195 := by have := size_of_block HGG9_a195_a195.out; omega
      have hnfG9_a195_G8_a208 : ¬ G9_a195 = G8_a208 := by have := size_of_block HGG9_a195_a195.out; omega
      rw [hG] at hnew
      (try rw [hG])
      generalize hwn : a195.alloc (.cells #[.int .u32 0, .int .i64 0] 47) = a208 at *
      have HGG8_a208_a208 := Lib.hid hnew
      have HBa208 := Lib.hid (HBa195.out.trans (hb.mono HBa195.out.size))
      have HGG9_a195_a208 := Lib.hid (below_block hb (size_of_block HGG9_a195_a195.out) HGG9_a195_a195.out)
      clear hb
      have hggG8_a208 : ¬ G8_a208 = g := by omega
      have hgbG8_a208 : ¬ G8_a208 = w.heap.size := by omega
      have hghG8_a208 : ¬ g = G8_a208 := by omega
      have hgkG8_a208 : ¬ w.heap.size = G8_a208 := by omega
      clear hwn hnew hG
      have x0 := (HBa208.out.cell (p := ⟨w.heap.size, 0, none⟩) hB1).trans C0.out
      have y0 := (HBa208.out.cell (p := ⟨g, 0, none⟩) hgl1).trans D0.out
      have y1 := (HBa208.out.cell (p := ⟨g, 1, none⟩) hgl1).trans D1.out
      refine hK.out _ _ (by go_keep) (fun hHeld => ?_)
      clear hK K x0 y0 y1
      refine wpAnyH_ready (rs := [3]) (by kernel_rfl) (by simp) ?_
      refine' AllReadyH.cons ?hi209 (fun K hK => ?hg209) AllReadyH.nil
      case hi209 => (simp only [List.getElem?_toArray, List.getElem?_cons_succ, List.getElem?_cons_zero]; exact rfl)
      case hg209 =>
        go_simp
        go_at_call 44
        (with_reducible refine (WNet_ok a k s0 _ (HW.out _ ?q211) ha HN.out HSN.out).mono ?_)
        case q211 => exact HBa208.out
        rintro e b210 ⟨rfl, hb⟩
        have HBb210 := Lib.hid (HBa208.out.trans (hb.mono HBa208.out.size))
        have HGG9_a195_b210 := Lib.hid (below_block hb (size_of_block HGG9_a195_a208.out) HGG9_a195_a208.out)
        have HGG8_a208_b210 := Lib.hid (below_block hb (size_of_block HGG8_a208_a208.out) HGG8_a208_a208.out)
        clear hb
        have x0 := (HBb210.out.cell (p := ⟨w.heap.size, 0, none⟩) hB1).trans C0.out
        have y0 := (HBb210.out.cell (p := ⟨g, 0, none⟩) hgl1).trans D0.out
        have y1 := (HBb210.out.cell (p := ⟨g, 1, none⟩) hgl1).trans D1.out
        refine hK.out _ _ (by go_keep) (fun hHeld => ?_)
        clear hK K x0 y0 y1
        refine wpAnyH_ready (rs := [7]) (by kernel_rfl) (by simp) ?_
        refine' AllReadyH.cons ?hi212 (fun K hK => ?hg212) AllReadyH.nil
        case hi212 => (simp only [List.getElem?_toArray, List.getElem?_cons_succ, List.getElem?_cons_zero]; exact rfl)
        case hg212 =>
          go_simp
          go_at_call 44
          (with_reducible refine (WNet_bad s1 _ (HW.out _ ?q214) hs1 HNO1.out).mono ?_)
          case q214 => exact HBb210.out
          rintro e b213 ⟨rfl, hb⟩
          exact ⟨rfl, rfl, HB0.out.trans ((HBb210.out.trans (hb.mono HBb210.out.size)).mono HB0.out.size)⟩
set_option maxRecDepth 100000 in
set_option maxHeartbeats 16000000 in
theorem ComD_one (h : Tk W T m S w) (hw : HStr W) (hc0 : w.cell? ⟨g, 0, none⟩ = some (.string s0)) (hc1 : w.cell? ⟨g, 1, none⟩ = some (.string s1)) (hs0 : s0.size ≤ 2097152) (hs1 : s1.size ≤ 2097152) (hno : ∀ a k : Nat, a < 4294967296 → netF ((a : Int), (k : Int)) = 0 → s0.data.toList ≠ netT a k) :
    Calls Tryz.prog 65 #[deskV T, .slice (some ⟨g, 0, none⟩) 2 c] w fun e w' => e = endA (comX (netO s0.data.toList) (netO s1.data.toList)) ∧ Below w.heap.size w w' := by
  have hX : comX (netO s0.data.toList) (netO s1.data.toList) = .error 7 := by rw [netO_no hno]; rfl
  rw [hX]
  have HNO := Lib.hid hno
  clear hX hno
  have hgl := lt_of_cellG hc0
  have hb0 := (Below.refl w.heap.size w).alloc (Nat.le_refl _) (.cells #[.pointer (some ⟨T, 0, none⟩)] 40)
  have hT1 : ∀ w' : World, Below (w.alloc (.cells #[.pointer (some ⟨T, 0, none⟩)] 40)).heap.size (w.alloc (.cells #[.pointer (some ⟨T, 0, none⟩)] 40)) w' → Tk W T m (fun g => S g ∨ w.heap.size ≤ g ∧ g < (w.alloc (.cells #[.pointer (some ⟨T, 0, none⟩)] 40)).heap.size) w' := fun w' hb => (h.more hb0).below hb
  have hW1 : ∀ w' : World, Below (w.alloc (.cells #[.pointer (some ⟨T, 0, none⟩)] 40)).heap.size (w.alloc (.cells #[.pointer (some ⟨T, 0, none⟩)] 40)) w' → HStr w' := fun w' hb => hw.below ((h.more hb0).below hb).bel (Nat.le_refl _)
  have c0 : (w.alloc (.cells #[.pointer (some ⟨T, 0, none⟩)] 40)).cell? ⟨w.heap.size, 0, none⟩ = some (.pointer (some ⟨T, 0, none⟩)) := row1p (heap_alloc_new _ _)
  have d0 : (w.alloc (.cells #[.pointer (some ⟨T, 0, none⟩)] 40)).cell? ⟨g, 0, none⟩ = some (.string s0) := (hb0.cell (p := ⟨g, 0, none⟩) hgl).trans hc0
  have d1 : (w.alloc (.cells #[.pointer (some ⟨T, 0, none⟩)] 40)).cell? ⟨g, 1, none⟩ = some (.string s1) := (hb0.cell (p := ⟨g, 1, none⟩) hgl).trans hc1
  have hB1 : w.heap.size < (w.alloc (.cells #[.pointer (some ⟨T, 0, none⟩)] 40)).heap.size := by simp
  have hgl1 : g < (w.alloc (.cells #[.pointer (some ⟨T, 0, none⟩)] 40)).heap.size := by simp; omega
  have HTK := Lib.hid hT1
  have HW := Lib.hid hW1
  have C0 := Lib.hid c0
  have HB0 := Lib.hid hb0
  have HT := Lib.hid h
  have D0 := Lib.hid d0
  have D1 := Lib.hid d1
  clear hT1 hW1 hb0 h hw c0 d0 hc0 d1 hc1
  go_enter Tryz.func65, Tryz.ntmps65
  go_wp2
  generalize hW1e : w.alloc (.cells #[.pointer (some ⟨T, 0, none⟩)] 40) = W1 at *
  have hbd : Below W1.heap.size W1 W1.drew := below_drewN (Below.refl _ _) 1
  have x0 : W1.drew.cell? ⟨w.heap.size, 0, none⟩ = some (.pointer (some ⟨T, 0, none⟩)) := C0.out
  have y0 : W1.drew.cell? ⟨g, 0, none⟩ = some (.string s0) := D0.out
  have y1 : W1.drew.cell? ⟨g, 1, none⟩ = some (.string s1) := D1.out
  refine wp_region_held_drew (S := (fun w' => w'.cell? ⟨w.heap.size, 0, none⟩ = some (.pointer (some ⟨T, 0, none⟩)) ∧ w'.cell? ⟨g, 0, none⟩ = some (.string s0) ∧ w'.cell? ⟨g, 1, none⟩ = some (.string s1))) (by kernel_rfl) (by first | exact ⟨x0, y0, y1⟩ | exact ⟨x0, y0⟩) (fun hHeld => ?_)
  generalize hud : W1.drew = u215 at *
  have HBu215 := Lib.hid hbd
  clear hud hbd hW1e x0 y0 y1
  refine' wpAnyH_take (i := 0) ?hit216 ?hst216 ?hft216 ?hrt216 ?hQt216 ?hyt216 ?hSt216 ?ht216
  case hit216 => (simp only [List.getElem?_toArray, List.getElem?_cons_succ, List.getElem?_cons_zero]; exact rfl)
  case hst216 => kernel_rfl
  case hft216 => kernel_rfl
  case hrt216 => kernel_rfl
  case hQt216 => exact fun _ _ _ h => h
  case hyt216 => (first | (refine Or.inr ⟨by rfl, ?_⟩; rfl) | (refine Or.inl ⟨by rfl, ?_⟩; (intro w hSw; (try dsimp only at hSw); go_simp); try with_reducible rfl))
  case hSt216 => assumption
  try simp only [Act.put, List.setIfInBounds_toArray, List.set_cons_zero, List.set_cons_succ]
  refine' wpAnyH_take (i := 1) ?hit217 ?hst217 ?hft217 ?hrt217 ?hQt217 ?hyt217 ?hSt217 ?ht217
  case hit217 => (simp only [List.getElem?_toArray, List.getElem?_cons_succ, List.getElem?_cons_zero]; exact rfl)
  case hst217 => kernel_rfl
  case hft217 => kernel_rfl
  case hrt217 => kernel_rfl
  case hQt217 => exact fun _ _ _ h => h
  case hyt217 => (first | (refine Or.inr ⟨by rfl, ?_⟩; rfl) | (refine Or.inl ⟨by rfl, ?_⟩; (intro w hSw; (try dsimp only at hSw); go_simp); try with_reducible rfl))
  case hSt217 => assumption
  try simp only [Act.put, List.setIfInBounds_toArray, List.set_cons_zero, List.set_cons_succ]
  refine' wpAnyH_take (i := 2) ?hit218 ?hst218 ?hft218 ?hrt218 ?hQt218 ?hyt218 ?hSt218 ?ht218
  case hit218 => (simp only [List.getElem?_toArray, List.getElem?_cons_succ, List.getElem?_cons_zero]; exact rfl)
  case hst218 => kernel_rfl
  case hft218 => kernel_rfl
  case hrt218 => kernel_rfl
  case hQt218 => exact fun _ _ _ h => h
  case hyt218 => (first | (refine Or.inr ⟨by rfl, ?_⟩; rfl) | (refine Or.inl ⟨by rfl, ?_⟩; (intro w hSw; (try dsimp only at hSw); go_simp); try with_reducible rfl))
  case hSt218 => assumption
  try simp only [Act.put, List.setIfInBounds_toArray, List.set_cons_zero, List.set_cons_succ]
  refine' wpAnyH_take (i := 4) ?hit219 ?hst219 ?hft219 ?hrt219 ?hQt219 ?hyt219 ?hSt219 ?ht219
  case hit219 => (simp only [List.getElem?_toArray, List.getElem?_cons_succ, List.getElem?_cons_zero]; exact rfl)
  case hst219 => kernel_rfl
  case hft219 => kernel_rfl
  case hrt219 => kernel_rfl
  case hQt219 => exact fun _ _ _ h => h
  case hyt219 => (first | (refine Or.inr ⟨by rfl, ?_⟩; rfl) | (refine Or.inl ⟨by rfl, ?_⟩; (intro w hSw; (try dsimp only at hSw); go_simp); try with_reducible rfl))
  case hSt219 => assumption
  try simp only [Act.put, List.setIfInBounds_toArray, List.set_cons_zero, List.set_cons_succ]
  refine' wpAnyH_take (i := 5) ?hit220 ?hst220 ?hft220 ?hrt220 ?hQt220 ?hyt220 ?hSt220 ?ht220
  case hit220 => (simp only [List.getElem?_toArray, List.getElem?_cons_succ, List.getElem?_cons_zero]; exact rfl)
  case hst220 => kernel_rfl
  case hft220 => kernel_rfl
  case hrt220 => kernel_rfl
  case hQt220 => exact fun _ _ _ h => h
  case hyt220 => (first | (refine Or.inr ⟨by rfl, ?_⟩; rfl) | (refine Or.inl ⟨by rfl, ?_⟩; (intro w hSw; (try dsimp only at hSw); go_simp); try with_reducible rfl))
  case hSt220 => assumption
  try simp only [Act.put, List.setIfInBounds_toArray, List.set_cons_zero, List.set_cons_succ]
  refine' wpAnyH_take (i := 6) ?hit221 ?hst221 ?hft221 ?hrt221 ?hQt221 ?hyt221 ?hSt221 ?ht221
  case hit221 => (simp only [List.getElem?_toArray, List.getElem?_cons_succ, List.getElem?_cons_zero]; exact rfl)
  case hst221 => kernel_rfl
  case hft221 => kernel_rfl
  case hrt221 => kernel_rfl
  case hQt221 => exact fun _ _ _ h => h
  case hyt221 => (first | (refine Or.inr ⟨by rfl, ?_⟩; rfl) | (refine Or.inl ⟨by rfl, ?_⟩; (intro w hSw; (try dsimp only at hSw); go_simp); try with_reducible rfl))
  case hSt221 => assumption
  try simp only [Act.put, List.setIfInBounds_toArray, List.set_cons_zero, List.set_cons_succ]
  refine wpAnyH_ready (rs := [3, 8, 9]) (by kernel_rfl) (by simp) ?_
  refine' AllReadyH.cons ?hi222 (fun K hK => ?hg222) (AllReadyH.cons ?hi223 (fun K hK => ?hg223) (AllReadyH.cons ?hi224 (fun K hK => ?hg224) AllReadyH.nil))
  case hi222 => (simp only [List.getElem?_toArray, List.getElem?_cons_succ, List.getElem?_cons_zero]; exact rfl)
  case hi223 => (simp only [List.getElem?_toArray, List.getElem?_cons_succ, List.getElem?_cons_zero]; exact rfl)
  case hi224 => (simp only [List.getElem?_toArray, List.getElem?_cons_succ, List.getElem?_cons_zero]; exact rfl)
  case hg222 =>
    go_simp
    go_at_call 44
    (with_reducible refine (WNet_bad s0 _ (HW.out _ ?q226) hs0 HNO.out).mono ?_)
    case q226 => exact HBu215.out
    rintro e b225 ⟨rfl, hb⟩
    exact ⟨rfl, rfl, HB0.out.trans ((HBu215.out.trans (hb.mono HBu215.out.size)).mono HB0.out.size)⟩
  case hg223 =>
    go_simp
    have hb : Below u215.heap.size u215 (u215.alloc (.cells #[.int .u32 0, .int .i64 0] 47)) := (Below.refl _ _).alloc (Nat.le_refl _) _
    have hnew := heap_alloc_new u215 (.cells #[.int .u32 0, .int .i64 0] 47)
    obtain ⟨G8_a227, hG⟩ : ∃ G, u215.heap.size = G := ⟨_, rfl⟩
    have hGlt : W1.heap.size ≤ G8_a227 := by rw [← hG]; exact HBu215.out.size
    rw [hG] at hnew
    (try rw [hG])
    generalize hwn : u215.alloc (.cells #[.int .u32 0, .int .i64 0] 47) = a227 at *
    have HGG8_a227_a227 := Lib.hid hnew
    have HBa227 := Lib.hid (HBu215.out.trans (hb.mono HBu215.out.size))
    clear hb
    have hggG8_a227 : ¬ G8_a227 = g := by omega
    have hgbG8_a227 : ¬ G8_a227 = w.heap.size := by omega
    have hghG8_a227 : ¬ g = G8_a227 := by omega
    have hgkG8_a227 : ¬ w.heap.size = G8_a227 := by omega
    clear hwn hnew hG
    have x0 := (HBa227.out.cell (p := ⟨w.heap.size, 0, none⟩) hB1).trans C0.out
    have y0 := (HBa227.out.cell (p := ⟨g, 0, none⟩) hgl1).trans D0.out
    have y1 := (HBa227.out.cell (p := ⟨g, 1, none⟩) hgl1).trans D1.out
    refine hK.out _ _ (by go_keep) (fun hHeld => ?_)
    clear hK K x0 y0 y1
    refine wpAnyH_ready (rs := [3, 9]) (by kernel_rfl) (by simp) ?_
    refine' AllReadyH.cons ?hi228 (fun K hK => ?hg228) (AllReadyH.cons ?hi229 (fun K hK => ?hg229) AllReadyH.nil)
    case hi228 => (simp only [List.getElem?_toArray, List.getElem?_cons_succ, List.getElem?_cons_zero]; exact rfl)
    case hi229 => (simp only [List.getElem?_toArray, List.getElem?_cons_succ, List.getElem?_cons_zero]; exact rfl)
    case hg228 =>
      go_simp
      go_at_call 44
      (with_reducible refine (WNet_bad s0 _ (HW.out _ ?q231) hs0 HNO.out).mono ?_)
      case q231 => exact HBa227.out
      rintro e b230 ⟨rfl, hb⟩
      exact ⟨rfl, rfl, HB0.out.trans ((HBa227.out.trans (hb.mono HBa227.out.size)).mono HB0.out.size)⟩
    case hg229 =>
      go_simp
      have hb : Below a227.heap.size a227 (a227.alloc (.cells #[.int .u32 0, .int .i64 0] 47)) := (Below.refl _ _).alloc (Nat.le_refl _) _
      have hnew := heap_alloc_new a227 (.cells #[.int .u32 0, .int .i64 0] 47)
      obtain ⟨G9_a232, hG⟩ : ∃ G, a227.heap.size = G := ⟨_, rfl⟩
      have hGlt : W1.heap.size ≤ G9_a232 := by rw [← hG]; exact HBa227.out.size
      have hneG8_a227_G9_a232 : ¬ G9_a232 = G8_a227 := by have := size_of_block HGG8_a227_a227.out; omega
      have hnfG8_a227_G9_a232 : ¬ G8_a227 = G9_a232 := by have := size_of_block HGG8_a227_a227.out; omega
      rw [hG] at hnew
      (try rw [hG])
      generalize hwn : a227.alloc (.cells #[.int .u32 0, .int .i64 0] 47) = a232 at *
      have HGG9_a232_a232 := Lib.hid hnew
      have HBa232 := Lib.hid (HBa227.out.trans (hb.mono HBa227.out.size))
      have HGG8_a227_a232 := Lib.hid (below_block hb (size_of_block HGG8_a227_a227.out) HGG8_a227_a227.out)
      clear hb
      have hggG9_a232 : ¬ G9_a232 = g := by omega
      have hgbG9_a232 : ¬ G9_a232 = w.heap.size := by omega
      have hghG9_a232 : ¬ g = G9_a232 := by omega
      have hgkG9_a232 : ¬ w.heap.size = G9_a232 := by omega
      clear hwn hnew hG
      have x0 := (HBa232.out.cell (p := ⟨w.heap.size, 0, none⟩) hB1).trans C0.out
      have y0 := (HBa232.out.cell (p := ⟨g, 0, none⟩) hgl1).trans D0.out
      have y1 := (HBa232.out.cell (p := ⟨g, 1, none⟩) hgl1).trans D1.out
      refine hK.out _ _ (by go_keep) (fun hHeld => ?_)
      clear hK K x0 y0 y1
      refine wpAnyH_ready (rs := [3]) (by kernel_rfl) (by simp) ?_
      refine' AllReadyH.cons ?hi233 (fun K hK => ?hg233) AllReadyH.nil
      case hi233 => (simp only [List.getElem?_toArray, List.getElem?_cons_succ, List.getElem?_cons_zero]; exact rfl)
      case hg233 =>
        go_simp
        go_at_call 44
        (with_reducible refine (WNet_bad s0 _ (HW.out _ ?q235) hs0 HNO.out).mono ?_)
        case q235 => exact HBa232.out
        rintro e b234 ⟨rfl, hb⟩
        exact ⟨rfl, rfl, HB0.out.trans ((HBa232.out.trans (hb.mono HBa232.out.size)).mono HB0.out.size)⟩
  case hg224 =>
    go_simp
    have hb : Below u215.heap.size u215 (u215.alloc (.cells #[.int .u32 0, .int .i64 0] 47)) := (Below.refl _ _).alloc (Nat.le_refl _) _
    have hnew := heap_alloc_new u215 (.cells #[.int .u32 0, .int .i64 0] 47)
    obtain ⟨G9_a236, hG⟩ : ∃ G, u215.heap.size = G := ⟨_, rfl⟩
    have hGlt : W1.heap.size ≤ G9_a236 := by rw [← hG]; exact HBu215.out.size
    rw [hG] at hnew
    (try rw [hG])
    generalize hwn : u215.alloc (.cells #[.int .u32 0, .int .i64 0] 47) = a236 at *
    have HGG9_a236_a236 := Lib.hid hnew
    have HBa236 := Lib.hid (HBu215.out.trans (hb.mono HBu215.out.size))
    clear hb
    have hggG9_a236 : ¬ G9_a236 = g := by omega
    have hgbG9_a236 : ¬ G9_a236 = w.heap.size := by omega
    have hghG9_a236 : ¬ g = G9_a236 := by omega
    have hgkG9_a236 : ¬ w.heap.size = G9_a236 := by omega
    clear hwn hnew hG
    have x0 := (HBa236.out.cell (p := ⟨w.heap.size, 0, none⟩) hB1).trans C0.out
    have y0 := (HBa236.out.cell (p := ⟨g, 0, none⟩) hgl1).trans D0.out
    have y1 := (HBa236.out.cell (p := ⟨g, 1, none⟩) hgl1).trans D1.out
    refine hK.out _ _ (by go_keep) (fun hHeld => ?_)
    clear hK K x0 y0 y1
    refine wpAnyH_ready (rs := [3, 8]) (by kernel_rfl) (by simp) ?_
    refine' AllReadyH.cons ?hi237 (fun K hK => ?hg237) (AllReadyH.cons ?hi238 (fun K hK => ?hg238) AllReadyH.nil)
    case hi237 => (simp only [List.getElem?_toArray, List.getElem?_cons_succ, List.getElem?_cons_zero]; exact rfl)
    case hi238 => (simp only [List.getElem?_toArray, List.getElem?_cons_succ, List.getElem?_cons_zero]; exact rfl)
    case hg237 =>
      go_simp
      go_at_call 44
      (with_reducible refine (WNet_bad s0 _ (HW.out _ ?q240) hs0 HNO.out).mono ?_)
      case q240 => exact HBa236.out
      rintro e b239 ⟨rfl, hb⟩
      exact ⟨rfl, rfl, HB0.out.trans ((HBa236.out.trans (hb.mono HBa236.out.size)).mono HB0.out.size)⟩
    case hg238 =>
      go_simp
      have hb : Below a236.heap.size a236 (a236.alloc (.cells #[.int .u32 0, .int .i64 0] 47)) := (Below.refl _ _).alloc (Nat.le_refl _) _
      have hnew := heap_alloc_new a236 (.cells #[.int .u32 0, .int .i64 0] 47)
      obtain ⟨G8_a241, hG⟩ : ∃ G, a236.heap.size = G := ⟨_, rfl⟩
      have hGlt : W1.heap.size ≤ G8_a241 := by rw [← hG]; exact HBa236.out.size
      have hneG9_a236_G8_a241 : ¬ G8_a241 = G9_a236 := by have := size_of_block HGG9_a236_a236.out; omega
      have hnfG9_a236_G8_a241 : ¬ G9_a236 = G8_a241 := by have := size_of_block HGG9_a236_a236.out; omega
      rw [hG] at hnew
      (try rw [hG])
      generalize hwn : a236.alloc (.cells #[.int .u32 0, .int .i64 0] 47) = a241 at *
      have HGG8_a241_a241 := Lib.hid hnew
      have HBa241 := Lib.hid (HBa236.out.trans (hb.mono HBa236.out.size))
      have HGG9_a236_a241 := Lib.hid (below_block hb (size_of_block HGG9_a236_a236.out) HGG9_a236_a236.out)
      clear hb
      have hggG8_a241 : ¬ G8_a241 = g := by omega
      have hgbG8_a241 : ¬ G8_a241 = w.heap.size := by omega
      have hghG8_a241 : ¬ g = G8_a241 := by omega
      have hgkG8_a241 : ¬ w.heap.size = G8_a241 := by omega
      clear hwn hnew hG
      have x0 := (HBa241.out.cell (p := ⟨w.heap.size, 0, none⟩) hB1).trans C0.out
      have y0 := (HBa241.out.cell (p := ⟨g, 0, none⟩) hgl1).trans D0.out
      have y1 := (HBa241.out.cell (p := ⟨g, 1, none⟩) hgl1).trans D1.out
      refine hK.out _ _ (by go_keep) (fun hHeld => ?_)
      clear hK K x0 y0 y1
      refine wpAnyH_ready (rs := [3]) (by kernel_rfl) (by simp) ?_
      refine' AllReadyH.cons ?hi242 (fun K hK => ?hg242) AllReadyH.nil
      case hi242 => (simp only [List.getElem?_toArray, List.getElem?_cons_succ, List.getElem?_cons_zero]; exact rfl)
      case hg242 =>
        go_simp
        go_at_call 44
        (with_reducible refine (WNet_bad s0 _ (HW.out _ ?q244) hs0 HNO.out).mono ?_)
        case q244 => exact HBa241.out
        rintro e b243 ⟨rfl, hb⟩
        exact ⟨rfl, rfl, HB0.out.trans ((HBa241.out.trans (hb.mono HBa241.out.size)).mono HB0.out.size)⟩
theorem Common_do (h : Tk W T m S w) (hw : HStr W) (hc0 : w.cell? ⟨g, 0, none⟩ = some (.string s0)) (hc1 : w.cell? ⟨g, 1, none⟩ = some (.string s1)) (hs0 : s0.size ≤ 2097152) (hs1 : s1.size ≤ 2097152) :
    Calls Tryz.prog 65 #[deskV T, .slice (some ⟨g, 0, none⟩) 2 c] w fun e w' => e = endA (comX (netO s0.data.toList) (netO s1.data.toList)) ∧ Below w.heap.size w w' := by
  rcases netO_cases s0.data.toList with ⟨a, k, ha, hk, hn, hsn, e⟩ | ⟨hno, e⟩
  · rcases netO_cases s1.data.toList with ⟨b, j, hb, hj, hn1, hsn1, e1⟩ | ⟨hno1, e1⟩
    · exact ComD_okD h hw hc0 hc1 hs0 hs1 ha hn hsn hb hn1 hsn1
    · exact ComD_two h hw hc0 hc1 hs0 hs1 ha hn hsn hno1
  · exact ComD_one h hw hc0 hc1 hs0 hs1 hno
end
end Go.Proofs.YtgdlkjahlajcpaaGreatDoor
