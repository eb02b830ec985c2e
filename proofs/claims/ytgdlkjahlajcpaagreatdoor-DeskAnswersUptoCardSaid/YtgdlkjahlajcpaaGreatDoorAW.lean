/- What the desk's forms do: find. -/
import Derived.Test.YtgdlkjahlajcpaaGreatDoorAI
import Derived.Deep.RegionHeld3
import Derived.BigQuiet
namespace Go.Proofs.YtgdlkjahlajcpaaGreatDoor
open Go.ChangeShapes Go.WideShapes Go.ChangeAt Go.RowKit
set_option linter.unusedVariables false
set_option linter.unusedSimpArgs false
theorem find_str {X Y : ByteArray} {t u : List UInt8} (hX : X.data.toList = t) (hY : Y.data.toList = u) : Value.string (X ++ ⟨#[32]⟩ ++ Y) = strV (t ++ 32 :: u) := by
  have e : (X ++ ⟨#[32]⟩ ++ Y).data.toList = t ++ 32 :: u := by rw [Joins.data_append, Joins.data_append, hX, hY]; simp
  rw [← e]
section
variable {W w : World} {T g c : Nat} {m : Tab} {S : Nat → Prop} {s0 s1 : ByteArray} {v : Value}
set_option maxRecDepth 100000 in
set_option maxHeartbeats 16000000 in
theorem FindD_ok (h : Tk W T m S w) (hd : DOk m) (hw : HStr W) (hc0 : w.cell? ⟨g, 0, none⟩ = some (.string s0)) (hs0 : s0.size ≤ 2097152) {a : Nat} (ha : a < 4294967296) (hsa : s0.data.toList = addrT a) {q v0 : Nat} (hq : q ≤ 32) (hv : v0 ≤ 1073741824) (hf : fnd m (a : Int) 33 = some (q, (v0 : Int))) :
    Calls Tryz.prog 54 #[deskV T, .slice (some ⟨g, 0, none⟩) 1 c] w fun e w' => e = endA (findX m (addrO s0.data.toList)) ∧ Below w.heap.size w w' := by
  have HI : Hid (is32 (a : Int)) := Lib.hid ⟨by omega, by omega⟩
  have h32 : is32 (fl (lowI q) (a : Int)) := fl_32 (lowI_pos q) HI.out
  obtain ⟨p, hpe⟩ := Int.eq_ofNat_of_zero_le h32.1
  have hp : p < 4294967296 := by have := h32.2; omega
  have HPE := Lib.hid hpe
  have hX : findX m (addrO s0.data.toList) = .ok (netT p q ++ 32 :: dd v0) := by
    rw [addrO_yes ha hsa]
    show findT (a : Int) (fnd m (a : Int) 33) = _
    rw [hf]
    show Except.ok (netT (fl (lowI q) (a : Int)).toNat q ++ 32 :: dd (v0 : Int).toNat) = _
    rw [hpe]; rfl
  clear h32 hpe
  rw [hX]
  obtain ⟨X, hXe⟩ : ∃ X : ByteArray, X = ⟨(netT p q).toArray⟩ := ⟨_, rfl⟩
  obtain ⟨Y, hYe⟩ : ∃ Y : ByteArray, Y = ⟨(dd v0).toArray⟩ := ⟨_, rfl⟩
  have hXl : X.size ≤ 19 := by rw [hXe, str_size]; exact netT_length p q hp hq
  have hYl : Y.size ≤ 10 := by rw [hYe, str_size]; exact (dd_len10 hv).2
  have HR : Hid (Value.string (X ++ ⟨#[32]⟩ ++ Y) = strV (netT p q ++ 32 :: dd v0)) := Lib.hid (find_str (by rw [hXe]) (by rw [hYe]))
  have HX := Lib.hid hXe
  have HY := Lib.hid hYe
  have HF := Lib.hid hf
  have HS := Lib.hid hsa
  clear hX hXe hYe hf hsa
  have hgl := lt_of_cellG hc0
  have hb0 := (Below.refl w.heap.size w).alloc (Nat.le_refl _) (.cells #[.pointer (some ⟨T, 0, none⟩)] 40)
  have hT1 : ∀ w' : World, Below (w.alloc (.cells #[.pointer (some ⟨T, 0, none⟩)] 40)).heap.size (w.alloc (.cells #[.pointer (some ⟨T, 0, none⟩)] 40)) w' → Tk W T m (fun g => S g ∨ w.heap.size ≤ g ∧ g < (w.alloc (.cells #[.pointer (some ⟨T, 0, none⟩)] 40)).heap.size) w' := fun w' hb => (h.more hb0).below hb
  have hW1 : ∀ w' : World, Below (w.alloc (.cells #[.pointer (some ⟨T, 0, none⟩)] 40)).heap.size (w.alloc (.cells #[.pointer (some ⟨T, 0, none⟩)] 40)) w' → HStr w' := fun w' hb => hw.below ((h.more hb0).below hb).bel (Nat.le_refl _)
  have c0 : (w.alloc (.cells #[.pointer (some ⟨T, 0, none⟩)] 40)).cell? ⟨w.heap.size, 0, none⟩ = some (.pointer (some ⟨T, 0, none⟩)) := row1p (heap_alloc_new _ _)
  have d0 : (w.alloc (.cells #[.pointer (some ⟨T, 0, none⟩)] 40)).cell? ⟨g, 0, none⟩ = some (.string s0) := (hb0.cell (p := ⟨g, 0, none⟩) hgl).trans hc0
  have hB1 : w.heap.size < (w.alloc (.cells #[.pointer (some ⟨T, 0, none⟩)] 40)).heap.size := by simp
  have hgl1 : g < (w.alloc (.cells #[.pointer (some ⟨T, 0, none⟩)] 40)).heap.size := by simp; omega
  have HTK := Lib.hid hT1
  have HW := Lib.hid hW1
  have C0 := Lib.hid c0
  have HB0 := Lib.hid hb0
  have HT := Lib.hid h
  have D0 := Lib.hid d0
  clear hT1 hW1 hb0 h hw c0 d0 hc0
  go_enter Tryz.func54, Tryz.ntmps54
  go_wp2
  generalize hW1e : w.alloc (.cells #[.pointer (some ⟨T, 0, none⟩)] 40) = W1 at *
  have hbd : Below W1.heap.size W1 W1.drew := below_drewN (Below.refl _ _) 1
  have x0 : W1.drew.cell? ⟨w.heap.size, 0, none⟩ = some (.pointer (some ⟨T, 0, none⟩)) := C0.out
  have y0 : W1.drew.cell? ⟨g, 0, none⟩ = some (.string s0) := D0.out
  refine wp_region_held_drew (S := (fun w' => w'.cell? ⟨w.heap.size, 0, none⟩ = some (.pointer (some ⟨T, 0, none⟩)) ∧ w'.cell? ⟨g, 0, none⟩ = some (.string s0))) (by kernel_rfl) (by first | exact ⟨x0, y0⟩ | exact ⟨x0, y0⟩) (fun hHeld => ?_)
  generalize hud : W1.drew = u1 at *
  have HBu1 := Lib.hid hbd
  clear hud hbd hW1e x0 y0
  refine' wpAnyH_take (i := 0) ?hit2 ?hst2 ?hft2 ?hrt2 ?hQt2 ?hyt2 ?hSt2 ?ht2
  case hit2 => (simp only [List.getElem?_toArray, List.getElem?_cons_succ, List.getElem?_cons_zero]; exact rfl)
  case hst2 => kernel_rfl
  case hft2 => kernel_rfl
  case hrt2 => kernel_rfl
  case hQt2 => exact fun _ _ _ h => h
  case hyt2 => (first | (refine Or.inr ⟨by rfl, ?_⟩; rfl) | (refine Or.inl ⟨by rfl, ?_⟩; (intro w hSw; (try dsimp only at hSw); go_simp); try with_reducible rfl))
  case hSt2 => assumption
  try simp only [Act.put, List.setIfInBounds_toArray, List.set_cons_zero, List.set_cons_succ]
  refine' wpAnyH_take (i := 1) ?hit3 ?hst3 ?hft3 ?hrt3 ?hQt3 ?hyt3 ?hSt3 ?ht3
  case hit3 => (simp only [List.getElem?_toArray, List.getElem?_cons_succ, List.getElem?_cons_zero]; exact rfl)
  case hst3 => kernel_rfl
  case hft3 => kernel_rfl
  case hrt3 => kernel_rfl
  case hQt3 => exact fun _ _ _ h => h
  case hyt3 => (first | (refine Or.inr ⟨by rfl, ?_⟩; rfl) | (refine Or.inl ⟨by rfl, ?_⟩; (intro w hSw; (try dsimp only at hSw); go_simp); try with_reducible rfl))
  case hSt3 => assumption
  try simp only [Act.put, List.setIfInBounds_toArray, List.set_cons_zero, List.set_cons_succ]
  refine' wpAnyH_take (i := 2) ?hit4 ?hst4 ?hft4 ?hrt4 ?hQt4 ?hyt4 ?hSt4 ?ht4
  case hit4 => (simp only [List.getElem?_toArray, List.getElem?_cons_succ, List.getElem?_cons_zero]; exact rfl)
  case hst4 => kernel_rfl
  case hft4 => kernel_rfl
  case hrt4 => kernel_rfl
  case hQt4 => exact fun _ _ _ h => h
  case hyt4 => (first | (refine Or.inr ⟨by rfl, ?_⟩; rfl) | (refine Or.inl ⟨by rfl, ?_⟩; (intro w hSw; (try dsimp only at hSw); go_simp); try with_reducible rfl))
  case hSt4 => assumption
  try simp only [Act.put, List.setIfInBounds_toArray, List.set_cons_zero, List.set_cons_succ]
  refine' wpAnyH_take (i := 3) ?hit5 ?hst5 ?hft5 ?hrt5 ?hQt5 ?hyt5 ?hSt5 ?ht5
  case hit5 => (simp only [List.getElem?_toArray, List.getElem?_cons_succ, List.getElem?_cons_zero]; exact rfl)
  case hst5 => kernel_rfl
  case hft5 => kernel_rfl
  case hrt5 => kernel_rfl
  case hQt5 => exact fun _ _ _ h => h
  case hyt5 => (first | (refine Or.inr ⟨by rfl, ?_⟩; rfl) | (refine Or.inl ⟨by rfl, ?_⟩; (intro w hSw; (try dsimp only at hSw); go_simp); try with_reducible rfl))
  case hSt5 => assumption
  try simp only [Act.put, List.setIfInBounds_toArray, List.set_cons_zero, List.set_cons_succ]
  refine' wpAnyH_take (i := 4) ?hit6 ?hst6 ?hft6 ?hrt6 ?hQt6 ?hyt6 ?hSt6 ?ht6
  case hit6 => (simp only [List.getElem?_toArray, List.getElem?_cons_succ, List.getElem?_cons_zero]; exact rfl)
  case hst6 => kernel_rfl
  case hft6 => kernel_rfl
  case hrt6 => kernel_rfl
  case hQt6 => exact fun _ _ _ h => h
  case hyt6 => (first | (refine Or.inr ⟨by rfl, ?_⟩; rfl) | (refine Or.inl ⟨by rfl, ?_⟩; (intro w hSw; (try dsimp only at hSw); go_simp); try with_reducible rfl))
  case hSt6 => assumption
  try simp only [Act.put, List.setIfInBounds_toArray, List.set_cons_zero, List.set_cons_succ]
  refine wpAnyH_ready (rs := [5, 11]) (by kernel_rfl) (by simp) ?_
  refine' AllReadyH.cons ?hi7 (fun K hK => ?hg7) (AllReadyH.cons ?hi8 (fun K hK => ?hg8) AllReadyH.nil)
  case hi7 => (simp only [List.getElem?_toArray, List.getElem?_cons_succ, List.getElem?_cons_zero]; exact rfl)
  case hi8 => (simp only [List.getElem?_toArray, List.getElem?_cons_succ, List.getElem?_cons_zero]; exact rfl)
  case hg7 =>
    go_simp
    go_at_call 56
    (with_reducible refine (WAddr_ok a s0 _ (HW.out _ ?q10) ha HS.out).mono ?_)
    case q10 => exact HBu1.out
    rintro e b9 ⟨rfl, hb⟩
    have HBb9 := Lib.hid (HBu1.out.trans (hb.mono HBu1.out.size))
    clear hb
    have x0 := (HBb9.out.cell (p := ⟨w.heap.size, 0, none⟩) hB1).trans C0.out
    have y0 := (HBb9.out.cell (p := ⟨g, 0, none⟩) hgl1).trans D0.out
    refine hK.out _ _ (by go_keep) (fun hHeld => ?_)
    clear hK K x0 y0
    refine wpAnyH_ready (rs := [6, 11]) (by kernel_rfl) (by simp) ?_
    refine' AllReadyH.cons ?hi11 (fun K hK => ?hg11) (AllReadyH.cons ?hi12 (fun K hK => ?hg12) AllReadyH.nil)
    case hi11 => (simp only [List.getElem?_toArray, List.getElem?_cons_succ, List.getElem?_cons_zero]; exact rfl)
    case hi12 => (simp only [List.getElem?_toArray, List.getElem?_cons_succ, List.getElem?_cons_zero]; exact rfl)
    case hg11 =>
      go_simp
      go_at_call 55
      (with_reducible refine (Find_t (HTK.out _ HBb9.out) HI.out HF.out).mono ?_)
      rintro e b13 ⟨rfl, hb⟩
      have HBb13 := Lib.hid (HBb9.out.trans (hb.mono HBb9.out.size))
      clear hb
      have x0 := (HBb13.out.cell (p := ⟨w.heap.size, 0, none⟩) hB1).trans C0.out
      have y0 := (HBb13.out.cell (p := ⟨g, 0, none⟩) hgl1).trans D0.out
      rw [show findV (a : Int) (some (q, (v0 : Int))) = .tuple #[.agg #[.int .u32 (p : Int), .int .i64 (q : Int)], .int .i64 (v0 : Int), .nilIface] from by unfold findV netV trimN; simp only; rw [HPE.out]]
      refine hK.out _ _ (by go_keep) (fun hHeld => ?_)
      clear hK K x0 y0
      refine' wpAnyH_take (i := 7) ?hit15 ?hst15 ?hft15 ?hrt15 ?hQt15 ?hyt15 ?hSt15 ?ht15
      case hit15 => (simp only [List.getElem?_toArray, List.getElem?_cons_succ, List.getElem?_cons_zero]; exact rfl)
      case hst15 => kernel_rfl
      case hft15 => kernel_rfl
      case hrt15 => kernel_rfl
      case hQt15 => exact fun _ _ _ h => h
      case hyt15 => (first | (refine Or.inr ⟨by rfl, ?_⟩; rfl) | (refine Or.inl ⟨by rfl, ?_⟩; (intro w hSw; (try dsimp only at hSw); go_simp); try with_reducible rfl))
      case hSt15 => assumption
      try simp only [Act.put, List.setIfInBounds_toArray, List.set_cons_zero, List.set_cons_succ]
      refine' wpAnyH_take (i := 8) ?hit16 ?hst16 ?hft16 ?hrt16 ?hQt16 ?hyt16 ?hSt16 ?ht16
      case hit16 => (simp only [List.getElem?_toArray, List.getElem?_cons_succ, List.getElem?_cons_zero]; exact rfl)
      case hst16 => kernel_rfl
      case hft16 => kernel_rfl
      case hrt16 => kernel_rfl
      case hQt16 => exact fun _ _ _ h => h
      case hyt16 => (first | (refine Or.inr ⟨by rfl, ?_⟩; rfl) | (refine Or.inl ⟨by rfl, ?_⟩; (intro w hSw; (try dsimp only at hSw); go_simp); try with_reducible rfl))
      case hSt16 => assumption
      try simp only [Act.put, List.setIfInBounds_toArray, List.set_cons_zero, List.set_cons_succ]
      refine' wpAnyH_take (i := 9) ?hit17 ?hst17 ?hft17 ?hrt17 ?hQt17 ?hyt17 ?hSt17 ?ht17
      case hit17 => (simp only [List.getElem?_toArray, List.getElem?_cons_succ, List.getElem?_cons_zero]; exact rfl)
      case hst17 => kernel_rfl
      case hft17 => kernel_rfl
      case hrt17 => kernel_rfl
      case hQt17 => exact fun _ _ _ h => h
      case hyt17 => (first | (refine Or.inr ⟨by rfl, ?_⟩; rfl) | (refine Or.inl ⟨by rfl, ?_⟩; (intro w hSw; (try dsimp only at hSw); go_simp); try with_reducible rfl))
      case hSt17 => assumption
      try simp only [Act.put, List.setIfInBounds_toArray, List.set_cons_zero, List.set_cons_succ]
      refine' wpAnyH_take (i := 10) ?hit18 ?hst18 ?hft18 ?hrt18 ?hQt18 ?hyt18 ?hSt18 ?ht18
      case hit18 => (simp only [List.getElem?_toArray, List.getElem?_cons_succ, List.getElem?_cons_zero]; exact rfl)
      case hst18 => kernel_rfl
      case hft18 => kernel_rfl
      case hrt18 => kernel_rfl
      case hQt18 => exact fun _ _ _ h => h
      case hyt18 => (first | (refine Or.inr ⟨by rfl, ?_⟩; rfl) | (refine Or.inl ⟨by rfl, ?_⟩; (intro w hSw; (try dsimp only at hSw); go_simp); try with_reducible rfl))
      case hSt18 => assumption
      try simp only [Act.put, List.setIfInBounds_toArray, List.set_cons_zero, List.set_cons_succ]
      refine wpAnyH_ready (rs := [11]) (by kernel_rfl) (by simp) ?_
      refine' AllReadyH.cons ?hi19 (fun K hK => ?hg19) AllReadyH.nil
      case hi19 => (simp only [List.getElem?_toArray, List.getElem?_cons_succ, List.getElem?_cons_zero]; exact rfl)
      case hg19 =>
        go_simp
        have hb : Below b13.heap.size b13 (b13.alloc (.cells #[.int .u32 0, .int .i64 0] 47)) := (Below.refl _ _).alloc (Nat.le_refl _) _
        have hnew := heap_alloc_new b13 (.cells #[.int .u32 0, .int .i64 0] 47)
        obtain ⟨G11_a20, hG⟩ : ∃ G, b13.heap.size = G := ⟨_, rfl⟩
        have hGlt : W1.heap.size ≤ G11_a20 := by rw [← hG]; exact HBb13.out.size
        rw [hG] at hnew
        (try rw [hG])
        generalize hwn : b13.alloc (.cells #[.int .u32 0, .int .i64 0] 47) = a20 at *
        have HGG11_a20_a20 := Lib.hid hnew
        have HBa20 := Lib.hid (HBb13.out.trans (hb.mono HBb13.out.size))
        clear hb
        have hggG11_a20 : ¬ G11_a20 = g := by omega
        have hgbG11_a20 : ¬ G11_a20 = w.heap.size := by omega
        have hghG11_a20 : ¬ g = G11_a20 := by omega
        have hgkG11_a20 : ¬ w.heap.size = G11_a20 := by omega
        clear hwn hnew hG
        have x0 := (HBa20.out.cell (p := ⟨w.heap.size, 0, none⟩) hB1).trans C0.out
        have y0 := (HBa20.out.cell (p := ⟨g, 0, none⟩) hgl1).trans D0.out
        refine hK.out _ _ (by go_keep) (fun hHeld => ?_)
        clear hK K x0 y0
        refine wpAnyH_ready (rs := [12]) (by kernel_rfl) (by simp) ?_
        refine' AllReadyH.cons ?hi21 (fun K hK => ?hg21) AllReadyH.nil
        case hi21 => (simp only [List.getElem?_toArray, List.getElem?_cons_succ, List.getElem?_cons_zero]; exact rfl)
        obtain ⟨e0, e1, f0, f1⟩ := row2 HGG11_a20_a20.out
        go_simp
        have hbs : Below W1.heap.size W1 ((a20.setCell ⟨G11_a20, 0, none⟩ (.int .u32 (p : Int))).setCell ⟨G11_a20, 1, none⟩ (.int .i64 (q : Int))) := (HBa20.out.setCell (p := ⟨G11_a20, 0, none⟩) (by show W1.heap.size ≤ G11_a20; omega) _).setCell (p := ⟨G11_a20, 1, none⟩) (by show W1.heap.size ≤ G11_a20; omega) _
        have hgs := set2_block (.int .u32 (p : Int)) (.int .i64 (q : Int)) HGG11_a20_a20.out
        generalize hwn : ((a20.setCell ⟨G11_a20, 0, none⟩ (.int .u32 (p : Int))).setCell ⟨G11_a20, 1, none⟩ (.int .i64 (q : Int))) = s22 at *
        have HBs22 := Lib.hid hbs
        have HGG11_a20_s22 := Lib.hid hgs
        clear hwn hbs hgs e0 e1 f0 f1
        have x0 := (HBs22.out.cell (p := ⟨w.heap.size, 0, none⟩) hB1).trans C0.out
        have y0 := (HBs22.out.cell (p := ⟨g, 0, none⟩) hgl1).trans D0.out
        refine hK.out _ _ (by go_keep) (fun hHeld => ?_)
        clear hK K x0 y0
        refine' wpAnyH_take (i := 13) ?hit23 ?hst23 ?hft23 ?hrt23 ?hQt23 ?hyt23 ?hSt23 ?ht23
        case hit23 => (simp only [List.getElem?_toArray, List.getElem?_cons_succ, List.getElem?_cons_zero]; exact rfl)
        case hst23 => kernel_rfl
        case hft23 => kernel_rfl
        case hrt23 => kernel_rfl
        case hQt23 => exact fun _ _ _ h => h
        case hyt23 => (first | (refine Or.inr ⟨by rfl, ?_⟩; rfl) | (refine Or.inl ⟨by rfl, ?_⟩; (intro w hSw; (try dsimp only at hSw); go_simp); try with_reducible rfl))
        case hSt23 => assumption
        try simp only [Act.put, List.setIfInBounds_toArray, List.set_cons_zero, List.set_cons_succ]
        refine' wpAnyH_take (i := 14) ?hit24 ?hst24 ?hft24 ?hrt24 ?hQt24 ?hyt24 ?hSt24 ?ht24
        case hit24 => (simp only [List.getElem?_toArray, List.getElem?_cons_succ, List.getElem?_cons_zero]; exact rfl)
        case hst24 => kernel_rfl
        case hft24 => kernel_rfl
        case hrt24 => kernel_rfl
        case hQt24 => exact fun _ _ _ h => h
        case hyt24 => (first | (refine Or.inr ⟨by rfl, ?_⟩; rfl) | (refine Or.inl ⟨by rfl, ?_⟩; (intro w hSw; (try dsimp only at hSw); go_simp); try with_reducible rfl))
        case hSt24 => assumption
        try simp only [Act.put, List.setIfInBounds_toArray, List.set_cons_zero, List.set_cons_succ]
        refine wpAnyH_done (by kernel_rfl) ?_ _
        clear hHeld
        obtain ⟨e0, e1, f0, f1⟩ := row2 HGG11_a20_s22.out
        go_wp2_with (first
          | (go_at_call 58; (with_reducible refine (NText_any p q _ (HW.out _ HBs22.out) hp hq).mono ?_); rintro e z1 ⟨rfl, hb1⟩; rw [show strV (netT p q) = .string X from by rw [HX.out]]; have HBz := Lib.hid (HBs22.out.trans (hb1.mono HBs22.out.size)); clear hb1)
          | (go_at_call 51; (with_reducible refine (Itoa_n v0 _ (HW.out _ HBz.out) (by omega)).mono ?_); rintro e z2 ⟨rfl, hb2⟩; rw [show strV (dd v0) = .string Y from by rw [HY.out]]; have HBy := Lib.hid (HBz.out.trans (hb2.mono HBz.out.size)); clear hb2)
          | (go_at_call 57; (with_reducible refine (MustS_ok _ _).mono ?_); rintro e z3 ⟨rfl, rfl⟩)
          | fail)
        go_ret
        exact ⟨HR.out ▸ rfl, HB0.out.trans (HBy.out.mono HB0.out.size)⟩
    case hg12 =>
      go_simp
      have hb : Below b9.heap.size b9 (b9.alloc (.cells #[.int .u32 0, .int .i64 0] 47)) := (Below.refl _ _).alloc (Nat.le_refl _) _
      have hnew := heap_alloc_new b9 (.cells #[.int .u32 0, .int .i64 0] 47)
      obtain ⟨G11_a25, hG⟩ : ∃ G, b9.heap.size = G := ⟨_, rfl⟩
      have hGlt : W1.heap.size ≤ G11_a25 := by rw [← hG]; exact HBb9.out.size
      rw [hG] at hnew
      (try rw [hG])
      generalize hwn : b9.alloc (.cells #[.int .u32 0, .int .i64 0] 47) = a25 at *
      have HGG11_a25_a25 := Lib.hid hnew
      have HBa25 := Lib.hid (HBb9.out.trans (hb.mono HBb9.out.size))
      clear hb
      have hggG11_a25 : ¬ G11_a25 = g := by omega
      have hgbG11_a25 : ¬ G11_a25 = w.heap.size := by omega
      have hghG11_a25 : ¬ g = G11_a25 := by omega
      have hgkG11_a25 : ¬ w.heap.size = G11_a25 := by omega
      clear hwn hnew hG
      have x0 := (HBa25.out.cell (p := ⟨w.heap.size, 0, none⟩) hB1).trans C0.out
      have y0 := (HBa25.out.cell (p := ⟨g, 0, none⟩) hgl1).trans D0.out
      refine hK.out _ _ (by go_keep) (fun hHeld => ?_)
      clear hK K x0 y0
      refine wpAnyH_ready (rs := [6]) (by kernel_rfl) (by simp) ?_
      refine' AllReadyH.cons ?hi26 (fun K hK => ?hg26) AllReadyH.nil
      case hi26 => (simp only [List.getElem?_toArray, List.getElem?_cons_succ, List.getElem?_cons_zero]; exact rfl)
      case hg26 =>
        go_simp
        go_at_call 55
        (with_reducible refine (Find_t (HTK.out _ HBa25.out) HI.out HF.out).mono ?_)
        rintro e b27 ⟨rfl, hb⟩
        have HBb27 := Lib.hid (HBa25.out.trans (hb.mono HBa25.out.size))
        have HGG11_a25_b27 := Lib.hid (below_block hb (size_of_block HGG11_a25_a25.out) HGG11_a25_a25.out)
        clear hb
        have x0 := (HBb27.out.cell (p := ⟨w.heap.size, 0, none⟩) hB1).trans C0.out
        have y0 := (HBb27.out.cell (p := ⟨g, 0, none⟩) hgl1).trans D0.out
        rw [show findV (a : Int) (some (q, (v0 : Int))) = .tuple #[.agg #[.int .u32 (p : Int), .int .i64 (q : Int)], .int .i64 (v0 : Int), .nilIface] from by unfold findV netV trimN; simp only; rw [HPE.out]]
        refine hK.out _ _ (by go_keep) (fun hHeld => ?_)
        clear hK K x0 y0
        refine' wpAnyH_take (i := 7) ?hit29 ?hst29 ?hft29 ?hrt29 ?hQt29 ?hyt29 ?hSt29 ?ht29
        case hit29 => (simp only [List.getElem?_toArray, List.getElem?_cons_succ, List.getElem?_cons_zero]; exact rfl)
        case hst29 => kernel_rfl
        case hft29 => kernel_rfl
        case hrt29 => kernel_rfl
        case hQt29 => exact fun _ _ _ h => h
        case hyt29 => (first | (refine Or.inr ⟨by rfl, ?_⟩; rfl) | (refine Or.inl ⟨by rfl, ?_⟩; (intro w hSw; (try dsimp only at hSw); go_simp); try with_reducible rfl))
        case hSt29 => assumption
        try simp only [Act.put, List.setIfInBounds_toArray, List.set_cons_zero, List.set_cons_succ]
        refine' wpAnyH_take (i := 8) ?hit30 ?hst30 ?hft30 ?hrt30 ?hQt30 ?hyt30 ?hSt30 ?ht30
        case hit30 => (simp only [List.getElem?_toArray, List.getElem?_cons_succ, List.getElem?_cons_zero]; exact rfl)
        case hst30 => kernel_rfl
        case hft30 => kernel_rfl
        case hrt30 => kernel_rfl
        case hQt30 => exact fun _ _ _ h => h
        case hyt30 => (first | (refine Or.inr ⟨by rfl, ?_⟩; rfl) | (refine Or.inl ⟨by rfl, ?_⟩; (intro w hSw; (try dsimp only at hSw); go_simp); try with_reducible rfl))
        case hSt30 => assumption
        try simp only [Act.put, List.setIfInBounds_toArray, List.set_cons_zero, List.set_cons_succ]
        refine' wpAnyH_take (i := 9) ?hit31 ?hst31 ?hft31 ?hrt31 ?hQt31 ?hyt31 ?hSt31 ?ht31
        case hit31 => (simp only [List.getElem?_toArray, List.getElem?_cons_succ, List.getElem?_cons_zero]; exact rfl)
        case hst31 => kernel_rfl
        case hft31 => kernel_rfl
        case hrt31 => kernel_rfl
        case hQt31 => exact fun _ _ _ h => h
        case hyt31 => (first | (refine Or.inr ⟨by rfl, ?_⟩; rfl) | (refine Or.inl ⟨by rfl, ?_⟩; (intro w hSw; (try dsimp only at hSw); go_simp); try with_reducible rfl))
        case hSt31 => assumption
        try simp only [Act.put, List.setIfInBounds_toArray, List.set_cons_zero, List.set_cons_succ]
        refine' wpAnyH_take (i := 10) ?hit32 ?hst32 ?hft32 ?hrt32 ?hQt32 ?hyt32 ?hSt32 ?ht32
        case hit32 => (simp only [List.getElem?_toArray, List.getElem?_cons_succ, List.getElem?_cons_zero]; exact rfl)
        case hst32 => kernel_rfl
        case hft32 => kernel_rfl
        case hrt32 => kernel_rfl
        case hQt32 => exact fun _ _ _ h => h
        case hyt32 => (first | (refine Or.inr ⟨by rfl, ?_⟩; rfl) | (refine Or.inl ⟨by rfl, ?_⟩; (intro w hSw; (try dsimp only at hSw); go_simp); try with_reducible rfl))
        case hSt32 => assumption
        try simp only [Act.put, List.setIfInBounds_toArray, List.set_cons_zero, List.set_cons_succ]
        refine wpAnyH_ready (rs := [12]) (by kernel_rfl) (by simp) ?_
        refine' AllReadyH.cons ?hi33 (fun K hK => ?hg33) AllReadyH.nil
        case hi33 => (simp only [List.getElem?_toArray, List.getElem?_cons_succ, List.getElem?_cons_zero]; exact rfl)
        obtain ⟨e0, e1, f0, f1⟩ := row2 HGG11_a25_b27.out
        go_simp
        have hbs : Below W1.heap.size W1 ((b27.setCell ⟨G11_a25, 0, none⟩ (.int .u32 (p : Int))).setCell ⟨G11_a25, 1, none⟩ (.int .i64 (q : Int))) := (HBb27.out.setCell (p := ⟨G11_a25, 0, none⟩) (by show W1.heap.size ≤ G11_a25; omega) _).setCell (p := ⟨G11_a25, 1, none⟩) (by show W1.heap.size ≤ G11_a25; omega) _
        have hgs := set2_block (.int .u32 (p : Int)) (.int .i64 (q : Int)) HGG11_a25_b27.out
        generalize hwn : ((b27.setCell ⟨G11_a25, 0, none⟩ (.int .u32 (p : Int))).setCell ⟨G11_a25, 1, none⟩ (.int .i64 (q : Int))) = s34 at *
        have HBs34 := Lib.hid hbs
        have HGG11_a25_s34 := Lib.hid hgs
        clear hwn hbs hgs e0 e1 f0 f1
        have x0 := (HBs34.out.cell (p := ⟨w.heap.size, 0, none⟩) hB1).trans C0.out
        have y0 := (HBs34.out.cell (p := ⟨g, 0, none⟩) hgl1).trans D0.out
        refine hK.out _ _ (by go_keep) (fun hHeld => ?_)
        clear hK K x0 y0
        refine' wpAnyH_take (i := 13) ?hit35 ?hst35 ?hft35 ?hrt35 ?hQt35 ?hyt35 ?hSt35 ?ht35
        case hit35 => (simp only [List.getElem?_toArray, List.getElem?_cons_succ, List.getElem?_cons_zero]; exact rfl)
        case hst35 => kernel_rfl
        case hft35 => kernel_rfl
        case hrt35 => kernel_rfl
        case hQt35 => exact fun _ _ _ h => h
        case hyt35 => (first | (refine Or.inr ⟨by rfl, ?_⟩; rfl) | (refine Or.inl ⟨by rfl, ?_⟩; (intro w hSw; (try dsimp only at hSw); go_simp); try with_reducible rfl))
        case hSt35 => assumption
        try simp only [Act.put, List.setIfInBounds_toArray, List.set_cons_zero, List.set_cons_succ]
        refine' wpAnyH_take (i := 14) ?hit36 ?hst36 ?hft36 ?hrt36 ?hQt36 ?hyt36 ?hSt36 ?ht36
        case hit36 => (simp only [List.getElem?_toArray, List.getElem?_cons_succ, List.getElem?_cons_zero]; exact rfl)
        case hst36 => kernel_rfl
        case hft36 => kernel_rfl
        case hrt36 => kernel_rfl
        case hQt36 => exact fun _ _ _ h => h
        case hyt36 => (first | (refine Or.inr ⟨by rfl, ?_⟩; rfl) | (refine Or.inl ⟨by rfl, ?_⟩; (intro w hSw; (try dsimp only at hSw); go_simp); try with_reducible rfl))
        case hSt36 => assumption
        try simp only [Act.put, List.setIfInBounds_toArray, List.set_cons_zero, List.set_cons_succ]
        refine wpAnyH_done (by kernel_rfl) ?_ _
        clear hHeld
        obtain ⟨e0, e1, f0, f1⟩ := row2 HGG11_a25_s34.out
        go_wp2_with (first
          | (go_at_call 58; (with_reducible refine (NText_any p q _ (HW.out _ HBs34.out) hp hq).mono ?_); rintro e z1 ⟨rfl, hb1⟩; rw [show strV (netT p q) = .string X from by rw [HX.out]]; have HBz := Lib.hid (HBs34.out.trans (hb1.mono HBs34.out.size)); clear hb1)
          | (go_at_call 51; (with_reducible refine (Itoa_n v0 _ (HW.out _ HBz.out) (by omega)).mono ?_); rintro e z2 ⟨rfl, hb2⟩; rw [show strV (dd v0) = .string Y from by rw [HY.out]]; have HBy := Lib.hid (HBz.out.trans (hb2.mono HBz.out.size)); clear hb2)
          | (go_at_call 57; (with_reducible refine (MustS_ok _ _).mono ?_); rintro e z3 ⟨rfl, rfl⟩)
          | fail)
        go_ret
        exact ⟨HR.out ▸ rfl, HB0.out.trans (HBy.out.mono HB0.out.size)⟩
  case hg8 =>
    go_simp
    have hb : Below u1.heap.size u1 (u1.alloc (.cells #[.int .u32 0, .int .i64 0] 47)) := (Below.refl _ _).alloc (Nat.le_refl _) _
    have hnew := heap_alloc_new u1 (.cells #[.int .u32 0, .int .i64 0] 47)
    obtain ⟨G11_a37, hG⟩ : ∃ G, u1.heap.size = G := ⟨_, rfl⟩
    have hGlt : W1.heap.size ≤ G11_a37 := by rw [← hG]; exact HBu1.out.size
    rw [hG] at hnew
    (try rw [hG])
    generalize hwn : u1.alloc (.cells #[.int .u32 0, .int .i64 0] 47) = a37 at *
    have HGG11_a37_a37 := Lib.hid hnew
    have HBa37 := Lib.hid (HBu1.out.trans (hb.mono HBu1.out.size))
    clear hb
    have hggG11_a37 : ¬ G11_a37 = g := by omega
    have hgbG11_a37 : ¬ G11_a37 = w.heap.size := by omega
    have hghG11_a37 : ¬ g = G11_a37 := by omega
    have hgkG11_a37 : ¬ w.heap.size = G11_a37 := by omega
    clear hwn hnew hG
    have x0 := (HBa37.out.cell (p := ⟨w.heap.size, 0, none⟩) hB1).trans C0.out
    have y0 := (HBa37.out.cell (p := ⟨g, 0, none⟩) hgl1).trans D0.out
    refine hK.out _ _ (by go_keep) (fun hHeld => ?_)
    clear hK K x0 y0
    refine wpAnyH_ready (rs := [5]) (by kernel_rfl) (by simp) ?_
    refine' AllReadyH.cons ?hi38 (fun K hK => ?hg38) AllReadyH.nil
    case hi38 => (simp only [List.getElem?_toArray, List.getElem?_cons_succ, List.getElem?_cons_zero]; exact rfl)
    case hg38 =>
      go_simp
      go_at_call 56
      (with_reducible refine (WAddr_ok a s0 _ (HW.out _ ?q40) ha HS.out).mono ?_)
      case q40 => exact HBa37.out
      rintro e b39 ⟨rfl, hb⟩
      have HBb39 := Lib.hid (HBa37.out.trans (hb.mono HBa37.out.size))
      have HGG11_a37_b39 := Lib.hid (below_block hb (size_of_block HGG11_a37_a37.out) HGG11_a37_a37.out)
      clear hb
      have x0 := (HBb39.out.cell (p := ⟨w.heap.size, 0, none⟩) hB1).trans C0.out
      have y0 := (HBb39.out.cell (p := ⟨g, 0, none⟩) hgl1).trans D0.out
      refine hK.out _ _ (by go_keep) (fun hHeld => ?_)
      clear hK K x0 y0
      refine wpAnyH_ready (rs := [6]) (by kernel_rfl) (by simp) ?_
      refine' AllReadyH.cons ?hi41 (fun K hK => ?hg41) AllReadyH.nil
      case hi41 => (simp only [List.getElem?_toArray, List.getElem?_cons_succ, List.getElem?_cons_zero]; exact rfl)
      case hg41 =>
        go_simp
        go_at_call 55
        (with_reducible refine (Find_t (HTK.out _ HBb39.out) HI.out HF.out).mono ?_)
        rintro e b42 ⟨rfl, hb⟩
        have HBb42 := Lib.hid (HBb39.out.trans (hb.mono HBb39.out.size))
        have HGG11_a37_b42 := Lib.hid (below_block hb (size_of_block HGG11_a37_b39.out) HGG11_a37_b39.out)
        clear hb
        have x0 := (HBb42.out.cell (p := ⟨w.heap.size, 0, none⟩) hB1).trans C0.out
        have y0 := (HBb42.out.cell (p := ⟨g, 0, none⟩) hgl1).trans D0.out
        rw [show findV (a : Int) (some (q, (v0 : Int))) = .tuple #[.agg #[.int .u32 (p : Int), .int .i64 (q : Int)], .int .i64 (v0 : Int), .nilIface] from by unfold findV netV trimN; simp only; rw [HPE.out]]
        refine hK.out _ _ (by go_keep) (fun hHeld => ?_)
        clear hK K x0 y0
        refine' wpAnyH_take (i := 7) ?hit44 ?hst44 ?hft44 ?hrt44 ?hQt44 ?hyt44 ?hSt44 ?ht44
        case hit44 => (simp only [List.getElem?_toArray, List.getElem?_cons_succ, List.getElem?_cons_zero]; exact rfl)
        case hst44 => kernel_rfl
        case hft44 => kernel_rfl
        case hrt44 => kernel_rfl
        case hQt44 => exact fun _ _ _ h => h
        case hyt44 => (first | (refine Or.inr ⟨by rfl, ?_⟩; rfl) | (refine Or.inl ⟨by rfl, ?_⟩; (intro w hSw; (try dsimp only at hSw); go_simp); try with_reducible rfl))
        case hSt44 => assumption
        try simp only [Act.put, List.setIfInBounds_toArray, List.set_cons_zero, List.set_cons_succ]
        refine' wpAnyH_take (i := 8) ?hit45 ?hst45 ?hft45 ?hrt45 ?hQt45 ?hyt45 ?hSt45 ?ht45
        case hit45 => (simp only [List.getElem?_toArray, List.getElem?_cons_succ, List.getElem?_cons_zero]; exact rfl)
        case hst45 => kernel_rfl
        case hft45 => kernel_rfl
        case hrt45 => kernel_rfl
        case hQt45 => exact fun _ _ _ h => h
        case hyt45 => (first | (refine Or.inr ⟨by rfl, ?_⟩; rfl) | (refine Or.inl ⟨by rfl, ?_⟩; (intro w hSw; (try dsimp only at hSw); go_simp); try with_reducible rfl))
        case hSt45 => assumption
        try simp only [Act.put, List.setIfInBounds_toArray, List.set_cons_zero, List.set_cons_succ]
        refine' wpAnyH_take (i := 9) ?hit46 ?hst46 ?hft46 ?hrt46 ?hQt46 ?hyt46 ?hSt46 ?ht46
        case hit46 => (simp only [List.getElem?_toArray, List.getElem?_cons_succ, List.getElem?_cons_zero]; exact rfl)
        case hst46 => kernel_rfl
        case hft46 => kernel_rfl
        case hrt46 => kernel_rfl
        case hQt46 => exact fun _ _ _ h => h
        case hyt46 => (first | (refine Or.inr ⟨by rfl, ?_⟩; rfl) | (refine Or.inl ⟨by rfl, ?_⟩; (intro w hSw; (try dsimp only at hSw); go_simp); try with_reducible rfl))
        case hSt46 => assumption
        try simp only [Act.put, List.setIfInBounds_toArray, List.set_cons_zero, List.set_cons_succ]
        refine' wpAnyH_take (i := 10) ?hit47 ?hst47 ?hft47 ?hrt47 ?hQt47 ?hyt47 ?hSt47 ?ht47
        case hit47 => (simp only [List.getElem?_toArray, List.getElem?_cons_succ, List.getElem?_cons_zero]; exact rfl)
        case hst47 => kernel_rfl
        case hft47 => kernel_rfl
        case hrt47 => kernel_rfl
        case hQt47 => exact fun _ _ _ h => h
        case hyt47 => (first | (refine Or.inr ⟨by rfl, ?_⟩; rfl) | (refine Or.inl ⟨by rfl, ?_⟩; (intro w hSw; (try dsimp only at hSw); go_simp); try with_reducible rfl))
        case hSt47 => assumption
        try simp only [Act.put, List.setIfInBounds_toArray, List.set_cons_zero, List.set_cons_succ]
        refine wpAnyH_ready (rs := [12]) (by kernel_rfl) (by simp) ?_
        refine' AllReadyH.cons ?hi48 (fun K hK => ?hg48) AllReadyH.nil
        case hi48 => (simp only [List.getElem?_toArray, List.getElem?_cons_succ, List.getElem?_cons_zero]; exact rfl)
        obtain ⟨e0, e1, f0, f1⟩ := row2 HGG11_a37_b42.out
        go_simp
        have hbs : Below W1.heap.size W1 ((b42.setCell ⟨G11_a37, 0, none⟩ (.int .u32 (p : Int))).setCell ⟨G11_a37, 1, none⟩ (.int .i64 (q : Int))) := (HBb42.out.setCell (p := ⟨G11_a37, 0, none⟩) (by show W1.heap.size ≤ G11_a37; omega) _).setCell (p := ⟨G11_a37, 1, none⟩) (by show W1.heap.size ≤ G11_a37; omega) _
        have hgs := set2_block (.int .u32 (p : Int)) (.int .i64 (q : Int)) HGG11_a37_b42.out
        generalize hwn : ((b42.setCell ⟨G11_a37, 0, none⟩ (.int .u32 (p : Int))).setCell ⟨G11_a37, 1, none⟩ (.int .i64 (q : Int))) = s49 at *
        have HBs49 := Lib.hid hbs
        have HGG11_a37_s49 := Lib.hid hgs
        clear hwn hbs hgs e0 e1 f0 f1
        have x0 := (HBs49.out.cell (p := ⟨w.heap.size, 0, none⟩) hB1).trans C0.out
        have y0 := (HBs49.out.cell (p := ⟨g, 0, none⟩) hgl1).trans D0.out
        refine hK.out _ _ (by go_keep) (fun hHeld => ?_)
        clear hK K x0 y0
        refine' wpAnyH_take (i := 13) ?hit50 ?hst50 ?hft50 ?hrt50 ?hQt50 ?hyt50 ?hSt50 ?ht50
        case hit50 => (simp only [List.getElem?_toArray, List.getElem?_cons_succ, List.getElem?_cons_zero]; exact rfl)
        case hst50 => kernel_rfl
        case hft50 => kernel_rfl
        case hrt50 => kernel_rfl
        case hQt50 => exact fun _ _ _ h => h
        case hyt50 => (first | (refine Or.inr ⟨by rfl, ?_⟩; rfl) | (refine Or.inl ⟨by rfl, ?_⟩; (intro w hSw; (try dsimp only at hSw); go_simp); try with_reducible rfl))
        case hSt50 => assumption
        try simp only [Act.put, List.setIfInBounds_toArray, List.set_cons_zero, List.set_cons_succ]
        refine' wpAnyH_take (i := 14) ?hit51 ?hst51 ?hft51 ?hrt51 ?hQt51 ?hyt51 ?hSt51 ?ht51
        case hit51 => (simp only [List.getElem?_toArray, List.getElem?_cons_succ, List.getElem?_cons_zero]; exact rfl)
        case hst51 => kernel_rfl
        case hft51 => kernel_rfl
        case hrt51 => kernel_rfl
        case hQt51 => exact fun _ _ _ h => h
        case hyt51 => (first | (refine Or.inr ⟨by rfl, ?_⟩; rfl) | (refine Or.inl ⟨by rfl, ?_⟩; (intro w hSw; (try dsimp only at hSw); go_simp); try with_reducible rfl))
        case hSt51 => assumption
        try simp only [Act.put, List.setIfInBounds_toArray, List.set_cons_zero, List.set_cons_succ]
        refine wpAnyH_done (by kernel_rfl) ?_ _
        clear hHeld
        obtain ⟨e0, e1, f0, f1⟩ := row2 HGG11_a37_s49.out
        go_wp2_with (first
          | (go_at_call 58; (with_reducible refine (NText_any p q _ (HW.out _ HBs49.out) hp hq).mono ?_); rintro e z1 ⟨rfl, hb1⟩; rw [show strV (netT p q) = .string X from by rw [HX.out]]; have HBz := Lib.hid (HBs49.out.trans (hb1.mono HBs49.out.size)); clear hb1)
          | (go_at_call 51; (with_reducible refine (Itoa_n v0 _ (HW.out _ HBz.out) (by omega)).mono ?_); rintro e z2 ⟨rfl, hb2⟩; rw [show strV (dd v0) = .string Y from by rw [HY.out]]; have HBy := Lib.hid (HBz.out.trans (hb2.mono HBz.out.size)); clear hb2)
          | (go_at_call 57; (with_reducible refine (MustS_ok _ _).mono ?_); rintro e z3 ⟨rfl, rfl⟩)
          | fail)
        go_ret
        exact ⟨HR.out ▸ rfl, HB0.out.trans (HBy.out.mono HB0.out.size)⟩
set_option maxRecDepth 100000 in
set_option maxHeartbeats 16000000 in
theorem FindD_none (h : Tk W T m S w) (hd : DOk m) (hw : HStr W) (hc0 : w.cell? ⟨g, 0, none⟩ = some (.string s0)) (hs0 : s0.size ≤ 2097152) {a : Nat} (ha : a < 4294967296) (hsa : s0.data.toList = addrT a) (hf : fnd m (a : Int) 33 = none) :
    Calls Tryz.prog 54 #[deskV T, .slice (some ⟨g, 0, none⟩) 1 c] w fun e w' => e = endA (findX m (addrO s0.data.toList)) ∧ Below w.heap.size w w' := by
  have HI : Hid (is32 (a : Int)) := Lib.hid ⟨by omega, by omega⟩
  obtain ⟨p, hp0⟩ : ∃ p : Nat, p = 0 := ⟨_, rfl⟩
  obtain ⟨q, hq0⟩ : ∃ q : Nat, q = 0 := ⟨_, rfl⟩
  obtain ⟨v0, hv0⟩ : ∃ v : Nat, v = 0 := ⟨_, rfl⟩
  have hp : p < 4294967296 := by omega
  have hq : q ≤ 32 := by omega
  have hv : v0 ≤ 1073741824 := by omega
  have HP0 := Lib.hid hp0
  have HQ0 := Lib.hid hq0
  have HV0 := Lib.hid hv0
  have hX : findX m (addrO s0.data.toList) = .error 2 := by
    rw [addrO_yes ha hsa]
    show findT (a : Int) (fnd m (a : Int) 33) = _
    rw [hf]; rfl
  clear hp0 hq0 hv0
  rw [hX]
  obtain ⟨X, hXe⟩ : ∃ X : ByteArray, X = ⟨(netT p q).toArray⟩ := ⟨_, rfl⟩
  obtain ⟨Y, hYe⟩ : ∃ Y : ByteArray, Y = ⟨(dd v0).toArray⟩ := ⟨_, rfl⟩
  have hXl : X.size ≤ 19 := by rw [hXe, str_size]; exact netT_length p q hp hq
  have hYl : Y.size ≤ 10 := by rw [hYe, str_size]; exact (dd_len10 hv).2
  have HR : Hid (Value.string (X ++ ⟨#[32]⟩ ++ Y) = strV (netT p q ++ 32 :: dd v0)) := Lib.hid (find_str (by rw [hXe]) (by rw [hYe]))
  have HX := Lib.hid hXe
  have HY := Lib.hid hYe
  have HF := Lib.hid hf
  have HS := Lib.hid hsa
  clear hX hXe hYe hf hsa
  have hgl := lt_of_cellG hc0
  have hb0 := (Below.refl w.heap.size w).alloc (Nat.le_refl _) (.cells #[.pointer (some ⟨T, 0, none⟩)] 40)
  have hT1 : ∀ w' : World, Below (w.alloc (.cells #[.pointer (some ⟨T, 0, none⟩)] 40)).heap.size (w.alloc (.cells #[.pointer (some ⟨T, 0, none⟩)] 40)) w' → Tk W T m (fun g => S g ∨ w.heap.size ≤ g ∧ g < (w.alloc (.cells #[.pointer (some ⟨T, 0, none⟩)] 40)).heap.size) w' := fun w' hb => (h.more hb0).below hb
  have hW1 : ∀ w' : World, Below (w.alloc (.cells #[.pointer (some ⟨T, 0, none⟩)] 40)).heap.size (w.alloc (.cells #[.pointer (some ⟨T, 0, none⟩)] 40)) w' → HStr w' := fun w' hb => hw.below ((h.more hb0).below hb).bel (Nat.le_refl _)
  have c0 : (w.alloc (.cells #[.pointer (some ⟨T, 0, none⟩)] 40)).cell? ⟨w.heap.size, 0, none⟩ = some (.pointer (some ⟨T, 0, none⟩)) := row1p (heap_alloc_new _ _)
  have d0 : (w.alloc (.cells #[.pointer (some ⟨T, 0, none⟩)] 40)).cell? ⟨g, 0, none⟩ = some (.string s0) := (hb0.cell (p := ⟨g, 0, none⟩) hgl).trans hc0
  have hB1 : w.heap.size < (w.alloc (.cells #[.pointer (some ⟨T, 0, none⟩)] 40)).heap.size := by simp
  have hgl1 : g < (w.alloc (.cells #[.pointer (some ⟨T, 0, none⟩)] 40)).heap.size := by simp; omega
  have HTK := Lib.hid hT1
  have HW := Lib.hid hW1
  have C0 := Lib.hid c0
  have HB0 := Lib.hid hb0
  have HT := Lib.hid h
  have D0 := Lib.hid d0
  clear hT1 hW1 hb0 h hw c0 d0 hc0
  go_enter Tryz.func54, Tryz.ntmps54
  go_wp2
  generalize hW1e : w.alloc (.cells #[.pointer (some ⟨T, 0, none⟩)] 40) = W1 at *
  have hbd : Below W1.heap.size W1 W1.drew := below_drewN (Below.refl _ _) 1
  have x0 : W1.drew.cell? ⟨w.heap.size, 0, none⟩ = some (.pointer (some ⟨T, 0, none⟩)) := C0.out
  have y0 : W1.drew.cell? ⟨g, 0, none⟩ = some (.string s0) := D0.out
  refine wp_region_held_drew (S := (fun w' => w'.cell? ⟨w.heap.size, 0, none⟩ = some (.pointer (some ⟨T, 0, none⟩)) ∧ w'.cell? ⟨g, 0, none⟩ = some (.string s0))) (by kernel_rfl) (by first | exact ⟨x0, y0⟩ | exact ⟨x0, y0⟩) (fun hHeld => ?_)
  generalize hud : W1.drew = u52 at *
  have HBu52 := Lib.hid hbd
  clear hud hbd hW1e x0 y0
  refine' wpAnyH_take (i := 0) ?hit53 ?hst53 ?hft53 ?hrt53 ?hQt53 ?hyt53 ?hSt53 ?ht53
  case hit53 => (simp only [List.getElem?_toArray, List.getElem?_cons_succ, List.getElem?_cons_zero]; exact rfl)
  case hst53 => kernel_rfl
  case hft53 => kernel_rfl
  case hrt53 => kernel_rfl
  case hQt53 => exact fun _ _ _ h => h
  case hyt53 => (first | (refine Or.inr ⟨by rfl, ?_⟩; rfl) | (refine Or.inl ⟨by rfl, ?_⟩; (intro w hSw; (try dsimp only at hSw); go_simp); try with_reducible rfl))
  case hSt53 => assumption
  try simp only [Act.put, List.setIfInBounds_toArray, List.set_cons_zero, List.set_cons_succ]
  refine' wpAnyH_take (i := 1) ?hit54 ?hst54 ?hft54 ?hrt54 ?hQt54 ?hyt54 ?hSt54 ?ht54
  case hit54 => (simp only [List.getElem?_toArray, List.getElem?_cons_succ, List.getElem?_cons_zero]; exact rfl)
  case hst54 => kernel_rfl
  case hft54 => kernel_rfl
  case hrt54 => kernel_rfl
  case hQt54 => exact fun _ _ _ h => h
  case hyt54 => (first | (refine Or.inr ⟨by rfl, ?_⟩; rfl) | (refine Or.inl ⟨by rfl, ?_⟩; (intro w hSw; (try dsimp only at hSw); go_simp); try with_reducible rfl))
  case hSt54 => assumption
  try simp only [Act.put, List.setIfInBounds_toArray, List.set_cons_zero, List.set_cons_succ]
  refine' wpAnyH_take (i := 2) ?hit55 ?hst55 ?hft55 ?hrt55 ?hQt55 ?hyt55 ?hSt55 ?ht55
  case hit55 => (simp only [List.getElem?_toArray, List.getElem?_cons_succ, List.getElem?_cons_zero]; exact rfl)
  case hst55 => kernel_rfl
  case hft55 => kernel_rfl
  case hrt55 => kernel_rfl
  case hQt55 => exact fun _ _ _ h => h
  case hyt55 => (first | (refine Or.inr ⟨by rfl, ?_⟩; rfl) | (refine Or.inl ⟨by rfl, ?_⟩; (intro w hSw; (try dsimp only at hSw); go_simp); try with_reducible rfl))
  case hSt55 => assumption
  try simp only [Act.put, List.setIfInBounds_toArray, List.set_cons_zero, List.set_cons_succ]
  refine' wpAnyH_take (i := 3) ?hit56 ?hst56 ?hft56 ?hrt56 ?hQt56 ?hyt56 ?hSt56 ?ht56
  case hit56 => (simp only [List.getElem?_toArray, List.getElem?_cons_succ, List.getElem?_cons_zero]; exact rfl)
  case hst56 => kernel_rfl
  case hft56 => kernel_rfl
  case hrt56 => kernel_rfl
  case hQt56 => exact fun _ _ _ h => h
  case hyt56 => (first | (refine Or.inr ⟨by rfl, ?_⟩; rfl) | (refine Or.inl ⟨by rfl, ?_⟩; (intro w hSw; (try dsimp only at hSw); go_simp); try with_reducible rfl))
  case hSt56 => assumption
  try simp only [Act.put, List.setIfInBounds_toArray, List.set_cons_zero, List.set_cons_succ]
  refine' wpAnyH_take (i := 4) ?hit57 ?hst57 ?hft57 ?hrt57 ?hQt57 ?hyt57 ?hSt57 ?ht57
  case hit57 => (simp only [List.getElem?_toArray, List.getElem?_cons_succ, List.getElem?_cons_zero]; exact rfl)
  case hst57 => kernel_rfl
  case hft57 => kernel_rfl
  case hrt57 => kernel_rfl
  case hQt57 => exact fun _ _ _ h => h
  case hyt57 => (first | (refine Or.inr ⟨by rfl, ?_⟩; rfl) | (refine Or.inl ⟨by rfl, ?_⟩; (intro w hSw; (try dsimp only at hSw); go_simp); try with_reducible rfl))
  case hSt57 => assumption
  try simp only [Act.put, List.setIfInBounds_toArray, List.set_cons_zero, List.set_cons_succ]
  refine wpAnyH_ready (rs := [5, 11]) (by kernel_rfl) (by simp) ?_
  refine' AllReadyH.cons ?hi58 (fun K hK => ?hg58) (AllReadyH.cons ?hi59 (fun K hK => ?hg59) AllReadyH.nil)
  case hi58 => (simp only [List.getElem?_toArray, List.getElem?_cons_succ, List.getElem?_cons_zero]; exact rfl)
  case hi59 => (simp only [List.getElem?_toArray, List.getElem?_cons_succ, List.getElem?_cons_zero]; exact rfl)
  case hg58 =>
    go_simp
    go_at_call 56
    (with_reducible refine (WAddr_ok a s0 _ (HW.out _ ?q61) ha HS.out).mono ?_)
    case q61 => exact HBu52.out
    rintro e b60 ⟨rfl, hb⟩
    have HBb60 := Lib.hid (HBu52.out.trans (hb.mono HBu52.out.size))
    clear hb
    have x0 := (HBb60.out.cell (p := ⟨w.heap.size, 0, none⟩) hB1).trans C0.out
    have y0 := (HBb60.out.cell (p := ⟨g, 0, none⟩) hgl1).trans D0.out
    refine hK.out _ _ (by go_keep) (fun hHeld => ?_)
    clear hK K x0 y0
    refine wpAnyH_ready (rs := [6, 11]) (by kernel_rfl) (by simp) ?_
    refine' AllReadyH.cons ?hi62 (fun K hK => ?hg62) (AllReadyH.cons ?hi63 (fun K hK => ?hg63) AllReadyH.nil)
    case hi62 => (simp only [List.getElem?_toArray, List.getElem?_cons_succ, List.getElem?_cons_zero]; exact rfl)
    case hi63 => (simp only [List.getElem?_toArray, List.getElem?_cons_succ, List.getElem?_cons_zero]; exact rfl)
    case hg62 =>
      go_simp
      go_at_call 55
      (with_reducible refine (Find_t (HTK.out _ HBb60.out) HI.out HF.out).mono ?_)
      rintro e b64 ⟨rfl, hb⟩
      have HBb64 := Lib.hid (HBb60.out.trans (hb.mono HBb60.out.size))
      clear hb
      have x0 := (HBb64.out.cell (p := ⟨w.heap.size, 0, none⟩) hB1).trans C0.out
      have y0 := (HBb64.out.cell (p := ⟨g, 0, none⟩) hgl1).trans D0.out
      rw [show findV (a : Int) none = .tuple #[.agg #[.int .u32 (p : Int), .int .i64 (q : Int)], .int .i64 (v0 : Int), .iface 35 (.int .i64 2)] from by rw [HP0.out, HQ0.out, HV0.out]; rfl]
      refine hK.out _ _ (by go_keep) (fun hHeld => ?_)
      clear hK K x0 y0
      refine' wpAnyH_take (i := 7) ?hit66 ?hst66 ?hft66 ?hrt66 ?hQt66 ?hyt66 ?hSt66 ?ht66
      case hit66 => (simp only [List.getElem?_toArray, List.getElem?_cons_succ, List.getElem?_cons_zero]; exact rfl)
      case hst66 => kernel_rfl
      case hft66 => kernel_rfl
      case hrt66 => kernel_rfl
      case hQt66 => exact fun _ _ _ h => h
      case hyt66 => (first | (refine Or.inr ⟨by rfl, ?_⟩; rfl) | (refine Or.inl ⟨by rfl, ?_⟩; (intro w hSw; (try dsimp only at hSw); go_simp); try with_reducible rfl))
      case hSt66 => assumption
      try simp only [Act.put, List.setIfInBounds_toArray, List.set_cons_zero, List.set_cons_succ]
      refine' wpAnyH_take (i := 8) ?hit67 ?hst67 ?hft67 ?hrt67 ?hQt67 ?hyt67 ?hSt67 ?ht67
      case hit67 => (simp only [List.getElem?_toArray, List.getElem?_cons_succ, List.getElem?_cons_zero]; exact rfl)
      case hst67 => kernel_rfl
      case hft67 => kernel_rfl
      case hrt67 => kernel_rfl
      case hQt67 => exact fun _ _ _ h => h
      case hyt67 => (first | (refine Or.inr ⟨by rfl, ?_⟩; rfl) | (refine Or.inl ⟨by rfl, ?_⟩; (intro w hSw; (try dsimp only at hSw); go_simp); try with_reducible rfl))
      case hSt67 => assumption
      try simp only [Act.put, List.setIfInBounds_toArray, List.set_cons_zero, List.set_cons_succ]
      refine' wpAnyH_take (i := 9) ?hit68 ?hst68 ?hft68 ?hrt68 ?hQt68 ?hyt68 ?hSt68 ?ht68
      case hit68 => (simp only [List.getElem?_toArray, List.getElem?_cons_succ, List.getElem?_cons_zero]; exact rfl)
      case hst68 => kernel_rfl
      case hft68 => kernel_rfl
      case hrt68 => kernel_rfl
      case hQt68 => exact fun _ _ _ h => h
      case hyt68 => (first | (refine Or.inr ⟨by rfl, ?_⟩; rfl) | (refine Or.inl ⟨by rfl, ?_⟩; (intro w hSw; (try dsimp only at hSw); go_simp); try with_reducible rfl))
      case hSt68 => assumption
      try simp only [Act.put, List.setIfInBounds_toArray, List.set_cons_zero, List.set_cons_succ]
      refine' wpAnyH_take (i := 10) ?hit69 ?hst69 ?hft69 ?hrt69 ?hQt69 ?hyt69 ?hSt69 ?ht69
      case hit69 => (simp only [List.getElem?_toArray, List.getElem?_cons_succ, List.getElem?_cons_zero]; exact rfl)
      case hst69 => kernel_rfl
      case hft69 => kernel_rfl
      case hrt69 => kernel_rfl
      case hQt69 => exact fun _ _ _ h => h
      case hyt69 => (first | (refine Or.inr ⟨by rfl, ?_⟩; rfl) | (refine Or.inl ⟨by rfl, ?_⟩; (intro w hSw; (try dsimp only at hSw); go_simp); try with_reducible rfl))
      case hSt69 => assumption
      try simp only [Act.put, List.setIfInBounds_toArray, List.set_cons_zero, List.set_cons_succ]
      refine wpAnyH_ready (rs := [11]) (by kernel_rfl) (by simp) ?_
      refine' AllReadyH.cons ?hi70 (fun K hK => ?hg70) AllReadyH.nil
      case hi70 => (simp only [List.getElem?_toArray, List.getElem?_cons_succ, List.getElem?_cons_zero]; exact rfl)
      case hg70 =>
        go_simp
        have hb : Below b64.heap.size b64 (b64.alloc (.cells #[.int .u32 0, .int .i64 0] 47)) := (Below.refl _ _).alloc (Nat.le_refl _) _
        have hnew := heap_alloc_new b64 (.cells #[.int .u32 0, .int .i64 0] 47)
        obtain ⟨G11_a71, hG⟩ : ∃ G, b64.heap.size = G := ⟨_, rfl⟩
        have hGlt : W1.heap.size ≤ G11_a71 := by rw [← hG]; exact HBb64.out.size
        rw [hG] at hnew
        (try rw [hG])
        generalize hwn : b64.alloc (.cells #[.int .u32 0, .int .i64 0] 47) = a71 at *
        have HGG11_a71_a71 := Lib.hid hnew
        have HBa71 := Lib.hid (HBb64.out.trans (hb.mono HBb64.out.size))
        clear hb
        have hggG11_a71 : ¬ G11_a71 = g := by omega
        have hgbG11_a71 : ¬ G11_a71 = w.heap.size := by omega
        have hghG11_a71 : ¬ g = G11_a71 := by omega
        have hgkG11_a71 : ¬ w.heap.size = G11_a71 := by omega
        clear hwn hnew hG
        have x0 := (HBa71.out.cell (p := ⟨w.heap.size, 0, none⟩) hB1).trans C0.out
        have y0 := (HBa71.out.cell (p := ⟨g, 0, none⟩) hgl1).trans D0.out
        refine hK.out _ _ (by go_keep) (fun hHeld => ?_)
        clear hK K x0 y0
        refine wpAnyH_ready (rs := [12]) (by kernel_rfl) (by simp) ?_
        refine' AllReadyH.cons ?hi72 (fun K hK => ?hg72) AllReadyH.nil
        case hi72 => (simp only [List.getElem?_toArray, List.getElem?_cons_succ, List.getElem?_cons_zero]; exact rfl)
        obtain ⟨e0, e1, f0, f1⟩ := row2 HGG11_a71_a71.out
        go_simp
        have hbs : Below W1.heap.size W1 ((a71.setCell ⟨G11_a71, 0, none⟩ (.int .u32 (p : Int))).setCell ⟨G11_a71, 1, none⟩ (.int .i64 (q : Int))) := (HBa71.out.setCell (p := ⟨G11_a71, 0, none⟩) (by show W1.heap.size ≤ G11_a71; omega) _).setCell (p := ⟨G11_a71, 1, none⟩) (by show W1.heap.size ≤ G11_a71; omega) _
        have hgs := set2_block (.int .u32 (p : Int)) (.int .i64 (q : Int)) HGG11_a71_a71.out
        generalize hwn : ((a71.setCell ⟨G11_a71, 0, none⟩ (.int .u32 (p : Int))).setCell ⟨G11_a71, 1, none⟩ (.int .i64 (q : Int))) = s73 at *
        have HBs73 := Lib.hid hbs
        have HGG11_a71_s73 := Lib.hid hgs
        clear hwn hbs hgs e0 e1 f0 f1
        have x0 := (HBs73.out.cell (p := ⟨w.heap.size, 0, none⟩) hB1).trans C0.out
        have y0 := (HBs73.out.cell (p := ⟨g, 0, none⟩) hgl1).trans D0.out
        refine hK.out _ _ (by go_keep) (fun hHeld => ?_)
        clear hK K x0 y0
        refine' wpAnyH_take (i := 13) ?hit74 ?hst74 ?hft74 ?hrt74 ?hQt74 ?hyt74 ?hSt74 ?ht74
        case hit74 => (simp only [List.getElem?_toArray, List.getElem?_cons_succ, List.getElem?_cons_zero]; exact rfl)
        case hst74 => kernel_rfl
        case hft74 => kernel_rfl
        case hrt74 => kernel_rfl
        case hQt74 => exact fun _ _ _ h => h
        case hyt74 => (first | (refine Or.inr ⟨by rfl, ?_⟩; rfl) | (refine Or.inl ⟨by rfl, ?_⟩; (intro w hSw; (try dsimp only at hSw); go_simp); try with_reducible rfl))
        case hSt74 => assumption
        try simp only [Act.put, List.setIfInBounds_toArray, List.set_cons_zero, List.set_cons_succ]
        refine' wpAnyH_take (i := 14) ?hit75 ?hst75 ?hft75 ?hrt75 ?hQt75 ?hyt75 ?hSt75 ?ht75
        case hit75 => (simp only [List.getElem?_toArray, List.getElem?_cons_succ, List.getElem?_cons_zero]; exact rfl)
        case hst75 => kernel_rfl
        case hft75 => kernel_rfl
        case hrt75 => kernel_rfl
        case hQt75 => exact fun _ _ _ h => h
        case hyt75 => (first | (refine Or.inr ⟨by rfl, ?_⟩; rfl) | (refine Or.inl ⟨by rfl, ?_⟩; (intro w hSw; (try dsimp only at hSw); go_simp); try with_reducible rfl))
        case hSt75 => assumption
        try simp only [Act.put, List.setIfInBounds_toArray, List.set_cons_zero, List.set_cons_succ]
        refine wpAnyH_done (by kernel_rfl) ?_ _
        clear hHeld
        obtain ⟨e0, e1, f0, f1⟩ := row2 HGG11_a71_s73.out
        go_wp2_with (first
          | (go_at_call 58; (with_reducible refine (NText_any p q _ (HW.out _ HBs73.out) hp hq).mono ?_); rintro e z1 ⟨rfl, hb1⟩; rw [show strV (netT p q) = .string X from by rw [HX.out]]; have HBz := Lib.hid (HBs73.out.trans (hb1.mono HBs73.out.size)); clear hb1)
          | (go_at_call 51; (with_reducible refine (Itoa_n v0 _ (HW.out _ HBz.out) (by omega)).mono ?_); rintro e z2 ⟨rfl, hb2⟩; rw [show strV (dd v0) = .string Y from by rw [HY.out]]; have HBy := Lib.hid (HBz.out.trans (hb2.mono HBz.out.size)); clear hb2)
          | (go_at_call 57; (with_reducible refine (MustS_bad _ 2 _).mono ?_); rintro e z3 ⟨rfl, rfl⟩)
          | fail)
        exact ⟨rfl, rfl, HB0.out.trans (HBy.out.mono HB0.out.size)⟩
    case hg63 =>
      go_simp
      have hb : Below b60.heap.size b60 (b60.alloc (.cells #[.int .u32 0, .int .i64 0] 47)) := (Below.refl _ _).alloc (Nat.le_refl _) _
      have hnew := heap_alloc_new b60 (.cells #[.int .u32 0, .int .i64 0] 47)
      obtain ⟨G11_a76, hG⟩ : ∃ G, b60.heap.size = G := ⟨_, rfl⟩
      have hGlt : W1.heap.size ≤ G11_a76 := by rw [← hG]; exact HBb60.out.size
      rw [hG] at hnew
      (try rw [hG])
      generalize hwn : b60.alloc (.cells #[.int .u32 0, .int .i64 0] 47) = a76 at *
      have HGG11_a76_a76 := Lib.hid hnew
      have HBa76 := Lib.hid (HBb60.out.trans (hb.mono HBb60.out.size))
      clear hb
      have hggG11_a76 : ¬ G11_a76 = g := by omega
      have hgbG11_a76 : ¬ G11_a76 = w.heap.size := by omega
      have hghG11_a76 : ¬ g = G11_a76 := by omega
      have hgkG11_a76 : ¬ w.heap.size = G11_a76 := by omega
      clear hwn hnew hG
      have x0 := (HBa76.out.cell (p := ⟨w.heap.size, 0, none⟩) hB1).trans C0.out
      have y0 := (HBa76.out.cell (p := ⟨g, 0, none⟩) hgl1).trans D0.out
      refine hK.out _ _ (by go_keep) (fun hHeld => ?_)
      clear hK K x0 y0
      refine wpAnyH_ready (rs := [6]) (by kernel_rfl) (by simp) ?_
      refine' AllReadyH.cons ?hi77 (fun K hK => ?hg77) AllReadyH.nil
      case hi77 => (simp only [List.getElem?_toArray, List.getElem?_cons_succ, List.getElem?_cons_zero]; exact rfl)
      case hg77 =>
        go_simp
        go_at_call 55
        (with_reducible refine (Find_t (HTK.out _ HBa76.out) HI.out HF.out).mono ?_)
        rintro e b78 ⟨rfl, hb⟩
        have HBb78 := Lib.hid (HBa76.out.trans (hb.mono HBa76.out.size))
        have HGG11_a76_b78 := Lib.hid (below_block hb (size_of_block HGG11_a76_a76.out) HGG11_a76_a76.out)
        clear hb
        have x0 := (HBb78.out.cell (p := ⟨w.heap.size, 0, none⟩) hB1).trans C0.out
        have y0 := (HBb78.out.cell (p := ⟨g, 0, none⟩) hgl1).trans D0.out
        rw [show findV (a : Int) none = .tuple #[.agg #[.int .u32 (p : Int), .int .i64 (q : Int)], .int .i64 (v0 : Int), .iface 35 (.int .i64 2)] from by rw [HP0.out, HQ0.out, HV0.out]; rfl]
        refine hK.out _ _ (by go_keep) (fun hHeld => ?_)
        clear hK K x0 y0
        refine' wpAnyH_take (i := 7) ?hit80 ?hst80 ?hft80 ?hrt80 ?hQt80 ?hyt80 ?hSt80 ?ht80
        case hit80 => (simp only [List.getElem?_toArray, List.getElem?_cons_succ, List.getElem?_cons_zero]; exact rfl)
        case hst80 => kernel_rfl
        case hft80 => kernel_rfl
        case hrt80 => kernel_rfl
        case hQt80 => exact fun _ _ _ h => h
        case hyt80 => (first | (refine Or.inr ⟨by rfl, ?_⟩; rfl) | (refine Or.inl ⟨by rfl, ?_⟩; (intro w hSw; (try dsimp only at hSw); go_simp); try with_reducible rfl))
        case hSt80 => assumption
        try simp only [Act.put, List.setIfInBounds_toArray, List.set_cons_zero, List.set_cons_succ]
        refine' wpAnyH_take (i := 8) ?hit81 ?hst81 ?hft81 ?hrt81 ?hQt81 ?hyt81 ?hSt81 ?ht81
        case hit81 => (simp only [List.getElem?_toArray, List.getElem?_cons_succ, List.getElem?_cons_zero]; exact rfl)
        case hst81 => kernel_rfl
        case hft81 => kernel_rfl
        case hrt81 => kernel_rfl
        case hQt81 => exact fun _ _ _ h => h
        case hyt81 => (first | (refine Or.inr ⟨by rfl, ?_⟩; rfl) | (refine Or.inl ⟨by rfl, ?_⟩; (intro w hSw; (try dsimp only at hSw); go_simp); try with_reducible rfl))
        case hSt81 => assumption
        try simp only [Act.put, List.setIfInBounds_toArray, List.set_cons_zero, List.set_cons_succ]
        refine' wpAnyH_take (i := 9) ?hit82 ?hst82 ?hft82 ?hrt82 ?hQt82 ?hyt82 ?hSt82 ?ht82
        case hit82 => (simp only [List.getElem?_toArray, List.getElem?_cons_succ, List.getElem?_cons_zero]; exact rfl)
        case hst82 => kernel_rfl
        case hft82 => kernel_rfl
        case hrt82 => kernel_rfl
        case hQt82 => exact fun _ _ _ h => h
        case hyt82 => (first | (refine Or.inr ⟨by rfl, ?_⟩; rfl) | (refine Or.inl ⟨by rfl, ?_⟩; (intro w hSw; (try dsimp only at hSw); go_simp); try with_reducible rfl))
        case hSt82 => assumption
        try simp only [Act.put, List.setIfInBounds_toArray, List.set_cons_zero, List.set_cons_succ]
        refine' wpAnyH_take (i := 10) ?hit83 ?hst83 ?hft83 ?hrt83 ?hQt83 ?hyt83 ?hSt83 ?ht83
        case hit83 => (simp only [List.getElem?_toArray, List.getElem?_cons_succ, List.getElem?_cons_zero]; exact rfl)
        case hst83 => kernel_rfl
        case hft83 => kernel_rfl
        case hrt83 => kernel_rfl
        case hQt83 => exact fun _ _ _ h => h
        case hyt83 => (first | (refine Or.inr ⟨by rfl, ?_⟩; rfl) | (refine Or.inl ⟨by rfl, ?_⟩; (intro w hSw; (try dsimp only at hSw); go_simp); try with_reducible rfl))
        case hSt83 => assumption
        try simp only [Act.put, List.setIfInBounds_toArray, List.set_cons_zero, List.set_cons_succ]
        refine wpAnyH_ready (rs := [12]) (by kernel_rfl) (by simp) ?_
        refine' AllReadyH.cons ?hi84 (fun K hK => ?hg84) AllReadyH.nil
        case hi84 => (simp only [List.getElem?_toArray, List.getElem?_cons_succ, List.getElem?_cons_zero]; exact rfl)
        obtain ⟨e0, e1, f0, f1⟩ := row2 HGG11_a76_b78.out
        go_simp
        have hbs : Below W1.heap.size W1 ((b78.setCell ⟨G11_a76, 0, none⟩ (.int .u32 (p : Int))).setCell ⟨G11_a76, 1, none⟩ (.int .i64 (q : Int))) := (HBb78.out.setCell (p := ⟨G11_a76, 0, none⟩) (by show W1.heap.size ≤ G11_a76; omega) _).setCell (p := ⟨G11_a76, 1, none⟩) (by show W1.heap.size ≤ G11_a76; omega) _
        have hgs := set2_block (.int .u32 (p : Int)) (.int .i64 (q : Int)) HGG11_a76_b78.out
        generalize hwn : ((b78.setCell ⟨G11_a76, 0, none⟩ (.int .u32 (p : Int))).setCell ⟨G11_a76, 1, none⟩ (.int .i64 (q : Int))) = s85 at *
        have HBs85 := Lib.hid hbs
        have HGG11_a76_s85 := Lib.hid hgs
        clear hwn hbs hgs e0 e1 f0 f1
        have x0 := (HBs85.out.cell (p := ⟨w.heap.size, 0, none⟩) hB1).trans C0.out
        have y0 := (HBs85.out.cell (p := ⟨g, 0, none⟩) hgl1).trans D0.out
        refine hK.out _ _ (by go_keep) (fun hHeld => ?_)
        clear hK K x0 y0
        refine' wpAnyH_take (i := 13) ?hit86 ?hst86 ?hft86 ?hrt86 ?hQt86 ?hyt86 ?hSt86 ?ht86
        case hit86 => (simp only [List.getElem?_toArray, List.getElem?_cons_succ, List.getElem?_cons_zero]; exact rfl)
        case hst86 => kernel_rfl
        case hft86 => kernel_rfl
        case hrt86 => kernel_rfl
        case hQt86 => exact fun _ _ _ h => h
        case hyt86 => (first | (refine Or.inr ⟨by rfl, ?_⟩; rfl) | (refine Or.inl ⟨by rfl, ?_⟩; (intro w hSw; (try dsimp only at hSw); go_simp); try with_reducible rfl))
        case hSt86 => assumption
        try simp only [Act.put, List.setIfInBounds_toArray, List.set_cons_zero, List.set_cons_succ]
        refine' wpAnyH_take (i := 14) ?hit87 ?hst87 ?hft87 ?hrt87 ?hQt87 ?hyt87 ?hSt87 ?ht87
        case hit87 => (simp only [List.getElem?_toArray, List.getElem?_cons_succ, List.getElem?_cons_zero]; exact rfl)
        case hst87 => kernel_rfl
        case hft87 => kernel_rfl
        case hrt87 => kernel_rfl
        case hQt87 => exact fun _ _ _ h => h
        case hyt87 => (first | (refine Or.inr ⟨by rfl, ?_⟩; rfl) | (refine Or.inl ⟨by rfl, ?_⟩; (intro w hSw; (try dsimp only at hSw); go_simp); try with_reducible rfl))
        case hSt87 => assumption
        try simp only [Act.put, List.setIfInBounds_toArray, List.set_cons_zero, List.set_cons_succ]
        refine wpAnyH_done (by kernel_rfl) ?_ _
        clear hHeld
        obtain ⟨e0, e1, f0, f1⟩ := row2 HGG11_a76_s85.out
        go_wp2_with (first
          | (go_at_call 58; (with_reducible refine (NText_any p q _ (HW.out _ HBs85.out) hp hq).mono ?_); rintro e z1 ⟨rfl, hb1⟩; rw [show strV (netT p q) = .string X from by rw [HX.out]]; have HBz := Lib.hid (HBs85.out.trans (hb1.mono HBs85.out.size)); clear hb1)
          | (go_at_call 51; (with_reducible refine (Itoa_n v0 _ (HW.out _ HBz.out) (by omega)).mono ?_); rintro e z2 ⟨rfl, hb2⟩; rw [show strV (dd v0) = .string Y from by rw [HY.out]]; have HBy := Lib.hid (HBz.out.trans (hb2.mono HBz.out.size)); clear hb2)
          | (go_at_call 57; (with_reducible refine (MustS_bad _ 2 _).mono ?_); rintro e z3 ⟨rfl, rfl⟩)
          | fail)
        exact ⟨rfl, rfl, HB0.out.trans (HBy.out.mono HB0.out.size)⟩
  case hg59 =>
    go_simp
    have hb : Below u52.heap.size u52 (u52.alloc (.cells #[.int .u32 0, .int .i64 0] 47)) := (Below.refl _ _).alloc (Nat.le_refl _) _
    have hnew := heap_alloc_new u52 (.cells #[.int .u32 0, .int .i64 0] 47)
    obtain ⟨G11_a88, hG⟩ : ∃ G, u52.heap.size = G := ⟨_, rfl⟩
    have hGlt : W1.heap.size ≤ G11_a88 := by rw [← hG]; exact HBu52.out.size
    rw [hG] at hnew
    (try rw [hG])
    generalize hwn : u52.alloc (.cells #[.int .u32 0, .int .i64 0] 47) = a88 at *
    have HGG11_a88_a88 := Lib.hid hnew
    have HBa88 := Lib.hid (HBu52.out.trans (hb.mono HBu52.out.size))
    clear hb
    have hggG11_a88 : ¬ G11_a88 = g := by omega
    have hgbG11_a88 : ¬ G11_a88 = w.heap.size := by omega
    have hghG11_a88 : ¬ g = G11_a88 := by omega
    have hgkG11_a88 : ¬ w.heap.size = G11_a88 := by omega
    clear hwn hnew hG
    have x0 := (HBa88.out.cell (p := ⟨w.heap.size, 0, none⟩) hB1).trans C0.out
    have y0 := (HBa88.out.cell (p := ⟨g, 0, none⟩) hgl1).trans D0.out
    refine hK.out _ _ (by go_keep) (fun hHeld => ?_)
    clear hK K x0 y0
    refine wpAnyH_ready (rs := [5]) (by kernel_rfl) (by simp) ?_
    refine' AllReadyH.cons ?hi89 (fun K hK => ?hg89) AllReadyH.nil
    case hi89 => (simp only [List.getElem?_toArray, List.getElem?_cons_succ, List.getElem?_cons_zero]; exact rfl)
    case hg89 =>
      go_simp
      go_at_call 56
      (with_reducible refine (WAddr_ok a s0 _ (HW.out _ ?q91) ha HS.out).mono ?_)
      case q91 => exact HBa88.out
      rintro e b90 ⟨rfl, hb⟩
      have HBb90 := Lib.hid (HBa88.out.trans (hb.mono HBa88.out.size))
      have HGG11_a88_b90 := Lib.hid (below_block hb (size_of_block HGG11_a88_a88.out) HGG11_a88_a88.out)
      clear hb
      have x0 := (HBb90.out.cell (p := ⟨w.heap.size, 0, none⟩) hB1).trans C0.out
      have y0 := (HBb90.out.cell (p := ⟨g, 0, none⟩) hgl1).trans D0.out
      refine hK.out _ _ (by go_keep) (fun hHeld => ?_)
      clear hK K x0 y0
      refine wpAnyH_ready (rs := [6]) (by kernel_rfl) (by simp) ?_
      refine' AllReadyH.cons ?hi92 (fun K hK => ?hg92) AllReadyH.nil
      case hi92 => (simp only [List.getElem?_toArray, List.getElem?_cons_succ, List.getElem?_cons_zero]; exact rfl)
      case hg92 =>
        go_simp
        go_at_call 55
        (with_reducible refine (Find_t (HTK.out _ HBb90.out) HI.out HF.out).mono ?_)
        rintro e b93 ⟨rfl, hb⟩
        have HBb93 := Lib.hid (HBb90.out.trans (hb.mono HBb90.out.size))
        have HGG11_a88_b93 := Lib.hid (below_block hb (size_of_block HGG11_a88_b90.out) HGG11_a88_b90.out)
        clear hb
        have x0 := (HBb93.out.cell (p := ⟨w.heap.size, 0, none⟩) hB1).trans C0.out
        have y0 := (HBb93.out.cell (p := ⟨g, 0, none⟩) hgl1).trans D0.out
        rw [show findV (a : Int) none = .tuple #[.agg #[.int .u32 (p : Int), .int .i64 (q : Int)], .int .i64 (v0 : Int), .iface 35 (.int .i64 2)] from by rw [HP0.out, HQ0.out, HV0.out]; rfl]
        refine hK.out _ _ (by go_keep) (fun hHeld => ?_)
        clear hK K x0 y0
        refine' wpAnyH_take (i := 7) ?hit95 ?hst95 ?hft95 ?hrt95 ?hQt95 ?hyt95 ?hSt95 ?ht95
        case hit95 => (simp only [List.getElem?_toArray, List.getElem?_cons_succ, List.getElem?_cons_zero]; exact rfl)
        case hst95 => kernel_rfl
        case hft95 => kernel_rfl
        case hrt95 => kernel_rfl
        case hQt95 => exact fun _ _ _ h => h
        case hyt95 => (first | (refine Or.inr ⟨by rfl, ?_⟩; rfl) | (refine Or.inl ⟨by rfl, ?_⟩; (intro w hSw; (try dsimp only at hSw); go_simp); try with_reducible rfl))
        case hSt95 => assumption
        try simp only [Act.put, List.setIfInBounds_toArray, List.set_cons_zero, List.set_cons_succ]
        refine' wpAnyH_take (i := 8) ?hit96 ?hst96 ?hft96 ?hrt96 ?hQt96 ?hyt96 ?hSt96 ?ht96
        case hit96 => (simp only [List.getElem?_toArray, List.getElem?_cons_succ, List.getElem?_cons_zero]; exact rfl)
        case hst96 => kernel_rfl
        case hft96 => kernel_rfl
        case hrt96 => kernel_rfl
        case hQt96 => exact fun _ _ _ h => h
        case hyt96 => (first | (refine Or.inr ⟨by rfl, ?_⟩; rfl) | (refine Or.inl ⟨by rfl, ?_⟩; (intro w hSw; (try dsimp only at hSw); go_simp); try with_reducible rfl))
        case hSt96 => assumption
        try simp only [Act.put, List.setIfInBounds_toArray, List.set_cons_zero, List.set_cons_succ]
        refine' wpAnyH_take (i := 9) ?hit97 ?hst97 ?hft97 ?hrt97 ?hQt97 ?hyt97 ?hSt97 ?ht97
        case hit97 => (simp only [List.getElem?_toArray, List.getElem?_cons_succ, List.getElem?_cons_zero]; exact rfl)
        case hst97 => kernel_rfl
        case hft97 => kernel_rfl
        case hrt97 => kernel_rfl
        case hQt97 => exact fun _ _ _ h => h
        case hyt97 => (first | (refine Or.inr ⟨by rfl, ?_⟩; rfl) | (refine Or.inl ⟨by rfl, ?_⟩; (intro w hSw; (try dsimp only at hSw); go_simp); try with_reducible rfl))
        case hSt97 => assumption
        try simp only [Act.put, List.setIfInBounds_toArray, List.set_cons_zero, List.set_cons_succ]
        refine' wpAnyH_take (i := 10) ?hit98 ?hst98 ?hft98 ?hrt98 ?hQt98 ?hyt98 ?hSt98 ?ht98
        case hit98 => (simp only [List.getElem?_toArray, List.getElem?_cons_succ, List.getElem?_cons_zero]; exact rfl)
        case hst98 => kernel_rfl
        case hft98 => kernel_rfl
        case hrt98 => kernel_rfl
        case hQt98 => exact fun _ _ _ h => h
        case hyt98 => (first | (refine Or.inr ⟨by rfl, ?_⟩; rfl) | (refine Or.inl ⟨by rfl, ?_⟩; (intro w hSw; (try dsimp only at hSw); go_simp); try with_reducible rfl))
        case hSt98 => assumption
        try simp only [Act.put, List.setIfInBounds_toArray, List.set_cons_zero, List.set_cons_succ]
        refine wpAnyH_ready (rs := [12]) (by kernel_rfl) (by simp) ?_
        refine' AllReadyH.cons ?hi99 (fun K hK => ?hg99) AllReadyH.nil
        case hi99 => (simp only [List.getElem?_toArray, List.getElem?_cons_succ, List.getElem?_cons_zero]; exact rfl)
        obtain ⟨e0, e1, f0, f1⟩ := row2 HGG11_a88_b93.out
        go_simp
        have hbs : Below W1.heap.size W1 ((b93.setCell ⟨G11_a88, 0, none⟩ (.int .u32 (p : Int))).setCell ⟨G11_a88, 1, none⟩ (.int .i64 (q : Int))) := (HBb93.out.setCell (p := ⟨G11_a88, 0, none⟩) (by show W1.heap.size ≤ G11_a88; omega) _).setCell (p := ⟨G11_a88, 1, none⟩) (by show W1.heap.size ≤ G11_a88; omega) _
        have hgs := set2_block (.int .u32 (p : Int)) (.int .i64 (q : Int)) HGG11_a88_b93.out
        generalize hwn : ((b93.setCell ⟨G11_a88, 0, none⟩ (.int .u32 (p : Int))).setCell ⟨G11_a88, 1, none⟩ (.int .i64 (q : Int))) = s100 at *
        have HBs100 := Lib.hid hbs
        have HGG11_a88_s100 := Lib.hid hgs
        clear hwn hbs hgs e0 e1 f0 f1
        have x0 := (HBs100.out.cell (p := ⟨w.heap.size, 0, none⟩) hB1).trans C0.out
        have y0 := (HBs100.out.cell (p := ⟨g, 0, none⟩) hgl1).trans D0.out
        refine hK.out _ _ (by go_keep) (fun hHeld => ?_)
        clear hK K x0 y0
        refine' wpAnyH_take (i := 13) ?hit101 ?hst101 ?hft101 ?hrt101 ?hQt101 ?hyt101 ?hSt101 ?ht101
        case hit101 => (simp only [List.getElem?_toArray, List.getElem?_cons_succ, List.getElem?_cons_zero]; exact rfl)
        case hst101 => kernel_rfl
        case hft101 => kernel_rfl
        case hrt101 => kernel_rfl
        case hQt101 => exact fun _ _ _ h => h
        case hyt101 => (first | (refine Or.inr ⟨by rfl, ?_⟩; rfl) | (refine Or.inl ⟨by rfl, ?_⟩; (intro w hSw; (try dsimp only at hSw); go_simp); try with_reducible rfl))
        case hSt101 => assumption
        try simp only [Act.put, List.setIfInBounds_toArray, List.set_cons_zero, List.set_cons_succ]
        refine' wpAnyH_take (i := 14) ?hit102 ?hst102 ?hft102 ?hrt102 ?hQt102 ?hyt102 ?hSt102 ?ht102
        case hit102 => (simp only [List.getElem?_toArray, List.getElem?_cons_succ, List.getElem?_cons_zero]; exact rfl)
        case hst102 => kernel_rfl
        case hft102 => kernel_rfl
        case hrt102 => kernel_rfl
        case hQt102 => exact fun _ _ _ h => h
        case hyt102 => (first | (refine Or.inr ⟨by rfl, ?_⟩; rfl) | (refine Or.inl ⟨by rfl, ?_⟩; (intro w hSw; (try dsimp only at hSw); go_simp); try with_reducible rfl))
        case hSt102 => assumption
        try simp only [Act.put, List.setIfInBounds_toArray, List.set_cons_zero, List.set_cons_succ]
        refine wpAnyH_done (by kernel_rfl) ?_ _
        clear hHeld
        obtain ⟨e0, e1, f0, f1⟩ := row2 HGG11_a88_s100.out
        go_wp2_with (first
          | (go_at_call 58; (with_reducible refine (NText_any p q _ (HW.out _ HBs100.out) hp hq).mono ?_); rintro e z1 ⟨rfl, hb1⟩; rw [show strV (netT p q) = .string X from by rw [HX.out]]; have HBz := Lib.hid (HBs100.out.trans (hb1.mono HBs100.out.size)); clear hb1)
          | (go_at_call 51; (with_reducible refine (Itoa_n v0 _ (HW.out _ HBz.out) (by omega)).mono ?_); rintro e z2 ⟨rfl, hb2⟩; rw [show strV (dd v0) = .string Y from by rw [HY.out]]; have HBy := Lib.hid (HBz.out.trans (hb2.mono HBz.out.size)); clear hb2)
          | (go_at_call 57; (with_reducible refine (MustS_bad _ 2 _).mono ?_); rintro e z3 ⟨rfl, rfl⟩)
          | fail)
        exact ⟨rfl, rfl, HB0.out.trans (HBy.out.mono HB0.out.size)⟩
set_option maxRecDepth 100000 in
set_option maxHeartbeats 16000000 in
theorem FindD_addr (h : Tk W T m S w) (hd : DOk m) (hw : HStr W) (hc0 : w.cell? ⟨g, 0, none⟩ = some (.string s0)) (hs0 : s0.size ≤ 2097152) (hno : ∀ a : Nat, a < 4294967296 → s0.data.toList ≠ addrT a) :
    Calls Tryz.prog 54 #[deskV T, .slice (some ⟨g, 0, none⟩) 1 c] w fun e w' => e = endA (findX m (addrO s0.data.toList)) ∧ Below w.heap.size w w' := by
  have hX : findX m (addrO s0.data.toList) = .error 7 := by rw [addrO_no hno]; rfl
  rw [hX]
  have HNO := Lib.hid hno
  clear hX hno
  have hgl := lt_of_cellG hc0
  have hb0 := (Below.refl w.heap.size w).alloc (Nat.le_refl _) (.cells #[.pointer (some ⟨T, 0, none⟩)] 40)
  have hT1 : ∀ w' : World, Below (w.alloc (.cells #[.pointer (some ⟨T, 0, none⟩)] 40)).heap.size (w.alloc (.cells #[.pointer (some ⟨T, 0, none⟩)] 40)) w' → Tk W T m (fun g => S g ∨ w.heap.size ≤ g ∧ g < (w.alloc (.cells #[.pointer (some ⟨T, 0, none⟩)] 40)).heap.size) w' := fun w' hb => (h.more hb0).below hb
  have hW1 : ∀ w' : World, Below (w.alloc (.cells #[.pointer (some ⟨T, 0, none⟩)] 40)).heap.size (w.alloc (.cells #[.pointer (some ⟨T, 0, none⟩)] 40)) w' → HStr w' := fun w' hb => hw.below ((h.more hb0).below hb).bel (Nat.le_refl _)
  have c0 : (w.alloc (.cells #[.pointer (some ⟨T, 0, none⟩)] 40)).cell? ⟨w.heap.size, 0, none⟩ = some (.pointer (some ⟨T, 0, none⟩)) := row1p (heap_alloc_new _ _)
  have d0 : (w.alloc (.cells #[.pointer (some ⟨T, 0, none⟩)] 40)).cell? ⟨g, 0, none⟩ = some (.string s0) := (hb0.cell (p := ⟨g, 0, none⟩) hgl).trans hc0
  have hB1 : w.heap.size < (w.alloc (.cells #[.pointer (some ⟨T, 0, none⟩)] 40)).heap.size := by simp
  have hgl1 : g < (w.alloc (.cells #[.pointer (some ⟨T, 0, none⟩)] 40)).heap.size := by simp; omega
  have HTK := Lib.hid hT1
  have HW := Lib.hid hW1
  have C0 := Lib.hid c0
  have HB0 := Lib.hid hb0
  have HT := Lib.hid h
  have D0 := Lib.hid d0
  clear hT1 hW1 hb0 h hw c0 d0 hc0
  go_enter Tryz.func54, Tryz.ntmps54
  go_wp2
  generalize hW1e : w.alloc (.cells #[.pointer (some ⟨T, 0, none⟩)] 40) = W1 at *
  have hbd : Below W1.heap.size W1 W1.drew := below_drewN (Below.refl _ _) 1
  have x0 : W1.drew.cell? ⟨w.heap.size, 0, none⟩ = some (.pointer (some ⟨T, 0, none⟩)) := C0.out
  have y0 : W1.drew.cell? ⟨g, 0, none⟩ = some (.string s0) := D0.out
  refine wp_region_held_drew (S := (fun w' => w'.cell? ⟨w.heap.size, 0, none⟩ = some (.pointer (some ⟨T, 0, none⟩)) ∧ w'.cell? ⟨g, 0, none⟩ = some (.string s0))) (by kernel_rfl) (by first | exact ⟨x0, y0⟩ | exact ⟨x0, y0⟩) (fun hHeld => ?_)
  generalize hud : W1.drew = u103 at *
  have HBu103 := Lib.hid hbd
  clear hud hbd hW1e x0 y0
  refine' wpAnyH_take (i := 0) ?hit104 ?hst104 ?hft104 ?hrt104 ?hQt104 ?hyt104 ?hSt104 ?ht104
  case hit104 => (simp only [List.getElem?_toArray, List.getElem?_cons_succ, List.getElem?_cons_zero]; exact rfl)
  case hst104 => kernel_rfl
  case hft104 => kernel_rfl
  case hrt104 => kernel_rfl
  case hQt104 => exact fun _ _ _ h => h
  case hyt104 => (first | (refine Or.inr ⟨by rfl, ?_⟩; rfl) | (refine Or.inl ⟨by rfl, ?_⟩; (intro w hSw; (try dsimp only at hSw); go_simp); try with_reducible rfl))
  case hSt104 => assumption
  try simp only [Act.put, List.setIfInBounds_toArray, List.set_cons_zero, List.set_cons_succ]
  refine' wpAnyH_take (i := 1) ?hit105 ?hst105 ?hft105 ?hrt105 ?hQt105 ?hyt105 ?hSt105 ?ht105
  case hit105 => (simp only [List.getElem?_toArray, List.getElem?_cons_succ, List.getElem?_cons_zero]; exact rfl)
  case hst105 => kernel_rfl
  case hft105 => kernel_rfl
  case hrt105 => kernel_rfl
  case hQt105 => exact fun _ _ _ h => h
  case hyt105 => (first | (refine Or.inr ⟨by rfl, ?_⟩; rfl) | (refine Or.inl ⟨by rfl, ?_⟩; (intro w hSw; (try dsimp only at hSw); go_simp); try with_reducible rfl))
  case hSt105 => assumption
  try simp only [Act.put, List.setIfInBounds_toArray, List.set_cons_zero, List.set_cons_succ]
  refine' wpAnyH_take (i := 2) ?hit106 ?hst106 ?hft106 ?hrt106 ?hQt106 ?hyt106 ?hSt106 ?ht106
  case hit106 => (simp only [List.getElem?_toArray, List.getElem?_cons_succ, List.getElem?_cons_zero]; exact rfl)
  case hst106 => kernel_rfl
  case hft106 => kernel_rfl
  case hrt106 => kernel_rfl
  case hQt106 => exact fun _ _ _ h => h
  case hyt106 => (first | (refine Or.inr ⟨by rfl, ?_⟩; rfl) | (refine Or.inl ⟨by rfl, ?_⟩; (intro w hSw; (try dsimp only at hSw); go_simp); try with_reducible rfl))
  case hSt106 => assumption
  try simp only [Act.put, List.setIfInBounds_toArray, List.set_cons_zero, List.set_cons_succ]
  refine' wpAnyH_take (i := 3) ?hit107 ?hst107 ?hft107 ?hrt107 ?hQt107 ?hyt107 ?hSt107 ?ht107
  case hit107 => (simp only [List.getElem?_toArray, List.getElem?_cons_succ, List.getElem?_cons_zero]; exact rfl)
  case hst107 => kernel_rfl
  case hft107 => kernel_rfl
  case hrt107 => kernel_rfl
  case hQt107 => exact fun _ _ _ h => h
  case hyt107 => (first | (refine Or.inr ⟨by rfl, ?_⟩; rfl) | (refine Or.inl ⟨by rfl, ?_⟩; (intro w hSw; (try dsimp only at hSw); go_simp); try with_reducible rfl))
  case hSt107 => assumption
  try simp only [Act.put, List.setIfInBounds_toArray, List.set_cons_zero, List.set_cons_succ]
  refine' wpAnyH_take (i := 4) ?hit108 ?hst108 ?hft108 ?hrt108 ?hQt108 ?hyt108 ?hSt108 ?ht108
  case hit108 => (simp only [List.getElem?_toArray, List.getElem?_cons_succ, List.getElem?_cons_zero]; exact rfl)
  case hst108 => kernel_rfl
  case hft108 => kernel_rfl
  case hrt108 => kernel_rfl
  case hQt108 => exact fun _ _ _ h => h
  case hyt108 => (first | (refine Or.inr ⟨by rfl, ?_⟩; rfl) | (refine Or.inl ⟨by rfl, ?_⟩; (intro w hSw; (try dsimp only at hSw); go_simp); try with_reducible rfl))
  case hSt108 => assumption
  try simp only [Act.put, List.setIfInBounds_toArray, List.set_cons_zero, List.set_cons_succ]
  refine wpAnyH_ready (rs := [5, 11]) (by kernel_rfl) (by simp) ?_
  refine' AllReadyH.cons ?hi109 (fun K hK => ?hg109) (AllReadyH.cons ?hi110 (fun K hK => ?hg110) AllReadyH.nil)
  case hi109 => (simp only [List.getElem?_toArray, List.getElem?_cons_succ, List.getElem?_cons_zero]; exact rfl)
  case hi110 => (simp only [List.getElem?_toArray, List.getElem?_cons_succ, List.getElem?_cons_zero]; exact rfl)
  case hg109 =>
    go_simp
    go_at_call 56
    (with_reducible refine (WAddr_bad s0 _ (HW.out _ ?q112) hs0 HNO.out).mono ?_)
    case q112 => exact HBu103.out
    rintro e b111 ⟨rfl, hb⟩
    exact ⟨rfl, rfl, HB0.out.trans ((HBu103.out.trans (hb.mono HBu103.out.size)).mono HB0.out.size)⟩
  case hg110 =>
    go_simp
    have hb : Below u103.heap.size u103 (u103.alloc (.cells #[.int .u32 0, .int .i64 0] 47)) := (Below.refl _ _).alloc (Nat.le_refl _) _
    have hnew := heap_alloc_new u103 (.cells #[.int .u32 0, .int .i64 0] 47)
    obtain ⟨G11_a113, hG⟩ : ∃ G, u103.heap.size = G := ⟨_, rfl⟩
    have hGlt : W1.heap.size ≤ G11_a113 := by rw [← hG]; exact HBu103.out.size
    rw [hG] at hnew
    (try rw [hG])
    generalize hwn : u103.alloc (.cells #[.int .u32 0, .int .i64 0] 47) = a113 at *
    have HGG11_a113_a113 := Lib.hid hnew
    have HBa113 := Lib.hid (HBu103.out.trans (hb.mono HBu103.out.size))
    clear hb
    have hggG11_a113 : ¬ G11_a113 = g := by omega
    have hgbG11_a113 : ¬ G11_a113 = w.heap.size := by omega
    have hghG11_a113 : ¬ g = G11_a113 := by omega
    have hgkG11_a113 : ¬ w.heap.size = G11_a113 := by omega
    clear hwn hnew hG
    have x0 := (HBa113.out.cell (p := ⟨w.heap.size, 0, none⟩) hB1).trans C0.out
    have y0 := (HBa113.out.cell (p := ⟨g, 0, none⟩) hgl1).trans D0.out
    refine hK.out _ _ (by go_keep) (fun hHeld => ?_)
    clear hK K x0 y0
    refine wpAnyH_ready (rs := [5]) (by kernel_rfl) (by simp) ?_
    refine' AllReadyH.cons ?hi114 (fun K hK => ?hg114) AllReadyH.nil
    case hi114 => (simp only [List.getElem?_toArray, List.getElem?_cons_succ, List.getElem?_cons_zero]; exact rfl)
    case hg114 =>
      go_simp
      go_at_call 56
      (with_reducible refine (WAddr_bad s0 _ (HW.out _ ?q116) hs0 HNO.out).mono ?_)
      case q116 => exact HBa113.out
      rintro e b115 ⟨rfl, hb⟩
      exact ⟨rfl, rfl, HB0.out.trans ((HBa113.out.trans (hb.mono HBa113.out.size)).mono HB0.out.size)⟩
theorem Find_do (h : Tk W T m S w) (hd : DOk m) (hw : HStr W) (hc0 : w.cell? ⟨g, 0, none⟩ = some (.string s0)) (hs0 : s0.size ≤ 2097152) :
    Calls Tryz.prog 54 #[deskV T, .slice (some ⟨g, 0, none⟩) 1 c] w fun e w' => e = endA (findX m (addrO s0.data.toList)) ∧ Below w.heap.size w w' := by
  rcases addrO_cases s0.data.toList with ⟨a, ha, hsa, e⟩ | ⟨hno, e⟩
  · cases hf : fnd m (a : Int) 33 with
    | none => exact FindD_none h hd hw hc0 hs0 ha hsa hf
    | some r =>
      obtain ⟨q, v⟩ := r
      obtain ⟨hq, hl, _⟩ := fnd_some hf
      have hvn := hd.num _ (look_mem hl)
      obtain ⟨v0, rfl⟩ := Int.eq_ofNat_of_zero_le hvn.1
      exact FindD_ok h hd hw hc0 hs0 ha hsa (by omega) (by have := hvn.2; simp only at this; omega) hf
  · exact FindD_addr h hd hw hc0 hs0 hno
end
end Go.Proofs.YtgdlkjahlajcpaaGreatDoor
