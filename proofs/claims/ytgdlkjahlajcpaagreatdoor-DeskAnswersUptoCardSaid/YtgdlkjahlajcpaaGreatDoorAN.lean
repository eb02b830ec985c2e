/- The reference's tables: PutIn. Slices cut out of slices, as readings. The reference's nets in order: Ordered. -/
import Derived.Test.YtgdlkjahlajcpaaGreatDoorAM
import Derived.Test.YtgdlkjahlajcpaaGreatDoorAB
import Derived.Test.YtgdlkjahlajcpaaGreatDoorAL
import Derived.Deep.DeepCutAuto
namespace Go.Proofs.YtgdlkjahlajcpaaGreatDoor
open Go.ChangeShapes Go.WideShapes Go.ChangeAt Go.RowKit
set_option linter.unusedVariables false
set_option linter.unusedSimpArgs false
theorem putin_end {W : World} {R : Nat} {a : Act} {v1 v2 v3 : Value} {t : TypeId} {K : Ending → World → Prop} (h : W.heap[R]? = some (.cells #[v1, v2] t (0, 0))) (h2 : a.tmps[6]?.getD undef = .pointer (some ⟨R, 0, none⟩)) (h3 : a.tmps[7]?.getD undef = v3) (hd : a.defers = [])
    (hK : K (.returned (.tuple #[.agg #[v1, v2], v3])) W) : bodyPost Tryz.prog Tryz.f27 K .ret a W := by
  have e0 : W.cell? ⟨R, 0, none⟩ = some v1 := by rw [cell_of_row _ R _ _ _ (0, 0) h]; rfl
  have e1 : W.cell? ⟨R, 1, none⟩ = some v2 := by rw [cell_of_row _ R _ _ _ (0, 0) h]; rfl
  exact bodyPost_ret (by simp [results, Tryz.results27, go_sem, h2, h3, e0, e1]) hd hK
theorem DropPost.forms {w w' : World} {m : List (Nt × Int)} {e : Ending} (h : DropPost w m e w') : ∃ A1 L1 c1 A2 L2 c2, e = .returned (.agg #[.slice A1 L1 c1, .slice A2 L2 c2]) ∧ OwnN w' w.heap.size (.slice A1 L1 c1) (keysM m) ∧ OwnI 3 w' w.heap.size (.slice A2 L2 c2) (valsM m) ∧ Below w.heap.size w w' := by
  obtain ⟨v1, v2, h1, h2, h3, h4⟩ := h
  obtain ⟨A1, c1, rfl⟩ := h2.form
  obtain ⟨A2, c2, rfl⟩ := h3.form
  exact ⟨A1, _, c1, A2, _, c2, h1, h2, h3, h4⟩
def PutPost (w : World) (m : List (Nt × Int)) (e : Ending) (w' : World) : Prop := ∃ v1 v2, e = .returned (.tuple #[.agg #[v1, v2], .bool true]) ∧ OwnN w' w.heap.size v1 (keysM m) ∧ OwnI 3 w' w.heap.size v2 (valsM m) ∧ Below w.heap.size w w'
theorem own_setT {w : World} {base e size n T o : Nat} {v u : Value} {xs : List Value} {cs : Array Value} (h : w.ownsRow base e size v n xs) (hT : w.heap[T]? = some (.cells cs 29 (0, 0))) (he : e ≠ 29) : (w.setCell ⟨T, o, none⟩ u).ownsRow base e size v n xs := by
  refine h.kept (row := some T) ⟨rfl, rfl, rfl, by simp, fun k hk hne => heap_setCell_other _ _ _ _ (fun e => hne (by rw [e]))⟩ ?_
  rcases h.2 with ⟨rfl, _⟩ | ⟨g1, cap1, cur1, rfl, _, hb1, _⟩
  · exact .inl rfl
  · right
    intro e1
    have : g1 = T := by simpa [Value.ownBlock] using e1
    subst this
    rw [hb1] at hT
    cases hT
    exact he rfl
theorem OwnN.setT {w : World} {base T o : Nat} {v u : Value} {xs : List (Int × Int)} {cs : Array Value} (h : OwnN w base v xs) (hT : w.heap[T]? = some (.cells cs 29 (0, 0))) : OwnN (w.setCell ⟨T, o, none⟩ u) base v xs := ⟨own_setT h.1 hT (by decide), h.2⟩
theorem OwnI.setT {w : World} {base T o : Nat} {v u : Value} {xs : List Int} {cs : Array Value} (h : OwnI 3 w base v xs) (hT : w.heap[T]? = some (.cells cs 29 (0, 0))) : OwnI 3 (w.setCell ⟨T, o, none⟩ u) base v xs := ⟨own_setT h.1 hT (by decide), h.2⟩
theorem PutIn_full {w : World} {A A' : Option Addr} {n c n' c' : Nat} {m : List (Nt × Int)} {a l v : Int} (hr : R1 rdNets w (.slice A n c) (keysM m)) (hv : R1 (RdSlice 1 (rdInt .i64)) w (.slice A' n' c') (valsM m)) (hm : m.length ≤ 64) (hx : look m (a, l) = none) (h64 : 64 ≤ m.length) :
    Calls Tryz.prog 27 #[.agg #[.slice A n c, .slice A' n' c'], .agg #[.int .u32 a, .int .i64 l], .int .i64 v] w fun e w' => e = .returned (.tuple #[.agg #[.slice A n c, .slice A' n' c'], .bool false]) ∧ Below w.heap.size w w' := by
  have hn : m.length = n := by have := (RdSlice.len hr).1; rw [this]; simp [keysM]
  have hn' : n' = n := by have := (RdSlice.len hv).1; rw [this, ← hn]; simp [valsM]
  subst hn'
  have hn1000 : n' ≤ 1000 := by omega
  have HR := Lib.hid hr
  have HV := Lib.hid hv
  have HM := Lib.hid hm
  have HN := Lib.hid hn
  obtain ⟨g, hg⟩ : ∃ g, w.heap.size = g := ⟨_, rfl⟩
  have HG := Lib.hid hg
  have HP : Hid (placeI (a, l) (keysM m) 0 = -1) := Lib.hid (place_none hx 0)
  have t64 : (64 : Int) ≤ (n' : Int) := by omega
  have t64' : 64 ≤ n' := by omega
  clear hr hv hm hn hx h64
  go_enter Tryz.func27, Tryz.ntmps27
  have hb3 := below_3 w (.cells #[.slice A n' c, .slice A' n' c'] 29) (.cells #[.int .u32 a, .int .i64 l] 47) (.cells #[.slice none 0 0, .slice none 0 0] 29)
  have HR3 := Lib.hid (HR.out.below hb3)
  have HV3 := Lib.hid (HV.out.below hb3)
  have HB3 := Lib.hid hb3
  have hbl := box3 (w := w) (o1 := .cells #[.slice A n' c, .slice A' n' c'] 29) (o2 := .cells #[.int .u32 a, .int .i64 l] 47) (o3 := .cells #[.slice none 0 0, .slice none 0 0] 29) (Below.refl _ _)
  rw [hg] at hbl
  have HBL := Lib.hid hbl
  have HZ3 : Hid ((((w.alloc (.cells #[.slice A n' c, .slice A' n' c'] 29)).alloc (.cells #[.int .u32 a, .int .i64 l] 47)).alloc (.cells #[.slice none 0 0, .slice none 0 0] 29)).heap.size = g + 3) := Lib.hid (by simp; exact hg)
  clear hb3 hbl
  go_wp2_with fail
  go_at_call 23
  (with_reducible refine (Places_any HR3.out).mono ?_)
  rw [HP.out]
  rintro e w4 ⟨rfl, hb4⟩
  have hs4 := hb4.size
  have B0 := Lib.hid (below_block hb4 (by rw [HZ3.out]; omega) HBL.out.1)
  have B1 := Lib.hid (below_block hb4 (by rw [HZ3.out]; omega) HBL.out.2.1)
  have B2 := Lib.hid (below_block hb4 (by rw [HZ3.out]; omega) HBL.out.2.2)
  have HB4 := Lib.hid (HB3.out.trans (hb4.mono HB3.out.size))
  have HR4 := Lib.hid (HR3.out.below hb4)
  have HV4 := Lib.hid (HV3.out.below hb4)
  have hz4 : g + 3 ≤ w4.heap.size := by have := HZ3.out; omega
  obtain ⟨y0, y1, _, _⟩ := row2 B0.out
  obtain ⟨y2, y3, _, _⟩ := row2 B1.out
  obtain ⟨y4, y5, _, _⟩ := row2 B2.out
  clear hb4 hs4
  try rw [hg]
  go_wp2
  have HE := Lib.hid (set2_block (.slice A n' c) (.slice A' n' c') B2.out)
  have HBE : Hid (Below w.heap.size w ((w4.setCell ⟨g + 2, 0, none⟩ (.slice A n' c)).setCell ⟨g + 2, 1, none⟩ (.slice A' n' c'))) := Lib.hid ((HB4.out.setCell (p := ⟨g + 2, 0, none⟩) (by have := HG.out; simp only; omega) _).setCell (p := ⟨g + 2, 1, none⟩) (by have := HG.out; simp only; omega) _)
  exact putin_end HE.out rfl rfl rfl ⟨rfl, HBE.out⟩
set_option maxRecDepth 100000 in
set_option maxHeartbeats 8000000 in
theorem PutIn_room_a {w : World} {A A' : Option Addr} {n c n' c' : Nat} {m : List (Nt × Int)} {a l v : Int} (hr : R1 rdNets w (.slice A n c) (keysM m)) (hv : R1 (RdSlice 1 (rdInt .i64)) w (.slice A' n' c') (valsM m)) (hm : m.length ≤ 64) (hx : look m (a, l) = none) (h64 : ¬ 64 ≤ m.length) (hwx : wfN (a, l)) (hwv : (Lit.int .i64 v).wf = true) :
    Calls Tryz.prog 27 #[.agg #[.slice A n c, .slice A' n' c'], .agg #[.int .u32 a, .int .i64 l], .int .i64 v] w (PutPost w (putM m (a, l) v)) := by
  have hn : m.length = n := by have := (RdSlice.len hr).1; rw [this]; simp [keysM]
  have hn' : n' = n := by have := (RdSlice.len hv).1; rw [this, ← hn]; simp [valsM]
  subst hn'
  have hn1000 : n' ≤ 1000 := by omega
  have HR := Lib.hid hr
  have HV := Lib.hid hv
  have HM := Lib.hid hm
  have HN := Lib.hid hn
  obtain ⟨g, hg⟩ : ∃ g, w.heap.size = g := ⟨_, rfl⟩
  have HG := Lib.hid hg
  have HWX := Lib.hid hwx
  have HWV := Lib.hid hwv
  have HP : Hid (placeI (a, l) (keysM m) 0 = -1) := Lib.hid (place_none hx 0)
  have t64 : ¬ (64 : Int) ≤ (n' : Int) := by omega
  have t64' : ¬ 64 ≤ n' := by omega
  clear hx h64
  obtain ⟨PP, hPP⟩ : ∃ PP, PutPost w (putM m (a, l) v) = PP := ⟨_, rfl⟩
  have HPP := Lib.hid hPP
  rw [hPP]
  clear hr hv hm hn hwx hwv hPP
  go_enter Tryz.func27, Tryz.ntmps27
  have hb3 := below_3 w (.cells #[.slice A n' c, .slice A' n' c'] 29) (.cells #[.int .u32 a, .int .i64 l] 47) (.cells #[.slice none 0 0, .slice none 0 0] 29)
  have HR3 := Lib.hid (HR.out.below hb3)
  have HV3 := Lib.hid (HV.out.below hb3)
  have HB3 := Lib.hid hb3
  have hbl := box3 (w := w) (o1 := .cells #[.slice A n' c, .slice A' n' c'] 29) (o2 := .cells #[.int .u32 a, .int .i64 l] 47) (o3 := .cells #[.slice none 0 0, .slice none 0 0] 29) (Below.refl _ _)
  rw [hg] at hbl
  have HBL := Lib.hid hbl
  have HZ3 : Hid ((((w.alloc (.cells #[.slice A n' c, .slice A' n' c'] 29)).alloc (.cells #[.int .u32 a, .int .i64 l] 47)).alloc (.cells #[.slice none 0 0, .slice none 0 0] 29)).heap.size = g + 3) := Lib.hid (by simp; exact hg)
  clear hb3 hbl
  go_wp2_with fail
  go_at_call 23
  (with_reducible refine (Places_any HR3.out).mono ?_)
  rw [HP.out]
  rintro e w4 ⟨rfl, hb4⟩
  have hs4 := hb4.size
  have B0 := Lib.hid (below_block hb4 (by rw [HZ3.out]; omega) HBL.out.1)
  have B1 := Lib.hid (below_block hb4 (by rw [HZ3.out]; omega) HBL.out.2.1)
  have B2 := Lib.hid (below_block hb4 (by rw [HZ3.out]; omega) HBL.out.2.2)
  have HB4 := Lib.hid (HB3.out.trans (hb4.mono HB3.out.size))
  have HR4 := Lib.hid (HR3.out.below hb4)
  have HV4 := Lib.hid (HV3.out.below hb4)
  have hz4 : g + 3 ≤ w4.heap.size := by have := HZ3.out; omega
  obtain ⟨y0, y1, _, _⟩ := row2 B0.out
  obtain ⟨y2, y3, _, _⟩ := row2 B1.out
  obtain ⟨y4, y5, _, _⟩ := row2 B2.out
  clear hb4 hs4
  try rw [hg]
  have HDR := Lib.hid (DropFrom_any (a := a) (l := l) HR4.out HV4.out (by have := HM.out; omega))
  go_wp2_with fail
  go_at_call 24
  (with_reducible refine HDR.out.mono ?_)
  intro e w5 hd
  obtain ⟨A1, L1, c1, A2, L2, c2, rfl, ho1, ho2, hb5⟩ := hd.forms
  obtain ⟨T, hT⟩ : ∃ T, w5.heap.size = T := ⟨_, rfl⟩
  have HT := Lib.hid hT
  have hb6 : Below w4.heap.size w4 (w5.alloc (.cells #[.slice A1 L1 c1, .slice A2 L2 c2] 29)) := hb5.trans ((below_1 w5 _).mono hb5.size)
  have B06 := Lib.hid (below_block hb6 (size_of_block B0.out) B0.out)
  have B16 := Lib.hid (below_block hb6 (size_of_block B1.out) B1.out)
  have B26 := Lib.hid (below_block hb6 (size_of_block B2.out) B2.out)
  have BT6 : Hid ((w5.alloc (.cells #[.slice A1 L1 c1, .slice A2 L2 c2] 29)).heap[T]? = some (.cells #[.slice A1 L1 c1, .slice A2 L2 c2] 29 (0, 0))) := Lib.hid (by rw [← hT]; exact heap_alloc_new w5 _)
  have HO1 := Lib.hid (ho1.alloc (.cells #[.slice A1 L1 c1, .slice A2 L2 c2] 29))
  have HO2 := Lib.hid (ho2.alloc (.cells #[.slice A1 L1 c1, .slice A2 L2 c2] 29))
  have HTN1 : Hid (∀ k, (Value.slice A1 L1 c1).ownBlock = some k → k < T) := Lib.hid (fun k e => by rw [← hT]; exact (own_blk ho1.1 k e).2)
  have HTN2 : Hid (∀ k, (Value.slice A2 L2 c2).ownBlock = some k → k < T) := Lib.hid (fun k e => by rw [← hT]; exact (own_blk ho2.1 k e).2)
  have HB6 := Lib.hid (HB4.out.trans (hb6.mono HB4.out.size))
  have hz6 : w4.heap.size ≤ T := by rw [← hT]; exact hb5.size
  have hz7 : T < (w5.alloc (.cells #[.slice A1 L1 c1, .slice A2 L2 c2] 29)).heap.size := by rw [← hT]; simp
  have HLK : Hid ((keysM (delM m (a, l))).length ≤ 1000) := Lib.hid (by
    have h1 := List.length_filter_le (fun e : Nt × Int => !(e.1 == (a, l))) m
    have := HM.out
    simp only [keysM, List.length_map]; unfold delM; omega)
  have HLV : Hid ((valsM (delM m (a, l))).length ≤ 1000) := Lib.hid (by
    have h1 := List.length_filter_le (fun e : Nt × Int => !(e.1 == (a, l))) m
    have := HM.out
    simp only [valsM, List.length_map]; unfold delM; omega)
  have HK2 : Hid (keysM (putM m (a, l) v) = keysM (delM m (a, l)) ++ [(a, l)]) := Lib.hid (keys_put m (a, l) v)
  have HV2 : Hid (valsM (putM m (a, l) v) = valsM (delM m (a, l)) ++ [v]) := Lib.hid (vals_put m (a, l) v)
  clear hd ho1 ho2 hb5 hb6
  go_upto_region 5 with (fail)
  try rw [hT]
  clear hT
  generalize w5.alloc (.cells #[.slice A1 L1 c1, .slice A2 L2 c2] 29) = w6 at *
  obtain ⟨K1, hK1⟩ : ∃ K1, keysM (delM m (a, l)) = K1 := ⟨_, rfl⟩
  obtain ⟨K2, hK2⟩ : ∃ K2, valsM (delM m (a, l)) = K2 := ⟨_, rfl⟩
  rw [hK1] at HO1 HLK HK2
  rw [hK2] at HO2 HLV HV2
  obtain ⟨y0, y1, _, _⟩ := row2 B06.out
  obtain ⟨y2, y3, _, _⟩ := row2 B16.out
  obtain ⟨y4, y5, _, _⟩ := row2 B26.out
  obtain ⟨y6, y7, _, _⟩ := row2 BT6.out
  have hl1 : K1.length ≤ 8796093022000 := by have := HLK.out; omega
  have hl2 : K2.length ≤ 5864062014000 := by have := HLV.out; omega
  have nT : ¬ T = w6.heap.size := by omega
  clear hK1 hK2
  go_upto_region 6 with (first
    | (at_builtin; go_loud (refine wpList_append_net rfl _ _ 26 Tryz.underlying26 rfl w4.heap.size _ _ rfl (HO1.out.alloc _) w6.heap.size (a, l) 47 rfl (heap_alloc_new w6 _) HWX.out hl1 (by simp; omega) ?_)
       intro v8 w8 hown8 hgrow8
       have HO18 := Lib.hid hown8
       have HO28 := Lib.hid ((HO2.out.alloc (.cells #[.int .u32 a, .int .i64 l] 47)).beside (HO1.out.alloc (.cells #[.int .u32 a, .int .i64 l] 47)) hgrow8)
       have hk8 : ∀ {j : Nat} {o : Obj}, (j < w4.heap.size ∨ j = T) → w6.heap[j]? = some o → w8.heap[j]? = some o := fun {j o} hj hbj => by
         rw [hgrow8.1.block j (by have := size_of_block hbj; simp; omega) (fun e => by have h1 := (own_blk HO1.out.1 j e.symm).1; have h2 := HTN1.out j e.symm; omega)]
         exact below_block (below_1 w6 _) (size_of_block hbj) hbj
       have B08 := Lib.hid (hk8 (.inl (by omega)) B06.out)
       have B18 := Lib.hid (hk8 (.inl (by omega)) B16.out)
       have B28 := Lib.hid (hk8 (.inl (by omega)) B26.out)
       have BT8 := Lib.hid (hk8 (.inr rfl) BT6.out)
       have HB8 := Lib.hid (hgrow8.below (HB6.out.trans ((below_1 w6 (.cells #[.int .u32 a, .int .i64 l] 47)).mono HB6.out.size)) (HO1.out.alloc (.cells #[.int .u32 a, .int .i64 l] 47)).1 HB4.out.size (by have := HB6.out.size; simp; omega))
       have hs8 := hgrow8.size
       obtain ⟨z6, z7, x6, x7⟩ := row2 BT8.out
       obtain ⟨A8, c8, hv8⟩ := hown8.form
       obtain ⟨L8, hL8⟩ : ∃ L8, (K1 ++ [(a, l)]).length = L8 := ⟨_, rfl⟩
       rw [hL8] at hv8
       subst hv8
       clear hown8 hgrow8 hL8 hk8)
    | fail)
  have BT9 := Lib.hid (heap_setCell_same w8 T 0 _ _ (.slice A8 L8 c8) BT8.out)
  have hkk : ∀ {j : Nat} {o : Obj}, j < w4.heap.size → w8.heap[j]? = some o → (w8.setCell ⟨T, 0, none⟩ (.slice A8 L8 c8)).heap[j]? = some o := fun {j o} hj hbj => (heap_setCell_other _ _ _ _ (fun e => by have e' : j = T := e; omega)).trans hbj
  have B09 := Lib.hid (hkk (by omega) B08.out)
  have B19 := Lib.hid (hkk (by omega) B18.out)
  have B29 := Lib.hid (hkk (by omega) B28.out)
  have HO19 := Lib.hid (HO18.out.setT (u := .slice A8 L8 c8) (o := 0) BT8.out)
  have HO29 := Lib.hid (HO28.out.setT (u := .slice A8 L8 c8) (o := 0) BT8.out)
  have HB9 := Lib.hid (HB8.out.setCell (p := ⟨T, 0, none⟩) (by have := HG.out; simp only; omega) (.slice A8 L8 c8))
  have hs9 : w6.heap.size ≤ (w8.setCell ⟨T, 0, none⟩ (.slice A8 L8 c8)).heap.size := by simp at hs8; simp; omega
  clear hkk hs8 nT
  generalize w8.setCell ⟨T, 0, none⟩ (.slice A8 L8 c8) = w9 at *
  obtain ⟨y0, y1, _, _⟩ := row2 B09.out
  obtain ⟨y2, y3, _, _⟩ := row2 B19.out
  obtain ⟨y4, y5, _, _⟩ := row2 B29.out
  obtain ⟨y6, y7, _, _⟩ := row2 BT9.out
  have nT : ¬ T = w9.heap.size := by omega
  go_upto_region 7 with (first
    | (at_builtin; go_loud (refine wpList_append_int rfl _ _ 27 3 Tryz.underlying27 int_infoT rfl w4.heap.size _ _ rfl (HO29.out.alloc _) w9.heap.size v 3 rfl (heap_alloc_new w9 _) HWV.out hl2 (by simp; omega) ?_)
       intro vA wA hownA hgrowA
       have HO2A := Lib.hid hownA
       have HO1A := Lib.hid ((HO19.out.alloc (.cells #[.int .i64 v] 3)).beside (HO29.out.alloc (.cells #[.int .i64 v] 3)) hgrowA)
       have hkA : ∀ {j : Nat} {o : Obj}, (j < w4.heap.size ∨ j = T) → w9.heap[j]? = some o → wA.heap[j]? = some o := fun {j o} hj hbj => by
         rw [hgrowA.1.block j (by have := size_of_block hbj; simp; omega) (fun e => by have h1 := (own_blk HO29.out.1 j e.symm).1; have h2 := HTN2.out j e.symm; omega)]
         exact below_block (below_1 w9 _) (size_of_block hbj) hbj
       have B2A := Lib.hid (hkA (.inl (by omega)) B29.out)
       have BTA := Lib.hid (hkA (.inr rfl) BT9.out)
       have HBA := Lib.hid (hgrowA.below (HB9.out.trans ((below_1 w9 (.cells #[.int .i64 v] 3)).mono HB9.out.size)) (HO29.out.alloc (.cells #[.int .i64 v] 3)).1 HB4.out.size (by have := HB9.out.size; simp; omega))
       obtain ⟨z6, z7, x6, x7⟩ := row2 BTA.out
       obtain ⟨AA, cA, hvA⟩ := hownA.form
       obtain ⟨LA, hLA⟩ : ∃ LA, (K2 ++ [v]).length = LA := ⟨_, rfl⟩
       rw [hLA] at hvA
       subst hvA
       clear hownA hgrowA hLA hkA)
    | fail)
  have BTB := Lib.hid (heap_setCell_same wA T 1 _ _ (.slice AA LA cA) BTA.out)
  have B2B : Hid ((wA.setCell ⟨T, 1, none⟩ (.slice AA LA cA)).heap[g + 2]? = _) := Lib.hid ((heap_setCell_other _ _ _ _ (fun e => by have e' : g + 2 = T := e; omega)).trans B2A.out)
  have HO1B := Lib.hid (HO1A.out.setT (u := .slice AA LA cA) (o := 1) BTA.out)
  have HO2B := Lib.hid (HO2A.out.setT (u := .slice AA LA cA) (o := 1) BTA.out)
  have HBB := Lib.hid (HBA.out.setCell (p := ⟨T, 1, none⟩) (by have := HG.out; simp only; omega) (.slice AA LA cA))
  generalize wA.setCell ⟨T, 1, none⟩ (.slice AA LA cA) = wB at *
  obtain ⟨y6, y7, _, _⟩ := row2 BTB.out
  obtain ⟨y4, y5, x4, x5⟩ := row2 B2B.out
  have HE := Lib.hid (set2_block (.slice A8 L8 c8) (.slice AA LA cA) B2B.out)
  have HEND : Hid (PP (.returned (.tuple #[.agg #[.slice A8 L8 c8, .slice AA LA cA], .bool true])) ((wB.setCell ⟨g + 2, 0, none⟩ (.slice A8 L8 c8)).setCell ⟨g + 2, 1, none⟩ (.slice AA LA cA))) := Lib.hid (by
    rw [← HPP.out]
    have hgw := HG.out
    refine ⟨_, _, rfl, ?_, ?_, (HBB.out.setCell (p := ⟨g + 2, 0, none⟩) (by simp only; omega) _).setCell (p := ⟨g + 2, 1, none⟩) (by simp only; omega) _⟩
    · rw [HK2.out]; exact ((HO1B.out.setCell (by omega) _).setCell (by omega) _).monoT (by omega)
    · rw [HV2.out]; exact ((HO2B.out.setCell (by omega) _).setCell (by omega) _).mono (by omega))
  go_wp2
  exact putin_end HE.out rfl rfl rfl HEND.out
set_option maxRecDepth 100000 in
set_option maxHeartbeats 8000000 in
theorem PutIn_room_b {w : World} {A A' : Option Addr} {n c n' c' : Nat} {m : List (Nt × Int)} {a l v : Int} (hr : R1 rdNets w (.slice A n c) (keysM m)) (hv : R1 (RdSlice 1 (rdInt .i64)) w (.slice A' n' c') (valsM m)) (hm : m.length ≤ 64) (hx : look m (a, l) ≠ none) (hwx : wfN (a, l)) (hwv : (Lit.int .i64 v).wf = true) :
    Calls Tryz.prog 27 #[.agg #[.slice A n c, .slice A' n' c'], .agg #[.int .u32 a, .int .i64 l], .int .i64 v] w (PutPost w (putM m (a, l) v)) := by
  have hn : m.length = n := by have := (RdSlice.len hr).1; rw [this]; simp [keysM]
  have hn' : n' = n := by have := (RdSlice.len hv).1; rw [this, ← hn]; simp [valsM]
  subst hn'
  have hn1000 : n' ≤ 1000 := by omega
  have HR := Lib.hid hr
  have HV := Lib.hid hv
  have HM := Lib.hid hm
  have HN := Lib.hid hn
  obtain ⟨g, hg⟩ : ∃ g, w.heap.size = g := ⟨_, rfl⟩
  have HG := Lib.hid hg
  have HWX := Lib.hid hwx
  have HWV := Lib.hid hwv
  obtain ⟨u, hu⟩ := Option.ne_none_iff_exists'.1 hx
  obtain ⟨q, hq, -⟩ := place_some hu 0
  have HP : Hid (placeI (a, l) (keysM m) 0 = (q : Int)) := Lib.hid (by rw [hq]; omega)
  clear hx hu hq
  obtain ⟨PP, hPP⟩ : ∃ PP, PutPost w (putM m (a, l) v) = PP := ⟨_, rfl⟩
  have HPP := Lib.hid hPP
  rw [hPP]
  clear hr hv hm hn hwx hwv hPP
  go_enter Tryz.func27, Tryz.ntmps27
  have hb3 := below_3 w (.cells #[.slice A n' c, .slice A' n' c'] 29) (.cells #[.int .u32 a, .int .i64 l] 47) (.cells #[.slice none 0 0, .slice none 0 0] 29)
  have HR3 := Lib.hid (HR.out.below hb3)
  have HV3 := Lib.hid (HV.out.below hb3)
  have HB3 := Lib.hid hb3
  have hbl := box3 (w := w) (o1 := .cells #[.slice A n' c, .slice A' n' c'] 29) (o2 := .cells #[.int .u32 a, .int .i64 l] 47) (o3 := .cells #[.slice none 0 0, .slice none 0 0] 29) (Below.refl _ _)
  rw [hg] at hbl
  have HBL := Lib.hid hbl
  have HZ3 : Hid ((((w.alloc (.cells #[.slice A n' c, .slice A' n' c'] 29)).alloc (.cells #[.int .u32 a, .int .i64 l] 47)).alloc (.cells #[.slice none 0 0, .slice none 0 0] 29)).heap.size = g + 3) := Lib.hid (by simp; exact hg)
  clear hb3 hbl
  go_wp2_with fail
  go_at_call 23
  (with_reducible refine (Places_any HR3.out).mono ?_)
  rw [HP.out]
  rintro e w4 ⟨rfl, hb4⟩
  have hs4 := hb4.size
  have B0 := Lib.hid (below_block hb4 (by rw [HZ3.out]; omega) HBL.out.1)
  have B1 := Lib.hid (below_block hb4 (by rw [HZ3.out]; omega) HBL.out.2.1)
  have B2 := Lib.hid (below_block hb4 (by rw [HZ3.out]; omega) HBL.out.2.2)
  have HB4 := Lib.hid (HB3.out.trans (hb4.mono HB3.out.size))
  have HR4 := Lib.hid (HR3.out.below hb4)
  have HV4 := Lib.hid (HV3.out.below hb4)
  have hz4 : g + 3 ≤ w4.heap.size := by have := HZ3.out; omega
  obtain ⟨y0, y1, _, _⟩ := row2 B0.out
  obtain ⟨y2, y3, _, _⟩ := row2 B1.out
  obtain ⟨y4, y5, _, _⟩ := row2 B2.out
  clear hb4 hs4
  try rw [hg]
  have HDR := Lib.hid (DropFrom_any (a := a) (l := l) HR4.out HV4.out (by have := HM.out; omega))
  go_wp2_with fail
  go_at_call 24
  (with_reducible refine HDR.out.mono ?_)
  intro e w5 hd
  obtain ⟨A1, L1, c1, A2, L2, c2, rfl, ho1, ho2, hb5⟩ := hd.forms
  obtain ⟨T, hT⟩ : ∃ T, w5.heap.size = T := ⟨_, rfl⟩
  have HT := Lib.hid hT
  have hb6 : Below w4.heap.size w4 (w5.alloc (.cells #[.slice A1 L1 c1, .slice A2 L2 c2] 29)) := hb5.trans ((below_1 w5 _).mono hb5.size)
  have B06 := Lib.hid (below_block hb6 (size_of_block B0.out) B0.out)
  have B16 := Lib.hid (below_block hb6 (size_of_block B1.out) B1.out)
  have B26 := Lib.hid (below_block hb6 (size_of_block B2.out) B2.out)
  have BT6 : Hid ((w5.alloc (.cells #[.slice A1 L1 c1, .slice A2 L2 c2] 29)).heap[T]? = some (.cells #[.slice A1 L1 c1, .slice A2 L2 c2] 29 (0, 0))) := Lib.hid (by rw [← hT]; exact heap_alloc_new w5 _)
  have HO1 := Lib.hid (ho1.alloc (.cells #[.slice A1 L1 c1, .slice A2 L2 c2] 29))
  have HO2 := Lib.hid (ho2.alloc (.cells #[.slice A1 L1 c1, .slice A2 L2 c2] 29))
  have HTN1 : Hid (∀ k, (Value.slice A1 L1 c1).ownBlock = some k → k < T) := Lib.hid (fun k e => by rw [← hT]; exact (own_blk ho1.1 k e).2)
  have HTN2 : Hid (∀ k, (Value.slice A2 L2 c2).ownBlock = some k → k < T) := Lib.hid (fun k e => by rw [← hT]; exact (own_blk ho2.1 k e).2)
  have HB6 := Lib.hid (HB4.out.trans (hb6.mono HB4.out.size))
  have hz6 : w4.heap.size ≤ T := by rw [← hT]; exact hb5.size
  have hz7 : T < (w5.alloc (.cells #[.slice A1 L1 c1, .slice A2 L2 c2] 29)).heap.size := by rw [← hT]; simp
  have HLK : Hid ((keysM (delM m (a, l))).length ≤ 1000) := Lib.hid (by
    have h1 := List.length_filter_le (fun e : Nt × Int => !(e.1 == (a, l))) m
    have := HM.out
    simp only [keysM, List.length_map]; unfold delM; omega)
  have HLV : Hid ((valsM (delM m (a, l))).length ≤ 1000) := Lib.hid (by
    have h1 := List.length_filter_le (fun e : Nt × Int => !(e.1 == (a, l))) m
    have := HM.out
    simp only [valsM, List.length_map]; unfold delM; omega)
  have HK2 : Hid (keysM (putM m (a, l) v) = keysM (delM m (a, l)) ++ [(a, l)]) := Lib.hid (keys_put m (a, l) v)
  have HV2 : Hid (valsM (putM m (a, l) v) = valsM (delM m (a, l)) ++ [v]) := Lib.hid (vals_put m (a, l) v)
  clear hd ho1 ho2 hb5 hb6
  go_upto_region 5 with (fail)
  try rw [hT]
  clear hT
  generalize w5.alloc (.cells #[.slice A1 L1 c1, .slice A2 L2 c2] 29) = w6 at *
  obtain ⟨K1, hK1⟩ : ∃ K1, keysM (delM m (a, l)) = K1 := ⟨_, rfl⟩
  obtain ⟨K2, hK2⟩ : ∃ K2, valsM (delM m (a, l)) = K2 := ⟨_, rfl⟩
  rw [hK1] at HO1 HLK HK2
  rw [hK2] at HO2 HLV HV2
  obtain ⟨y0, y1, _, _⟩ := row2 B06.out
  obtain ⟨y2, y3, _, _⟩ := row2 B16.out
  obtain ⟨y4, y5, _, _⟩ := row2 B26.out
  obtain ⟨y6, y7, _, _⟩ := row2 BT6.out
  have hl1 : K1.length ≤ 8796093022000 := by have := HLK.out; omega
  have hl2 : K2.length ≤ 5864062014000 := by have := HLV.out; omega
  have nT : ¬ T = w6.heap.size := by omega
  clear hK1 hK2
  go_upto_region 6 with (first
    | (at_builtin; go_loud (refine wpList_append_net rfl _ _ 26 Tryz.underlying26 rfl w4.heap.size _ _ rfl (HO1.out.alloc _) w6.heap.size (a, l) 47 rfl (heap_alloc_new w6 _) HWX.out hl1 (by simp; omega) ?_)
       intro v8 w8 hown8 hgrow8
       have HO18 := Lib.hid hown8
       have HO28 := Lib.hid ((HO2.out.alloc (.cells #[.int .u32 a, .int .i64 l] 47)).beside (HO1.out.alloc (.cells #[.int .u32 a, .int .i64 l] 47)) hgrow8)
       have hk8 : ∀ {j : Nat} {o : Obj}, (j < w4.heap.size ∨ j = T) → w6.heap[j]? = some o → w8.heap[j]? = some o := fun {j o} hj hbj => by
         rw [hgrow8.1.block j (by have := size_of_block hbj; simp; omega) (fun e => by have h1 := (own_blk HO1.out.1 j e.symm).1; have h2 := HTN1.out j e.symm; omega)]
         exact below_block (below_1 w6 _) (size_of_block hbj) hbj
       have B08 := Lib.hid (hk8 (.inl (by omega)) B06.out)
       have B18 := Lib.hid (hk8 (.inl (by omega)) B16.out)
       have B28 := Lib.hid (hk8 (.inl (by omega)) B26.out)
       have BT8 := Lib.hid (hk8 (.inr rfl) BT6.out)
       have HB8 := Lib.hid (hgrow8.below (HB6.out.trans ((below_1 w6 (.cells #[.int .u32 a, .int .i64 l] 47)).mono HB6.out.size)) (HO1.out.alloc (.cells #[.int .u32 a, .int .i64 l] 47)).1 HB4.out.size (by have := HB6.out.size; simp; omega))
       have hs8 := hgrow8.size
       obtain ⟨z6, z7, x6, x7⟩ := row2 BT8.out
       obtain ⟨A8, c8, hv8⟩ := hown8.form
       obtain ⟨L8, hL8⟩ : ∃ L8, (K1 ++ [(a, l)]).length = L8 := ⟨_, rfl⟩
       rw [hL8] at hv8
       subst hv8
       clear hown8 hgrow8 hL8 hk8)
    | fail)
  have BT9 := Lib.hid (heap_setCell_same w8 T 0 _ _ (.slice A8 L8 c8) BT8.out)
  have hkk : ∀ {j : Nat} {o : Obj}, j < w4.heap.size → w8.heap[j]? = some o → (w8.setCell ⟨T, 0, none⟩ (.slice A8 L8 c8)).heap[j]? = some o := fun {j o} hj hbj => (heap_setCell_other _ _ _ _ (fun e => by have e' : j = T := e; omega)).trans hbj
  have B09 := Lib.hid (hkk (by omega) B08.out)
  have B19 := Lib.hid (hkk (by omega) B18.out)
  have B29 := Lib.hid (hkk (by omega) B28.out)
  have HO19 := Lib.hid (HO18.out.setT (u := .slice A8 L8 c8) (o := 0) BT8.out)
  have HO29 := Lib.hid (HO28.out.setT (u := .slice A8 L8 c8) (o := 0) BT8.out)
  have HB9 := Lib.hid (HB8.out.setCell (p := ⟨T, 0, none⟩) (by have := HG.out; simp only; omega) (.slice A8 L8 c8))
  have hs9 : w6.heap.size ≤ (w8.setCell ⟨T, 0, none⟩ (.slice A8 L8 c8)).heap.size := by simp at hs8; simp; omega
  clear hkk hs8 nT
  generalize w8.setCell ⟨T, 0, none⟩ (.slice A8 L8 c8) = w9 at *
  obtain ⟨y0, y1, _, _⟩ := row2 B09.out
  obtain ⟨y2, y3, _, _⟩ := row2 B19.out
  obtain ⟨y4, y5, _, _⟩ := row2 B29.out
  obtain ⟨y6, y7, _, _⟩ := row2 BT9.out
  have nT : ¬ T = w9.heap.size := by omega
  go_upto_region 7 with (first
    | (at_builtin; go_loud (refine wpList_append_int rfl _ _ 27 3 Tryz.underlying27 int_infoT rfl w4.heap.size _ _ rfl (HO29.out.alloc _) w9.heap.size v 3 rfl (heap_alloc_new w9 _) HWV.out hl2 (by simp; omega) ?_)
       intro vA wA hownA hgrowA
       have HO2A := Lib.hid hownA
       have HO1A := Lib.hid ((HO19.out.alloc (.cells #[.int .i64 v] 3)).beside (HO29.out.alloc (.cells #[.int .i64 v] 3)) hgrowA)
       have hkA : ∀ {j : Nat} {o : Obj}, (j < w4.heap.size ∨ j = T) → w9.heap[j]? = some o → wA.heap[j]? = some o := fun {j o} hj hbj => by
         rw [hgrowA.1.block j (by have := size_of_block hbj; simp; omega) (fun e => by have h1 := (own_blk HO29.out.1 j e.symm).1; have h2 := HTN2.out j e.symm; omega)]
         exact below_block (below_1 w9 _) (size_of_block hbj) hbj
       have B2A := Lib.hid (hkA (.inl (by omega)) B29.out)
       have BTA := Lib.hid (hkA (.inr rfl) BT9.out)
       have HBA := Lib.hid (hgrowA.below (HB9.out.trans ((below_1 w9 (.cells #[.int .i64 v] 3)).mono HB9.out.size)) (HO29.out.alloc (.cells #[.int .i64 v] 3)).1 HB4.out.size (by have := HB9.out.size; simp; omega))
       obtain ⟨z6, z7, x6, x7⟩ := row2 BTA.out
       obtain ⟨AA, cA, hvA⟩ := hownA.form
       obtain ⟨LA, hLA⟩ : ∃ LA, (K2 ++ [v]).length = LA := ⟨_, rfl⟩
       rw [hLA] at hvA
       subst hvA
       clear hownA hgrowA hLA hkA)
    | fail)
  have BTB := Lib.hid (heap_setCell_same wA T 1 _ _ (.slice AA LA cA) BTA.out)
  have B2B : Hid ((wA.setCell ⟨T, 1, none⟩ (.slice AA LA cA)).heap[g + 2]? = _) := Lib.hid ((heap_setCell_other _ _ _ _ (fun e => by have e' : g + 2 = T := e; omega)).trans B2A.out)
  have HO1B := Lib.hid (HO1A.out.setT (u := .slice AA LA cA) (o := 1) BTA.out)
  have HO2B := Lib.hid (HO2A.out.setT (u := .slice AA LA cA) (o := 1) BTA.out)
  have HBB := Lib.hid (HBA.out.setCell (p := ⟨T, 1, none⟩) (by have := HG.out; simp only; omega) (.slice AA LA cA))
  generalize wA.setCell ⟨T, 1, none⟩ (.slice AA LA cA) = wB at *
  obtain ⟨y6, y7, _, _⟩ := row2 BTB.out
  obtain ⟨y4, y5, x4, x5⟩ := row2 B2B.out
  have HE := Lib.hid (set2_block (.slice A8 L8 c8) (.slice AA LA cA) B2B.out)
  have HEND : Hid (PP (.returned (.tuple #[.agg #[.slice A8 L8 c8, .slice AA LA cA], .bool true])) ((wB.setCell ⟨g + 2, 0, none⟩ (.slice A8 L8 c8)).setCell ⟨g + 2, 1, none⟩ (.slice AA LA cA))) := Lib.hid (by
    rw [← HPP.out]
    have hgw := HG.out
    refine ⟨_, _, rfl, ?_, ?_, (HBB.out.setCell (p := ⟨g + 2, 0, none⟩) (by simp only; omega) _).setCell (p := ⟨g + 2, 1, none⟩) (by simp only; omega) _⟩
    · rw [HK2.out]; exact ((HO1B.out.setCell (by omega) _).setCell (by omega) _).monoT (by omega)
    · rw [HV2.out]; exact ((HO2B.out.setCell (by omega) _).setCell (by omega) _).mono (by omega))
  go_wp2
  exact putin_end HE.out rfl rfl rfl HEND.out
theorem PutIn_room {w : World} {A A' : Option Addr} {n c n' c' : Nat} {m : List (Nt × Int)} {a l v : Int} (hr : R1 rdNets w (.slice A n c) (keysM m)) (hv : R1 (RdSlice 1 (rdInt .i64)) w (.slice A' n' c') (valsM m)) (hm : m.length ≤ 64) (hx : ¬ (look m (a, l) = none ∧ 64 ≤ m.length)) (hwx : wfN (a, l)) (hwv : (Lit.int .i64 v).wf = true) :
    Calls Tryz.prog 27 #[.agg #[.slice A n c, .slice A' n' c'], .agg #[.int .u32 a, .int .i64 l], .int .i64 v] w (PutPost w (putM m (a, l) v)) := by
  by_cases h : look m (a, l) = none
  · exact PutIn_room_a hr hv hm h (fun h2 => hx ⟨h, h2⟩) hwx hwv
  · exact PutIn_room_b hr hv hm h hwx hwv
end Go.Proofs.YtgdlkjahlajcpaaGreatDoor
namespace Go.Proofs.YtgdlkjahlajcpaaGreatDoor
open Go.ChangeShapes Go.WideShapes Go.ChangeAt Go.RowKit
set_option linter.unusedVariables false
theorem RdSlice.mid {α : Type} {rd : Rdr α} {w : World} {ok : Nat → Prop} {b o n c : Nat} {l : List α} (h : RdSlice 1 rd w ok [.slice (some ⟨b, o, none⟩) n c] l) (i k : Nat) (hik : i + k ≤ n) (hb : ok b) :
    RdSlice 1 rd w ok [.slice (some ⟨b, o + i, none⟩) k (c - i)] ((l.drop i).take k) := by
  obtain ⟨e, h1, h2⟩ := h.len
  obtain ⟨A', c', e', _, _, h3⟩ := h
  simp only [List.cons.injEq, Value.slice.injEq, and_true] at e'
  obtain ⟨rfl, _, rfl⟩ := e'
  have hl : ((l.drop i).take k).length = k := by rw [List.length_take, List.length_drop]; omega
  refine ⟨some ⟨b, o + i, none⟩, c - i, by rw [hl], by rw [hl]; omega, by omega, fun h0 => ⟨b, o + i, rfl, hb, fun j x hj => ?_⟩⟩
  have hjk : j < k := by have := (List.getElem?_eq_some_iff.1 hj).1; omega
  have hj' : l[i + j]? = some x := by
    rw [List.getElem?_take_of_lt hjk, List.getElem?_drop] at hj; exact hj
  obtain ⟨b', o', e2, _, h4⟩ := h3 (by omega)
  simp only [Option.some.injEq, Addr.mk.injEq] at e2
  obtain ⟨rfl, rfl, _⟩ := e2
  obtain ⟨cs', h5, h6, h7⟩ := h4 _ _ hj'
  refine ⟨cs', h5, h6, fun m u hu => ?_⟩
  have := h7 m u hu
  rw [← this]
  congr 2
  omega
theorem RdSlice.pre {α : Type} {size : Nat} {rd : Rdr α} {w : World} {ok : Nat → Prop} {A : Option Addr} {n c : Nat} {l : List α} (h : RdSlice size rd w ok [.slice A n c] l) (k : Nat) (hk : k ≤ n) : RdSlice size rd w ok [.slice A k c] (l.take k) := by
  obtain ⟨e, h1, h2⟩ := h.len
  obtain ⟨A', c', e', _, _, h3⟩ := h
  simp only [List.cons.injEq, Value.slice.injEq, and_true] at e'
  obtain ⟨rfl, _, rfl⟩ := e'
  have hl : (l.take k).length = k := by rw [List.length_take]; omega
  refine ⟨A, c, by rw [hl], by omega, by omega, fun h0 => ?_⟩
  obtain ⟨b', o', e2, hb, h4⟩ := h3 (by omega)
  refine ⟨b', o', e2, hb, fun j x hj => h4 j x ?_⟩
  have hjk : j < k := by have := (List.getElem?_eq_some_iff.1 hj).1; omega
  rwa [List.getElem?_take_of_lt hjk] at hj
theorem RdSlice.from_ {α : Type} {rd : Rdr α} {w : World} {ok : Nat → Prop} {b o n c : Nat} {l : List α} (h : RdSlice 1 rd w ok [.slice (some ⟨b, o, none⟩) n c] l) (i : Nat) (hi : i ≤ n) (hb : ok b) :
    RdSlice 1 rd w ok [.slice (some ⟨b, o + i, none⟩) (n - i) (c - i)] (l.drop i) := by
  have e := h.len.1
  have := h.mid i (n - i) (by omega) hb
  rwa [List.take_of_length_le (by rw [List.length_drop]; omega)] at this
end Go.Proofs.YtgdlkjahlajcpaaGreatDoor
namespace Go.Proofs.YtgdlkjahlajcpaaGreatDoor
open Go.ChangeShapes Go.WideShapes Go.ChangeAt Go.RowKit
set_option linter.unusedVariables false
set_option linter.unusedSimpArgs false
theorem rless_c {w : World} {a n b m : Int} {r : Bool} (hr : lessB (a, n) (b, m) = r) (d : Nat) (os : Array Obj) :
    Calls Tryz.prog 31 #[.agg #[.int .u32 a, .int .i64 n], .agg #[.int .u32 b, .int .i64 m]] (Sort.grow (redrawn w d) os) fun e w'' => e = .returned (.bool r) ∧ ∃ p : Regrown, w'' = Sort.grow (redrawn w p.d) p.os :=
  Calls.regrown_of ((RLess_any a n b m _).mono fun e w' ⟨he, hb⟩ => ⟨by rw [he, hr], hb⟩)
theorem RdSlice.from2 {α : Type} {rd : Rdr α} {w : World} {ok : Nat → Prop} {b o n c : Nat} {l : List α} (h : RdSlice 2 rd w ok [.slice (some ⟨b, o, none⟩) n c] l) (i : Nat) (hi : i ≤ n) (hb : ok b) :
    RdSlice 2 rd w ok [.slice (some ⟨b, o + i * 2, none⟩) (n - i) (c - i)] (l.drop i) := by
  obtain ⟨e, h1, h2⟩ := h.len
  obtain ⟨A', c', e', _, _, h3⟩ := h
  simp only [List.cons.injEq, Value.slice.injEq, and_true] at e'
  obtain ⟨rfl, _, rfl⟩ := e'
  have hl : (l.drop i).length = n - i := by rw [List.length_drop]; omega
  refine ⟨some ⟨b, o + i * 2, none⟩, c - i, by rw [hl], by rw [hl]; omega, by omega, fun h0 => ⟨b, o + i * 2, rfl, hb, fun j x hj => ?_⟩⟩
  have hj' : l[i + j]? = some x := by rw [List.getElem?_drop] at hj; exact hj
  have hjn : i + j < l.length := (List.getElem?_eq_some_iff.1 hj').1
  obtain ⟨b', o', e2, _, h4⟩ := h3 (by omega)
  simp only [Option.some.injEq, Addr.mk.injEq] at e2
  obtain ⟨rfl, rfl, _⟩ := e2
  obtain ⟨cs', h5, h6, h7⟩ := h4 _ _ hj'
  refine ⟨cs', h5, h6, fun m u hu => ?_⟩
  have := h7 m u hu
  rw [← this]
  congr 2
  omega
theorem RdSlice.fromIf {α : Type} {rd : Rdr α} {w : World} {ok : Nat → Prop} {b n c m : Nat} {l : List α} (h : RdSlice 2 rd w ok [.slice (some ⟨b, 0, none⟩) n c] l) (i : Nat) (hi : i ≤ n) (hm : n - i = m) (hb : ok b) :
    RdSlice 2 rd w ok [.slice (if c = i then some ⟨b, 0, none⟩ else some ⟨b, i * 2, none⟩) m (c - i)] (l.drop i) := by
  subst hm
  have h2 := h.from2 i hi hb
  rw [Nat.zero_add] at h2
  by_cases hc : c = i
  · rw [if_pos hc]
    obtain ⟨e, k1, k2⟩ := h.len
    obtain ⟨A', c', e', q1, q2, h3⟩ := h2
    simp only [List.cons.injEq, Value.slice.injEq, and_true] at e'
    obtain ⟨_, e1, rfl⟩ := e'
    exact ⟨_, _, by rw [e1], q1, q2, fun h0 => absurd h0 (by rw [List.length_drop]; omega)⟩
  · rw [if_neg hc]; exact h2
theorem rd_belowO {w w' : World} {v : Value} {l : List Nt} (h : rdNets w (· < w.heap.size) [v] l) (hb : Below w.heap.size w w') : R1 rdNets w' v l := (show R1 rdNets w v l from h).below hb
theorem OwnN.mono1 {w : World} {base b' : Nat} {v : Value} {xs : List (Int × Int)} (h : OwnN w base v xs) (hb : b' ≤ base) : OwnN w b' v xs := by
  refine ⟨⟨h.1.1, ?_⟩, h.2⟩
  rcases h.1.2 with h2 | ⟨g, cap, cur, e, hg, h3⟩
  · exact .inl h2
  · exact .inr ⟨g, cap, cur, e, Nat.le_trans hb hg, h3⟩
theorem dropO {l : List Nt} {k : Nat} {x : Nt} (h : l[k]? = some x) : l.drop k = x :: l.drop (k + 1) := by
  obtain ⟨hk', e⟩ := List.getElem?_eq_some_iff.1 h
  rw [List.drop_eq_getElem_cons hk', e]
set_option maxRecDepth 100000 in
set_option maxHeartbeats 16000000 in
theorem Ordered_any {w : World} {A : Option Addr} {n c : Nat} {l : List Nt} (hr : R1 rdNets w (.slice A n c) l) (hl : l.length ≤ 1000) :
    Calls Tryz.prog 14 #[.slice A n c] w fun e w' => ∃ v, e = .returned v ∧ OwnN w' w.heap.size v (ordL l) ∧ Below w.heap.size w w' := by
  have hn : l.length = n := sl_form hr
  have hn1000 : n ≤ 1000 := by omega
  have HR := Lib.hid hr
  have HN := Lib.hid hn
  obtain ⟨O, hO⟩ : ∃ O, ordL l = O := ⟨_, rfl⟩
  have HO := Lib.hid hO
  rw [hO]
  clear hr hl hn hO
  go_enter Tryz.func14, Tryz.ntmps14
  go_wp2
  go_loopw [3, 4, 5, 6] (fun ov iv _ _ wr => ∃ (i : Nat) (A3 : Option Addr) (c3 : Nat) (o : List Nt), i ≤ n ∧ iv = .int .i64 i ∧ ov = .slice A3 i c3 ∧ Hid ((l.drop i).foldl (fun o x => insN x o) o = O) ∧ Hid (OwnN wr w.heap.size (.slice A3 i c3) o) ∧ Hid (o.length = i) ∧ Hid (Below w.heap.size w wr) ∧ Hid (i = 0 → A3 = none ∧ c3 = 0)) (fun _ iv _ _ _ => n - (intOf iv).toNat)
  case atStart => exact ⟨0, none, 0, [], Nat.zero_le _, rfl, rfl, HO, Lib.hid (OwnN.nil_ _ _), Lib.hid rfl, Lib.hid (Below.refl _ _), Lib.hid (fun _ => ⟨rfl, rfl⟩)⟩
  case round =>
    clear HO
    obtain ⟨i, A3, c3, o, hi, rfl, rfl, HF, HOW, HLEN, HB, HNIL⟩ := hrel
    by_cases hin : i < n
    · have HRr := Lib.hid (HR.out.below HB.out)
      obtain ⟨b, p, ⟨x, x'⟩, rfl, hb, HX, hwf, c0, c1⟩ := RdSlice.atN HR.out hin
      have d0 := (HB.out.cell (p := ⟨b, p + i * 2, none⟩) hb).trans c0
      have d1 := (HB.out.cell (p := ⟨b, p + i * 2 + 1, none⟩) hb).trans c1
      have D0 := Lib.hid d0
      have D1 := Lib.hid d1
      have hbr : b < wr.heap.size := by have := HB.out.size; omega
      have i0 : (0 : Int) ≤ (i : Int) := by omega
      have i1 : (i : Int) < (n : Int) := by omega
      have HWF := Lib.hid hwf
      have HD := Lib.hid (dropO HX.out)
      have HINS := Lib.hid (ins_at (x, x') o)
      have HF2 : Hid ((l.drop (i + 1)).foldl (fun o x => insN x o) (insN (x, x') o) = O) := Lib.hid (by rw [← HF.out, HD.out]; rfl)
      have HLE := Lib.hid (ahead_le (x, x') o)
      have s1 := HB.out.size
      clear c0 c1 hwf d0 d1
      by_cases hi0 : i = 0
      · subst hi0
        obtain ⟨rfl, rfl⟩ := HNIL.out rfl
        obtain rfl : o = [] := List.length_eq_zero_iff.1 HLEN.out
        go_wp2
        go_loopw [5] (fun kv wx => kv = .int .i64 0 ∧ wx = wr) (fun _ _ => 0)
        case atStart => exact ⟨rfl, rfl⟩
        case round =>
          obtain ⟨rfl, rfl⟩ := hrel
          go_wp2
          refine wp_region_quiet_below (by kernel_rfl) (by kernel_rfl) ?_
          repeat (go_big_quiet_step (fail))
          refine wpQuiet_nil ?_
          intro w6 hw'
          obtain ⟨⟨dq, osq⟩, hw''⟩ := hw'
          have hb6 := (show Below wr.heap.size wr w6 by rw [hw'']; exact below_regrown wr dq osq)
          have HB6 := Lib.hid (HB.out.trans (hb6.mono s1))
          have HZ6 := Lib.hid (HB6.out.size)
          have HOR := Lib.hid (show R1 rdNets w6 (.slice none 0 0) [] from (HOW.out.below hb6).read)
          have HT1 := Lib.hid (show R1 rdNets w6 (.slice none 0 0) (([] : List Nt).take 0) from (OwnN.nil_ w6 0).read)
          have HT2 := Lib.hid (show rdNets w6 (· < w6.heap.size) [.slice none 0 0] (([] : List Nt).drop 0) from (OwnN.nil_ w6 0).read)
          have d0 := (hb6.cell (p := ⟨b, p, none⟩) hbr).trans D0.out
          have d1 := (hb6.cell (p := ⟨b, p + 1, none⟩) hbr).trans D1.out
          have hbr6 := Nat.lt_of_lt_of_le hbr hb6.size
          have D06 := Lib.hid d0
          have D16 := Lib.hid d1
          have HL1 : Hid (([] : List Nt).length + (([] : List Nt).take 0).length ≤ 8796093022000) := Lib.hid (by rw [List.length_take, HLEN.out]; simp <;> omega)
          have HL2 : Hid (([] ++ ([] : List Nt).take 0 : List Nt).length ≤ 8796093022000) := Lib.hid (by rw [List.nil_append, List.length_take, HLEN.out]; omega)
          have HL3 : Hid ((([] ++ ([] : List Nt).take 0 : List Nt) ++ [(x, x')]).length + (([] : List Nt).drop 0).length ≤ 8796093022000) := Lib.hid (by rw [List.nil_append, List.length_append, List.length_take, List.length_drop, HLEN.out]; simp <;> omega)
          have HLL : Hid (((([] ++ ([] : List Nt).take 0 : List Nt) ++ [(x, x')]) ++ ([] : List Nt).drop 0).length = 0 + 1) := Lib.hid (by rw [List.nil_append, List.length_append, List.length_append, List.length_take, List.length_drop, HLEN.out]; simp <;> omega)
          have HEQ : Hid (((([] ++ ([] : List Nt).take 0 : List Nt) ++ [(x, x')]) ++ ([] : List Nt).drop 0) = insN (x, x') []) := Lib.hid (by rw [HINS.out, show aheadN (x, x') [] = 0 from rfl]; simp)
          have HE0 := Lib.hid (OwnN.nil_ w6 w6.heap.size)
          clear hb6 hw''
          go_upto_region 10 with (first
            | (at_builtin; go_loud (refine wpList_append_nets rfl _ _ 26 Tryz.underlying26 rfl w6.heap.size _ _ rfl HE0.out _ _ _ _ rfl HT1.out HL1.out (Nat.le_refl _) ?_); intro v7 w7 hown7 hgrow7; have hb7 := hgrow7.below (Below.refl w6.heap.size w6) HE0.out.1 (Nat.le_refl _) (Nat.le_refl _); have HB7 := Lib.hid hb7; have HO7 := Lib.hid hown7; have d0 := (hb7.cell (p := ⟨b, p, none⟩) hbr6).trans D06.out; have d1 := (hb7.cell (p := ⟨b, p + 1, none⟩) hbr6).trans D16.out; obtain ⟨A7, c7, rfl⟩ := hown7.form; obtain ⟨L7, hL7⟩ : ∃ L7, ([] ++ ([] : List Nt).take 0 : List Nt).length = L7 := ⟨_, rfl⟩; rw [hL7] at HO7 ⊢; have s7 := hb7.size; clear hown7 hgrow7 hb7 hL7)
            | fail)
          go_upto_region 11 with (first
            | (at_builtin; go_loud (refine wpList_append_net rfl _ _ 26 Tryz.underlying26 rfl w6.heap.size _ _ rfl (HO7.out.alloc _) w7.heap.size (x, x') 47 rfl (heap_alloc_new w7 _) HWF.out HL2.out (by simp; omega) ?_); intro v8 w8 hown8 hgrow8; have hb8 := hgrow8.below (HB7.out.trans ((below_1 w7 (.cells #[.int .u32 x, .int .i64 x'] 47)).mono s7)) (HO7.out.alloc (.cells #[.int .u32 x, .int .i64 x'] 47)).1 (Nat.le_refl _) (by simp; omega); have HB8 := Lib.hid hb8; have HO8 := Lib.hid hown8; have HT28 := Lib.hid (rd_belowO HT2.out hb8); have s8 := hb8.size; obtain ⟨A8, c8, rfl⟩ := hown8.form; obtain ⟨L8, hL8⟩ : ∃ L8, (([] ++ ([] : List Nt).take 0 : List Nt) ++ [(x, x')]).length = L8 := ⟨_, rfl⟩; rw [hL8] at HO8 ⊢; clear hown8 hgrow8 hb8 hL8)
            | fail)
          go_wp2_with (first
            | (at_builtin; go_loud (refine wpList_append_nets rfl _ _ 26 Tryz.underlying26 rfl w6.heap.size _ _ rfl HO8.out _ _ _ _ rfl HT28.out HL3.out s8 ?_); intro v9 w9 hown9 hgrow9; have hb9 := hgrow9.below HB8.out HO8.out.1 (Nat.le_refl _) s8; have HB9 := Lib.hid (HB6.out.trans (hb9.mono HB6.out.size)); obtain ⟨A9, c9, rfl⟩ := hown9.form; rw [HLL.out] at hown9 ⊢; have HO9 := Lib.hid hown9; clear hown9 hgrow9 hb9)
            | fail)
          go_roundw
          case rel => exact ⟨0 + 1, A9, c9, insN (x, x') [], by omega, by go_num, rfl, HF2, Lib.hid (by rw [← HEQ.out]; exact HO9.out.mono1 HB6.out.size), Lib.hid (by rw [← HEQ.out]; exact HLL.out), HB9, Lib.hid (fun h => absurd h (by omega))⟩
          case measure => simp [intOf]; try omega
      · have hipos : 0 < i := by omega
        obtain ⟨g3, cap3, e3, hg3, hgl3, hcap3, -⟩ := own_pos HOW.out.1 (by rw [HLEN.out]; exact hipos)
        simp only [Value.slice.injEq] at e3
        obtain ⟨rfl, -, rfl⟩ := e3
        have HC3 : Hid (i ≤ c3) := Lib.hid (by rw [← HLEN.out]; exact hcap3)
        clear hcap3
        go_wp2
        go_loopw [5] (fun kv wx => ∃ k : Nat, k ≤ i ∧ kv = .int .i64 k ∧ Hid (aheadN (x, x') o = k + aheadN (x, x') (o.drop k)) ∧ Hid (Below wr.heap.size wr wx)) (fun kv _ => i - (intOf kv).toNat)
        case atStart => exact ⟨0, Nat.zero_le _, rfl, Lib.hid (by simp), Lib.hid (Below.refl _ _)⟩
        case round =>
          obtain ⟨k, hk, rfl, HKA, HBX⟩ := hrel
          have hbx := HBX.out
          have HBXW := Lib.hid (HB.out.trans (hbx.mono s1))
          have sx := HBXW.out.size
          have hrx := (HOW.out.below hbx).read
          have d0 := (hbx.cell (p := ⟨b, p + i * 2, none⟩) hbr).trans D0.out
          have d1 := (hbx.cell (p := ⟨b, p + i * 2 + 1, none⟩) hbr).trans D1.out
          have j0 := fun d os => cell_regrown d0 d os
          have j1 := fun d os => cell_regrown d1 d os
          clear d0 d1 hbx
          by_cases hki : k < i
          · obtain ⟨b2, p2, ⟨y, y'⟩, e2, hb2, HY, -, f0, f1⟩ := RdSlice.atN hrx hki
            simp only [Option.some.injEq, Addr.mk.injEq, and_true] at e2
            obtain ⟨rfl, rfl⟩ := e2
            have j2 := fun d os => cell_regrown f0 d os
            have j3 := fun d os => cell_regrown f1 d os
            have i2 : (0 : Int) ≤ (k : Int) := by omega
            have i3 : (k : Int) < (i : Int) := by omega
            have i3' : k < i := hki
            have HDO := Lib.hid (dropO HY.out)
            obtain ⟨r, hr⟩ : ∃ r, lessB (y, y') (x, x') = r := ⟨_, rfl⟩
            have HLS := Lib.hid hr
            simp only [Nat.zero_add] at j2 j3
            clear f0 f1 hr hrx
            cases r with
            | true =>
              have HKA2 : Hid (aheadN (x, x') o = k + 1 + aheadN (x, x') (o.drop (k + 1))) := Lib.hid (by
                rw [HKA.out, HDO.out]
                show k + (if lessB (y, y') (x, x') = true then aheadN (x, x') (o.drop (k + 1)) + 1 else 0) = _
                rw [if_pos HLS.out]; omega)
              go_wp2
              refine wp_region_quiet_below (by kernel_rfl) (by kernel_rfl) ?_
              repeat (go_big_quiet_step (first | (with_reducible exact rless_c HLS.out _ _) | fail))
              refine wpQuiet_nil ?_
              intro w6 hw'
              obtain ⟨⟨dq, osq⟩, hw''⟩ := hw'
              have hb6i := (show Below wr.heap.size wr w6 by rw [hw'']; exact below_regrown wr dq osq)
              have HBX6 := Lib.hid (HBX.out.trans (hb6i.mono HBX.out.size))
              clear hw'' hb6i j0 j1 j2 j3
              go_wp2
              go_roundw
              case rel => exact ⟨k + 1, by omega, by go_num, HKA2, HBX6⟩
              case measure => simp [intOf]; try omega
            | false =>
              have HKE : Hid (aheadN (x, x') o = k) := Lib.hid (by
                rw [HKA.out, HDO.out]
                show k + (if lessB (y, y') (x, x') = true then aheadN (x, x') (o.drop (k + 1)) + 1 else 0) = _
                rw [if_neg (by rw [HLS.out]; decide)]; rfl)
              go_wp2
              refine wp_region_quiet_below (by kernel_rfl) (by kernel_rfl) ?_
              repeat (go_big_quiet_step (first | (with_reducible exact rless_c HLS.out _ _) | fail))
              refine wpQuiet_nil ?_
              intro w6 hw'
              obtain ⟨⟨dq, osq⟩, hw''⟩ := hw'
              have hb6i := (show Below wr.heap.size wr w6 by rw [hw'']; exact below_regrown wr dq osq)
              have hb6 := HBX.out.trans (hb6i.mono HBX.out.size)
              have HB6 := Lib.hid (HB.out.trans (hb6.mono s1))
              have hg36 : g3 < w6.heap.size := by have := hb6.size; omega
              have hkc : k ≤ c3 := by have := HC3.out; omega
              clear hb6i j0 j1 j2 j3
              have HZ6 := Lib.hid (HB6.out.size)
              have HOR := Lib.hid (show R1 rdNets w6 (.slice (some ⟨g3, 0, none⟩) i c3) o from (HOW.out.below hb6).read)
              have HT1 := Lib.hid (show R1 rdNets w6 (.slice (some ⟨g3, 0, none⟩) k c3) (o.take k) from RdSlice.pre HOR.out k (by omega))
              have HT2 := Lib.hid (show rdNets w6 (· < w6.heap.size) [.slice (if c3 = k then some ⟨g3, 0, none⟩ else some ⟨g3, k * 2, none⟩) (i - k) (c3 - k)] (o.drop k) from RdSlice.fromIf HOR.out k (by omega) rfl hg36)
              have d0 := (hb6.cell (p := ⟨b, p + i * 2, none⟩) hbr).trans D0.out
              have d1 := (hb6.cell (p := ⟨b, p + i * 2 + 1, none⟩) hbr).trans D1.out
              have hbr6 := Nat.lt_of_lt_of_le hbr hb6.size
              have D06 := Lib.hid d0
              have D16 := Lib.hid d1
              have HL1 : Hid (([] : List Nt).length + (o.take k).length ≤ 8796093022000) := Lib.hid (by rw [List.length_take, HLEN.out]; simp <;> omega)
              have HL2 : Hid (([] ++ o.take k : List Nt).length ≤ 8796093022000) := Lib.hid (by rw [List.nil_append, List.length_take, HLEN.out]; omega)
              have HL3 : Hid ((([] ++ o.take k : List Nt) ++ [(x, x')]).length + (o.drop k).length ≤ 8796093022000) := Lib.hid (by rw [List.nil_append, List.length_append, List.length_take, List.length_drop, HLEN.out]; simp <;> omega)
              have HLL : Hid (((([] ++ o.take k : List Nt) ++ [(x, x')]) ++ o.drop k).length = i + 1) := Lib.hid (by rw [List.nil_append, List.length_append, List.length_append, List.length_take, List.length_drop, HLEN.out]; simp <;> omega)
              have HEQ : Hid (((([] ++ o.take k : List Nt) ++ [(x, x')]) ++ o.drop k) = insN (x, x') o) := Lib.hid (by rw [HINS.out, HKE.out]; simp)
              have HE0 := Lib.hid (OwnN.nil_ w6 w6.heap.size)
              clear hb6 hw''
              go_upto_region 10 with (first
                | (at_builtin; go_loud (refine wpList_append_nets rfl _ _ 26 Tryz.underlying26 rfl w6.heap.size _ _ rfl HE0.out _ _ _ _ rfl HT1.out HL1.out (Nat.le_refl _) ?_); intro v7 w7 hown7 hgrow7; have hb7 := hgrow7.below (Below.refl w6.heap.size w6) HE0.out.1 (Nat.le_refl _) (Nat.le_refl _); have HB7 := Lib.hid hb7; have HO7 := Lib.hid hown7; have d0 := (hb7.cell (p := ⟨b, p + i * 2, none⟩) hbr6).trans D06.out; have d1 := (hb7.cell (p := ⟨b, p + i * 2 + 1, none⟩) hbr6).trans D16.out; obtain ⟨A7, c7, rfl⟩ := hown7.form; obtain ⟨L7, hL7⟩ : ∃ L7, ([] ++ o.take k : List Nt).length = L7 := ⟨_, rfl⟩; rw [hL7] at HO7 ⊢; have s7 := hb7.size; clear hown7 hgrow7 hb7 hL7)
                | fail)
              go_upto_region 11 with (first
                | (at_builtin; go_loud (refine wpList_append_net rfl _ _ 26 Tryz.underlying26 rfl w6.heap.size _ _ rfl (HO7.out.alloc _) w7.heap.size (x, x') 47 rfl (heap_alloc_new w7 _) HWF.out HL2.out (by simp; omega) ?_); intro v8 w8 hown8 hgrow8; have hb8 := hgrow8.below (HB7.out.trans ((below_1 w7 (.cells #[.int .u32 x, .int .i64 x'] 47)).mono s7)) (HO7.out.alloc (.cells #[.int .u32 x, .int .i64 x'] 47)).1 (Nat.le_refl _) (by simp; omega); have HB8 := Lib.hid hb8; have HO8 := Lib.hid hown8; have HT28 := Lib.hid (rd_belowO HT2.out hb8); have s8 := hb8.size; obtain ⟨A8, c8, rfl⟩ := hown8.form; obtain ⟨L8, hL8⟩ : ∃ L8, (([] ++ o.take k : List Nt) ++ [(x, x')]).length = L8 := ⟨_, rfl⟩; rw [hL8] at HO8 ⊢; clear hown8 hgrow8 hb8 hL8)
                | fail)
              go_wp2_with (first
                | (at_builtin; go_loud (refine wpList_append_nets rfl _ _ 26 Tryz.underlying26 rfl w6.heap.size _ _ rfl HO8.out _ _ _ _ rfl HT28.out HL3.out s8 ?_); intro v9 w9 hown9 hgrow9; have hb9 := hgrow9.below HB8.out HO8.out.1 (Nat.le_refl _) s8; have HB9 := Lib.hid (HB6.out.trans (hb9.mono HB6.out.size)); obtain ⟨A9, c9, rfl⟩ := hown9.form; rw [HLL.out] at hown9 ⊢; have HO9 := Lib.hid hown9; clear hown9 hgrow9 hb9)
                | fail)
              go_roundw
              case rel => exact ⟨i + 1, A9, c9, insN (x, x') o, by omega, by go_num, rfl, HF2, Lib.hid (by rw [← HEQ.out]; exact HO9.out.mono1 HB6.out.size), Lib.hid (by rw [← HEQ.out]; exact HLL.out), HB9, Lib.hid (fun h => absurd h (by omega))⟩
              case measure => simp [intOf]; try omega
          · obtain rfl : k = i := by omega
            have HKE : Hid (aheadN (x, x') o = k) := Lib.hid (by
              rw [HKA.out, List.drop_eq_nil_of_le (by rw [HLEN.out]; exact Nat.le_refl _)]; rfl)
            have t0 : decide ((k : Int) < (k : Int)) = false := by simp
            clear hrx hki
            go_wp2
            refine wp_region_quiet_below (by kernel_rfl) (by kernel_rfl) ?_
            repeat (go_big_quiet_step (first | fail))
            refine wpQuiet_nil ?_
            intro w6 hw'
            obtain ⟨⟨dq, osq⟩, hw''⟩ := hw'
            have hb6i := (show Below wr.heap.size wr w6 by rw [hw'']; exact below_regrown wr dq osq)
            have hb6 := HBX.out.trans (hb6i.mono HBX.out.size)
            have HB6 := Lib.hid (HB.out.trans (hb6.mono s1))
            have hg36 : g3 < w6.heap.size := by have := hb6.size; omega
            have hkc : k ≤ c3 := by have := HC3.out; omega
            clear hb6i j0 j1 
            have HZ6 := Lib.hid (HB6.out.size)
            have HOR := Lib.hid (show R1 rdNets w6 (.slice (some ⟨g3, 0, none⟩) k c3) o from (HOW.out.below hb6).read)
            have HT1 := Lib.hid (show R1 rdNets w6 (.slice (some ⟨g3, 0, none⟩) k c3) (o.take k) from RdSlice.pre HOR.out k (by omega))
            have HT2 := Lib.hid (show rdNets w6 (· < w6.heap.size) [.slice (if c3 = k then some ⟨g3, 0, none⟩ else some ⟨g3, k * 2, none⟩) 0 (c3 - k)] (o.drop k) from RdSlice.fromIf HOR.out k (by omega) (Nat.sub_self k) hg36)
            have d0 := (hb6.cell (p := ⟨b, p + k * 2, none⟩) hbr).trans D0.out
            have d1 := (hb6.cell (p := ⟨b, p + k * 2 + 1, none⟩) hbr).trans D1.out
            have hbr6 := Nat.lt_of_lt_of_le hbr hb6.size
            have D06 := Lib.hid d0
            have D16 := Lib.hid d1
            have HL1 : Hid (([] : List Nt).length + (o.take k).length ≤ 8796093022000) := Lib.hid (by rw [List.length_take, HLEN.out]; simp <;> omega)
            have HL2 : Hid (([] ++ o.take k : List Nt).length ≤ 8796093022000) := Lib.hid (by rw [List.nil_append, List.length_take, HLEN.out]; omega)
            have HL3 : Hid ((([] ++ o.take k : List Nt) ++ [(x, x')]).length + (o.drop k).length ≤ 8796093022000) := Lib.hid (by rw [List.nil_append, List.length_append, List.length_take, List.length_drop, HLEN.out]; simp <;> omega)
            have HLL : Hid (((([] ++ o.take k : List Nt) ++ [(x, x')]) ++ o.drop k).length = k + 1) := Lib.hid (by rw [List.nil_append, List.length_append, List.length_append, List.length_take, List.length_drop, HLEN.out]; simp <;> omega)
            have HEQ : Hid (((([] ++ o.take k : List Nt) ++ [(x, x')]) ++ o.drop k) = insN (x, x') o) := Lib.hid (by rw [HINS.out, HKE.out]; simp)
            have HE0 := Lib.hid (OwnN.nil_ w6 w6.heap.size)
            clear hb6 hw''
            go_upto_region 10 with (first
              | (at_builtin; go_loud (refine wpList_append_nets rfl _ _ 26 Tryz.underlying26 rfl w6.heap.size _ _ rfl HE0.out _ _ _ _ rfl HT1.out HL1.out (Nat.le_refl _) ?_); intro v7 w7 hown7 hgrow7; have hb7 := hgrow7.below (Below.refl w6.heap.size w6) HE0.out.1 (Nat.le_refl _) (Nat.le_refl _); have HB7 := Lib.hid hb7; have HO7 := Lib.hid hown7; have d0 := (hb7.cell (p := ⟨b, p + k * 2, none⟩) hbr6).trans D06.out; have d1 := (hb7.cell (p := ⟨b, p + k * 2 + 1, none⟩) hbr6).trans D16.out; obtain ⟨A7, c7, rfl⟩ := hown7.form; obtain ⟨L7, hL7⟩ : ∃ L7, ([] ++ o.take k : List Nt).length = L7 := ⟨_, rfl⟩; rw [hL7] at HO7 ⊢; have s7 := hb7.size; clear hown7 hgrow7 hb7 hL7)
              | fail)
            go_upto_region 11 with (first
              | (at_builtin; go_loud (refine wpList_append_net rfl _ _ 26 Tryz.underlying26 rfl w6.heap.size _ _ rfl (HO7.out.alloc _) w7.heap.size (x, x') 47 rfl (heap_alloc_new w7 _) HWF.out HL2.out (by simp; omega) ?_); intro v8 w8 hown8 hgrow8; have hb8 := hgrow8.below (HB7.out.trans ((below_1 w7 (.cells #[.int .u32 x, .int .i64 x'] 47)).mono s7)) (HO7.out.alloc (.cells #[.int .u32 x, .int .i64 x'] 47)).1 (Nat.le_refl _) (by simp; omega); have HB8 := Lib.hid hb8; have HO8 := Lib.hid hown8; have HT28 := Lib.hid (rd_belowO HT2.out hb8); have s8 := hb8.size; obtain ⟨A8, c8, rfl⟩ := hown8.form; obtain ⟨L8, hL8⟩ : ∃ L8, (([] ++ o.take k : List Nt) ++ [(x, x')]).length = L8 := ⟨_, rfl⟩; rw [hL8] at HO8 ⊢; clear hown8 hgrow8 hb8 hL8)
              | fail)
            go_wp2_with (first
              | (at_builtin; go_loud (refine wpList_append_nets rfl _ _ 26 Tryz.underlying26 rfl w6.heap.size _ _ rfl HO8.out _ _ _ _ rfl HT28.out HL3.out s8 ?_); intro v9 w9 hown9 hgrow9; have hb9 := hgrow9.below HB8.out HO8.out.1 (Nat.le_refl _) s8; have HB9 := Lib.hid (HB6.out.trans (hb9.mono HB6.out.size)); obtain ⟨A9, c9, rfl⟩ := hown9.form; rw [HLL.out] at hown9 ⊢; have HO9 := Lib.hid hown9; clear hown9 hgrow9 hb9)
              | fail)
            go_roundw
            case rel => exact ⟨k + 1, A9, c9, insN (x, x') o, by omega, by go_num, rfl, HF2, Lib.hid (by rw [← HEQ.out]; exact HO9.out.mono1 HB6.out.size), Lib.hid (by rw [← HEQ.out]; exact HLL.out), HB9, Lib.hid (fun h => absurd h (by omega))⟩
            case measure => simp [intOf]; try omega
    · have HE : Hid (O = o) := Lib.hid (by
        rw [← HF.out, List.drop_eq_nil_of_le (by rw [HN.out]; omega)]; rfl)
      go_wp2
      go_ret
      exact ⟨_, rfl, by rw [HE.out]; exact HOW.out, HB.out⟩
end Go.Proofs.YtgdlkjahlajcpaaGreatDoor
