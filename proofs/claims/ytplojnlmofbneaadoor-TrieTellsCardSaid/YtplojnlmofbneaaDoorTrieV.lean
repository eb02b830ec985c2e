/- The reference's tables: PutIn. -/
import Derived.Test.YtplojnlmofbneaaDoorTrieU
namespace Go.Proofs.YtplojnlmofbneaaDoor
open Go.ChangeShapes Go.WideShapes Go.ChangeAt Go.RowKit
set_option linter.unusedVariables false
set_option linter.unusedSimpArgs false
theorem putin_end {W : World} {R : Nat} {a : Act} {v1 v2 v3 : Value} {t : TypeId} {K : Ending → World → Prop} (h : W.heap[R]? = some (.cells #[v1, v2] t (0, 0))) (h2 : a.tmps[6]?.getD undef = .pointer (some ⟨R, 0, none⟩)) (h3 : a.tmps[7]?.getD undef = v3) (hd : a.defers = [])
    (hK : K (.returned (.tuple #[.agg #[v1, v2], v3])) W) : bodyPost Tryd.prog Tryd.f19 K .ret a W := by
  have e0 : W.cell? ⟨R, 0, none⟩ = some v1 := by rw [cell_of_row _ R _ _ _ (0, 0) h]; rfl
  have e1 : W.cell? ⟨R, 1, none⟩ = some v2 := by rw [cell_of_row _ R _ _ _ (0, 0) h]; rfl
  exact bodyPost_ret (by simp [results, Tryd.results19, go_sem, h2, h3, e0, e1]) hd hK
theorem DropPost.forms {w w' : World} {m : List (Nt × Int)} {e : Ending} (h : DropPost w m e w') : ∃ A1 L1 c1 A2 L2 c2, e = .returned (.agg #[.slice A1 L1 c1, .slice A2 L2 c2]) ∧ OwnN w' w.heap.size (.slice A1 L1 c1) (keysM m) ∧ OwnI 3 w' w.heap.size (.slice A2 L2 c2) (valsM m) ∧ Below w.heap.size w w' := by
  obtain ⟨v1, v2, h1, h2, h3, h4⟩ := h
  obtain ⟨A1, c1, rfl⟩ := h2.form
  obtain ⟨A2, c2, rfl⟩ := h3.form
  exact ⟨A1, _, c1, A2, _, c2, h1, h2, h3, h4⟩
def PutPost (w : World) (m : List (Nt × Int)) (e : Ending) (w' : World) : Prop := ∃ v1 v2, e = .returned (.tuple #[.agg #[v1, v2], .bool true]) ∧ OwnN w' w.heap.size v1 (keysM m) ∧ OwnI 3 w' w.heap.size v2 (valsM m) ∧ Below w.heap.size w w'
/-- a store into a block of a table: no row's block -/
theorem own_setT {w : World} {base e size n T o : Nat} {v u : Value} {xs : List Value} {cs : Array Value} (h : w.ownsRow base e size v n xs) (hT : w.heap[T]? = some (.cells cs 40 (0, 0))) (he : e ≠ 40) : (w.setCell ⟨T, o, none⟩ u).ownsRow base e size v n xs := by
  refine h.kept (row := some T) ⟨rfl, rfl, rfl, by simp, fun k hk hne => heap_setCell_other _ _ _ _ (fun e => hne (by rw [e]))⟩ ?_
  rcases h.2 with ⟨rfl, _⟩ | ⟨g1, cap1, cur1, rfl, _, hb1, _⟩
  · exact .inl rfl
  · right
    intro e1
    have : g1 = T := by simpa [Value.ownBlock] using e1
    subst this
    rw [hb1] at hT
    cases hT
    exact he rfl
theorem OwnN.setT {w : World} {base T o : Nat} {v u : Value} {xs : List (Int × Int)} {cs : Array Value} (h : OwnN w base v xs) (hT : w.heap[T]? = some (.cells cs 40 (0, 0))) : OwnN (w.setCell ⟨T, o, none⟩ u) base v xs := ⟨own_setT h.1 hT (by decide), h.2⟩
theorem OwnI.setT {w : World} {base T o : Nat} {v u : Value} {xs : List Int} {cs : Array Value} (h : OwnI 3 w base v xs) (hT : w.heap[T]? = some (.cells cs 40 (0, 0))) : OwnI 3 (w.setCell ⟨T, o, none⟩ u) base v xs := ⟨own_setT h.1 hT (by decide), h.2⟩
theorem PutIn_full {w : World} {A A' : Option Addr} {n c n' c' : Nat} {m : List (Nt × Int)} {a l v : Int} (hr : R1 rdNets w (.slice A n c) (keysM m)) (hv : R1 (RdSlice 1 (rdInt .i64)) w (.slice A' n' c') (valsM m)) (hm : m.length ≤ 64) (hx : look m (a, l) = none) (h64 : 64 ≤ m.length) :
    Calls Tryd.prog 19 #[.agg #[.slice A n c, .slice A' n' c'], .agg #[.int .u32 a, .int .i64 l], .int .i64 v] w fun e w' => e = .returned (.tuple #[.agg #[.slice A n c, .slice A' n' c'], .bool false]) ∧ Below w.heap.size w w' := by
  have hn : m.length = n := by have := (RdSlice.len hr).1; rw [this]; simp [keysM]
  have hn' : n' = n := by have := (RdSlice.len hv).1; rw [this, ← hn]; simp [valsM]
  subst hn'
  have hn1000 : n' ≤ 1000 := by omega
  have HR := Lib.hid hr
  have HV := Lib.hid hv
  have HM := Lib.hid hm
  have HN := Lib.hid hn
  obtain ⟨g, hg⟩ : ∃ g, w.heap.size = g := ⟨_, rfl⟩
  have HG := Lib.hid hg
  have HP : Hid (placeI (a, l) (keysM m) 0 = -1) := Lib.hid (place_none hx 0)
  have t64 : (64 : Int) ≤ (n' : Int) := by omega
  have t64' : 64 ≤ n' := by omega
  clear hr hv hm hn hx h64
  go_enter Tryd.func19, Tryd.ntmps19
  have hb3 := below_3 w (.cells #[.slice A n' c, .slice A' n' c'] 40) (.cells #[.int .u32 a, .int .i64 l] 32) (.cells #[.slice none 0 0, .slice none 0 0] 40)
  have HR3 := Lib.hid (HR.out.below hb3)
  have HV3 := Lib.hid (HV.out.below hb3)
  have HB3 := Lib.hid hb3
  have hbl := box3 (w := w) (o1 := .cells #[.slice A n' c, .slice A' n' c'] 40) (o2 := .cells #[.int .u32 a, .int .i64 l] 32) (o3 := .cells #[.slice none 0 0, .slice none 0 0] 40) (Below.refl _ _)
  rw [hg] at hbl
  have HBL := Lib.hid hbl
  have HZ3 : Hid ((((w.alloc (.cells #[.slice A n' c, .slice A' n' c'] 40)).alloc (.cells #[.int .u32 a, .int .i64 l] 32)).alloc (.cells #[.slice none 0 0, .slice none 0 0] 40)).heap.size = g + 3) := Lib.hid (by simp; exact hg)
  clear hb3 hbl
  go_wp2_with fail
  go_at_call 16
  (with_reducible refine (Places_any HR3.out).mono ?_)
  rw [HP.out]
  rintro e w4 ⟨rfl, hb4⟩
  have hs4 := hb4.size
  have B0 := Lib.hid (below_block hb4 (by rw [HZ3.out]; omega) HBL.out.1)
  have B1 := Lib.hid (below_block hb4 (by rw [HZ3.out]; omega) HBL.out.2.1)
  have B2 := Lib.hid (below_block hb4 (by rw [HZ3.out]; omega) HBL.out.2.2)
  have HB4 := Lib.hid (HB3.out.trans (hb4.mono HB3.out.size))
  have HR4 := Lib.hid (HR3.out.below hb4)
  have HV4 := Lib.hid (HV3.out.below hb4)
  have hz4 : g + 3 ≤ w4.heap.size := by have := HZ3.out; omega
  obtain ⟨y0, y1, _, _⟩ := row2 B0.out
  obtain ⟨y2, y3, _, _⟩ := row2 B1.out
  obtain ⟨y4, y5, _, _⟩ := row2 B2.out
  clear hb4 hs4
  try rw [hg]
  go_wp2
  have HE := Lib.hid (set2_block (.slice A n' c) (.slice A' n' c') B2.out)
  have HBE : Hid (Below w.heap.size w ((w4.setCell ⟨g + 2, 0, none⟩ (.slice A n' c)).setCell ⟨g + 2, 1, none⟩ (.slice A' n' c'))) := Lib.hid ((HB4.out.setCell (p := ⟨g + 2, 0, none⟩) (by have := HG.out; simp only; omega) _).setCell (p := ⟨g + 2, 1, none⟩) (by have := HG.out; simp only; omega) _)
  exact putin_end HE.out rfl rfl rfl ⟨rfl, HBE.out⟩
set_option maxRecDepth 100000 in
set_option maxHeartbeats 8000000 in
theorem PutIn_room_a {w : World} {A A' : Option Addr} {n c n' c' : Nat} {m : List (Nt × Int)} {a l v : Int} (hr : R1 rdNets w (.slice A n c) (keysM m)) (hv : R1 (RdSlice 1 (rdInt .i64)) w (.slice A' n' c') (valsM m)) (hm : m.length ≤ 64) (hx : look m (a, l) = none) (h64 : ¬ 64 ≤ m.length) (hwx : wfN (a, l)) (hwv : (Lit.int .i64 v).wf = true) :
    Calls Tryd.prog 19 #[.agg #[.slice A n c, .slice A' n' c'], .agg #[.int .u32 a, .int .i64 l], .int .i64 v] w (PutPost w (putM m (a, l) v)) := by
  have hn : m.length = n := by have := (RdSlice.len hr).1; rw [this]; simp [keysM]
  have hn' : n' = n := by have := (RdSlice.len hv).1; rw [this, ← hn]; simp [valsM]
  subst hn'
  have hn1000 : n' ≤ 1000 := by omega
  have HR := Lib.hid hr
  have HV := Lib.hid hv
  have HM := Lib.hid hm
  have HN := Lib.hid hn
  obtain ⟨g, hg⟩ : ∃ g, w.heap.size = g := ⟨_, rfl⟩
  have HG := Lib.hid hg
  have HWX := Lib.hid hwx
  have HWV := Lib.hid hwv
  have HP : Hid (placeI (a, l) (keysM m) 0 = -1) := Lib.hid (place_none hx 0)
  have t64 : ¬ (64 : Int) ≤ (n' : Int) := by omega
  have t64' : ¬ 64 ≤ n' := by omega
  clear hx h64
  obtain ⟨PP, hPP⟩ : ∃ PP, PutPost w (putM m (a, l) v) = PP := ⟨_, rfl⟩
  have HPP := Lib.hid hPP
  rw [hPP]
  clear hr hv hm hn hwx hwv hPP
  go_enter Tryd.func19, Tryd.ntmps19
  have hb3 := below_3 w (.cells #[.slice A n' c, .slice A' n' c'] 40) (.cells #[.int .u32 a, .int .i64 l] 32) (.cells #[.slice none 0 0, .slice none 0 0] 40)
  have HR3 := Lib.hid (HR.out.below hb3)
  have HV3 := Lib.hid (HV.out.below hb3)
  have HB3 := Lib.hid hb3
  have hbl := box3 (w := w) (o1 := .cells #[.slice A n' c, .slice A' n' c'] 40) (o2 := .cells #[.int .u32 a, .int .i64 l] 32) (o3 := .cells #[.slice none 0 0, .slice none 0 0] 40) (Below.refl _ _)
  rw [hg] at hbl
  have HBL := Lib.hid hbl
  have HZ3 : Hid ((((w.alloc (.cells #[.slice A n' c, .slice A' n' c'] 40)).alloc (.cells #[.int .u32 a, .int .i64 l] 32)).alloc (.cells #[.slice none 0 0, .slice none 0 0] 40)).heap.size = g + 3) := Lib.hid (by simp; exact hg)
  clear hb3 hbl
  go_wp2_with fail
  go_at_call 16
  (with_reducible refine (Places_any HR3.out).mono ?_)
  rw [HP.out]
  rintro e w4 ⟨rfl, hb4⟩
  have hs4 := hb4.size
  have B0 := Lib.hid (below_block hb4 (by rw [HZ3.out]; omega) HBL.out.1)
  have B1 := Lib.hid (below_block hb4 (by rw [HZ3.out]; omega) HBL.out.2.1)
  have B2 := Lib.hid (below_block hb4 (by rw [HZ3.out]; omega) HBL.out.2.2)
  have HB4 := Lib.hid (HB3.out.trans (hb4.mono HB3.out.size))
  have HR4 := Lib.hid (HR3.out.below hb4)
  have HV4 := Lib.hid (HV3.out.below hb4)
  have hz4 : g + 3 ≤ w4.heap.size := by have := HZ3.out; omega
  obtain ⟨y0, y1, _, _⟩ := row2 B0.out
  obtain ⟨y2, y3, _, _⟩ := row2 B1.out
  obtain ⟨y4, y5, _, _⟩ := row2 B2.out
  clear hb4 hs4
  try rw [hg]
  have HDR := Lib.hid (DropFrom_any (a := a) (l := l) HR4.out HV4.out (by have := HM.out; omega))
  go_wp2_with fail
  go_at_call 20
  (with_reducible refine HDR.out.mono ?_)
  intro e w5 hd
  obtain ⟨A1, L1, c1, A2, L2, c2, rfl, ho1, ho2, hb5⟩ := hd.forms
  obtain ⟨T, hT⟩ : ∃ T, w5.heap.size = T := ⟨_, rfl⟩
  have HT := Lib.hid hT
  have hb6 : Below w4.heap.size w4 (w5.alloc (.cells #[.slice A1 L1 c1, .slice A2 L2 c2] 40)) := hb5.trans ((below_1 w5 _).mono hb5.size)
  have B06 := Lib.hid (below_block hb6 (size_of_block B0.out) B0.out)
  have B16 := Lib.hid (below_block hb6 (size_of_block B1.out) B1.out)
  have B26 := Lib.hid (below_block hb6 (size_of_block B2.out) B2.out)
  have BT6 : Hid ((w5.alloc (.cells #[.slice A1 L1 c1, .slice A2 L2 c2] 40)).heap[T]? = some (.cells #[.slice A1 L1 c1, .slice A2 L2 c2] 40 (0, 0))) := Lib.hid (by rw [← hT]; exact heap_alloc_new w5 _)
  have HO1 := Lib.hid (ho1.alloc (.cells #[.slice A1 L1 c1, .slice A2 L2 c2] 40))
  have HO2 := Lib.hid (ho2.alloc (.cells #[.slice A1 L1 c1, .slice A2 L2 c2] 40))
  have HTN1 : Hid (∀ k, (Value.slice A1 L1 c1).ownBlock = some k → k < T) := Lib.hid (fun k e => by rw [← hT]; exact (own_blk ho1.1 k e).2)
  have HTN2 : Hid (∀ k, (Value.slice A2 L2 c2).ownBlock = some k → k < T) := Lib.hid (fun k e => by rw [← hT]; exact (own_blk ho2.1 k e).2)
  have HB6 := Lib.hid (HB4.out.trans (hb6.mono HB4.out.size))
  have hz6 : w4.heap.size ≤ T := by rw [← hT]; exact hb5.size
  have hz7 : T < (w5.alloc (.cells #[.slice A1 L1 c1, .slice A2 L2 c2] 40)).heap.size := by rw [← hT]; simp
  have HLK : Hid ((keysM (delM m (a, l))).length ≤ 1000) := Lib.hid (by
    have h1 := List.length_filter_le (fun e : Nt × Int => !(e.1 == (a, l))) m
    have := HM.out
    simp only [keysM, List.length_map]; unfold delM; omega)
  have HLV : Hid ((valsM (delM m (a, l))).length ≤ 1000) := Lib.hid (by
    have h1 := List.length_filter_le (fun e : Nt × Int => !(e.1 == (a, l))) m
    have := HM.out
    simp only [valsM, List.length_map]; unfold delM; omega)
  have HK2 : Hid (keysM (putM m (a, l) v) = keysM (delM m (a, l)) ++ [(a, l)]) := Lib.hid (keys_put m (a, l) v)
  have HV2 : Hid (valsM (putM m (a, l) v) = valsM (delM m (a, l)) ++ [v]) := Lib.hid (vals_put m (a, l) v)
  clear hd ho1 ho2 hb5 hb6
  go_upto_region 5 with (fail)
  try rw [hT]
  clear hT
  generalize w5.alloc (.cells #[.slice A1 L1 c1, .slice A2 L2 c2] 40) = w6 at *
  obtain ⟨K1, hK1⟩ : ∃ K1, keysM (delM m (a, l)) = K1 := ⟨_, rfl⟩
  obtain ⟨K2, hK2⟩ : ∃ K2, valsM (delM m (a, l)) = K2 := ⟨_, rfl⟩
  rw [hK1] at HO1 HLK HK2
  rw [hK2] at HO2 HLV HV2
  obtain ⟨y0, y1, _, _⟩ := row2 B06.out
  obtain ⟨y2, y3, _, _⟩ := row2 B16.out
  obtain ⟨y4, y5, _, _⟩ := row2 B26.out
  obtain ⟨y6, y7, _, _⟩ := row2 BT6.out
  have hl1 : K1.length ≤ 8796093022000 := by have := HLK.out; omega
  have hl2 : K2.length ≤ 5864062014000 := by have := HLV.out; omega
  have nT : ¬ T = w6.heap.size := by omega
  clear hK1 hK2
  go_upto_region 6 with (first
    | (at_builtin; go_loud (refine wpList_append_net rfl _ _ 22 Tryd.underlying22 rfl w4.heap.size _ _ rfl (HO1.out.alloc _) w6.heap.size (a, l) 32 rfl (heap_alloc_new w6 _) HWX.out hl1 (by simp; omega) ?_)
       intro v8 w8 hown8 hgrow8
       have HO18 := Lib.hid hown8
       have HO28 := Lib.hid ((HO2.out.alloc (.cells #[.int .u32 a, .int .i64 l] 32)).beside (HO1.out.alloc (.cells #[.int .u32 a, .int .i64 l] 32)) hgrow8)
       have hk8 : ∀ {j : Nat} {o : Obj}, (j < w4.heap.size ∨ j = T) → w6.heap[j]? = some o → w8.heap[j]? = some o := fun {j o} hj hbj => by
         rw [hgrow8.1.block j (by have := size_of_block hbj; simp; omega) (fun e => by have h1 := (own_blk HO1.out.1 j e.symm).1; have h2 := HTN1.out j e.symm; omega)]
         exact below_block (below_1 w6 _) (size_of_block hbj) hbj
       have B08 := Lib.hid (hk8 (.inl (by omega)) B06.out)
       have B18 := Lib.hid (hk8 (.inl (by omega)) B16.out)
       have B28 := Lib.hid (hk8 (.inl (by omega)) B26.out)
       have BT8 := Lib.hid (hk8 (.inr rfl) BT6.out)
       have HB8 := Lib.hid (hgrow8.below (HB6.out.trans ((below_1 w6 (.cells #[.int .u32 a, .int .i64 l] 32)).mono HB6.out.size)) (HO1.out.alloc (.cells #[.int .u32 a, .int .i64 l] 32)).1 HB4.out.size (by have := HB6.out.size; simp; omega))
       have hs8 := hgrow8.size
       obtain ⟨z6, z7, x6, x7⟩ := row2 BT8.out
       obtain ⟨A8, c8, hv8⟩ := hown8.form
       obtain ⟨L8, hL8⟩ : ∃ L8, (K1 ++ [(a, l)]).length = L8 := ⟨_, rfl⟩
       rw [hL8] at hv8
       subst hv8
       clear hown8 hgrow8 hL8 hk8)
    | fail)
  have BT9 := Lib.hid (heap_setCell_same w8 T 0 _ _ (.slice A8 L8 c8) BT8.out)
  have hkk : ∀ {j : Nat} {o : Obj}, j < w4.heap.size → w8.heap[j]? = some o → (w8.setCell ⟨T, 0, none⟩ (.slice A8 L8 c8)).heap[j]? = some o := fun {j o} hj hbj => (heap_setCell_other _ _ _ _ (fun e => by have e' : j = T := e; omega)).trans hbj
  have B09 := Lib.hid (hkk (by omega) B08.out)
  have B19 := Lib.hid (hkk (by omega) B18.out)
  have B29 := Lib.hid (hkk (by omega) B28.out)
  have HO19 := Lib.hid (HO18.out.setT (u := .slice A8 L8 c8) (o := 0) BT8.out)
  have HO29 := Lib.hid (HO28.out.setT (u := .slice A8 L8 c8) (o := 0) BT8.out)
  have HB9 := Lib.hid (HB8.out.setCell (p := ⟨T, 0, none⟩) (by have := HG.out; simp only; omega) (.slice A8 L8 c8))
  have hs9 : w6.heap.size ≤ (w8.setCell ⟨T, 0, none⟩ (.slice A8 L8 c8)).heap.size := by simp at hs8; simp; omega
  clear hkk hs8 nT
  generalize w8.setCell ⟨T, 0, none⟩ (.slice A8 L8 c8) = w9 at *
  obtain ⟨y0, y1, _, _⟩ := row2 B09.out
  obtain ⟨y2, y3, _, _⟩ := row2 B19.out
  obtain ⟨y4, y5, _, _⟩ := row2 B29.out
  obtain ⟨y6, y7, _, _⟩ := row2 BT9.out
  have nT : ¬ T = w9.heap.size := by omega
  go_upto_region 7 with (first
    | (at_builtin; go_loud (refine wpList_append_int rfl _ _ 38 3 Tryd.underlying38 int_infoT rfl w4.heap.size _ _ rfl (HO29.out.alloc _) w9.heap.size v 3 rfl (heap_alloc_new w9 _) HWV.out hl2 (by simp; omega) ?_)
       intro vA wA hownA hgrowA
       have HO2A := Lib.hid hownA
       have HO1A := Lib.hid ((HO19.out.alloc (.cells #[.int .i64 v] 3)).beside (HO29.out.alloc (.cells #[.int .i64 v] 3)) hgrowA)
       have hkA : ∀ {j : Nat} {o : Obj}, (j < w4.heap.size ∨ j = T) → w9.heap[j]? = some o → wA.heap[j]? = some o := fun {j o} hj hbj => by
         rw [hgrowA.1.block j (by have := size_of_block hbj; simp; omega) (fun e => by have h1 := (own_blk HO29.out.1 j e.symm).1; have h2 := HTN2.out j e.symm; omega)]
         exact below_block (below_1 w9 _) (size_of_block hbj) hbj
       have B2A := Lib.hid (hkA (.inl (by omega)) B29.out)
       have BTA := Lib.hid (hkA (.inr rfl) BT9.out)
       have HBA := Lib.hid (hgrowA.below (HB9.out.trans ((below_1 w9 (.cells #[.int .i64 v] 3)).mono HB9.out.size)) (HO29.out.alloc (.cells #[.int .i64 v] 3)).1 HB4.out.size (by have := HB9.out.size; simp; omega))
       obtain ⟨z6, z7, x6, x7⟩ := row2 BTA.out
       obtain ⟨AA, cA, hvA⟩ := hownA.form
       obtain ⟨LA, hLA⟩ : ∃ LA, (K2 ++ [v]).length = LA := ⟨_, rfl⟩
       rw [hLA] at hvA
       subst hvA
       clear hownA hgrowA hLA hkA)
    | fail)
  have BTB := Lib.hid (heap_setCell_same wA T 1 _ _ (.slice AA LA cA) BTA.out)
  have B2B : Hid ((wA.setCell ⟨T, 1, none⟩ (.slice AA LA cA)).heap[g + 2]? = _) := Lib.hid ((heap_setCell_other _ _ _ _ (fun e => by have e' : g + 2 = T := e; omega)).trans B2A.out)
  have HO1B := Lib.hid (HO1A.out.setT (u := .slice AA LA cA) (o := 1) BTA.out)
  have HO2B := Lib.hid (HO2A.out.setT (u := .slice AA LA cA) (o := 1) BTA.out)
  have HBB := Lib.hid (HBA.out.setCell (p := ⟨T, 1, none⟩) (by have := HG.out; simp only; omega) (.slice AA LA cA))
  generalize wA.setCell ⟨T, 1, none⟩ (.slice AA LA cA) = wB at *
  obtain ⟨y6, y7, _, _⟩ := row2 BTB.out
  obtain ⟨y4, y5, x4, x5⟩ := row2 B2B.out
  have HE := Lib.hid (set2_block (.slice A8 L8 c8) (.slice AA LA cA) B2B.out)
  have HEND : Hid (PP (.returned (.tuple #[.agg #[.slice A8 L8 c8, .slice AA LA cA], .bool true])) ((wB.setCell ⟨g + 2, 0, none⟩ (.slice A8 L8 c8)).setCell ⟨g + 2, 1, none⟩ (.slice AA LA cA))) := Lib.hid (by
    rw [← HPP.out]
    have hgw := HG.out
    refine ⟨_, _, rfl, ?_, ?_, (HBB.out.setCell (p := ⟨g + 2, 0, none⟩) (by simp only; omega) _).setCell (p := ⟨g + 2, 1, none⟩) (by simp only; omega) _⟩
    · rw [HK2.out]; exact ((HO1B.out.setCell (by omega) _).setCell (by omega) _).monoT (by omega)
    · rw [HV2.out]; exact ((HO2B.out.setCell (by omega) _).setCell (by omega) _).mono (by omega))
  go_wp2
  exact putin_end HE.out rfl rfl rfl HEND.out
set_option maxRecDepth 100000 in
set_option maxHeartbeats 8000000 in
theorem PutIn_room_b {w : World} {A A' : Option Addr} {n c n' c' : Nat} {m : List (Nt × Int)} {a l v : Int} (hr : R1 rdNets w (.slice A n c) (keysM m)) (hv : R1 (RdSlice 1 (rdInt .i64)) w (.slice A' n' c') (valsM m)) (hm : m.length ≤ 64) (hx : look m (a, l) ≠ none) (hwx : wfN (a, l)) (hwv : (Lit.int .i64 v).wf = true) :
    Calls Tryd.prog 19 #[.agg #[.slice A n c, .slice A' n' c'], .agg #[.int .u32 a, .int .i64 l], .int .i64 v] w (PutPost w (putM m (a, l) v)) := by
  have hn : m.length = n := by have := (RdSlice.len hr).1; rw [this]; simp [keysM]
  have hn' : n' = n := by have := (RdSlice.len hv).1; rw [this, ← hn]; simp [valsM]
  subst hn'
  have hn1000 : n' ≤ 1000 := by omega
  have HR := Lib.hid hr
  have HV := Lib.hid hv
  have HM := Lib.hid hm
  have HN := Lib.hid hn
  obtain ⟨g, hg⟩ : ∃ g, w.heap.size = g := ⟨_, rfl⟩
  have HG := Lib.hid hg
  have HWX := Lib.hid hwx
  have HWV := Lib.hid hwv
  obtain ⟨u, hu⟩ := Option.ne_none_iff_exists'.1 hx
  obtain ⟨q, hq, -⟩ := place_some hu 0
  have HP : Hid (placeI (a, l) (keysM m) 0 = (q : Int)) := Lib.hid (by rw [hq]; omega)
  clear hx hu hq
  obtain ⟨PP, hPP⟩ : ∃ PP, PutPost w (putM m (a, l) v) = PP := ⟨_, rfl⟩
  have HPP := Lib.hid hPP
  rw [hPP]
  clear hr hv hm hn hwx hwv hPP
  go_enter Tryd.func19, Tryd.ntmps19
  have hb3 := below_3 w (.cells #[.slice A n' c, .slice A' n' c'] 40) (.cells #[.int .u32 a, .int .i64 l] 32) (.cells #[.slice none 0 0, .slice none 0 0] 40)
  have HR3 := Lib.hid (HR.out.below hb3)
  have HV3 := Lib.hid (HV.out.below hb3)
  have HB3 := Lib.hid hb3
  have hbl := box3 (w := w) (o1 := .cells #[.slice A n' c, .slice A' n' c'] 40) (o2 := .cells #[.int .u32 a, .int .i64 l] 32) (o3 := .cells #[.slice none 0 0, .slice none 0 0] 40) (Below.refl _ _)
  rw [hg] at hbl
  have HBL := Lib.hid hbl
  have HZ3 : Hid ((((w.alloc (.cells #[.slice A n' c, .slice A' n' c'] 40)).alloc (.cells #[.int .u32 a, .int .i64 l] 32)).alloc (.cells #[.slice none 0 0, .slice none 0 0] 40)).heap.size = g + 3) := Lib.hid (by simp; exact hg)
  clear hb3 hbl
  go_wp2_with fail
  go_at_call 16
  (with_reducible refine (Places_any HR3.out).mono ?_)
  rw [HP.out]
  rintro e w4 ⟨rfl, hb4⟩
  have hs4 := hb4.size
  have B0 := Lib.hid (below_block hb4 (by rw [HZ3.out]; omega) HBL.out.1)
  have B1 := Lib.hid (below_block hb4 (by rw [HZ3.out]; omega) HBL.out.2.1)
  have B2 := Lib.hid (below_block hb4 (by rw [HZ3.out]; omega) HBL.out.2.2)
  have HB4 := Lib.hid (HB3.out.trans (hb4.mono HB3.out.size))
  have HR4 := Lib.hid (HR3.out.below hb4)
  have HV4 := Lib.hid (HV3.out.below hb4)
  have hz4 : g + 3 ≤ w4.heap.size := by have := HZ3.out; omega
  obtain ⟨y0, y1, _, _⟩ := row2 B0.out
  obtain ⟨y2, y3, _, _⟩ := row2 B1.out
  obtain ⟨y4, y5, _, _⟩ := row2 B2.out
  clear hb4 hs4
  try rw [hg]
  have HDR := Lib.hid (DropFrom_any (a := a) (l := l) HR4.out HV4.out (by have := HM.out; omega))
  go_wp2_with fail
  go_at_call 20
  (with_reducible refine HDR.out.mono ?_)
  intro e w5 hd
  obtain ⟨A1, L1, c1, A2, L2, c2, rfl, ho1, ho2, hb5⟩ := hd.forms
  obtain ⟨T, hT⟩ : ∃ T, w5.heap.size = T := ⟨_, rfl⟩
  have HT := Lib.hid hT
  have hb6 : Below w4.heap.size w4 (w5.alloc (.cells #[.slice A1 L1 c1, .slice A2 L2 c2] 40)) := hb5.trans ((below_1 w5 _).mono hb5.size)
  have B06 := Lib.hid (below_block hb6 (size_of_block B0.out) B0.out)
  have B16 := Lib.hid (below_block hb6 (size_of_block B1.out) B1.out)
  have B26 := Lib.hid (below_block hb6 (size_of_block B2.out) B2.out)
  have BT6 : Hid ((w5.alloc (.cells #[.slice A1 L1 c1, .slice A2 L2 c2] 40)).heap[T]? = some (.cells #[.slice A1 L1 c1, .slice A2 L2 c2] 40 (0, 0))) := Lib.hid (by rw [← hT]; exact heap_alloc_new w5 _)
  have HO1 := Lib.hid (ho1.alloc (.cells #[.slice A1 L1 c1, .slice A2 L2 c2] 40))
  have HO2 := Lib.hid (ho2.alloc (.cells #[.slice A1 L1 c1, .slice A2 L2 c2] 40))
  have HTN1 : Hid (∀ k, (Value.slice A1 L1 c1).ownBlock = some k → k < T) := Lib.hid (fun k e => by rw [← hT]; exact (own_blk ho1.1 k e).2)
  have HTN2 : Hid (∀ k, (Value.slice A2 L2 c2).ownBlock = some k → k < T) := Lib.hid (fun k e => by rw [← hT]; exact (own_blk ho2.1 k e).2)
  have HB6 := Lib.hid (HB4.out.trans (hb6.mono HB4.out.size))
  have hz6 : w4.heap.size ≤ T := by rw [← hT]; exact hb5.size
  have hz7 : T < (w5.alloc (.cells #[.slice A1 L1 c1, .slice A2 L2 c2] 40)).heap.size := by rw [← hT]; simp
  have HLK : Hid ((keysM (delM m (a, l))).length ≤ 1000) := Lib.hid (by
    have h1 := List.length_filter_le (fun e : Nt × Int => !(e.1 == (a, l))) m
    have := HM.out
    simp only [keysM, List.length_map]; unfold delM; omega)
  have HLV : Hid ((valsM (delM m (a, l))).length ≤ 1000) := Lib.hid (by
    have h1 := List.length_filter_le (fun e : Nt × Int => !(e.1 == (a, l))) m
    have := HM.out
    simp only [valsM, List.length_map]; unfold delM; omega)
  have HK2 : Hid (keysM (putM m (a, l) v) = keysM (delM m (a, l)) ++ [(a, l)]) := Lib.hid (keys_put m (a, l) v)
  have HV2 : Hid (valsM (putM m (a, l) v) = valsM (delM m (a, l)) ++ [v]) := Lib.hid (vals_put m (a, l) v)
  clear hd ho1 ho2 hb5 hb6
  go_upto_region 5 with (fail)
  try rw [hT]
  clear hT
  generalize w5.alloc (.cells #[.slice A1 L1 c1, .slice A2 L2 c2] 40) = w6 at *
  obtain ⟨K1, hK1⟩ : ∃ K1, keysM (delM m (a, l)) = K1 := ⟨_, rfl⟩
  obtain ⟨K2, hK2⟩ : ∃ K2, valsM (delM m (a, l)) = K2 := ⟨_, rfl⟩
  rw [hK1] at HO1 HLK HK2
  rw [hK2] at HO2 HLV HV2
  obtain ⟨y0, y1, _, _⟩ := row2 B06.out
  obtain ⟨y2, y3, _, _⟩ := row2 B16.out
  obtain ⟨y4, y5, _, _⟩ := row2 B26.out
  obtain ⟨y6, y7, _, _⟩ := row2 BT6.out
  have hl1 : K1.length ≤ 8796093022000 := by have := HLK.out; omega
  have hl2 : K2.length ≤ 5864062014000 := by have := HLV.out; omega
  have nT : ¬ T = w6.heap.size := by omega
  clear hK1 hK2
  go_upto_region 6 with (first
    | (at_builtin; go_loud (refine wpList_append_net rfl _ _ 22 Tryd.underlying22 rfl w4.heap.size _ _ rfl (HO1.out.alloc _) w6.heap.size (a, l) 32 rfl (heap_alloc_new w6 _) HWX.out hl1 (by simp; omega) ?_)
       intro v8 w8 hown8 hgrow8
       have HO18 := Lib.hid hown8
       have HO28 := Lib.hid ((HO2.out.alloc (.cells #[.int .u32 a, .int .i64 l] 32)).beside (HO1.out.alloc (.cells #[.int .u32 a, .int .i64 l] 32)) hgrow8)
       have hk8 : ∀ {j : Nat} {o : Obj}, (j < w4.heap.size ∨ j = T) → w6.heap[j]? = some o → w8.heap[j]? = some o := fun {j o} hj hbj => by
         rw [hgrow8.1.block j (by have := size_of_block hbj; simp; omega) (fun e => by have h1 := (own_blk HO1.out.1 j e.symm).1; have h2 := HTN1.out j e.symm; omega)]
         exact below_block (below_1 w6 _) (size_of_block hbj) hbj
       have B08 := Lib.hid (hk8 (.inl (by omega)) B06.out)
       have B18 := Lib.hid (hk8 (.inl (by omega)) B16.out)
       have B28 := Lib.hid (hk8 (.inl (by omega)) B26.out)
       have BT8 := Lib.hid (hk8 (.inr rfl) BT6.out)
       have HB8 := Lib.hid (hgrow8.below (HB6.out.trans ((below_1 w6 (.cells #[.int .u32 a, .int .i64 l] 32)).mono HB6.out.size)) (HO1.out.alloc (.cells #[.int .u32 a, .int .i64 l] 32)).1 HB4.out.size (by have := HB6.out.size; simp; omega))
       have hs8 := hgrow8.size
       obtain ⟨z6, z7, x6, x7⟩ := row2 BT8.out
       obtain ⟨A8, c8, hv8⟩ := hown8.form
       obtain ⟨L8, hL8⟩ : ∃ L8, (K1 ++ [(a, l)]).length = L8 := ⟨_, rfl⟩
       rw [hL8] at hv8
       subst hv8
       clear hown8 hgrow8 hL8 hk8)
    | fail)
  have BT9 := Lib.hid (heap_setCell_same w8 T 0 _ _ (.slice A8 L8 c8) BT8.out)
  have hkk : ∀ {j : Nat} {o : Obj}, j < w4.heap.size → w8.heap[j]? = some o → (w8.setCell ⟨T, 0, none⟩ (.slice A8 L8 c8)).heap[j]? = some o := fun {j o} hj hbj => (heap_setCell_other _ _ _ _ (fun e => by have e' : j = T := e; omega)).trans hbj
  have B09 := Lib.hid (hkk (by omega) B08.out)
  have B19 := Lib.hid (hkk (by omega) B18.out)
  have B29 := Lib.hid (hkk (by omega) B28.out)
  have HO19 := Lib.hid (HO18.out.setT (u := .slice A8 L8 c8) (o := 0) BT8.out)
  have HO29 := Lib.hid (HO28.out.setT (u := .slice A8 L8 c8) (o := 0) BT8.out)
  have HB9 := Lib.hid (HB8.out.setCell (p := ⟨T, 0, none⟩) (by have := HG.out; simp only; omega) (.slice A8 L8 c8))
  have hs9 : w6.heap.size ≤ (w8.setCell ⟨T, 0, none⟩ (.slice A8 L8 c8)).heap.size := by simp at hs8; simp; omega
  clear hkk hs8 nT
  generalize w8.setCell ⟨T, 0, none⟩ (.slice A8 L8 c8) = w9 at *
  obtain ⟨y0, y1, _, _⟩ := row2 B09.out
  obtain ⟨y2, y3, _, _⟩ := row2 B19.out
  obtain ⟨y4, y5, _, _⟩ := row2 B29.out
  obtain ⟨y6, y7, _, _⟩ := row2 BT9.out
  have nT : ¬ T = w9.heap.size := by omega
  go_upto_region 7 with (first
    | (at_builtin; go_loud (refine wpList_append_int rfl _ _ 38 3 Tryd.underlying38 int_infoT rfl w4.heap.size _ _ rfl (HO29.out.alloc _) w9.heap.size v 3 rfl (heap_alloc_new w9 _) HWV.out hl2 (by simp; omega) ?_)
       intro vA wA hownA hgrowA
       have HO2A := Lib.hid hownA
       have HO1A := Lib.hid ((HO19.out.alloc (.cells #[.int .i64 v] 3)).beside (HO29.out.alloc (.cells #[.int .i64 v] 3)) hgrowA)
       have hkA : ∀ {j : Nat} {o : Obj}, (j < w4.heap.size ∨ j = T) → w9.heap[j]? = some o → wA.heap[j]? = some o := fun {j o} hj hbj => by
         rw [hgrowA.1.block j (by have := size_of_block hbj; simp; omega) (fun e => by have h1 := (own_blk HO29.out.1 j e.symm).1; have h2 := HTN2.out j e.symm; omega)]
         exact below_block (below_1 w9 _) (size_of_block hbj) hbj
       have B2A := Lib.hid (hkA (.inl (by omega)) B29.out)
       have BTA := Lib.hid (hkA (.inr rfl) BT9.out)
       have HBA := Lib.hid (hgrowA.below (HB9.out.trans ((below_1 w9 (.cells #[.int .i64 v] 3)).mono HB9.out.size)) (HO29.out.alloc (.cells #[.int .i64 v] 3)).1 HB4.out.size (by have := HB9.out.size; simp; omega))
       obtain ⟨z6, z7, x6, x7⟩ := row2 BTA.out
       obtain ⟨AA, cA, hvA⟩ := hownA.form
       obtain ⟨LA, hLA⟩ : ∃ LA, (K2 ++ [v]).length = LA := ⟨_, rfl⟩
       rw [hLA] at hvA
       subst hvA
       clear hownA hgrowA hLA hkA)
    | fail)
  have BTB := Lib.hid (heap_setCell_same wA T 1 _ _ (.slice AA LA cA) BTA.out)
  have B2B : Hid ((wA.setCell ⟨T, 1, none⟩ (.slice AA LA cA)).heap[g + 2]? = _) := Lib.hid ((heap_setCell_other _ _ _ _ (fun e => by have e' : g + 2 = T := e; omega)).trans B2A.out)
  have HO1B := Lib.hid (HO1A.out.setT (u := .slice AA LA cA) (o := 1) BTA.out)
  have HO2B := Lib.hid (HO2A.out.setT (u := .slice AA LA cA) (o := 1) BTA.out)
  have HBB := Lib.hid (HBA.out.setCell (p := ⟨T, 1, none⟩) (by have := HG.out; simp only; omega) (.slice AA LA cA))
  generalize wA.setCell ⟨T, 1, none⟩ (.slice AA LA cA) = wB at *
  obtain ⟨y6, y7, _, _⟩ := row2 BTB.out
  obtain ⟨y4, y5, x4, x5⟩ := row2 B2B.out
  have HE := Lib.hid (set2_block (.slice A8 L8 c8) (.slice AA LA cA) B2B.out)
  have HEND : Hid (PP (.returned (.tuple #[.agg #[.slice A8 L8 c8, .slice AA LA cA], .bool true])) ((wB.setCell ⟨g + 2, 0, none⟩ (.slice A8 L8 c8)).setCell ⟨g + 2, 1, none⟩ (.slice AA LA cA))) := Lib.hid (by
    rw [← HPP.out]
    have hgw := HG.out
    refine ⟨_, _, rfl, ?_, ?_, (HBB.out.setCell (p := ⟨g + 2, 0, none⟩) (by simp only; omega) _).setCell (p := ⟨g + 2, 1, none⟩) (by simp only; omega) _⟩
    · rw [HK2.out]; exact ((HO1B.out.setCell (by omega) _).setCell (by omega) _).monoT (by omega)
    · rw [HV2.out]; exact ((HO2B.out.setCell (by omega) _).setCell (by omega) _).mono (by omega))
  go_wp2
  exact putin_end HE.out rfl rfl rfl HEND.out
theorem PutIn_room {w : World} {A A' : Option Addr} {n c n' c' : Nat} {m : List (Nt × Int)} {a l v : Int} (hr : R1 rdNets w (.slice A n c) (keysM m)) (hv : R1 (RdSlice 1 (rdInt .i64)) w (.slice A' n' c') (valsM m)) (hm : m.length ≤ 64) (hx : ¬ (look m (a, l) = none ∧ 64 ≤ m.length)) (hwx : wfN (a, l)) (hwv : (Lit.int .i64 v).wf = true) :
    Calls Tryd.prog 19 #[.agg #[.slice A n c, .slice A' n' c'], .agg #[.int .u32 a, .int .i64 l], .int .i64 v] w (PutPost w (putM m (a, l) v)) := by
  by_cases h : look m (a, l) = none
  · exact PutIn_room_a hr hv hm h (fun h2 => hx ⟨h, h2⟩) hwx hwv
  · exact PutIn_room_b hr hv hm h hwx hwv
end Go.Proofs.YtplojnlmofbneaaDoor
