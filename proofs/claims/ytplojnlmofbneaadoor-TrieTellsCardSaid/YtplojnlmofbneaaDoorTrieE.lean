/- trie.List: its closure, as a contract. -/
import Derived.Test.YtplojnlmofbneaaDoorTrieD
import Derived.Test.YtplojnlmofbneaaDoorOwnN
import Derived.StillTailTactics
import Derived.WalkArith
namespace Go.Proofs.YtplojnlmofbneaaDoor
open Go.ChangeShapes Go.WideShapes Go.ChangeAt Go.RowKit
set_option linter.unusedVariables false
set_option linter.unusedSimpArgs false
/-- what the closure finds and leaves: the list so far in its variable, itself in the other -/
structure LInv (w0 : World) (l : List Nt) (w : World) : Prop where
  bel : Below w0.heap.size w0 w
  out : ∃ v, w.heap[w0.heap.size]? = some (.cells #[v] 22 (0, 0)) ∧ OwnN w (w0.heap.size + 2) v l
  fn : ∃ t, w.heap[w0.heap.size + 1]? = some (.cells #[.func (.func 47) #[] #[.pointer (some ⟨w0.heap.size, 0, none⟩), .pointer (some ⟨w0.heap.size + 1, 0, none⟩)]] t (0, 0))
theorem LInv.below {w0 w w' : World} {l : List Nt} (h : LInv w0 l w) (hb : Below w.heap.size w w') : LInv w0 l w' := by
  obtain ⟨v, h1, h2⟩ := h.out
  obtain ⟨t, h3⟩ := h.fn
  exact ⟨h.bel.trans (hb.mono h.bel.size), ⟨v, below_block hb (size_of_block h1) h1, h2.below hb⟩, ⟨t, below_block hb (size_of_block h3) h3⟩⟩
/-- all other blocks lie as they lay, and are no row of the list's -/
def Frm (w0 w w' : World) : Prop := ∀ g o, w.heap[g]? = some o → g ≠ w0.heap.size → (∀ v, w.heap[w0.heap.size]? = some (.cells #[v] 22 (0, 0)) → v.ownBlock ≠ some g) →
  w'.heap[g]? = some o ∧ ∀ v, w'.heap[w0.heap.size]? = some (.cells #[v] 22 (0, 0)) → v.ownBlock ≠ some g
theorem Frm.trans {w0 a b c : World} (h : Frm w0 a b) (k : Frm w0 b c) : Frm w0 a c := fun g o h1 h2 h3 => by
  obtain ⟨h4, h5⟩ := h g o h1 h2 h3
  exact k g o h4 h2 h5
theorem Frm.of_below {w0 w w' : World} {l : List Nt} (hI : LInv w0 l w) (hb : Below w.heap.size w w') : Frm w0 w w' := fun g o h1 h2 h3 => by
  refine ⟨below_block hb (size_of_block h1) h1, fun v hv => h3 v ?_⟩
  obtain ⟨u, hu, _⟩ := hI.out
  rw [hb.block _ (size_of_block hu)] at hv
  exact hv
theorem LInv.apart {w0 w : World} {l : List Nt} (hI : LInv w0 l w) {g : Nat} (hg : w.heap.size ≤ g) : ∀ v, w.heap[w0.heap.size]? = some (.cells #[v] 22 (0, 0)) → v.ownBlock ≠ some g := by
  intro v hv e
  obtain ⟨u, hu, ho⟩ := hI.out
  rw [hu] at hv
  simp only [Option.some.injEq, Obj.cells.injEq, and_true] at hv
  have : u = v := by simpa using hv
  subst this
  have := (own_blk ho.1 g e).2
  omega
theorem LInv.apart2 {w0 w w' : World} {l : List Nt} (hI : LInv w0 l w) (hb : Below w.heap.size w w') {g : Nat} (hg : w.heap.size ≤ g) : ∀ v, w'.heap[w0.heap.size]? = some (.cells #[v] 22 (0, 0)) → v.ownBlock ≠ some g := by
  intro v hv
  obtain ⟨u, hu, _⟩ := hI.out
  rw [hb.block _ (size_of_block hu)] at hv
  exact hI.apart hg v hv
/-- one more in the list -/
theorem LInv.push {w0 w w2 : World} {l : List Nt} {x : Nt} {v v' : Value} (h : LInv w0 l w) (ho : w.heap[w0.heap.size]? = some (.cells #[v] 22 (0, 0))) (hown : OwnN w (w0.heap.size + 2) v l) (h2 : OwnN w2 (w0.heap.size + 2) v' (l ++ [x])) (hg : Grow w v w2 v') :
    w2.heap[w0.heap.size]? = some (.cells #[v] 22 (0, 0)) ∧ LInv w0 (l ++ [x]) (w2.setCell ⟨w0.heap.size, 0, none⟩ v') ∧ Frm w0 w (w2.setCell ⟨w0.heap.size, 0, none⟩ v') := by
  have hD : w2.heap[w0.heap.size]? = some (.cells #[v] 22 (0, 0)) := by
    rw [hg.1.block _ (size_of_block ho) (fun e => by have := (own_blk hown.1 _ e.symm).1; omega)]; exact ho
  obtain ⟨t, hf⟩ := h.fn
  have hF : w2.heap[w0.heap.size + 1]? = some (.cells #[.func (.func 47) #[] #[.pointer (some ⟨w0.heap.size, 0, none⟩), .pointer (some ⟨w0.heap.size + 1, 0, none⟩)]] t (0, 0)) := by
    rw [hg.1.block _ (size_of_block hf) (fun e => by have := (own_blk hown.1 _ e.symm).1; omega)]; exact hf
  refine ⟨hD, ⟨(hg.below h.bel hown.1 (by omega) h.bel.size).setCell (Nat.le_refl _) _, ⟨v', heap_setCell_same w2 _ 0 _ _ v' hD, h2.setCell (by omega) _⟩, t, ?_⟩, ?_⟩
  · rw [heap_setCell_other _ _ _ _ (by simp)]; exact hF
  · intro g o h3 h4 h5
    have h6 := h5 v ho
    refine ⟨?_, fun u hu e => ?_⟩
    · rw [heap_setCell_other _ _ _ _ h4, hg.1.block _ (size_of_block h3) (fun e => h6 e.symm)]; exact h3
    · rw [heap_setCell_same w2 _ 0 _ _ v' hD] at hu
      simp only [Option.some.injEq, Obj.cells.injEq, and_true] at hu
      have : v' = u := by simpa using hu
      subst this
      rcases hg.2 with h7 | ⟨q, h7, h8⟩
      · rw [h7] at e; exact h6 e
      · rw [h7] at e; injection e with e; have := size_of_block h3; omega
section
variable {w0 : World} {T B : Nat} {N : NM} {m : List (Nt × Int)}
theorem lst_none (hT : Tri w0 T B N m) {k : Nat} {a : Int} {n : Nat} (hn : n + k = 32) (hF : netF (a, (n : Int)) = 0) (hN : N (a, (n : Int)) = none) : lst m k (a, (n : Int)) = [] := by
  refine lst_nil hT.ok.netsOk hn hF fun y hy => ?_
  cases hi : inB y (a, (n : Int)) with
  | false => rfl
  | true =>
    exfalso
    obtain ⟨h1, h2, _, h4⟩ := inB_iff.1 hi
    obtain ⟨j, hj, ej, fj⟩ := net_ok h1
    simp only [Int.toNat_natCast] at h2 h4
    have h5 := hT.chain (hT.has y hy) ej n (by omega)
    have : trimN y n = (a, (n : Int)) := by unfold trimN; rw [h4]
    rw [this] at h5
    exact h5 hN
set_option maxRecDepth 100000 in
set_option maxHeartbeats 4000000 in
theorem walk_none (hT : Tri w0 T B N m) {w : World} {k : Nat} {a : Int} {n : Nat} {l : List Nt} (hn : n + k = 32) (hF : netF (a, (n : Int)) = 0) (hI : LInv w0 l w) (hN : N (a, (n : Int)) = none) :
    Calls Tryd.prog 47 #[ptrO (N (a, (n : Int))), .agg #[.int .u32 a, .int .i64 n], .pointer (some ⟨w0.heap.size, 0, none⟩), .pointer (some ⟨w0.heap.size + 1, 0, none⟩)] w fun e w' => e = .returned (.tuple #[]) ∧ LInv w0 (l ++ lst m k (a, (n : Int))) w' ∧ Frm w0 w w' := by
  have hl := lst_none hT hn hF hN
  rw [hl, hN, ptrO_none, List.append_nil]
  have HI := Lib.hid hI
  clear hl hN hI hT
  go_enter Tryd.func47, Tryd.ntmps47
  go_wp2
  refine bodyPost_ret (results_none rfl _ _ _) rfl ?_
  exact ⟨rfl, HI.out.below (below_1 _ _), Frm.of_below HI.out (below_1 _ _)⟩
theorem append_len {l : List Nt} {x : Nt} {r : List Nt} (h : l.length + ([x] ++ r).length ≤ 64) : (l ++ [x]).length + r.length ≤ 64 := by simp at h ⊢; omega
theorem Grow.blk {w w2 : World} {v v' : Value} {base : Nat} {xs : List Nt} {g : Nat} {o : Obj} (hg : Grow w v w2 v') (hown : OwnN w base v xs) (ho : w.heap[g]? = some o) (hn : ∀ k, v.ownBlock = some k → g ≠ k) : w2.heap[g]? = some o := by
  rw [hg.1.block _ (size_of_block ho) (fun e => hn _ e.symm rfl)]; exact ho
/-- the contract of the closure at a depth -/
def WalkC (w0 : World) (N : NM) (m : List (Nt × Int)) (k : Nat) : Prop := ∀ {w : World} {a : Int} {n : Nat} {l : List Nt}, n + k = 32 → netF (a, (n : Int)) = 0 → is32 a → LInv w0 l w → l.length + (lst m k (a, (n : Int))).length ≤ 64 →
    Calls Tryd.prog 47 #[ptrO (N (a, (n : Int))), .agg #[.int .u32 a, .int .i64 n], .pointer (some ⟨w0.heap.size, 0, none⟩), .pointer (some ⟨w0.heap.size + 1, 0, none⟩)] w fun e w' => e = .returned (.tuple #[]) ∧ LInv w0 (l ++ lst m k (a, (n : Int))) w' ∧ Frm w0 w w'
def hdM (m : List (Nt × Int)) (x : Nt) : List Nt := if (look m x).isSome then [x] else []
def hdB (hs : Bool) (x : Nt) : List Nt := if hs then [x] else []
theorem hdM_len (m : List (Nt × Int)) (x : Nt) (k : Nat) : (hdM m x).length ≤ (lst m k x).length := by
  unfold hdM
  cases k with
  | zero => exact Nat.le_refl _
  | succ k => simp only [lst, List.length_append]; omega
set_option maxRecDepth 100000 in
set_option maxHeartbeats 4000000 in
theorem walk_zero (hT : Tri w0 T B N m) : WalkC w0 N m 0 := by
  intro w a n l hn hF hA hI hlen
  have hn32 : n = 32 := by omega
  by_cases hN0 : N (a, (n : Int)) = none
  · exact walk_none hT hn hF hI hN0
  · obtain ⟨b, hN⟩ := Option.ne_none_iff_exists'.1 hN0
    clear hN0
    rw [hN, ptrO_some]
    have hwf : wfN (a, (n : Int)) := ⟨WalkArith.wf_u32 hA, WalkArith.wf_i64 (by simp only; omega)⟩
    have hW := hT.below hI.bel
    obtain ⟨v, -, ⟨c0, -, -, -⟩, -⟩ := hW.cells hN
    have hbl := hT.lt hN
    have hsz := hI.bel.size
    have hbn : ¬ b = w.heap.size := by omega
    have hbl2 : b < w.heap.size := by omega
    have HI := Lib.hid hI
    obtain ⟨hs, hhs⟩ : ∃ hs, (look m (a, (n : Int))).isSome = hs := ⟨_, rfl⟩
    have HLs : Hid (lst m 0 (a, (n : Int)) = hdB hs (a, (n : Int))) := Lib.hid (by simp only [lst, hhs, hdB])
    rw [hhs] at c0
    rw [HLs.out]
    have hll : l.length ≤ 64 := by omega
    have HO : Hid (∀ w : World, Calls Tryd.prog 48 #[.agg #[.int .u32 a, .int .i64 n]] w fun e w' => e = .returned (.tuple #[.agg #[.int .u32 0, .int .i64 0], .agg #[.int .u32 0, .int .i64 0], .iface 41 (.int .i64 2)]) ∧ Below w.heap.size w w') := Lib.hid (fun w => by
      subst hn32
      exact Halves_one w hA hF)
    have HA := Lib.hid hA
    clear hI hW hN hT hhs hF hn hn32 hlen
    go_enter Tryd.func47, Tryd.ntmps47
    go_upto_if 14 with (fail)
    go_cut [] (fun wx => LInv w0 (l ++ hdB hs (a, (n : Int))) wx ∧ Frm w0 w wx ∧ wx.heap[w.heap.size]? = some (.cells #[.int .u32 a, .int .i64 n] 32 (0, 0)))
    case first =>
      have hI1 := HI.out.below (below_1 w (.cells #[.int .u32 a, .int .i64 n] 32))
      have hx1 := heap_alloc_new w (.cells #[.int .u32 a, .int .i64 n] 32)
      cases hs with
      | false =>
        go_wp2
        go_meet
        exact ⟨by simpa [hdB] using hI1, Frm.of_below HI.out (below_1 _ _), hx1⟩
      | true =>
        obtain ⟨vo, ho, hown⟩ := HI.out.out
        have hol := size_of_block ho
        have ho0 : w.cell? ⟨w0.heap.size, 0, none⟩ = some vo := by rw [cell_of_row _ _ _ _ _ (0, 0) ho]; rfl
        have hon : ¬ w0.heap.size = w.heap.size := by omega
        obtain ⟨A0, cp, rfl⟩ := hown.form
        have HOWN := Lib.hid hown
        have HWF := Lib.hid hwf
        have HHO := Lib.hid ho
        have hlen : l.length ≤ 8796093022000 := by omega
        obtain ⟨M, hM⟩ : ∃ M, l.length = M := ⟨_, rfl⟩
        rw [hM] at ho0 HHO HOWN
        have HIA := Lib.hid (hI1.below (below_1 _ (.cells #[.int .u32 a, .int .i64 n] 32)))
        have HHOA := Lib.hid (below_block (below_1 _ (.cells #[.int .u32 a, .int .i64 n] 32)) (by simp; omega) (below_block (below_1 w (.cells #[.int .u32 a, .int .i64 n] 32)) hol HHO.out))
        have HXA := Lib.hid (below_block (below_1 _ (.cells #[.int .u32 a, .int .i64 n] 32)) (by simp) hx1)
        have hD1 := own_blk HOWN.out.1
        have HD1 := Lib.hid hD1
        clear ho hown hI1 hx1 hM hwf hD1
        go_wp2_with (first
          | (at_builtin; go_loud (refine wpList_append_net rfl _ _ 22 Tryd.underlying22 rfl (w0.heap.size + 2) _ _ rfl ((HOWN.out.alloc _).alloc _) (w.heap.size + 1) (a, (n : Int)) 32 rfl (by have h := heap_alloc_new (w.alloc (.cells #[.int .u32 a, .int .i64 n] 32)) (.cells #[.int .u32 a, .int .i64 n] 32); rwa [World.size_alloc] at h) HWF.out hlen (by simp; omega) ?_); intro v' w2 hown2 hgrow2; obtain ⟨hD2, hI2, hF2⟩ := HIA.out.push HHOA.out ((HOWN.out.alloc _).alloc _) hown2 hgrow2; have hX2 := hgrow2.blk ((HOWN.out.alloc _).alloc _) HXA.out (fun k hk e => by have := (HD1.out k hk).2; omega); have D0 : w2.cell? ⟨w0.heap.size, 0, none⟩ = some (.slice A0 M cp) := by rw [cell_of_row _ _ _ _ _ (0, 0) hD2]; rfl
             have D1 := frozen_of_row _ w0.heap.size 0 _ _ hD2; have HI2 := Lib.hid hI2; have HF2 := Lib.hid hF2; have HX2 := Lib.hid hX2; obtain ⟨A2, c2, rfl⟩ := hown2.form; obtain ⟨L2, hL2⟩ : ∃ L2, (l ++ [(a, (n : Int))]).length = L2 := ⟨_, rfl⟩; rw [hL2] at HI2 HF2 ⊢; clear hL2 hown2 hgrow2 hD2 hI2 hF2 hX2)
          | fail)
        go_meet
        exact ⟨HI2.out, ((Frm.of_below HI.out (below_1 _ _)).trans (Frm.of_below (HI.out.below (below_1 _ _)) (below_1 _ _))).trans HF2.out, by rw [heap_setCell_other _ _ _ _ (fun e => hon e.symm)]; exact HX2.out⟩
    case rest =>
      obtain ⟨hI3, hf3, hx3⟩ := hcut
      have HF3 := Lib.hid hf3
      obtain ⟨d0, d1, _, _⟩ := row2 hx3
      have HI3 := Lib.hid hI3
      clear hI3 hx3 hf3
      go_wp2_with fail
      go_at_call 48
      (with_reducible refine (HO.out _).mono ?_)
      rintro e w4 ⟨rfl, hb4⟩
      have HI4 := Lib.hid (HI3.out.below hb4)
      have HF4 := Lib.hid (HF3.out.trans (Frm.of_below HI3.out hb4))
      clear hb4
      go_wp2
      go_end0
      exact ⟨rfl, (HI4.out.below (below_1 _ _)).below (below_1 _ _), (HF4.out.trans (Frm.of_below HI4.out (below_1 _ _))).trans (Frm.of_below (HI4.out.below (below_1 _ _)) (below_1 _ _))⟩
set_option maxRecDepth 100000 in
set_option maxHeartbeats 4000000 in
theorem walk_succ (hT : Tri w0 T B N m) {k : Nat} (ih : WalkC w0 N m k) : WalkC w0 N m (k + 1) := by
  intro w a n l hn hF hA hI hlen
  have hn32 : n < 32 := by omega
  by_cases hN0 : N (a, (n : Int)) = none
  · exact walk_none hT hn hF hI hN0
  · obtain ⟨b, hN⟩ := Option.ne_none_iff_exists'.1 hN0
    clear hN0
    rw [hN, ptrO_some]
    have hwf : wfN (a, (n : Int)) := ⟨WalkArith.wf_u32 hA, WalkArith.wf_i64 (by simp only; omega)⟩
    have hW := hT.below hI.bel
    obtain ⟨v, -, ⟨c0, -, -, -⟩, -⟩ := hW.cells hN
    have HT := Lib.hid hT
    have HNb := Lib.hid hN
    have hbl := hT.lt hN
    have hsz := hI.bel.size
    have hbn : ¬ b = w.heap.size := by omega
    have hbl2 : b < w.heap.size := by omega
    have HI := Lib.hid hI
    obtain ⟨hs, hhs⟩ : ∃ hs, (look m (a, (n : Int))).isSome = hs := ⟨_, rfl⟩
    have HLs : Hid (lst m (k + 1) (a, (n : Int)) = hdB hs (a, (n : Int)) ++ (lst m k (a, (n : Int) + 1) ++ lst m k (a + lowI (n + 1), (n : Int) + 1))) := Lib.hid (by simp only [lst, hhs, hdB, halfP, halfQ, Int.toNat_natCast])
    rw [hhs] at c0
    rw [HLs.out]
    have hll : l.length ≤ 64 := by omega
    have HO : Hid (∀ w : World, Calls Tryd.prog 48 #[.agg #[.int .u32 a, .int .i64 n]] w fun e w' => e = .returned (.tuple #[.agg #[.int .u32 a, .int .i64 ((n : Int) + 1)], .agg #[.int .u32 (a + lowI (n + 1)), .int .i64 ((n : Int) + 1)], .nilIface]) ∧ Below w.heap.size w w') := Lib.hid (fun w => Halves_ok w hA hn32 hF)
    have HFP : Hid (netF (a, ((n + 1 : Nat) : Int)) = 0) := Lib.hid (by simpa using half_p hn32 hF)
    have HFQ : Hid (netF (a + lowI (n + 1), ((n + 1 : Nat) : Int)) = 0) := Lib.hid (by simpa using half_q hn32 hF)
    have HAQ := Lib.hid (half_is hn32 hA hF)
    have HLen : Hid (l.length + (hdB hs (a, (n : Int))).length + (lst m k (a, (n : Int) + 1)).length + (lst m k (a + lowI (n + 1), (n : Int) + 1)).length ≤ 64) := Lib.hid (by rw [HLs.out] at hlen; simp only [List.length_append] at hlen; omega)
    have hnk : n + 1 + k = 32 := by omega
    have HCP : Hid (∀ (w : World) (l : List Nt), LInv w0 l w → l.length + (lst m k (a, (n : Int) + 1)).length ≤ 64 → Calls Tryd.prog 47 #[ptrO (N (a, (n : Int) + 1)), .agg #[.int .u32 a, .int .i64 ((n : Int) + 1)], .pointer (some ⟨w0.heap.size, 0, none⟩), .pointer (some ⟨w0.heap.size + 1, 0, none⟩)] w fun e w' => e = .returned (.tuple #[]) ∧ LInv w0 (l ++ lst m k (a, (n : Int) + 1)) w' ∧ Frm w0 w w') := Lib.hid (fun w l h1 h2 => ih hnk HFP.out hA h1 h2)
    have HCQ : Hid (∀ (w : World) (l : List Nt), LInv w0 l w → l.length + (lst m k (a + lowI (n + 1), (n : Int) + 1)).length ≤ 64 → Calls Tryd.prog 47 #[ptrO (N (a + lowI (n + 1), (n : Int) + 1)), .agg #[.int .u32 (a + lowI (n + 1)), .int .i64 ((n : Int) + 1)], .pointer (some ⟨w0.heap.size, 0, none⟩), .pointer (some ⟨w0.heap.size + 1, 0, none⟩)] w fun e w' => e = .returned (.tuple #[]) ∧ LInv w0 (l ++ lst m k (a + lowI (n + 1), (n : Int) + 1)) w' ∧ Frm w0 w w') := Lib.hid (fun w l h1 h2 => ih hnk HFQ.out HAQ.out h1 h2)
    clear ih
    have HA := Lib.hid hA
    clear hI hW hN hT hhs hF hn hn32 hlen
    go_enter Tryd.func47, Tryd.ntmps47
    go_upto_if 14 with (fail)
    go_cut [] (fun wx => LInv w0 (l ++ hdB hs (a, (n : Int))) wx ∧ Frm w0 w wx ∧ wx.heap[w.heap.size]? = some (.cells #[.int .u32 a, .int .i64 n] 32 (0, 0)))
    case first =>
      have hI1 := HI.out.below (below_1 w (.cells #[.int .u32 a, .int .i64 n] 32))
      have hx1 := heap_alloc_new w (.cells #[.int .u32 a, .int .i64 n] 32)
      cases hs with
      | false =>
        go_wp2
        go_meet
        exact ⟨by simpa [hdB] using hI1, Frm.of_below HI.out (below_1 _ _), hx1⟩
      | true =>
        obtain ⟨vo, ho, hown⟩ := HI.out.out
        have hol := size_of_block ho
        have ho0 : w.cell? ⟨w0.heap.size, 0, none⟩ = some vo := by rw [cell_of_row _ _ _ _ _ (0, 0) ho]; rfl
        have hon : ¬ w0.heap.size = w.heap.size := by omega
        obtain ⟨A0, cp, rfl⟩ := hown.form
        have HOWN := Lib.hid hown
        have HWF := Lib.hid hwf
        have HHO := Lib.hid ho
        have hlen : l.length ≤ 8796093022000 := by omega
        obtain ⟨M, hM⟩ : ∃ M, l.length = M := ⟨_, rfl⟩
        rw [hM] at ho0 HHO HOWN
        have HIA := Lib.hid (hI1.below (below_1 _ (.cells #[.int .u32 a, .int .i64 n] 32)))
        have HHOA := Lib.hid (below_block (below_1 _ (.cells #[.int .u32 a, .int .i64 n] 32)) (by simp; omega) (below_block (below_1 w (.cells #[.int .u32 a, .int .i64 n] 32)) hol HHO.out))
        have HXA := Lib.hid (below_block (below_1 _ (.cells #[.int .u32 a, .int .i64 n] 32)) (by simp) hx1)
        have hD1 := own_blk HOWN.out.1
        have HD1 := Lib.hid hD1
        clear ho hown hI1 hx1 hM hwf hD1
        go_wp2_with (first
          | (at_builtin; go_loud (refine wpList_append_net rfl _ _ 22 Tryd.underlying22 rfl (w0.heap.size + 2) _ _ rfl ((HOWN.out.alloc _).alloc _) (w.heap.size + 1) (a, (n : Int)) 32 rfl (by have h := heap_alloc_new (w.alloc (.cells #[.int .u32 a, .int .i64 n] 32)) (.cells #[.int .u32 a, .int .i64 n] 32); rwa [World.size_alloc] at h) HWF.out hlen (by simp; omega) ?_); intro v' w2 hown2 hgrow2; obtain ⟨hD2, hI2, hF2⟩ := HIA.out.push HHOA.out ((HOWN.out.alloc _).alloc _) hown2 hgrow2; have hX2 := hgrow2.blk ((HOWN.out.alloc _).alloc _) HXA.out (fun k hk e => by have := (HD1.out k hk).2; omega); have D0 : w2.cell? ⟨w0.heap.size, 0, none⟩ = some (.slice A0 M cp) := by rw [cell_of_row _ _ _ _ _ (0, 0) hD2]; rfl
             have D1 := frozen_of_row _ w0.heap.size 0 _ _ hD2; have HI2 := Lib.hid hI2; have HF2 := Lib.hid hF2; have HX2 := Lib.hid hX2; obtain ⟨A2, c2, rfl⟩ := hown2.form; obtain ⟨L2, hL2⟩ : ∃ L2, (l ++ [(a, (n : Int))]).length = L2 := ⟨_, rfl⟩; rw [hL2] at HI2 HF2 ⊢; clear hL2 hown2 hgrow2 hD2 hI2 hF2 hX2)
          | fail)
        go_meet
        exact ⟨HI2.out, ((Frm.of_below HI.out (below_1 _ _)).trans (Frm.of_below (HI.out.below (below_1 _ _)) (below_1 _ _))).trans HF2.out, by rw [heap_setCell_other _ _ _ _ (fun e => hon e.symm)]; exact HX2.out⟩
    case rest =>
      obtain ⟨hI3, hf3, hx3⟩ := hcut
      have HF3 := Lib.hid hf3
      obtain ⟨d0, d1, _, _⟩ := row2 hx3
      have HI3 := Lib.hid hI3
      clear hI3 hx3 hf3
      go_wp2_with fail
      go_at_call 48
      (with_reducible refine (HO.out _).mono ?_)
      rintro e w4 ⟨rfl, hb4⟩
      have hw4 := HI3.out.below hb4
      have HF4 := Lib.hid (HF3.out.trans (Frm.of_below HI3.out hb4))
      have hI4 := ((HI3.out.below hb4).below (below_1 _ (.cells #[.int .u32 a, .int .i64 ((n : Int) + 1)] 32))).below (below_1 _ (.cells #[.int .u32 (a + lowI (n + 1)), .int .i64 ((n : Int) + 1)] 32))
      have hLo := below_block (below_1 (w4.alloc (.cells #[.int .u32 a, .int .i64 ((n : Int) + 1)] 32)) (.cells #[.int .u32 (a + lowI (n + 1)), .int .i64 ((n : Int) + 1)] 32)) (by simp) (heap_alloc_new w4 (.cells #[.int .u32 a, .int .i64 ((n : Int) + 1)] 32))
      have hHi := heap_alloc_new (w4.alloc (.cells #[.int .u32 a, .int .i64 ((n : Int) + 1)] 32)) (.cells #[.int .u32 (a + lowI (n + 1)), .int .i64 ((n : Int) + 1)] 32)
      rw [World.size_alloc] at hHi
      have HF5 := Lib.hid ((HF4.out.trans (Frm.of_below hw4 (below_1 _ (.cells #[.int .u32 a, .int .i64 ((n : Int) + 1)] 32)))).trans (Frm.of_below (hw4.below (below_1 _ _)) (below_1 _ (.cells #[.int .u32 (a + lowI (n + 1)), .int .i64 ((n : Int) + 1)] 32))))
      have HAP := Lib.hid (hw4.apart2 (below_2 _ (.cells #[.int .u32 a, .int .i64 ((n : Int) + 1)] 32) (.cells #[.int .u32 (a + lowI (n + 1)), .int .i64 ((n : Int) + 1)] 32)) (g := w4.heap.size + 1) (by omega))
      have hw4s := hw4.bel.size
      clear hb4 hw4
      go_wp2
      generalize ((w4.alloc (.cells #[.int .u32 a, .int .i64 ((n : Int) + 1)] 32)).alloc (.cells #[.int .u32 (a + lowI (n + 1)), .int .i64 ((n : Int) + 1)] 32)) = w5 at *
      obtain ⟨v5, -, ⟨-, -, k2, k3⟩, -⟩ := (HT.out.below hI4.bel).cells HNb.out
      rw [show halfP (a, (n : Int)) = (a, (n : Int) + 1) from rfl] at k2
      obtain ⟨tf, hf⟩ := hI4.fn
      have kf : w5.cell? ⟨w0.heap.size + 1, 0, none⟩ = some (.func (.func 47) #[] #[.pointer (some ⟨w0.heap.size, 0, none⟩), .pointer (some ⟨w0.heap.size + 1, 0, none⟩)]) := by rw [cell_of_row _ _ _ _ _ (0, 0) hf]; rfl
      obtain ⟨l0, l1, _, _⟩ := row2 hLo
      have HI5d := Lib.hid hI4
      have HI5 := Lib.hid (hI4.below (w' := w5.drew) ((Below.refl _ _).drew))
      have HHi : Hid (w5.drew.heap[w4.heap.size + 1]? = some (.cells #[.int .u32 (a + lowI (n + 1)), .int .i64 ((n : Int) + 1)] 32 (0, 0))) := Lib.hid hHi
      clear hI4 hLo hHi hf k3
      go_still_tail 7, (by kernel_rfl)
      change wpList _ _ _ _ _ w5.drew
      go_wp2_with fail
      (with_reducible refine (HCP.out _ _ HI5.out (by have := HLen.out; simp only [List.length_append]; omega)).mono ?_)
      rintro e w6 ⟨rfl, hI6, hF6⟩
      have hHi6 := (hF6 _ _ HHi.out (by omega) HAP.out).1
      have HF6 := Lib.hid ((HF5.out.trans (Frm.of_below HI5d.out ((Below.refl _ w5).drew))).trans hF6)
      obtain ⟨v6, -, ⟨-, -, -, k3⟩, -⟩ := (HT.out.below hI6.bel).cells HNb.out
      rw [show halfQ (a, (n : Int)) = (a + lowI (n + 1), (n : Int) + 1) from rfl] at k3
      obtain ⟨tf6, hf6⟩ := hI6.fn
      have kf6 : w6.cell? ⟨w0.heap.size + 1, 0, none⟩ = some (.func (.func 47) #[] #[.pointer (some ⟨w0.heap.size, 0, none⟩), .pointer (some ⟨w0.heap.size + 1, 0, none⟩)]) := by rw [cell_of_row _ _ _ _ _ (0, 0) hf6]; rfl
      obtain ⟨m0, m1, _, _⟩ := row2 hHi6
      have HI7 := Lib.hid (hI6.below (w' := w6.drew) ((Below.refl _ _).drew))
      have HI6 := Lib.hid hI6
      clear hI6 hF6 hHi6 hf6 kf l0 l1 k2
      go_wp2
      go_still_tail 7, (by kernel_rfl)
      change wpList _ _ _ _ _ w6.drew
      go_wp2_with fail
      (with_reducible refine (HCQ.out _ _ HI7.out (by have := HLen.out; simp only [List.length_append]; omega)).mono ?_)
      rintro e w8 ⟨rfl, hI8, hF8⟩
      rw [List.append_assoc, List.append_assoc] at hI8
      have HI8 := Lib.hid hI8
      have HF8 := Lib.hid ((HF6.out.trans (Frm.of_below HI6.out ((Below.refl _ w6).drew))).trans hF8)
      clear hI8 hF8
      go_wp2
      go_end0
      exact ⟨rfl, HI8.out, HF8.out⟩
end
end Go.Proofs.YtplojnlmofbneaaDoor
