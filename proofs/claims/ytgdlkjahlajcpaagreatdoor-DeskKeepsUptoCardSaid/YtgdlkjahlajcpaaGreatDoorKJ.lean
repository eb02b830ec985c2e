/- trie.List: its closure, as a contract. trie.List, as a contract. The table's functions as contracts for laws: one for each function, whatever is asked. -/
import Derived.Test.YtgdlkjahlajcpaaGreatDoorKI
import Derived.StillTailTactics
import Derived.WalkArith
import Derived.Laws.EntriesVeiled
namespace Go.Proofs.YtgdlkjahlajcpaaGreatDoor
open Go.ChangeShapes Go.WideShapes Go.ChangeAt Go.RowKit
set_option linter.unusedVariables false
set_option linter.unusedSimpArgs false
/-- what the closure finds and leaves: the list so far in its variable, itself in the other -/
structure LInv (w0 : World) (l : List Nt) (w : World) : Prop where
  bel : Below w0.heap.size w0 w
  out : ∃ v, w.heap[w0.heap.size]? = some (.cells #[v] 26 (0, 0)) ∧ OwnN w (w0.heap.size + 2) v l
  fn : ∃ t, w.heap[w0.heap.size + 1]? = some (.cells #[.func (.func 86) #[] #[.pointer (some ⟨w0.heap.size, 0, none⟩), .pointer (some ⟨w0.heap.size + 1, 0, none⟩)]] t (0, 0))
theorem LInv.below {w0 w w' : World} {l : List Nt} (h : LInv w0 l w) (hb : Below w.heap.size w w') : LInv w0 l w' := by
  obtain ⟨v, h1, h2⟩ := h.out
  obtain ⟨t, h3⟩ := h.fn
  exact ⟨h.bel.trans (hb.mono h.bel.size), ⟨v, below_block hb (size_of_block h1) h1, h2.below hb⟩, ⟨t, below_block hb (size_of_block h3) h3⟩⟩
/-- all other blocks lie as they lay, and are no row of the list's -/
def Frm (w0 w w' : World) : Prop := ∀ g o, w.heap[g]? = some o → g ≠ w0.heap.size → (∀ v, w.heap[w0.heap.size]? = some (.cells #[v] 26 (0, 0)) → v.ownBlock ≠ some g) →
  w'.heap[g]? = some o ∧ ∀ v, w'.heap[w0.heap.size]? = some (.cells #[v] 26 (0, 0)) → v.ownBlock ≠ some g
theorem Frm.trans {w0 a b c : World} (h : Frm w0 a b) (k : Frm w0 b c) : Frm w0 a c := fun g o h1 h2 h3 => by
  obtain ⟨h4, h5⟩ := h g o h1 h2 h3
  exact k g o h4 h2 h5
theorem Frm.of_below {w0 w w' : World} {l : List Nt} (hI : LInv w0 l w) (hb : Below w.heap.size w w') : Frm w0 w w' := fun g o h1 h2 h3 => by
  refine ⟨below_block hb (size_of_block h1) h1, fun v hv => h3 v ?_⟩
  obtain ⟨u, hu, _⟩ := hI.out
  rw [hb.block _ (size_of_block hu)] at hv
  exact hv
theorem LInv.apart {w0 w : World} {l : List Nt} (hI : LInv w0 l w) {g : Nat} (hg : w.heap.size ≤ g) : ∀ v, w.heap[w0.heap.size]? = some (.cells #[v] 26 (0, 0)) → v.ownBlock ≠ some g := by
  intro v hv e
  obtain ⟨u, hu, ho⟩ := hI.out
  rw [hu] at hv
  simp only [Option.some.injEq, Obj.cells.injEq, and_true] at hv
  have : u = v := by simpa using hv
  subst this
  have := (own_blk ho.1 g e).2
  omega
theorem LInv.apart2 {w0 w w' : World} {l : List Nt} (hI : LInv w0 l w) (hb : Below w.heap.size w w') {g : Nat} (hg : w.heap.size ≤ g) : ∀ v, w'.heap[w0.heap.size]? = some (.cells #[v] 26 (0, 0)) → v.ownBlock ≠ some g := by
  intro v hv
  obtain ⟨u, hu, _⟩ := hI.out
  rw [hb.block _ (size_of_block hu)] at hv
  exact hI.apart hg v hv
/-- one more in the list -/
theorem LInv.push {w0 w w2 : World} {l : List Nt} {x : Nt} {v v' : Value} (h : LInv w0 l w) (ho : w.heap[w0.heap.size]? = some (.cells #[v] 26 (0, 0))) (hown : OwnN w (w0.heap.size + 2) v l) (h2 : OwnN w2 (w0.heap.size + 2) v' (l ++ [x])) (hg : Grow w v w2 v') :
    w2.heap[w0.heap.size]? = some (.cells #[v] 26 (0, 0)) ∧ LInv w0 (l ++ [x]) (w2.setCell ⟨w0.heap.size, 0, none⟩ v') ∧ Frm w0 w (w2.setCell ⟨w0.heap.size, 0, none⟩ v') := by
  have hD : w2.heap[w0.heap.size]? = some (.cells #[v] 26 (0, 0)) := by
    rw [hg.1.block _ (size_of_block ho) (fun e => by have := (own_blk hown.1 _ e.symm).1; omega)]; exact ho
  obtain ⟨t, hf⟩ := h.fn
  have hF : w2.heap[w0.heap.size + 1]? = some (.cells #[.func (.func 86) #[] #[.pointer (some ⟨w0.heap.size, 0, none⟩), .pointer (some ⟨w0.heap.size + 1, 0, none⟩)]] t (0, 0)) := by
    rw [hg.1.block _ (size_of_block hf) (fun e => by have := (own_blk hown.1 _ e.symm).1; omega)]; exact hf
  refine ⟨hD, ⟨(hg.below h.bel hown.1 (by omega) h.bel.size).setCell (Nat.le_refl _) _, ⟨v', heap_setCell_same w2 _ 0 _ _ v' hD, h2.setCell (by omega) _⟩, t, ?_⟩, ?_⟩
  · rw [heap_setCell_other _ _ _ _ (by simp)]; exact hF
  · intro g o h3 h4 h5
    have h6 := h5 v ho
    refine ⟨?_, fun u hu e => ?_⟩
    · rw [heap_setCell_other _ _ _ _ h4, hg.1.block _ (size_of_block h3) (fun e => h6 e.symm)]; exact h3
    · rw [heap_setCell_same w2 _ 0 _ _ v' hD] at hu
      simp only [Option.some.injEq, Obj.cells.injEq, and_true] at hu
      have : v' = u := by simpa using hu
      subst this
      rcases hg.2 with h7 | ⟨q, h7, h8⟩
      · rw [h7] at e; exact h6 e
      · rw [h7] at e; injection e with e; have := size_of_block h3; omega
section
variable {w0 : World} {T B : Nat} {N : NM} {m : List (Nt × Int)}
theorem lst_none (hT : Tri w0 T B N m) {k : Nat} {a : Int} {n : Nat} (hn : n + k = 32) (hF : netF (a, (n : Int)) = 0) (hN : N (a, (n : Int)) = none) : lst m k (a, (n : Int)) = [] := by
  refine lst_nil hT.ok.netsOk hn hF fun y hy => ?_
  cases hi : inB y (a, (n : Int)) with
  | false => rfl
  | true =>
    exfalso
    obtain ⟨h1, h2, _, h4⟩ := inB_iff.1 hi
    obtain ⟨j, hj, ej, fj⟩ := net_ok h1
    simp only [Int.toNat_natCast] at h2 h4
    have h5 := hT.chain (hT.has y hy) ej n (by omega)
    have : trimN y n = (a, (n : Int)) := by unfold trimN; rw [h4]
    rw [this] at h5
    exact h5 hN
set_option maxRecDepth 100000 in
set_option maxHeartbeats 4000000 in
theorem walk_none (hT : Tri w0 T B N m) {w : World} {k : Nat} {a : Int} {n : Nat} {l : List Nt} (hn : n + k = 32) (hF : netF (a, (n : Int)) = 0) (hI : LInv w0 l w) (hN : N (a, (n : Int)) = none) :
    Calls Tryz.prog 86 #[ptrO (N (a, (n : Int))), .agg #[.int .u32 a, .int .i64 n], .pointer (some ⟨w0.heap.size, 0, none⟩), .pointer (some ⟨w0.heap.size + 1, 0, none⟩)] w fun e w' => e = .returned (.tuple #[]) ∧ LInv w0 (l ++ lst m k (a, (n : Int))) w' ∧ Frm w0 w w' := by
  have hl := lst_none hT hn hF hN
  rw [hl, hN, ptrO_none, List.append_nil]
  have HI := Lib.hid hI
  clear hl hN hI hT
  go_enter Tryz.func86, Tryz.ntmps86
  go_wp2
  refine bodyPost_ret (results_none rfl _ _ _) rfl ?_
  exact ⟨rfl, HI.out.below (below_1 _ _), Frm.of_below HI.out (below_1 _ _)⟩
theorem append_len {l : List Nt} {x : Nt} {r : List Nt} (h : l.length + ([x] ++ r).length ≤ 64) : (l ++ [x]).length + r.length ≤ 64 := by simp at h ⊢; omega
theorem Grow.blk {w w2 : World} {v v' : Value} {base : Nat} {xs : List Nt} {g : Nat} {o : Obj} (hg : Grow w v w2 v') (hown : OwnN w base v xs) (ho : w.heap[g]? = some o) (hn : ∀ k, v.ownBlock = some k → g ≠ k) : w2.heap[g]? = some o := by
  rw [hg.1.block _ (size_of_block ho) (fun e => hn _ e.symm rfl)]; exact ho
/-- the contract of the closure at a depth -/
def WalkC (w0 : World) (N : NM) (m : List (Nt × Int)) (k : Nat) : Prop := ∀ {w : World} {a : Int} {n : Nat} {l : List Nt}, n + k = 32 → netF (a, (n : Int)) = 0 → is32 a → LInv w0 l w → l.length + (lst m k (a, (n : Int))).length ≤ 64 →
    Calls Tryz.prog 86 #[ptrO (N (a, (n : Int))), .agg #[.int .u32 a, .int .i64 n], .pointer (some ⟨w0.heap.size, 0, none⟩), .pointer (some ⟨w0.heap.size + 1, 0, none⟩)] w fun e w' => e = .returned (.tuple #[]) ∧ LInv w0 (l ++ lst m k (a, (n : Int))) w' ∧ Frm w0 w w'
def hdM (m : List (Nt × Int)) (x : Nt) : List Nt := if (look m x).isSome then [x] else []
def hdB (hs : Bool) (x : Nt) : List Nt := if hs then [x] else []
theorem hdM_len (m : List (Nt × Int)) (x : Nt) (k : Nat) : (hdM m x).length ≤ (lst m k x).length := by
  unfold hdM
  cases k with
  | zero => exact Nat.le_refl _
  | succ k => simp only [lst, List.length_append]; omega
set_option maxRecDepth 100000 in
set_option maxHeartbeats 4000000 in
theorem walk_zero (hT : Tri w0 T B N m) : WalkC w0 N m 0 := by
  intro w a n l hn hF hA hI hlen
  have hn32 : n = 32 := by omega
  by_cases hN0 : N (a, (n : Int)) = none
  · exact walk_none hT hn hF hI hN0
  · obtain ⟨b, hN⟩ := Option.ne_none_iff_exists'.1 hN0
    clear hN0
    rw [hN, ptrO_some]
    have hwf : wfN (a, (n : Int)) := ⟨WalkArith.wf_u32 hA, WalkArith.wf_i64 (by simp only; omega)⟩
    have hW := hT.below hI.bel
    obtain ⟨v, -, ⟨c0, -, -, -⟩, -⟩ := hW.cells hN
    have hbl := hT.lt hN
    have hsz := hI.bel.size
    have hbn : ¬ b = w.heap.size := by omega
    have hbl2 : b < w.heap.size := by omega
    have HI := Lib.hid hI
    obtain ⟨hs, hhs⟩ : ∃ hs, (look m (a, (n : Int))).isSome = hs := ⟨_, rfl⟩
    have HLs : Hid (lst m 0 (a, (n : Int)) = hdB hs (a, (n : Int))) := Lib.hid (by simp only [lst, hhs, hdB])
    rw [hhs] at c0
    rw [HLs.out]
    have hll : l.length ≤ 64 := by omega
    have HO : Hid (∀ w : World, Calls Tryz.prog 87 #[.agg #[.int .u32 a, .int .i64 n]] w fun e w' => e = .returned (.tuple #[.agg #[.int .u32 0, .int .i64 0], .agg #[.int .u32 0, .int .i64 0], .iface 35 (.int .i64 2)]) ∧ Below w.heap.size w w') := Lib.hid (fun w => by
      subst hn32
      exact Halves_one w hA hF)
    have HA := Lib.hid hA
    clear hI hW hN hT hhs hF hn hn32 hlen
    go_enter Tryz.func86, Tryz.ntmps86
    go_upto_if 14 with (fail)
    go_cut [] (fun wx => LInv w0 (l ++ hdB hs (a, (n : Int))) wx ∧ Frm w0 w wx ∧ wx.heap[w.heap.size]? = some (.cells #[.int .u32 a, .int .i64 n] 47 (0, 0)))
    case first =>
      have hI1 := HI.out.below (below_1 w (.cells #[.int .u32 a, .int .i64 n] 47))
      have hx1 := heap_alloc_new w (.cells #[.int .u32 a, .int .i64 n] 47)
      cases hs with
      | false =>
        go_wp2
        go_meet
        exact ⟨by simpa [hdB] using hI1, Frm.of_below HI.out (below_1 _ _), hx1⟩
      | true =>
        obtain ⟨vo, ho, hown⟩ := HI.out.out
        have hol := size_of_block ho
        have ho0 : w.cell? ⟨w0.heap.size, 0, none⟩ = some vo := by rw [cell_of_row _ _ _ _ _ (0, 0) ho]; rfl
        have hon : ¬ w0.heap.size = w.heap.size := by omega
        obtain ⟨A0, cp, rfl⟩ := hown.form
        have HOWN := Lib.hid hown
        have HWF := Lib.hid hwf
        have HHO := Lib.hid ho
        have hlen : l.length ≤ 8796093022000 := by omega
        obtain ⟨M, hM⟩ : ∃ M, l.length = M := ⟨_, rfl⟩
        rw [hM] at ho0 HHO HOWN
        have HIA := Lib.hid (hI1.below (below_1 _ (.cells #[.int .u32 a, .int .i64 n] 47)))
        have HHOA := Lib.hid (below_block (below_1 _ (.cells #[.int .u32 a, .int .i64 n] 47)) (by simp; omega) (below_block (below_1 w (.cells #[.int .u32 a, .int .i64 n] 47)) hol HHO.out))
        have HXA := Lib.hid (below_block (below_1 _ (.cells #[.int .u32 a, .int .i64 n] 47)) (by simp) hx1)
        have hD1 := own_blk HOWN.out.1
        have HD1 := Lib.hid hD1
        clear ho hown hI1 hx1 hM hwf hD1
        go_wp2_with (first
          | (at_builtin; go_loud (refine wpList_append_net rfl _ _ 26 Tryz.underlying26 rfl (w0.heap.size + 2) _ _ rfl ((HOWN.out.alloc _).alloc _) (w.heap.size + 1) (a, (n : Int)) 47 rfl (by have h := heap_alloc_new (w.alloc (.cells #[.int .u32 a, .int .i64 n] 47)) (.cells #[.int .u32 a, .int .i64 n] 47); rwa [World.size_alloc] at h) HWF.out hlen (by simp; omega) ?_); intro v' w2 hown2 hgrow2; obtain ⟨hD2, hI2, hF2⟩ := HIA.out.push HHOA.out ((HOWN.out.alloc _).alloc _) hown2 hgrow2; have hX2 := hgrow2.blk ((HOWN.out.alloc _).alloc _) HXA.out (fun k hk e => by have := (HD1.out k hk).2; omega); have D0 : w2.cell? ⟨w0.heap.size, 0, none⟩ = some (.slice A0 M cp) := by rw [cell_of_row _ _ _ _ _ (0, 0) hD2]; rfl
             have D1 := frozen_of_row _ w0.heap.size 0 _ _ hD2; have HI2 := Lib.hid hI2; have HF2 := Lib.hid hF2; have HX2 := Lib.hid hX2; obtain ⟨A2, c2, rfl⟩ := hown2.form; obtain ⟨L2, hL2⟩ : ∃ L2, (l ++ [(a, (n : Int))]).length = L2 := ⟨_, rfl⟩; rw [hL2] at HI2 HF2 ⊢; clear hL2 hown2 hgrow2 hD2 hI2 hF2 hX2)
          | fail)
        go_meet
        exact ⟨HI2.out, ((Frm.of_below HI.out (below_1 _ _)).trans (Frm.of_below (HI.out.below (below_1 _ _)) (below_1 _ _))).trans HF2.out, by rw [heap_setCell_other _ _ _ _ (fun e => hon e.symm)]; exact HX2.out⟩
    case rest =>
      obtain ⟨hI3, hf3, hx3⟩ := hcut
      have HF3 := Lib.hid hf3
      obtain ⟨d0, d1, _, _⟩ := row2 hx3
      have HI3 := Lib.hid hI3
      clear hI3 hx3 hf3
      go_wp2_with fail
      go_at_call 87
      (with_reducible refine (HO.out _).mono ?_)
      rintro e w4 ⟨rfl, hb4⟩
      have HI4 := Lib.hid (HI3.out.below hb4)
      have HF4 := Lib.hid (HF3.out.trans (Frm.of_below HI3.out hb4))
      clear hb4
      go_wp2
      go_end0
      exact ⟨rfl, (HI4.out.below (below_1 _ _)).below (below_1 _ _), (HF4.out.trans (Frm.of_below HI4.out (below_1 _ _))).trans (Frm.of_below (HI4.out.below (below_1 _ _)) (below_1 _ _))⟩
set_option maxRecDepth 100000 in
set_option maxHeartbeats 4000000 in
theorem walk_succ (hT : Tri w0 T B N m) {k : Nat} (ih : WalkC w0 N m k) : WalkC w0 N m (k + 1) := by
  intro w a n l hn hF hA hI hlen
  have hn32 : n < 32 := by omega
  by_cases hN0 : N (a, (n : Int)) = none
  · exact walk_none hT hn hF hI hN0
  · obtain ⟨b, hN⟩ := Option.ne_none_iff_exists'.1 hN0
    clear hN0
    rw [hN, ptrO_some]
    have hwf : wfN (a, (n : Int)) := ⟨WalkArith.wf_u32 hA, WalkArith.wf_i64 (by simp only; omega)⟩
    have hW := hT.below hI.bel
    obtain ⟨v, -, ⟨c0, -, -, -⟩, -⟩ := hW.cells hN
    have HT := Lib.hid hT
    have HNb := Lib.hid hN
    have hbl := hT.lt hN
    have hsz := hI.bel.size
    have hbn : ¬ b = w.heap.size := by omega
    have hbl2 : b < w.heap.size := by omega
    have HI := Lib.hid hI
    obtain ⟨hs, hhs⟩ : ∃ hs, (look m (a, (n : Int))).isSome = hs := ⟨_, rfl⟩
    have HLs : Hid (lst m (k + 1) (a, (n : Int)) = hdB hs (a, (n : Int)) ++ (lst m k (a, (n : Int) + 1) ++ lst m k (a + lowI (n + 1), (n : Int) + 1))) := Lib.hid (by simp only [lst, hhs, hdB, halfP, halfQ, Int.toNat_natCast])
    rw [hhs] at c0
    rw [HLs.out]
    have hll : l.length ≤ 64 := by omega
    have HO : Hid (∀ w : World, Calls Tryz.prog 87 #[.agg #[.int .u32 a, .int .i64 n]] w fun e w' => e = .returned (.tuple #[.agg #[.int .u32 a, .int .i64 ((n : Int) + 1)], .agg #[.int .u32 (a + lowI (n + 1)), .int .i64 ((n : Int) + 1)], .nilIface]) ∧ Below w.heap.size w w') := Lib.hid (fun w => Halves_ok w hA hn32 hF)
    have HFP : Hid (netF (a, ((n + 1 : Nat) : Int)) = 0) := Lib.hid (by simpa using half_p hn32 hF)
    have HFQ : Hid (netF (a + lowI (n + 1), ((n + 1 : Nat) : Int)) = 0) := Lib.hid (by simpa using half_q hn32 hF)
    have HAQ := Lib.hid (half_is hn32 hA hF)
    have HLen : Hid (l.length + (hdB hs (a, (n : Int))).length + (lst m k (a, (n : Int) + 1)).length + (lst m k (a + lowI (n + 1), (n : Int) + 1)).length ≤ 64) := Lib.hid (by rw [HLs.out] at hlen; simp only [List.length_append] at hlen; omega)
    have hnk : n + 1 + k = 32 := by omega
    have HCP : Hid (∀ (w : World) (l : List Nt), LInv w0 l w → l.length + (lst m k (a, (n : Int) + 1)).length ≤ 64 → Calls Tryz.prog 86 #[ptrO (N (a, (n : Int) + 1)), .agg #[.int .u32 a, .int .i64 ((n : Int) + 1)], .pointer (some ⟨w0.heap.size, 0, none⟩), .pointer (some ⟨w0.heap.size + 1, 0, none⟩)] w fun e w' => e = .returned (.tuple #[]) ∧ LInv w0 (l ++ lst m k (a, (n : Int) + 1)) w' ∧ Frm w0 w w') := Lib.hid (fun w l h1 h2 => ih hnk HFP.out hA h1 h2)
    have HCQ : Hid (∀ (w : World) (l : List Nt), LInv w0 l w → l.length + (lst m k (a + lowI (n + 1), (n : Int) + 1)).length ≤ 64 → Calls Tryz.prog 86 #[ptrO (N (a + lowI (n + 1), (n : Int) + 1)), .agg #[.int .u32 (a + lowI (n + 1)), .int .i64 ((n : Int) + 1)], .pointer (some ⟨w0.heap.size, 0, none⟩), .pointer (some ⟨w0.heap.size + 1, 0, none⟩)] w fun e w' => e = .returned (.tuple #[]) ∧ LInv w0 (l ++ lst m k (a + lowI (n + 1), (n : Int) + 1)) w' ∧ Frm w0 w w') := Lib.hid (fun w l h1 h2 => ih hnk HFQ.out HAQ.out h1 h2)
    clear ih
    have HA := Lib.hid hA
    clear hI hW hN hT hhs hF hn hn32 hlen
    go_enter Tryz.func86, Tryz.ntmps86
    go_upto_if 14 with (fail)
    go_cut [] (fun wx => LInv w0 (l ++ hdB hs (a, (n : Int))) wx ∧ Frm w0 w wx ∧ wx.heap[w.heap.size]? = some (.cells #[.int .u32 a, .int .i64 n] 47 (0, 0)))
    case first =>
      have hI1 := HI.out.below (below_1 w (.cells #[.int .u32 a, .int .i64 n] 47))
      have hx1 := heap_alloc_new w (.cells #[.int .u32 a, .int .i64 n] 47)
      cases hs with
      | false =>
        go_wp2
        go_meet
        exact ⟨by simpa [hdB] using hI1, Frm.of_below HI.out (below_1 _ _), hx1⟩
      | true =>
        obtain ⟨vo, ho, hown⟩ := HI.out.out
        have hol := size_of_block ho
        have ho0 : w.cell? ⟨w0.heap.size, 0, none⟩ = some vo := by rw [cell_of_row _ _ _ _ _ (0, 0) ho]; rfl
        have hon : ¬ w0.heap.size = w.heap.size := by omega
        obtain ⟨A0, cp, rfl⟩ := hown.form
        have HOWN := Lib.hid hown
        have HWF := Lib.hid hwf
        have HHO := Lib.hid ho
        have hlen : l.length ≤ 8796093022000 := by omega
        obtain ⟨M, hM⟩ : ∃ M, l.length = M := ⟨_, rfl⟩
        rw [hM] at ho0 HHO HOWN
        have HIA := Lib.hid (hI1.below (below_1 _ (.cells #[.int .u32 a, .int .i64 n] 47)))
        have HHOA := Lib.hid (below_block (below_1 _ (.cells #[.int .u32 a, .int .i64 n] 47)) (by simp; omega) (below_block (below_1 w (.cells #[.int .u32 a, .int .i64 n] 47)) hol HHO.out))
        have HXA := Lib.hid (below_block (below_1 _ (.cells #[.int .u32 a, .int .i64 n] 47)) (by simp) hx1)
        have hD1 := own_blk HOWN.out.1
        have HD1 := Lib.hid hD1
        clear ho hown hI1 hx1 hM hwf hD1
        go_wp2_with (first
          | (at_builtin; go_loud (refine wpList_append_net rfl _ _ 26 Tryz.underlying26 rfl (w0.heap.size + 2) _ _ rfl ((HOWN.out.alloc _).alloc _) (w.heap.size + 1) (a, (n : Int)) 47 rfl (by have h := heap_alloc_new (w.alloc (.cells #[.int .u32 a, .int .i64 n] 47)) (.cells #[.int .u32 a, .int .i64 n] 47); rwa [World.size_alloc] at h) HWF.out hlen (by simp; omega) ?_); intro v' w2 hown2 hgrow2; obtain ⟨hD2, hI2, hF2⟩ := HIA.out.push HHOA.out ((HOWN.out.alloc _).alloc _) hown2 hgrow2; have hX2 := hgrow2.blk ((HOWN.out.alloc _).alloc _) HXA.out (fun k hk e => by have := (HD1.out k hk).2; omega); have D0 : w2.cell? ⟨w0.heap.size, 0, none⟩ = some (.slice A0 M cp) := by rw [cell_of_row _ _ _ _ _ (0, 0) hD2]; rfl
             have D1 := frozen_of_row _ w0.heap.size 0 _ _ hD2; have HI2 := Lib.hid hI2; have HF2 := Lib.hid hF2; have HX2 := Lib.hid hX2; obtain ⟨A2, c2, rfl⟩ := hown2.form; obtain ⟨L2, hL2⟩ : ∃ L2, (l ++ [(a, (n : Int))]).length = L2 := ⟨_, rfl⟩; rw [hL2] at HI2 HF2 ⊢; clear hL2 hown2 hgrow2 hD2 hI2 hF2 hX2)
          | fail)
        go_meet
        exact ⟨HI2.out, ((Frm.of_below HI.out (below_1 _ _)).trans (Frm.of_below (HI.out.below (below_1 _ _)) (below_1 _ _))).trans HF2.out, by rw [heap_setCell_other _ _ _ _ (fun e => hon e.symm)]; exact HX2.out⟩
    case rest =>
      obtain ⟨hI3, hf3, hx3⟩ := hcut
      have HF3 := Lib.hid hf3
      obtain ⟨d0, d1, _, _⟩ := row2 hx3
      have HI3 := Lib.hid hI3
      clear hI3 hx3 hf3
      go_wp2_with fail
      go_at_call 87
      (with_reducible refine (HO.out _).mono ?_)
      rintro e w4 ⟨rfl, hb4⟩
      have hw4 := HI3.out.below hb4
      have HF4 := Lib.hid (HF3.out.trans (Frm.of_below HI3.out hb4))
      have hI4 := ((HI3.out.below hb4).below (below_1 _ (.cells #[.int .u32 a, .int .i64 ((n : Int) + 1)] 47))).below (below_1 _ (.cells #[.int .u32 (a + lowI (n + 1)), .int .i64 ((n : Int) + 1)] 47))
      have hLo := below_block (below_1 (w4.alloc (.cells #[.int .u32 a, .int .i64 ((n : Int) + 1)] 47)) (.cells #[.int .u32 (a + lowI (n + 1)), .int .i64 ((n : Int) + 1)] 47)) (by simp) (heap_alloc_new w4 (.cells #[.int .u32 a, .int .i64 ((n : Int) + 1)] 47))
      have hHi := heap_alloc_new (w4.alloc (.cells #[.int .u32 a, .int .i64 ((n : Int) + 1)] 47)) (.cells #[.int .u32 (a + lowI (n + 1)), .int .i64 ((n : Int) + 1)] 47)
      rw [World.size_alloc] at hHi
      have HF5 := Lib.hid ((HF4.out.trans (Frm.of_below hw4 (below_1 _ (.cells #[.int .u32 a, .int .i64 ((n : Int) + 1)] 47)))).trans (Frm.of_below (hw4.below (below_1 _ _)) (below_1 _ (.cells #[.int .u32 (a + lowI (n + 1)), .int .i64 ((n : Int) + 1)] 47))))
      have HAP := Lib.hid (hw4.apart2 (below_2 _ (.cells #[.int .u32 a, .int .i64 ((n : Int) + 1)] 47) (.cells #[.int .u32 (a + lowI (n + 1)), .int .i64 ((n : Int) + 1)] 47)) (g := w4.heap.size + 1) (by omega))
      have hw4s := hw4.bel.size
      clear hb4 hw4
      go_wp2
      generalize ((w4.alloc (.cells #[.int .u32 a, .int .i64 ((n : Int) + 1)] 47)).alloc (.cells #[.int .u32 (a + lowI (n + 1)), .int .i64 ((n : Int) + 1)] 47)) = w5 at *
      obtain ⟨v5, -, ⟨-, -, k2, k3⟩, -⟩ := (HT.out.below hI4.bel).cells HNb.out
      rw [show halfP (a, (n : Int)) = (a, (n : Int) + 1) from rfl] at k2
      obtain ⟨tf, hf⟩ := hI4.fn
      have kf : w5.cell? ⟨w0.heap.size + 1, 0, none⟩ = some (.func (.func 86) #[] #[.pointer (some ⟨w0.heap.size, 0, none⟩), .pointer (some ⟨w0.heap.size + 1, 0, none⟩)]) := by rw [cell_of_row _ _ _ _ _ (0, 0) hf]; rfl
      obtain ⟨l0, l1, _, _⟩ := row2 hLo
      have HI5d := Lib.hid hI4
      have HI5 := Lib.hid (hI4.below (w' := w5.drew) ((Below.refl _ _).drew))
      have HHi : Hid (w5.drew.heap[w4.heap.size + 1]? = some (.cells #[.int .u32 (a + lowI (n + 1)), .int .i64 ((n : Int) + 1)] 47 (0, 0))) := Lib.hid hHi
      clear hI4 hLo hHi hf k3
      go_still_tail 7, (by kernel_rfl)
      change wpList _ _ _ _ _ w5.drew
      go_wp2_with fail
      (with_reducible refine (HCP.out _ _ HI5.out (by have := HLen.out; simp only [List.length_append]; omega)).mono ?_)
      rintro e w6 ⟨rfl, hI6, hF6⟩
      have hHi6 := (hF6 _ _ HHi.out (by omega) HAP.out).1
      have HF6 := Lib.hid ((HF5.out.trans (Frm.of_below HI5d.out ((Below.refl _ w5).drew))).trans hF6)
      obtain ⟨v6, -, ⟨-, -, -, k3⟩, -⟩ := (HT.out.below hI6.bel).cells HNb.out
      rw [show halfQ (a, (n : Int)) = (a + lowI (n + 1), (n : Int) + 1) from rfl] at k3
      obtain ⟨tf6, hf6⟩ := hI6.fn
      have kf6 : w6.cell? ⟨w0.heap.size + 1, 0, none⟩ = some (.func (.func 86) #[] #[.pointer (some ⟨w0.heap.size, 0, none⟩), .pointer (some ⟨w0.heap.size + 1, 0, none⟩)]) := by rw [cell_of_row _ _ _ _ _ (0, 0) hf6]; rfl
      obtain ⟨m0, m1, _, _⟩ := row2 hHi6
      have HI7 := Lib.hid (hI6.below (w' := w6.drew) ((Below.refl _ _).drew))
      have HI6 := Lib.hid hI6
      clear hI6 hF6 hHi6 hf6 kf l0 l1 k2
      go_wp2
      go_still_tail 7, (by kernel_rfl)
      change wpList _ _ _ _ _ w6.drew
      go_wp2_with fail
      (with_reducible refine (HCQ.out _ _ HI7.out (by have := HLen.out; simp only [List.length_append]; omega)).mono ?_)
      rintro e w8 ⟨rfl, hI8, hF8⟩
      rw [List.append_assoc, List.append_assoc] at hI8
      have HI8 := Lib.hid hI8
      have HF8 := Lib.hid ((HF6.out.trans (Frm.of_below HI6.out ((Below.refl _ w6).drew))).trans hF8)
      clear hI8 hF8
      go_wp2
      go_end0
      exact ⟨rfl, HI8.out, HF8.out⟩
end
end Go.Proofs.YtgdlkjahlajcpaaGreatDoor
namespace Go.Proofs.YtgdlkjahlajcpaaGreatDoor
open Go.ChangeShapes Go.WideShapes Go.ChangeAt Go.RowKit
set_option linter.unusedVariables false
set_option linter.unusedSimpArgs false
section
variable {w : World} {T B : Nat} {N : NM} {m : List (Nt × Int)}
theorem walk_all (hT : Tri w T B N m) : ∀ k, WalkC w N m k
  | 0 => walk_zero hT
  | k + 1 => walk_succ hT (walk_all hT k)
def ListPost (w : World) (m : List (Nt × Int)) (e : Ending) (w' : World) : Prop := ∃ v, e = .returned v ∧ OwnN w' (w.heap.size + 2) v (allM m) ∧ Below w.heap.size w w'
set_option maxRecDepth 100000 in
set_option maxHeartbeats 1000000 in
theorem List_any (h : Tri w T B N m) :
    Calls Tryz.prog 61 #[.pointer (some ⟨T, 0, none⟩)] w (ListPost w m) := by
  have hA : (allM m).length ≤ 64 := by rw [all_length h.ok]; exact h.ok.len
  have hR : N (0, ((0 : Nat) : Int)) = some T := h.root
  have key : ∀ K : Nat, K = 32 → (lst m K (0, 0)).length ≤ 64 → ∀ w1, LInv w [] w1 → Calls Tryz.prog 86 #[.pointer (some ⟨T, 0, none⟩), .agg #[.int .u32 0, .int .i64 0], .pointer (some ⟨w.heap.size, 0, none⟩), .pointer (some ⟨w.heap.size + 1, 0, none⟩)] w1 fun e w' => e = .returned (.tuple #[]) ∧ LInv w (lst m K (0, 0)) w' ∧ Frm w w1 w' := by
    intro K hK hl w1 h1
    have h2 := walk_all h K (a := 0) (n := 0) (by omega) net00 ⟨by omega, by omega⟩ h1 (by simpa using hl)
    rw [hR] at h2
    exact h2
  have HW : Hid (∀ w1, LInv w [] w1 → Calls Tryz.prog 86 #[.pointer (some ⟨T, 0, none⟩), .agg #[.int .u32 0, .int .i64 0], .pointer (some ⟨w.heap.size, 0, none⟩), .pointer (some ⟨w.heap.size + 1, 0, none⟩)] w1 fun e w' => e = .returned (.tuple #[]) ∧ LInv w (allM m) w' ∧ Frm w w1 w') := Lib.hid (key 32 rfl hA)
  clear key hR hA
  clear h
  go_enter Tryz.func61, Tryz.ntmps61
  go_wp2
  have hI : LInv w [] ((w.alloc (.cells #[.slice none 0 0] 26)).alloc (.cells #[.func (.func 86) #[] #[.pointer (some ⟨w.heap.size, 0, none⟩), .pointer (some ⟨w.heap.size + 1, 0, none⟩)]] 128)) := by
    refine ⟨below_2 _ _ _, ⟨_, below_block (below_1 _ _) (by simp) (heap_alloc_new w _), (OwnN.nil_ _ _)⟩, 128, ?_⟩
    have h := heap_alloc_new (w.alloc (.cells #[.slice none 0 0] 26)) (.cells #[.func (.func 86) #[] #[.pointer (some ⟨w.heap.size, 0, none⟩), .pointer (some ⟨w.heap.size + 1, 0, none⟩)]] 128)
    rwa [World.size_alloc] at h
  generalize (w.alloc (.cells #[.slice none 0 0] 26)).alloc (.cells #[.func (.func 86) #[] #[.pointer (some ⟨w.heap.size, 0, none⟩), .pointer (some ⟨w.heap.size + 1, 0, none⟩)]] 128) = w1 at *
  obtain ⟨tf, hf⟩ := hI.fn
  have kf : w1.cell? ⟨w.heap.size + 1, 0, none⟩ = some (.func (.func 86) #[] #[.pointer (some ⟨w.heap.size, 0, none⟩), .pointer (some ⟨w.heap.size + 1, 0, none⟩)]) := by rw [cell_of_row _ _ _ _ _ (0, 0) hf]; rfl
  have HI := Lib.hid (hI.below (w' := w1.drew) ((Below.refl _ _).drew))
  clear hI hf
  go_still_tail 5, (by kernel_rfl)
  change wpList _ _ _ _ _ w1.drew
  go_wp2_with fail
  (with_reducible refine (HW.out _ HI.out).mono ?_)
  rintro e w2 ⟨rfl, hI2, -⟩
  obtain ⟨vo, ho, hown⟩ := hI2.out
  have ho0 : w2.cell? ⟨w.heap.size, 0, none⟩ = some vo := by rw [cell_of_row _ _ _ _ _ (0, 0) ho]; rfl
  obtain ⟨A2, c2, rfl⟩ := hown.form
  have HO := Lib.hid hown
  have HB := Lib.hid hI2.bel
  obtain ⟨L2, hL2⟩ : ∃ L2, (allM m).length = L2 := ⟨_, rfl⟩
  rw [hL2] at HO ho0
  clear hown ho hI2 hL2 kf
  go_wp2
  go_ret
  exact ⟨_, rfl, HO.out, HB.out⟩
end
end Go.Proofs.YtgdlkjahlajcpaaGreatDoor
namespace Go.Proofs.YtgdlkjahlajcpaaGreatDoor
open Go.ChangeShapes Go.WideShapes Go.ChangeAt Go.RowKit
set_option linter.unusedVariables false
set_option linter.unusedSimpArgs false
/-- a law's world: a table that the law made, and blocks of the law's own beside it -/
structure Tk (W : World) (T : Nat) (m : List (Nt × Int)) (S : Nat → Prop) (w : World) : Prop where
  ex : ∃ N, Tri w T W.heap.size N m ∧ ∀ g, S g → g < w.heap.size ∧ ∀ x, N x ≠ some g
  bel : Below W.heap.size W w
def NoB : Nat → Prop := fun _ => False
theorem Tk.ok {W w : World} {T : Nat} {m : List (Nt × Int)} {S : Nat → Prop} (h : Tk W T m S w) : MOk m := by
  obtain ⟨N, hT, _⟩ := h.ex
  exact hT.ok
theorem Tk.below {W w w' : World} {T : Nat} {m : List (Nt × Int)} {S : Nat → Prop} (h : Tk W T m S w) (hb : Below w.heap.size w w') : Tk W T m S w' := by
  obtain ⟨N, hT, hS⟩ := h.ex
  exact ⟨⟨N, hT.below hb, fun g hg => ⟨Nat.lt_of_lt_of_le (hS g hg).1 hb.size, (hS g hg).2⟩⟩, h.bel.trans (hb.mono h.bel.size)⟩
theorem Tk.fewer {W w : World} {T : Nat} {m : List (Nt × Int)} {S S' : Nat → Prop} (h : Tk W T m S w) (hs : ∀ g, S' g → S g) : Tk W T m S' w := by
  obtain ⟨N, hT, hS⟩ := h.ex
  exact ⟨⟨N, hT, fun g hg => hS g (hs g hg)⟩, h.bel⟩
/-- what has come since is kept too -/
theorem Tk.more {W w w' : World} {T : Nat} {m : List (Nt × Int)} {S : Nat → Prop} (h : Tk W T m S w) (hb : Below w.heap.size w w') : Tk W T m (fun g => S g ∨ w.heap.size ≤ g ∧ g < w'.heap.size) w' := by
  obtain ⟨N, hT, hS⟩ := h.ex
  refine ⟨⟨N, hT.below hb, fun g hg => ?_⟩, h.bel.trans (hb.mono h.bel.size)⟩
  rcases hg with hg | hg
  · exact ⟨Nat.lt_of_lt_of_le (hS g hg).1 hb.size, (hS g hg).2⟩
  · exact ⟨hg.2, hT.fresh hg.1⟩
theorem Tk.old {W w : World} {T : Nat} {m : List (Nt × Int)} {S : Nat → Prop} (h : Tk W T m S w) : Tk W T m (fun g => S g ∨ g < W.heap.size) w := by
  obtain ⟨N, hT, hS⟩ := h.ex
  refine ⟨⟨N, hT, fun g hg => ?_⟩, h.bel⟩
  rcases hg with hg | hg
  · exact hS g hg
  · exact ⟨Nat.lt_of_lt_of_le hg h.bel.size, fun x hx => by have := hT.base x g hx; omega⟩
/-- a store into one of the law's own -/
theorem Tk.setCell {W w : World} {T : Nat} {m : List (Nt × Int)} {S : Nat → Prop} (h : Tk W T m S w) {g o : Nat} (hg : S g) (hW : W.heap.size ≤ g) (u : Value) : Tk W T m S (w.setCell ⟨g, o, none⟩ u) := by
  obtain ⟨N, hT, hS⟩ := h.ex
  exact ⟨⟨N, hT.setCell (hS g hg).2 u, fun g' hg' => by simpa using hS g' hg'⟩, h.bel.setCell hW u⟩
/-- what is kept -/
def KeptS (S : Nat → Prop) (w w' : World) : Prop := ∀ g, S g → w'.heap[g]? = w.heap[g]?
def putE (m : List (Nt × Int)) (x : Nt) : Int := if netF x = 0 then (if look m x = none ∧ m.length = 64 then 4 else 0) else netF x
def putT (m : List (Nt × Int)) (x : Nt) (v : Int) : List (Nt × Int) := if putE m x = 0 then putM m x v else m
def getE (m : List (Nt × Int)) (x : Nt) : Int := if netF x = 0 then (if look m x = none then 2 else 0) else netF x
def getV (m : List (Nt × Int)) (x : Nt) : Int := if netF x = 0 then (look m x).getD 0 else 0
def dropT (m : List (Nt × Int)) (x : Nt) : List (Nt × Int) := if getE m x = 0 then delM m x else m
theorem netF_ne {x : Nt} (h : netF x ≠ 0) : netF x = 1 ∨ netF x = 3 := by
  unfold netF at h ⊢
  split
  · exact .inl rfl
  · rw [if_neg (by assumption)] at h
    split
    · rename_i h1; rw [if_pos h1] at h; exact absurd rfl h
    · exact .inr rfl
section
variable {W w : World} {T : Nat} {m : List (Nt × Int)} {S : Nat → Prop} {a n v : Int}
theorem Tk.new (W : World) : Tk W W.heap.size [] NoB (W.alloc (.cells #[.bool false, .int .i64 0, .pointer none, .pointer none, .int .i64 0] 70)) := by
  refine ⟨⟨fun x => if x = (0, 0) then some W.heap.size else none, ⟨MOk.nil, by simp, ?_, ?_, ?_, ?_, ?_, ?_⟩, fun g hg => hg.elim⟩, below_1 _ _⟩
  · intro x b hx
    split at hx
    · rename_i e; subst e; exact ⟨by decide, by decide, by decide⟩
    · cases hx
  · intro x b hx
    split at hx
    · simp at hx; omega
    · cases hx
  · intro x y b hx hy
    split at hx <;> split at hy
    · rename_i e e'; rw [e, e']
    · cases hy
    · cases hx
    · cases hx
  · intro x k hx hk
    split at hx
    · rename_i e; subst e; simp at hk; omega
    · exact absurd rfl hx
  · intro x hx; simp [look] at hx
  · intro x b hx
    split at hx
    · rename_i e
      subst e
      simp only [Option.some.injEq] at hx
      subst hx
      refine ⟨0, fun u hu => by simp [look] at hu, ?_⟩
      rw [heap_alloc_new]
      rfl
    · cases hx
theorem Put_t (h : Tk W T m S w) (ha : is32 a) (hv : (Lit.int .i64 v).wf = true) :
    Calls Tryz.prog 47 #[.pointer (some ⟨T, 0, none⟩), .agg #[.int .u32 a, .int .i64 n], .int .i64 v] w fun e w' => e = .returned (errV (putE m (a, n))) ∧ Tk W T (putT m (a, n) v) S w' ∧ KeptS S w w' ∧ Below W.heap.size W w' := by
  obtain ⟨N, hT, hS⟩ := h.ex
  have hsz := h.bel.size
  by_cases hF : netF (a, n) = 0
  · obtain ⟨k, hk, e, _⟩ := net_ok hF
    simp only at e
    subst e
    have fin : ∀ w' N', Tri w' T W.heap.size N' (putM m (a, (k : Int)) v) → Keeps W.heap.size N w w' → (∀ z g, N' z = some g → N z = some g ∨ w.heap.size ≤ g) → putE m (a, (k : Int)) = 0 → Tk W T (putT m (a, (k : Int)) v) S w' ∧ KeptS S w w' ∧ Below W.heap.size W w' := by
      intro w' N' h1 h2 h3 h4
      unfold putT
      rw [if_pos h4]
      have hb := h.bel.trans h2.bel
      refine ⟨⟨⟨N', h1, fun g hg => ⟨Nat.lt_of_lt_of_le (hS g hg).1 h2.bel.size, fun x hx => ?_⟩⟩, hb⟩, fun g hg => h2.oth g (hS g hg).1 (hS g hg).2, hb⟩
      rcases h3 x g hx with h5 | h5
      · exact (hS g hg).2 x h5
      · have := (hS g hg).1; omega
    by_cases hl : look m (a, (k : Int)) = none
    · by_cases h64 : m.length = 64
      · have hE : putE m (a, (k : Int)) = 4 := by unfold putE; rw [if_pos hF, if_pos ⟨hl, h64⟩]
        refine (Put_full hT ha hF hl h64 hsz).mono fun e w' hh => ?_
        have hP : putT m (a, (k : Int)) v = m := by unfold putT; rw [if_neg (by rw [hE]; decide)]
        have h2 := h.below hh.2
        refine ⟨by rw [hE]; exact hh.1, by rw [hP]; exact h2, fun g hg => hh.2.block g (hS g hg).1, h2.bel⟩
      · have hE : putE m (a, (k : Int)) = 0 := by unfold putE; rw [if_pos hF, if_neg (fun e => h64 e.2)]
        refine (Put_new hT ha hv hF hl (by have := hT.ok.len; omega) hsz).mono fun e w' hh => ?_
        obtain ⟨h1, N', h2, h3, h4⟩ := hh
        exact ⟨by rw [hE]; exact h1, fin w' N' h2 h3 h4 hE⟩
    · have hE : putE m (a, (k : Int)) = 0 := by unfold putE; rw [if_pos hF, if_neg (fun e => hl e.1)]
      refine (Put_renew hT ha hv hF hl hsz).mono fun e w' hh => ?_
      obtain ⟨h1, h2, h3⟩ := hh
      exact ⟨by rw [hE]; exact h1, fin w' N h2 h3 (fun z g hz => .inl hz) hE⟩
  · have hE : putE m (a, n) = netF (a, n) := by unfold putE; rw [if_neg hF]
    have hP : putT m (a, n) v = m := by unfold putT; rw [if_neg (by rw [hE]; exact hF)]
    refine (Put_bad ha hF).mono fun e w' hh => ?_
    have h2 := h.below hh.2
    exact ⟨by rw [hE, errV_ne hF]; exact hh.1, by rw [hP]; exact h2, fun g hg => hh.2.block g (hS g hg).1, h2.bel⟩
theorem Get_t (h : Tk W T m S w) (ha : is32 a) :
    Calls Tryz.prog 53 #[.pointer (some ⟨T, 0, none⟩), .agg #[.int .u32 a, .int .i64 n]] w fun e w' => e = .returned (.tuple #[.int .i64 (getV m (a, n)), errV (getE m (a, n))]) ∧ Below w.heap.size w w' := by
  obtain ⟨N, hT, hS⟩ := h.ex
  have hsz := h.bel.size
  by_cases hF : netF (a, n) = 0
  · obtain ⟨k, hk, e, _⟩ := net_ok hF
    simp only at e
    subst e
    cases hl : look m (a, (k : Int)) with
    | none =>
      refine (Get_none hT ha hF hl hsz).mono fun e w' hh => ⟨?_, hh.2⟩
      unfold getE getV
      rw [if_pos hF, if_pos hF, if_pos hl, hl]
      exact hh.1
    | some u =>
      refine (Get_some hT ha hF hl hsz).mono fun e w' hh => ⟨?_, hh.2⟩
      unfold getE getV
      rw [if_pos hF, if_pos hF, if_neg (by rw [hl]; simp), hl]
      exact hh.1
  · refine (Get_bad ha hF).mono fun e w' hh => ⟨?_, hh.2⟩
    unfold getE getV
    rw [if_neg hF, if_neg hF, errV_ne hF]
    exact hh.1
theorem Drop_t (h : Tk W T m S w) (ha : is32 a) :
    Calls Tryz.prog 49 #[.pointer (some ⟨T, 0, none⟩), .agg #[.int .u32 a, .int .i64 n]] w fun e w' => e = .returned (errV (getE m (a, n))) ∧ Tk W T (dropT m (a, n)) S w' ∧ KeptS S w w' ∧ Below W.heap.size W w' := by
  obtain ⟨N, hT, hS⟩ := h.ex
  have hsz := h.bel.size
  by_cases hF : netF (a, n) = 0
  · obtain ⟨k, hk, e, _⟩ := net_ok hF
    simp only at e
    subst e
    cases hl : look m (a, (k : Int)) with
    | none =>
      have hE : getE m (a, (k : Int)) = 2 := by unfold getE; rw [if_pos hF, if_pos hl]
      have hP : dropT m (a, (k : Int)) = m := by unfold dropT; rw [if_neg (by rw [hE]; decide)]
      refine (Drop_none hT ha hF hl hsz).mono fun e w' hh => ?_
      have h2 := h.below hh.2
      exact ⟨by rw [hE]; exact hh.1, by rw [hP]; exact h2, fun g hg => hh.2.block g (hS g hg).1, h2.bel⟩
    | some u =>
      have hE : getE m (a, (k : Int)) = 0 := by unfold getE; rw [if_pos hF, if_neg (by rw [hl]; simp)]
      have hP : dropT m (a, (k : Int)) = delM m (a, (k : Int)) := by unfold dropT; rw [if_pos hE]
      refine (Drop_some hT ha hF hl hsz).mono fun e w' hh => ?_
      obtain ⟨h1, h2, h3⟩ := hh
      have hb := h.bel.trans h3.bel
      refine ⟨by rw [hE]; exact h1, by rw [hP]; exact ⟨⟨N, h2, fun g hg => ⟨Nat.lt_of_lt_of_le (hS g hg).1 h3.bel.size, (hS g hg).2⟩⟩, hb⟩, fun g hg => h3.oth g (hS g hg).1 (hS g hg).2, hb⟩
  · have hE : getE m (a, n) = netF (a, n) := by unfold getE; rw [if_neg hF]
    have hP : dropT m (a, n) = m := by unfold dropT; rw [if_neg (by rw [hE]; exact hF)]
    refine (Drop_bad ha hF).mono fun e w' hh => ?_
    have h2 := h.below hh.2
    exact ⟨by rw [hE, errV_ne hF]; exact hh.1, by rw [hP]; exact h2, fun g hg => hh.2.block g (hS g hg).1, h2.bel⟩
theorem Find_t (h : Tk W T m S w) (ha : is32 a) {r : Option (Nat × Int)} (hr : fnd m a 33 = r) :
    Calls Tryz.prog 55 #[.pointer (some ⟨T, 0, none⟩), .int .u32 a] w fun e w' => e = .returned (findV a r) ∧ Below w.heap.size w w' := by
  obtain ⟨N, hT, hS⟩ := h.ex
  rw [← hr]
  exact Find_any hT ha h.bel.size
theorem List_t (h : Tk W T m S w) : Calls Tryz.prog 61 #[.pointer (some ⟨T, 0, none⟩)] w (ListPost w m) := by
  obtain ⟨N, hT, hS⟩ := h.ex
  exact List_any hT
theorem New_t (W : World) : Calls Tryz.prog 11 #[] W fun e w' => e = .returned (.pointer (some ⟨W.heap.size, 0, none⟩)) ∧ Tk W W.heap.size [] NoB w' :=
  (New_any W).mono fun e w' hh => ⟨hh.1, by rw [hh.2]; exact Tk.new W⟩
end
/-- a list of puts, numbered -/
def puts : List Nt → Nat → List (Nt × Int) → List (Nt × Int)
  | [], _, m => m
  | x :: r, i, m => puts r (i + 1) (putT m x i)
end Go.Proofs.YtgdlkjahlajcpaaGreatDoor
