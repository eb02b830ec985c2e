/- The reference's EntryOf. -/
import Derived.Test.YtimdnfakgobadaaDoorWireU
import Derived.Test.YtimdnfakgobadaaDoorWireF
import Derived.Test.YtimdnfakgobadaaDoorNetR
import Derived.Deep.DeepCutAuto
import Derived.Deep.CutBlock
namespace Go.Proofs.YtimdnfakgobadaaDoor
open Go.ChangeShapes Go.WideShapes Go.ChangeAt Go.RowKit
set_option linter.unusedVariables false
set_option linter.unusedSimpArgs false

def kOf (m : Int) : Nat := if maskV (maskL m) = m then maskL m else 32
theorem kOf_le (m : Int) : kOf m ≤ 32 := by unfold kOf; have := maskL_le m; split <;> omega
theorem kOf_lt {m : Int} {k : Nat} (h : k < kOf m) : maskV k ≠ m := by
  intro e
  have h32 := kOf_le m
  have hk : maskL m = k := by rw [← e]; exact maskL_of ⟨k, by omega⟩
  unfold kOf at h
  rw [hk, if_pos e] at h
  omega
theorem kOf_end {m : Int} (h : kOf m < 32) : maskV (kOf m) = m := by
  unfold kOf at h ⊢
  split
  · assumption
  · rename_i h1; rw [if_neg h1] at h; omega
theorem kOf_mask {m : Int} : maskV (kOf m) = m ↔ maskV (maskL m) = m := by
  constructor
  · intro h
    have h1 : maskL m = kOf m := by
      have h2 := kOf_le m
      have h3 := maskL_of ⟨kOf m, by omega⟩
      simp only at h3
      rw [h] at h3; exact h3
    rw [h1]; exact h
  · intro h
    unfold kOf; rw [if_pos h]; exact h
theorem netF_zero {a l : Int} : netF (a, l) = 0 ↔ 0 ≤ l ∧ l ≤ 32 ∧ a % lowI l.toNat = 0 := by
  unfold netF
  simp only
  by_cases h1 : l < 0 ∨ 32 < l
  · rw [if_pos h1]; constructor
    · intro h; cases h
    · rintro ⟨h2, h3, _⟩; omega
  · rw [if_neg h1]
    by_cases h2 : a % lowI l.toNat = 0
    · simp [h2]; omega
    · simp [h2]
def refE (p : List Int) : Entry := ((n4 p 4, (kOf (n4 p 8) : Int)), g p 2 * 256 + g p 3, n4 p 12, n4 p 16)
theorem entOk_ref {p : List Int} (hb : byteL p) : entOk p ↔ g p 0 = 0 ∧ g p 1 = 2 ∧ maskV (kOf (n4 p 8)) = n4 p 8 ∧ netF (n4 p 4, (kOf (n4 p 8) : Int)) = 0 ∧ 1 ≤ n4 p 16 ∧ n4 p 16 ≤ 16 := by
  have b0 := g_rng hb 0
  have b1 := g_rng hb 1
  have b2 := g_rng hb 2
  have b3 := g_rng hb 3
  unfold entOk entOf lenOf
  rw [kOf_mask, netF_zero]
  by_cases h : maskV (maskL (n4 p 8)) = n4 p 8
  · have hk : kOf (n4 p 8) = maskL (n4 p 8) := by unfold kOf; rw [if_pos h]
    rw [if_pos h, entF_zero, hk]
    constructor
    · rintro ⟨_, h1, h2, h3, h4, h5, h6⟩
      exact ⟨by omega, by omega, h, h2, h5, h6⟩
    · rintro ⟨h1, h2, _, h3, h4, h5⟩
      exact ⟨h, by omega, h3, by omega, by omega, h4, h5⟩
  · constructor
    · rintro ⟨h1, _⟩; exact absurd h1 h
    · rintro ⟨_, _, h1, _⟩; exact absurd h1 h
theorem refE_ok {p : List Int} (h : entOk p) : refE p = entOf p := by
  unfold refE entOf lenOf kOf
  rw [if_pos h.1, if_pos h.1]
theorem row5v {w : World} {R : Nat} {v0 v1 v2 v3 v4 : Value} {t : TypeId} (h : w.heap[R]? = some (.cells #[v0, v1, v2, v3, v4] t (0, 0))) :
    (w.cell? ⟨R, 0, none⟩ = some v0 ∧ w.cell? ⟨R, 1, none⟩ = some v1 ∧ w.cell? ⟨R, 2, none⟩ = some v2 ∧ w.cell? ⟨R, 3, none⟩ = some v3 ∧ w.cell? ⟨R, 4, none⟩ = some v4) ∧
    w.frozen? ⟨R, 0, none⟩ = false ∧ w.frozen? ⟨R, 1, none⟩ = false ∧ w.frozen? ⟨R, 2, none⟩ = false ∧ w.frozen? ⟨R, 3, none⟩ = false ∧ w.frozen? ⟨R, 4, none⟩ = false := by
  refine ⟨⟨?_, ?_, ?_, ?_, ?_⟩, frozen_of_row _ R _ _ _ h, frozen_of_row _ R _ _ _ h, frozen_of_row _ R _ _ _ h, frozen_of_row _ R _ _ _ h, frozen_of_row _ R _ _ _ h⟩ <;> rw [cell_of_row _ R _ _ _ (0, 0) h] <;> rfl
theorem set5v {w : World} {R : Nat} {c0 c1 c2 c3 c4 : Value} (v0 v1 v2 v3 v4 : Value) {t : TypeId} (h : w.heap[R]? = some (.cells #[c0, c1, c2, c3, c4] t (0, 0))) :
    (((((w.setCell ⟨R, 0, none⟩ v0).setCell ⟨R, 1, none⟩ v1).setCell ⟨R, 2, none⟩ v2).setCell ⟨R, 3, none⟩ v3).setCell ⟨R, 4, none⟩ v4).heap[R]? = some (.cells #[v0, v1, v2, v3, v4] t (0, 0)) :=
  heap_setCell_same _ R 4 _ _ v4 (heap_setCell_same _ R 3 _ _ v3 (heap_setCell_same _ R 2 _ _ v2 (heap_setCell_same _ R 1 _ _ v1 (heap_setCell_same w R 0 _ _ v0 h))))
theorem set5o {w : World} {R B : Nat} {v0 v1 v2 v3 v4 : Value} (h : B ≠ R) : (((((w.setCell ⟨R, 0, none⟩ v0).setCell ⟨R, 1, none⟩ v1).setCell ⟨R, 2, none⟩ v2).setCell ⟨R, 3, none⟩ v3).setCell ⟨R, 4, none⟩ v4).heap[B]? = w.heap[B]? := by
  rw [heap_setCell_other _ _ _ _ h, heap_setCell_other _ _ _ _ h, heap_setCell_other _ _ _ _ h, heap_setCell_other _ _ _ _ h, heap_setCell_other _ _ _ _ h]
theorem set5b {W w : World} {R : Nat} (v0 v1 v2 v3 v4 : Value) (h : Below W.heap.size W w) (hR : W.heap.size ≤ R) : Below W.heap.size W (((((w.setCell ⟨R, 0, none⟩ v0).setCell ⟨R, 1, none⟩ v1).setCell ⟨R, 2, none⟩ v2).setCell ⟨R, 3, none⟩ v3).setCell ⟨R, 4, none⟩ v4) :=
  ((((h.setCell (p := ⟨R, 0, none⟩) hR v0).setCell (p := ⟨R, 1, none⟩) hR v1).setCell (p := ⟨R, 2, none⟩) hR v2).setCell (p := ⟨R, 3, none⟩) hR v3).setCell (p := ⟨R, 4, none⟩) hR v4
theorem alloc1v (w : World) (o : Obj) : Below w.heap.size w (w.alloc o) := (Below.refl _ _).alloc (Nat.le_refl _) o
theorem blkv {w w' : World} {g : Nat} {o : Obj} (hb : Below w.heap.size w w') (hg : g < w.heap.size) (h : w.heap[g]? = some o) : w'.heap[g]? = some o := (hb.block _ hg).trans h
theorem entryof_end {W : World} {R : Nat} {a : Act} {v0 v1 v2 v3 v4 v5 : Value} {t : TypeId} {K : Ending → World → Prop} (h : W.heap[R]? = some (.cells #[v0, v1, v2, v3, v4] t (0, 0))) (h2 : a.tmps[2]?.getD undef = .pointer (some ⟨R, 0, none⟩)) (h3 : a.tmps[3]?.getD undef = v5) (hd : a.defers = [])
    (hK : K (.returned (.tuple #[.agg #[v0, v1, v2, v3, v4], v5])) W) : bodyPost Tryd.prog Tryd.f28 K .ret a W := by
  obtain ⟨⟨e0, e1, e2, e3, e4⟩, _⟩ := row5v h
  exact bodyPost_ret (by simp [results, Tryd.results28, go_sem, h2, h3, e0, e1, e2, e3, e4]) hd hK
set_option maxRecDepth 100000 in
set_option maxHeartbeats 64000000 in
theorem EntryOf_any {w : World} {A : Option Addr} {c : Nat} {p : List Int} (hr : R1 rdBytes w (.slice A 20 c) p) :
    Calls Tryd.prog 28 #[.slice A 20 c] w fun e w' => e = .returned (.tuple #[entV (refE p), .bool (decide (entOk p))]) ∧ Below w.heap.size w w' := by
  have hbl := rdBytes_rng hr
  have h4 : 0 ≤ n4 p 4 ∧ n4 p 4 ≤ 4294967295 := n4_rng (RdSlice.len hr).1.symm hbl 4 (by omega)
  have h16 : 0 ≤ n4 p 16 ∧ n4 p 16 ≤ 4294967295 := n4_rng (RdSlice.len hr).1.symm hbl 16 (by omega)
  have HKL := Lib.hid (fun k (h : k < kOf (n4 p 8)) => kOf_lt h)
  have HKE := Lib.hid (fun (h : kOf (n4 p 8) < 32) => kOf_end h)
  have hK := kOf_le (n4 p 8)
  have HIF := Lib.hid (entOk_ref hbl)
  have hnc := (RdSlice.len hr).2.1
  obtain ⟨b, o, rfl, hbk⟩ := RdSlice.some_ hr (by omega)
  have at_ : ∀ i, i < 20 → ∃ x, g p i = x ∧ w.cell? ⟨b, o + i, none⟩ = some (.int .u8 x) ∧ 0 ≤ x ∧ x ≤ 255 := fun i hi => by
    obtain ⟨b', o', x, e, _, HX, wx, hc⟩ := RdSlice.atI hr (i := i) hi
    simp only [Option.some.injEq, Addr.mk.injEq] at e
    obtain ⟨rfl, rfl, _⟩ := e
    exact ⟨x, by unfold g; simp [HX.out], hc, bounds_u8 wx⟩
  obtain ⟨x0, i0, c0, b0⟩ := at_ 0 (by omega)
  obtain ⟨x1, i1, c1, b1⟩ := at_ 1 (by omega)
  obtain ⟨x2, i2, c2, b2⟩ := at_ 2 (by omega)
  obtain ⟨x3, i3, c3, b3⟩ := at_ 3 (by omega)
  have C0 := Lib.hid c0
  have C1 := Lib.hid c1
  have C2 := Lib.hid c2
  have C3 := Lib.hid c3
  obtain ⟨PE, hPE⟩ : ∃ PE, entV (refE p) = PE := ⟨_, rfl⟩
  have HPE := Lib.hid hPE
  obtain ⟨RR, hRR⟩ : ∃ RR, decide (entOk p) = RR := ⟨_, rfl⟩
  have HRR := Lib.hid hRR
  rw [hPE, hRR]
  unfold refE entV at HPE
  simp only [i2, i3] at HPE
  rw [i0, i1] at HIF
  obtain ⟨M, hM⟩ : ∃ M, n4 p 8 = M := ⟨_, rfl⟩
  obtain ⟨N4, hN4⟩ : ∃ N4, n4 p 4 = N4 := ⟨_, rfl⟩
  obtain ⟨N12, hN12⟩ : ∃ N12, n4 p 12 = N12 := ⟨_, rfl⟩
  obtain ⟨N16, hN16⟩ : ∃ N16, n4 p 16 = N16 := ⟨_, rfl⟩
  rw [hM] at HKL HKE hK
  rw [hM, hN4, hN16] at HIF
  rw [hN4] at h4
  rw [hN16] at h16
  rw [hM, hN4, hN12, hN16] at HPE
  obtain ⟨PP, hPP⟩ : ∃ PP, (fun (e : Ending) (w' : World) => e = .returned (.tuple #[PE, .bool RR]) ∧ Below w.heap.size w w') = PP := ⟨_, rfl⟩
  have HPP := Lib.hid hPP
  rw [hPP]
  clear hPP
  obtain ⟨K, hKK⟩ : ∃ K, kOf M = K := ⟨_, rfl⟩
  rw [hKK] at HKL HKE hK HIF HPE
  have HM := Lib.hid hM
  have HN4 := Lib.hid hN4
  have HN12 := Lib.hid hN12
  have HN16 := Lib.hid hN16
  have HR := Lib.hid hr
  obtain ⟨Z, hZ⟩ : ∃ Z, w.heap.size = Z := ⟨_, rfl⟩
  have HZ := Lib.hid hZ
  have hbZ : b < Z := by rw [← hZ]; exact hbk
  clear hM hKK hN4 hN12 hN16 at_ i0 i1 i2 i3 hPE hRR hbl c0 c1 c2 c3 hr
  have HB0 := Lib.hid (alloc1v w (.cells #[.int .u32 0, .int .i64 0, .int .i64 0, .int .u32 0, .int .i64 0] 58))
  have HZ0 : Hid ((w.alloc (.cells #[.int .u32 0, .int .i64 0, .int .i64 0, .int .u32 0, .int .i64 0] 58)).heap[Z]? = some (.cells #[.int .u32 0, .int .i64 0, .int .i64 0, .int .u32 0, .int .i64 0] 58 (0, 0))) := Lib.hid (by rw [← hZ]; exact heap_alloc_new _ _)
  go_enter Tryd.func28, Tryd.ntmps28
  go_upto_region 1 with (fail)
  try rw [hZ]
  generalize hw0 : w.alloc (.cells #[.int .u32 0, .int .i64 0, .int .i64 0, .int .u32 0, .int .i64 0] 58) = w0 at *
  clear hZ hw0 hbk
  go_wp2
  go_loopw [4] (fun i wr => ∃ k : Nat, k ≤ K ∧ i = .int .i64 k ∧ Hid (Below w.heap.size w wr) ∧ Hid (wr.heap[Z]? = some (.cells #[.int .u32 0, .int .i64 0, .int .i64 0, .int .u32 0, .int .i64 0] 58 (0, 0)))) (fun i _ => K - (intOf i).toNat)
  case atStart => exact ⟨0, Nat.zero_le _, rfl, HB0, HZ0⟩
  case round =>
    clear HB0 HZ0
    obtain ⟨k, hk, rfl, HB, HZB⟩ := hrel
    have HRr := Lib.hid (HR.out.below HB.out)
    by_cases hlt : k < K
    · have hne := HKL.out k hlt
      have t1 : (maskV k != M) = true := by simpa [bne] using hne
      have k32 : (k : Int) < 32 := by omega
      have HBS := Lib.hid HB.out.size
      clear hne
      go_wp2_with (first
        | (go_at_call 7; refine (MaskOf_n k _ (by omega)).mono ?_; rintro e w' ⟨rfl, rfl⟩)
        | (go_at_call 33; (with_reducible refine (refnum_8 HRr.out).mono ?_); rintro e w' ⟨rfl, j', hw'⟩; rw [HM.out]; have hbq := below_drewN (Below.refl wr.heap.size wr) j'; rw [← hw'] at hbq; have HBq := Lib.hid (HB.out.trans (hbq.mono HBS.out)); have HZq := Lib.hid (blkv hbq (size_of_block HZB.out) HZB.out); clear hbq hw')
        | fail)
      exact ⟨⟨k + 1, by omega, by go_num, HBq, HZq⟩, by simp [intOf]; omega⟩
    · obtain rfl : K = k := by omega
      have hend : (K < 32 ∧ (maskV K != M) = false) ∨ K = 32 := by
        rcases Nat.lt_or_ge K 32 with h | h
        · exact .inl ⟨h, by have := HKE.out h; simp [this]⟩
        · exact .inr (by omega)
      have HBS := Lib.hid HB.out.size
      rcases hend with ⟨h32, t1⟩ | h32
      · have h32' : (K : Int) < 32 := by omega
        go_upto_region 4 with (first
          | (go_at_call 7; refine (MaskOf_n K _ (by omega)).mono ?_; rintro e w' ⟨rfl, rfl⟩)
          | (go_at_call 33; (with_reducible refine (refnum_8 HRr.out).mono ?_); rintro e w1 ⟨rfl, j', hw'⟩; rw [HM.out]; have hbq := below_drewN (Below.refl wr.heap.size wr) j'; rw [← hw'] at hbq; have HB1 := Lib.hid (HB.out.trans (hbq.mono HBS.out)); have HZ1 := Lib.hid (blkv hbq (size_of_block HZB.out) HZB.out); clear hbq hw')
          | fail)
        clear h32 h32' t1 HB HZB HRr HBS
        go_cut [5] (fun ev wx => ∃ G : Nat, ev = .pointer (some ⟨G, 0, none⟩) ∧ Z < G ∧ Hid (wx.heap[G]? = some (.cells #[.int .u32 N4, .int .i64 K, .int .i64 (x2 * 256 + x3), .int .u32 N12, .int .i64 N16] 58 (0, 0))) ∧ Hid (wx.heap[Z]? = some (.cells #[.int .u32 0, .int .i64 0, .int .i64 0, .int .u32 0, .int .i64 0] 58 (0, 0))) ∧ Hid (Below w.heap.size w wx))
        case first =>
          have hw3 : IntKind.i64.wrap (IntKind.i64.wrap (IntKind.i64.wrap x2 * 256) + IntKind.i64.wrap x3) = x2 * 256 + x3 := by simp only [IntKind.wrap_i64]; omega
          have hw2 : IntKind.i64.wrap N16 = N16 := by rw [IntKind.wrap_i64]; omega
          have HB2 : Hid (Below w.heap.size w w1.drew) := Lib.hid (HB1.out.trans ((show Below w1.heap.size w1 w1.drew from below_drewN (Below.refl _ _) 1).mono HB1.out.size))
          have HZ2 : Hid (w1.drew.heap[Z]? = some (.cells #[.int .u32 0, .int .i64 0, .int .i64 0, .int .u32 0, .int .i64 0] 58 (0, 0))) := HZ1
          have c2 := (HB1.out.cell (p := ⟨b, o + 2, none⟩) (show b < w.heap.size by rw [HZ.out]; exact hbZ)).trans C2.out
          have c3 := (HB1.out.cell (p := ⟨b, o + 3, none⟩) (show b < w.heap.size by rw [HZ.out]; exact hbZ)).trans C3.out
          refine wp_region_noPanic ?_
          refine wp_region_held_drew (S := (fun w' => w'.cell? ⟨b, o + 2, none⟩ = some (.int .u8 x2) ∧ w'.cell? ⟨b, o + 3, none⟩ = some (.int .u8 x3))) (by kernel_rfl) (by go_keep) (fun hHeld => ?_)
          refine' wpAnyH_take (i := 0) ?his10x0 ?hss10x0 ?hfs10x0 ?hrs10x0 ?hQs10x0 ?hys10x0 ?hSs10x0 ?hs10x0
          case his10x0 => (simp only [List.getElem?_toArray, List.getElem?_cons_succ, List.getElem?_cons_zero]; exact rfl)
          case hss10x0 => kernel_rfl
          case hfs10x0 => kernel_rfl
          case hrs10x0 => kernel_rfl
          case hQs10x0 => exact fun _ _ _ h => h
          case hys10x0 => (first | (refine Or.inr ⟨by rfl, ?_⟩; rfl) | (refine Or.inl ⟨by rfl, ?_⟩; (intro w hSw; (try dsimp only at hSw); go_simp); try with_reducible rfl))
          case hSs10x0 => assumption
          try simp only [Act.put, List.setIfInBounds_toArray, List.set_cons_zero, List.set_cons_succ]
          refine' wpAnyH_take (i := 2) ?his10x2 ?hss10x2 ?hfs10x2 ?hrs10x2 ?hQs10x2 ?hys10x2 ?hSs10x2 ?hs10x2
          case his10x2 => (simp only [List.getElem?_toArray, List.getElem?_cons_succ, List.getElem?_cons_zero]; exact rfl)
          case hss10x2 => kernel_rfl
          case hfs10x2 => kernel_rfl
          case hrs10x2 => kernel_rfl
          case hQs10x2 => exact fun _ _ _ h => h
          case hys10x2 => (first | (refine Or.inr ⟨by rfl, ?_⟩; rfl) | (refine Or.inl ⟨by rfl, ?_⟩; (intro w hSw; (try dsimp only at hSw); go_simp); try with_reducible rfl))
          case hSs10x2 => assumption
          try simp only [Act.put, List.setIfInBounds_toArray, List.set_cons_zero, List.set_cons_succ]
          refine' wpAnyH_take (i := 4) ?his10x4 ?hss10x4 ?hfs10x4 ?hrs10x4 ?hQs10x4 ?hys10x4 ?hSs10x4 ?hs10x4
          case his10x4 => (simp only [List.getElem?_toArray, List.getElem?_cons_succ, List.getElem?_cons_zero]; exact rfl)
          case hss10x4 => kernel_rfl
          case hfs10x4 => kernel_rfl
          case hrs10x4 => kernel_rfl
          case hQs10x4 => exact fun _ _ _ h => h
          case hys10x4 => (first | (refine Or.inr ⟨by rfl, ?_⟩; rfl) | (refine Or.inl ⟨by rfl, ?_⟩; (intro w hSw; (try dsimp only at hSw); go_simp); try with_reducible rfl))
          case hSs10x4 => assumption
          try simp only [Act.put, List.setIfInBounds_toArray, List.set_cons_zero, List.set_cons_succ]
          refine' wpAnyH_take (i := 5) ?his10x5 ?hss10x5 ?hfs10x5 ?hrs10x5 ?hQs10x5 ?hys10x5 ?hSs10x5 ?hs10x5
          case his10x5 => (simp only [List.getElem?_toArray, List.getElem?_cons_succ, List.getElem?_cons_zero]; exact rfl)
          case hss10x5 => kernel_rfl
          case hfs10x5 => kernel_rfl
          case hrs10x5 => kernel_rfl
          case hQs10x5 => exact fun _ _ _ h => h
          case hys10x5 => (first | (refine Or.inr ⟨by rfl, ?_⟩; rfl) | (refine Or.inl ⟨by rfl, ?_⟩; (intro w hSw; (try dsimp only at hSw); go_simp); try with_reducible rfl))
          case hSs10x5 => assumption
          try simp only [Act.put, List.setIfInBounds_toArray, List.set_cons_zero, List.set_cons_succ]
          refine' wpAnyH_take (i := 6) ?his10x6 ?hss10x6 ?hfs10x6 ?hrs10x6 ?hQs10x6 ?hys10x6 ?hSs10x6 ?hs10x6
          case his10x6 => (simp only [List.getElem?_toArray, List.getElem?_cons_succ, List.getElem?_cons_zero]; exact rfl)
          case hss10x6 => kernel_rfl
          case hfs10x6 => kernel_rfl
          case hrs10x6 => kernel_rfl
          case hQs10x6 => exact fun _ _ _ h => h
          case hys10x6 => (first | (refine Or.inr ⟨by rfl, ?_⟩; rfl) | (refine Or.inl ⟨by rfl, ?_⟩; (intro w hSw; (try dsimp only at hSw); go_simp); try with_reducible rfl))
          case hSs10x6 => assumption
          try simp only [Act.put, List.setIfInBounds_toArray, List.set_cons_zero, List.set_cons_succ]
          refine' wpAnyH_take (i := 7) ?his10x7 ?hss10x7 ?hfs10x7 ?hrs10x7 ?hQs10x7 ?hys10x7 ?hSs10x7 ?hs10x7
          case his10x7 => (simp only [List.getElem?_toArray, List.getElem?_cons_succ, List.getElem?_cons_zero]; exact rfl)
          case hss10x7 => kernel_rfl
          case hfs10x7 => kernel_rfl
          case hrs10x7 => kernel_rfl
          case hQs10x7 => exact fun _ _ _ h => h
          case hys10x7 => (first | (refine Or.inr ⟨by rfl, ?_⟩; rfl) | (refine Or.inl ⟨by rfl, ?_⟩; (intro w hSw; (try dsimp only at hSw); go_simp); try with_reducible rfl))
          case hSs10x7 => assumption
          try simp only [Act.put, List.setIfInBounds_toArray, List.set_cons_zero, List.set_cons_succ]
          refine' wpAnyH_take (i := 8) ?his10x8 ?hss10x8 ?hfs10x8 ?hrs10x8 ?hQs10x8 ?hys10x8 ?hSs10x8 ?hs10x8
          case his10x8 => (simp only [List.getElem?_toArray, List.getElem?_cons_succ, List.getElem?_cons_zero]; exact rfl)
          case hss10x8 => kernel_rfl
          case hfs10x8 => kernel_rfl
          case hrs10x8 => kernel_rfl
          case hQs10x8 => exact fun _ _ _ h => h
          case hys10x8 => (first | (refine Or.inr ⟨by rfl, ?_⟩; rfl) | (refine Or.inl ⟨by rfl, ?_⟩; (intro w hSw; (try dsimp only at hSw); go_simp); try with_reducible rfl))
          case hSs10x8 => assumption
          try simp only [Act.put, List.setIfInBounds_toArray, List.set_cons_zero, List.set_cons_succ]
          refine' wpAnyH_take (i := 9) ?his10x9 ?hss10x9 ?hfs10x9 ?hrs10x9 ?hQs10x9 ?hys10x9 ?hSs10x9 ?hs10x9
          case his10x9 => (simp only [List.getElem?_toArray, List.getElem?_cons_succ, List.getElem?_cons_zero]; exact rfl)
          case hss10x9 => kernel_rfl
          case hfs10x9 => kernel_rfl
          case hrs10x9 => kernel_rfl
          case hQs10x9 => exact fun _ _ _ h => h
          case hys10x9 => (first | (refine Or.inr ⟨by rfl, ?_⟩; rfl) | (refine Or.inl ⟨by rfl, ?_⟩; (intro w hSw; (try dsimp only at hSw); go_simp); try with_reducible rfl))
          case hSs10x9 => assumption
          try simp only [Act.put, List.setIfInBounds_toArray, List.set_cons_zero, List.set_cons_succ]
          refine' wpAnyH_take (i := 10) ?his10x10 ?hss10x10 ?hfs10x10 ?hrs10x10 ?hQs10x10 ?hys10x10 ?hSs10x10 ?hs10x10
          case his10x10 => (simp only [List.getElem?_toArray, List.getElem?_cons_succ, List.getElem?_cons_zero]; exact rfl)
          case hss10x10 => kernel_rfl
          case hfs10x10 => kernel_rfl
          case hrs10x10 => kernel_rfl
          case hQs10x10 => exact fun _ _ _ h => h
          case hys10x10 => (first | (refine Or.inr ⟨by rfl, ?_⟩; rfl) | (refine Or.inl ⟨by rfl, ?_⟩; (intro w hSw; (try dsimp only at hSw); go_simp); try with_reducible rfl))
          case hSs10x10 => assumption
          try simp only [Act.put, List.setIfInBounds_toArray, List.set_cons_zero, List.set_cons_succ]
          refine' wpAnyH_take (i := 11) ?his10x11 ?hss10x11 ?hfs10x11 ?hrs10x11 ?hQs10x11 ?hys10x11 ?hSs10x11 ?hs10x11
          case his10x11 => (simp only [List.getElem?_toArray, List.getElem?_cons_succ, List.getElem?_cons_zero]; exact rfl)
          case hss10x11 => kernel_rfl
          case hfs10x11 => kernel_rfl
          case hrs10x11 => kernel_rfl
          case hQs10x11 => exact fun _ _ _ h => h
          case hys10x11 => (first | (refine Or.inr ⟨by rfl, ?_⟩; rfl) | (refine Or.inl ⟨by rfl, ?_⟩; (intro w hSw; (try dsimp only at hSw); go_simp); try with_reducible rfl))
          case hSs10x11 => assumption
          try simp only [Act.put, List.setIfInBounds_toArray, List.set_cons_zero, List.set_cons_succ]
          refine' wpAnyH_take (i := 12) ?his10x12 ?hss10x12 ?hfs10x12 ?hrs10x12 ?hQs10x12 ?hys10x12 ?hSs10x12 ?hs10x12
          case his10x12 => (simp only [List.getElem?_toArray, List.getElem?_cons_succ, List.getElem?_cons_zero]; exact rfl)
          case hss10x12 => kernel_rfl
          case hfs10x12 => kernel_rfl
          case hrs10x12 => kernel_rfl
          case hQs10x12 => exact fun _ _ _ h => h
          case hys10x12 => (first | (refine Or.inr ⟨by rfl, ?_⟩; rfl) | (refine Or.inl ⟨by rfl, ?_⟩; (intro w hSw; (try dsimp only at hSw); go_simp); try with_reducible rfl))
          case hSs10x12 => assumption
          try simp only [Act.put, List.setIfInBounds_toArray, List.set_cons_zero, List.set_cons_succ]
          refine' wpAnyH_take (i := 13) ?his10x13 ?hss10x13 ?hfs10x13 ?hrs10x13 ?hQs10x13 ?hys10x13 ?hSs10x13 ?hs10x13
          case his10x13 => (simp only [List.getElem?_toArray, List.getElem?_cons_succ, List.getElem?_cons_zero]; exact rfl)
          case hss10x13 => kernel_rfl
          case hfs10x13 => kernel_rfl
          case hrs10x13 => kernel_rfl
          case hQs10x13 => exact fun _ _ _ h => h
          case hys10x13 => (first | (refine Or.inr ⟨by rfl, ?_⟩; rfl) | (refine Or.inl ⟨by rfl, ?_⟩; (intro w hSw; (try dsimp only at hSw); go_simp); try with_reducible rfl))
          case hSs10x13 => assumption
          try simp only [Act.put, List.setIfInBounds_toArray, List.set_cons_zero, List.set_cons_succ]
          refine' wpAnyH_take (i := 14) ?his10x14 ?hss10x14 ?hfs10x14 ?hrs10x14 ?hQs10x14 ?hys10x14 ?hSs10x14 ?hs10x14
          case his10x14 => (simp only [List.getElem?_toArray, List.getElem?_cons_succ, List.getElem?_cons_zero]; exact rfl)
          case hss10x14 => kernel_rfl
          case hfs10x14 => kernel_rfl
          case hrs10x14 => kernel_rfl
          case hQs10x14 => exact fun _ _ _ h => h
          case hys10x14 => (first | (refine Or.inr ⟨by rfl, ?_⟩; rfl) | (refine Or.inl ⟨by rfl, ?_⟩; (intro w hSw; (try dsimp only at hSw); go_simp); try with_reducible rfl))
          case hSs10x14 => assumption
          try simp only [Act.put, List.setIfInBounds_toArray, List.set_cons_zero, List.set_cons_succ]
          refine' wpAnyH_take (i := 16) ?his10x16 ?hss10x16 ?hfs10x16 ?hrs10x16 ?hQs10x16 ?hys10x16 ?hSs10x16 ?hs10x16
          case his10x16 => (simp only [List.getElem?_toArray, List.getElem?_cons_succ, List.getElem?_cons_zero]; exact rfl)
          case hss10x16 => kernel_rfl
          case hfs10x16 => kernel_rfl
          case hrs10x16 => kernel_rfl
          case hQs10x16 => exact fun _ _ _ h => h
          case hys10x16 => (first | (refine Or.inr ⟨by rfl, ?_⟩; rfl) | (refine Or.inl ⟨by rfl, ?_⟩; (intro w hSw; (try dsimp only at hSw); go_simp); try with_reducible rfl))
          case hSs10x16 => assumption
          try simp only [Act.put, List.setIfInBounds_toArray, List.set_cons_zero, List.set_cons_succ]
          refine wpAnyH_ready (rs := [1, 20]) (by kernel_rfl) (by simp) ?_
          refine' AllReadyH.cons ?hiAv11 (fun K' hK => ?hAv11) (AllReadyH.cons ?hiBv11 (fun K' hK => ?hBv11) AllReadyH.nil)
          case hiAv11 => (simp only [List.getElem?_toArray, List.getElem?_cons_succ, List.getElem?_cons_zero]; exact rfl)
          case hiBv11 => (simp only [List.getElem?_toArray, List.getElem?_cons_succ, List.getElem?_cons_zero]; exact rfl)
          case hAv11 =>
            go_simp
            have HRq := Lib.hid (HR.out.below HB2.out)
            go_at_call 33
            (with_reducible refine (refnum_4 HRq.out).mono ?_)
            rintro e w11 ⟨rfl, jj, hw'⟩
            rw [HN4.out]
            have hb11 := below_drewN (Below.refl w1.drew.heap.size w1.drew) jj
            rw [← hw'] at hb11
            clear hw' HRq
            have HB11 := Lib.hid (HB2.out.trans (hb11.mono HB2.out.size))
            have HZ11 := Lib.hid (blkv hb11 (size_of_block HZ2.out) HZ2.out)
            clear hb11 c2 c3
            have c2 := (HB11.out.cell (p := ⟨b, o + 2, none⟩) (show b < w.heap.size by rw [HZ.out]; exact hbZ)).trans C2.out
            have c3 := (HB11.out.cell (p := ⟨b, o + 3, none⟩) (show b < w.heap.size by rw [HZ.out]; exact hbZ)).trans C3.out
            refine hK.out _ _ (by go_keep) (fun hHeld => ?_)
            clear hK K'
            refine' wpAnyH_take (i := 3) ?hit12x3 ?hst12x3 ?hft12x3 ?hrt12x3 ?hQt12x3 ?hyt12x3 ?hSt12x3 ?ht12x3
            case hit12x3 => (simp only [List.getElem?_toArray, List.getElem?_cons_succ, List.getElem?_cons_zero]; exact rfl)
            case hst12x3 => kernel_rfl
            case hft12x3 => kernel_rfl
            case hrt12x3 => kernel_rfl
            case hQt12x3 => exact fun _ _ _ h => h
            case hyt12x3 => (first | (refine Or.inr ⟨by rfl, ?_⟩; rfl) | (refine Or.inl ⟨by rfl, ?_⟩; (intro w hSw; (try dsimp only at hSw); go_simp); try with_reducible rfl))
            case hSt12x3 => assumption
            try simp only [Act.put, List.setIfInBounds_toArray, List.set_cons_zero, List.set_cons_succ]
            refine wpAnyH_ready (rs := [15, 20]) (by kernel_rfl) (by simp) ?_
            refine' AllReadyH.cons ?hiAv13 (fun K' hK => ?hAv13) (AllReadyH.cons ?hiBv13 (fun K' hK => ?hBv13) AllReadyH.nil)
            case hiAv13 => (simp only [List.getElem?_toArray, List.getElem?_cons_succ, List.getElem?_cons_zero]; exact rfl)
            case hiBv13 => (simp only [List.getElem?_toArray, List.getElem?_cons_succ, List.getElem?_cons_zero]; exact rfl)
            case hAv13 =>
              go_simp
              have HRq := Lib.hid (HR.out.below HB11.out)
              go_at_call 33
              (with_reducible refine (refnum_12 HRq.out).mono ?_)
              rintro e w13 ⟨rfl, jj, hw'⟩
              rw [HN12.out]
              have hb13 := below_drewN (Below.refl w11.heap.size w11) jj
              rw [← hw'] at hb13
              clear hw' HRq
              have HB13 := Lib.hid (HB11.out.trans (hb13.mono HB11.out.size))
              have HZ13 := Lib.hid (blkv hb13 (size_of_block HZ11.out) HZ11.out)
              clear hb13 c2 c3
              have c2 := (HB13.out.cell (p := ⟨b, o + 2, none⟩) (show b < w.heap.size by rw [HZ.out]; exact hbZ)).trans C2.out
              have c3 := (HB13.out.cell (p := ⟨b, o + 3, none⟩) (show b < w.heap.size by rw [HZ.out]; exact hbZ)).trans C3.out
              refine hK.out _ _ (by go_keep) (fun hHeld => ?_)
              clear hK K'
              refine wpAnyH_ready (rs := [17, 20]) (by kernel_rfl) (by simp) ?_
              refine' AllReadyH.cons ?hiAv14 (fun K' hK => ?hAv14) (AllReadyH.cons ?hiBv14 (fun K' hK => ?hBv14) AllReadyH.nil)
              case hiAv14 => (simp only [List.getElem?_toArray, List.getElem?_cons_succ, List.getElem?_cons_zero]; exact rfl)
              case hiBv14 => (simp only [List.getElem?_toArray, List.getElem?_cons_succ, List.getElem?_cons_zero]; exact rfl)
              case hAv14 =>
                go_simp
                have HRq := Lib.hid (HR.out.below HB13.out)
                go_at_call 33
                (with_reducible refine (refnum_16 HRq.out).mono ?_)
                rintro e w14 ⟨rfl, jj, hw'⟩
                rw [HN16.out]
                have hb14 := below_drewN (Below.refl w13.heap.size w13) jj
                rw [← hw'] at hb14
                clear hw' HRq
                have HB14 := Lib.hid (HB13.out.trans (hb14.mono HB13.out.size))
                have HZ14 := Lib.hid (blkv hb14 (size_of_block HZ13.out) HZ13.out)
                clear hb14 c2 c3
                have c2 := (HB14.out.cell (p := ⟨b, o + 2, none⟩) (show b < w.heap.size by rw [HZ.out]; exact hbZ)).trans C2.out
                have c3 := (HB14.out.cell (p := ⟨b, o + 3, none⟩) (show b < w.heap.size by rw [HZ.out]; exact hbZ)).trans C3.out
                refine hK.out _ _ (by go_keep) (fun hHeld => ?_)
                clear hK K'
                refine' wpAnyH_take (i := 18) ?hit15x18 ?hst15x18 ?hft15x18 ?hrt15x18 ?hQt15x18 ?hyt15x18 ?hSt15x18 ?ht15x18
                case hit15x18 => (simp only [List.getElem?_toArray, List.getElem?_cons_succ, List.getElem?_cons_zero]; exact rfl)
                case hst15x18 => kernel_rfl
                case hft15x18 => kernel_rfl
                case hrt15x18 => kernel_rfl
                case hQt15x18 => exact fun _ _ _ h => h
                case hyt15x18 => (first | (refine Or.inr ⟨by rfl, ?_⟩; rfl) | (refine Or.inl ⟨by rfl, ?_⟩; (intro w hSw; (try dsimp only at hSw); go_simp); try with_reducible rfl))
                case hSt15x18 => assumption
                try simp only [Act.put, List.setIfInBounds_toArray, List.set_cons_zero, List.set_cons_succ]
                refine' wpAnyH_take (i := 19) ?hit15x19 ?hst15x19 ?hft15x19 ?hrt15x19 ?hQt15x19 ?hyt15x19 ?hSt15x19 ?ht15x19
                case hit15x19 => (simp only [List.getElem?_toArray, List.getElem?_cons_succ, List.getElem?_cons_zero]; exact rfl)
                case hst15x19 => kernel_rfl
                case hft15x19 => kernel_rfl
                case hrt15x19 => kernel_rfl
                case hQt15x19 => exact fun _ _ _ h => h
                case hyt15x19 => (first | (refine Or.inr ⟨by rfl, ?_⟩; rfl) | (refine Or.inl ⟨by rfl, ?_⟩; (intro w hSw; (try dsimp only at hSw); go_simp); try with_reducible rfl))
                case hSt15x19 => assumption
                try simp only [Act.put, List.setIfInBounds_toArray, List.set_cons_zero, List.set_cons_succ]
                refine wpAnyH_ready (rs := [20]) (by kernel_rfl) (by simp) ?_
                refine' AllReadyH.cons ?hiAv16 (fun K' hK => ?hAv16) AllReadyH.nil
                case hiAv16 => (simp only [List.getElem?_toArray, List.getElem?_cons_succ, List.getElem?_cons_zero]; exact rfl)
                have p1 : b < w14.heap.size := by have h1 := size_of_block HZ14.out; first | (have h2 := (show w14.drew.heap.size = w14.heap.size from rfl); omega) | omega
                have p2 : ¬ b = w14.heap.size := by omega
                have p3 : ¬ w14.heap.size = b := by omega
                go_simp
                refine hK.out _ _ (by go_keep) (fun hHeld => ?_)
                clear hK K' p1 p2 p3
                have hb16 : Below w14.heap.size w14 (w14.alloc (.cells #[.int .u32 0, .int .i64 0, .int .i64 0, .int .u32 0, .int .i64 0] 58)) := alloc1v w14 _
                obtain ⟨G, hG⟩ : ∃ G, w14.heap.size = G := ⟨_, rfl⟩
                have HE16 : Hid ((w14.alloc (.cells #[.int .u32 0, .int .i64 0, .int .i64 0, .int .u32 0, .int .i64 0] 58)).heap[G]? = some (.cells #[.int .u32 0, .int .i64 0, .int .i64 0, .int .u32 0, .int .i64 0] 58 (0, 0))) := Lib.hid (by rw [← hG]; exact heap_alloc_new w14 _)
                have hGZ : Z < G := by rw [← hG]; exact size_of_block HZ14.out
                generalize hwn : (w14.alloc (.cells #[.int .u32 0, .int .i64 0, .int .i64 0, .int .u32 0, .int .i64 0] 58)) = w16 at *
                try rw [hG]
                have HB16 := Lib.hid (HB14.out.trans (hb16.mono HB14.out.size))
                have HZ16 := Lib.hid (blkv hb16 (size_of_block HZ14.out) HZ14.out)
                clear hb16 hG hwn c2 c3
                have c2 := (HB16.out.cell (p := ⟨b, o + 2, none⟩) (show b < w.heap.size by rw [HZ.out]; exact hbZ)).trans C2.out
                have c3 := (HB16.out.cell (p := ⟨b, o + 3, none⟩) (show b < w.heap.size by rw [HZ.out]; exact hbZ)).trans C3.out
                refine wpAnyH_ready (rs := [21]) (by kernel_rfl) (by simp) ?_
                refine' AllReadyH.cons ?hiAv18 (fun K' hK => ?hAv18) AllReadyH.nil
                case hiAv18 => (simp only [List.getElem?_toArray, List.getElem?_cons_succ, List.getElem?_cons_zero]; exact rfl)
                obtain ⟨⟨e0, e1, e2, e3, e4⟩, f0, f1, f2, f3, f4⟩ := row5v HE16.out
                have q1 : ¬ b = G := by omega
                have q2 : ¬ G = b := by omega
                go_simp
                refine hK.out _ _ (by go_keep) (fun hHeld => ?_)
                clear hK K'
                refine wpAnyH_done (by kernel_rfl) ?_ _
                refine NoPanic.normal ?_
                clear hHeld
                go_wp2
                go_meet
                try rw [hw3]
                try rw [hw2]
                exact ⟨G, rfl, hGZ, Lib.hid (set5v _ _ _ _ _ HE16.out), Lib.hid ((set5o (by omega)).trans HZ16.out), Lib.hid (set5b _ _ _ _ _ HB16.out (by rw [HZ.out]; omega))⟩
              case hBv14 =>
                have p1 : b < w13.heap.size := by have h1 := size_of_block HZ13.out; first | (have h2 := (show w13.drew.heap.size = w13.heap.size from rfl); omega) | omega
                have p2 : ¬ b = w13.heap.size := by omega
                have p3 : ¬ w13.heap.size = b := by omega
                go_simp
                refine hK.out _ _ (by go_keep) (fun hHeld => ?_)
                clear hK K' p1 p2 p3
                have hb19 : Below w13.heap.size w13 (w13.alloc (.cells #[.int .u32 0, .int .i64 0, .int .i64 0, .int .u32 0, .int .i64 0] 58)) := alloc1v w13 _
                obtain ⟨G, hG⟩ : ∃ G, w13.heap.size = G := ⟨_, rfl⟩
                have HE19 : Hid ((w13.alloc (.cells #[.int .u32 0, .int .i64 0, .int .i64 0, .int .u32 0, .int .i64 0] 58)).heap[G]? = some (.cells #[.int .u32 0, .int .i64 0, .int .i64 0, .int .u32 0, .int .i64 0] 58 (0, 0))) := Lib.hid (by rw [← hG]; exact heap_alloc_new w13 _)
                have hGZ : Z < G := by rw [← hG]; exact size_of_block HZ13.out
                generalize hwn : (w13.alloc (.cells #[.int .u32 0, .int .i64 0, .int .i64 0, .int .u32 0, .int .i64 0] 58)) = w19 at *
                try rw [hG]
                have HB19 := Lib.hid (HB13.out.trans (hb19.mono HB13.out.size))
                have HZ19 := Lib.hid (blkv hb19 (size_of_block HZ13.out) HZ13.out)
                clear hb19 hG hwn c2 c3
                have c2 := (HB19.out.cell (p := ⟨b, o + 2, none⟩) (show b < w.heap.size by rw [HZ.out]; exact hbZ)).trans C2.out
                have c3 := (HB19.out.cell (p := ⟨b, o + 3, none⟩) (show b < w.heap.size by rw [HZ.out]; exact hbZ)).trans C3.out
                refine wpAnyH_ready (rs := [17]) (by kernel_rfl) (by simp) ?_
                refine' AllReadyH.cons ?hiAv20 (fun K' hK => ?hAv20) AllReadyH.nil
                case hiAv20 => (simp only [List.getElem?_toArray, List.getElem?_cons_succ, List.getElem?_cons_zero]; exact rfl)
                go_simp
                have HRq := Lib.hid (HR.out.below HB19.out)
                go_at_call 33
                (with_reducible refine (refnum_16 HRq.out).mono ?_)
                rintro e w20 ⟨rfl, jj, hw'⟩
                rw [HN16.out]
                have hb20 := below_drewN (Below.refl w19.heap.size w19) jj
                rw [← hw'] at hb20
                clear hw' HRq
                have HB20 := Lib.hid (HB19.out.trans (hb20.mono HB19.out.size))
                have HZ20 := Lib.hid (blkv hb20 (size_of_block HZ19.out) HZ19.out)
                have HE20 := Lib.hid (blkv hb20 (size_of_block HE19.out) HE19.out)
                clear hb20 c2 c3
                have c2 := (HB20.out.cell (p := ⟨b, o + 2, none⟩) (show b < w.heap.size by rw [HZ.out]; exact hbZ)).trans C2.out
                have c3 := (HB20.out.cell (p := ⟨b, o + 3, none⟩) (show b < w.heap.size by rw [HZ.out]; exact hbZ)).trans C3.out
                refine hK.out _ _ (by go_keep) (fun hHeld => ?_)
                clear hK K'
                refine' wpAnyH_take (i := 18) ?hit21x18 ?hst21x18 ?hft21x18 ?hrt21x18 ?hQt21x18 ?hyt21x18 ?hSt21x18 ?ht21x18
                case hit21x18 => (simp only [List.getElem?_toArray, List.getElem?_cons_succ, List.getElem?_cons_zero]; exact rfl)
                case hst21x18 => kernel_rfl
                case hft21x18 => kernel_rfl
                case hrt21x18 => kernel_rfl
                case hQt21x18 => exact fun _ _ _ h => h
                case hyt21x18 => (first | (refine Or.inr ⟨by rfl, ?_⟩; rfl) | (refine Or.inl ⟨by rfl, ?_⟩; (intro w hSw; (try dsimp only at hSw); go_simp); try with_reducible rfl))
                case hSt21x18 => assumption
                try simp only [Act.put, List.setIfInBounds_toArray, List.set_cons_zero, List.set_cons_succ]
                refine' wpAnyH_take (i := 19) ?hit21x19 ?hst21x19 ?hft21x19 ?hrt21x19 ?hQt21x19 ?hyt21x19 ?hSt21x19 ?ht21x19
                case hit21x19 => (simp only [List.getElem?_toArray, List.getElem?_cons_succ, List.getElem?_cons_zero]; exact rfl)
                case hst21x19 => kernel_rfl
                case hft21x19 => kernel_rfl
                case hrt21x19 => kernel_rfl
                case hQt21x19 => exact fun _ _ _ h => h
                case hyt21x19 => (first | (refine Or.inr ⟨by rfl, ?_⟩; rfl) | (refine Or.inl ⟨by rfl, ?_⟩; (intro w hSw; (try dsimp only at hSw); go_simp); try with_reducible rfl))
                case hSt21x19 => assumption
                try simp only [Act.put, List.setIfInBounds_toArray, List.set_cons_zero, List.set_cons_succ]
                refine wpAnyH_ready (rs := [21]) (by kernel_rfl) (by simp) ?_
                refine' AllReadyH.cons ?hiAv23 (fun K' hK => ?hAv23) AllReadyH.nil
                case hiAv23 => (simp only [List.getElem?_toArray, List.getElem?_cons_succ, List.getElem?_cons_zero]; exact rfl)
                obtain ⟨⟨e0, e1, e2, e3, e4⟩, f0, f1, f2, f3, f4⟩ := row5v HE20.out
                have q1 : ¬ b = G := by omega
                have q2 : ¬ G = b := by omega
                go_simp
                refine hK.out _ _ (by go_keep) (fun hHeld => ?_)
                clear hK K'
                refine wpAnyH_done (by kernel_rfl) ?_ _
                refine NoPanic.normal ?_
                clear hHeld
                go_wp2
                go_meet
                try rw [hw3]
                try rw [hw2]
                exact ⟨G, rfl, hGZ, Lib.hid (set5v _ _ _ _ _ HE20.out), Lib.hid ((set5o (by omega)).trans HZ20.out), Lib.hid (set5b _ _ _ _ _ HB20.out (by rw [HZ.out]; omega))⟩
            case hBv13 =>
              have p1 : b < w11.heap.size := by have h1 := size_of_block HZ11.out; first | (have h2 := (show w11.drew.heap.size = w11.heap.size from rfl); omega) | omega
              have p2 : ¬ b = w11.heap.size := by omega
              have p3 : ¬ w11.heap.size = b := by omega
              go_simp
              refine hK.out _ _ (by go_keep) (fun hHeld => ?_)
              clear hK K' p1 p2 p3
              have hb24 : Below w11.heap.size w11 (w11.alloc (.cells #[.int .u32 0, .int .i64 0, .int .i64 0, .int .u32 0, .int .i64 0] 58)) := alloc1v w11 _
              obtain ⟨G, hG⟩ : ∃ G, w11.heap.size = G := ⟨_, rfl⟩
              have HE24 : Hid ((w11.alloc (.cells #[.int .u32 0, .int .i64 0, .int .i64 0, .int .u32 0, .int .i64 0] 58)).heap[G]? = some (.cells #[.int .u32 0, .int .i64 0, .int .i64 0, .int .u32 0, .int .i64 0] 58 (0, 0))) := Lib.hid (by rw [← hG]; exact heap_alloc_new w11 _)
              have hGZ : Z < G := by rw [← hG]; exact size_of_block HZ11.out
              generalize hwn : (w11.alloc (.cells #[.int .u32 0, .int .i64 0, .int .i64 0, .int .u32 0, .int .i64 0] 58)) = w24 at *
              try rw [hG]
              have HB24 := Lib.hid (HB11.out.trans (hb24.mono HB11.out.size))
              have HZ24 := Lib.hid (blkv hb24 (size_of_block HZ11.out) HZ11.out)
              clear hb24 hG hwn c2 c3
              have c2 := (HB24.out.cell (p := ⟨b, o + 2, none⟩) (show b < w.heap.size by rw [HZ.out]; exact hbZ)).trans C2.out
              have c3 := (HB24.out.cell (p := ⟨b, o + 3, none⟩) (show b < w.heap.size by rw [HZ.out]; exact hbZ)).trans C3.out
              refine wpAnyH_ready (rs := [15]) (by kernel_rfl) (by simp) ?_
              refine' AllReadyH.cons ?hiAv25 (fun K' hK => ?hAv25) AllReadyH.nil
              case hiAv25 => (simp only [List.getElem?_toArray, List.getElem?_cons_succ, List.getElem?_cons_zero]; exact rfl)
              go_simp
              have HRq := Lib.hid (HR.out.below HB24.out)
              go_at_call 33
              (with_reducible refine (refnum_12 HRq.out).mono ?_)
              rintro e w25 ⟨rfl, jj, hw'⟩
              rw [HN12.out]
              have hb25 := below_drewN (Below.refl w24.heap.size w24) jj
              rw [← hw'] at hb25
              clear hw' HRq
              have HB25 := Lib.hid (HB24.out.trans (hb25.mono HB24.out.size))
              have HZ25 := Lib.hid (blkv hb25 (size_of_block HZ24.out) HZ24.out)
              have HE25 := Lib.hid (blkv hb25 (size_of_block HE24.out) HE24.out)
              clear hb25 c2 c3
              have c2 := (HB25.out.cell (p := ⟨b, o + 2, none⟩) (show b < w.heap.size by rw [HZ.out]; exact hbZ)).trans C2.out
              have c3 := (HB25.out.cell (p := ⟨b, o + 3, none⟩) (show b < w.heap.size by rw [HZ.out]; exact hbZ)).trans C3.out
              refine hK.out _ _ (by go_keep) (fun hHeld => ?_)
              clear hK K'
              refine wpAnyH_ready (rs := [17]) (by kernel_rfl) (by simp) ?_
              refine' AllReadyH.cons ?hiAv26 (fun K' hK => ?hAv26) AllReadyH.nil
              case hiAv26 => (simp only [List.getElem?_toArray, List.getElem?_cons_succ, List.getElem?_cons_zero]; exact rfl)
              go_simp
              have HRq := Lib.hid (HR.out.below HB25.out)
              go_at_call 33
              (with_reducible refine (refnum_16 HRq.out).mono ?_)
              rintro e w26 ⟨rfl, jj, hw'⟩
              rw [HN16.out]
              have hb26 := below_drewN (Below.refl w25.heap.size w25) jj
              rw [← hw'] at hb26
              clear hw' HRq
              have HB26 := Lib.hid (HB25.out.trans (hb26.mono HB25.out.size))
              have HZ26 := Lib.hid (blkv hb26 (size_of_block HZ25.out) HZ25.out)
              have HE26 := Lib.hid (blkv hb26 (size_of_block HE25.out) HE25.out)
              clear hb26 c2 c3
              have c2 := (HB26.out.cell (p := ⟨b, o + 2, none⟩) (show b < w.heap.size by rw [HZ.out]; exact hbZ)).trans C2.out
              have c3 := (HB26.out.cell (p := ⟨b, o + 3, none⟩) (show b < w.heap.size by rw [HZ.out]; exact hbZ)).trans C3.out
              refine hK.out _ _ (by go_keep) (fun hHeld => ?_)
              clear hK K'
              refine' wpAnyH_take (i := 18) ?hit27x18 ?hst27x18 ?hft27x18 ?hrt27x18 ?hQt27x18 ?hyt27x18 ?hSt27x18 ?ht27x18
              case hit27x18 => (simp only [List.getElem?_toArray, List.getElem?_cons_succ, List.getElem?_cons_zero]; exact rfl)
              case hst27x18 => kernel_rfl
              case hft27x18 => kernel_rfl
              case hrt27x18 => kernel_rfl
              case hQt27x18 => exact fun _ _ _ h => h
              case hyt27x18 => (first | (refine Or.inr ⟨by rfl, ?_⟩; rfl) | (refine Or.inl ⟨by rfl, ?_⟩; (intro w hSw; (try dsimp only at hSw); go_simp); try with_reducible rfl))
              case hSt27x18 => assumption
              try simp only [Act.put, List.setIfInBounds_toArray, List.set_cons_zero, List.set_cons_succ]
              refine' wpAnyH_take (i := 19) ?hit27x19 ?hst27x19 ?hft27x19 ?hrt27x19 ?hQt27x19 ?hyt27x19 ?hSt27x19 ?ht27x19
              case hit27x19 => (simp only [List.getElem?_toArray, List.getElem?_cons_succ, List.getElem?_cons_zero]; exact rfl)
              case hst27x19 => kernel_rfl
              case hft27x19 => kernel_rfl
              case hrt27x19 => kernel_rfl
              case hQt27x19 => exact fun _ _ _ h => h
              case hyt27x19 => (first | (refine Or.inr ⟨by rfl, ?_⟩; rfl) | (refine Or.inl ⟨by rfl, ?_⟩; (intro w hSw; (try dsimp only at hSw); go_simp); try with_reducible rfl))
              case hSt27x19 => assumption
              try simp only [Act.put, List.setIfInBounds_toArray, List.set_cons_zero, List.set_cons_succ]
              refine wpAnyH_ready (rs := [21]) (by kernel_rfl) (by simp) ?_
              refine' AllReadyH.cons ?hiAv29 (fun K' hK => ?hAv29) AllReadyH.nil
              case hiAv29 => (simp only [List.getElem?_toArray, List.getElem?_cons_succ, List.getElem?_cons_zero]; exact rfl)
              obtain ⟨⟨e0, e1, e2, e3, e4⟩, f0, f1, f2, f3, f4⟩ := row5v HE26.out
              have q1 : ¬ b = G := by omega
              have q2 : ¬ G = b := by omega
              go_simp
              refine hK.out _ _ (by go_keep) (fun hHeld => ?_)
              clear hK K'
              refine wpAnyH_done (by kernel_rfl) ?_ _
              refine NoPanic.normal ?_
              clear hHeld
              go_wp2
              go_meet
              try rw [hw3]
              try rw [hw2]
              exact ⟨G, rfl, hGZ, Lib.hid (set5v _ _ _ _ _ HE26.out), Lib.hid ((set5o (by omega)).trans HZ26.out), Lib.hid (set5b _ _ _ _ _ HB26.out (by rw [HZ.out]; omega))⟩
          case hBv11 =>
            have p1 : b < w1.heap.size := by have h1 := size_of_block HZ2.out; first | (have h2 := (show w1.drew.heap.size = w1.heap.size from rfl); omega) | omega
            have p2 : ¬ b = w1.heap.size := by omega
            have p3 : ¬ w1.heap.size = b := by omega
            go_simp
            refine hK.out _ _ (by go_keep) (fun hHeld => ?_)
            clear hK K' p1 p2 p3
            have hb30 : Below w1.heap.size w1 (w1.alloc (.cells #[.int .u32 0, .int .i64 0, .int .i64 0, .int .u32 0, .int .i64 0] 58)).drew := below_drewN (alloc1v w1 _) 1
            obtain ⟨G, hG⟩ : ∃ G, w1.heap.size = G := ⟨_, rfl⟩
            have HE30 : Hid ((w1.alloc (.cells #[.int .u32 0, .int .i64 0, .int .i64 0, .int .u32 0, .int .i64 0] 58)).drew.heap[G]? = some (.cells #[.int .u32 0, .int .i64 0, .int .i64 0, .int .u32 0, .int .i64 0] 58 (0, 0))) := Lib.hid (by rw [← hG]; exact heap_alloc_new w1 _)
            have hGZ : Z < G := by rw [← hG]; exact size_of_block HZ1.out
            generalize hwn : (w1.alloc (.cells #[.int .u32 0, .int .i64 0, .int .i64 0, .int .u32 0, .int .i64 0] 58)).drew = w30 at *
            try rw [hG]
            have HB30 := Lib.hid (HB1.out.trans (hb30.mono HB1.out.size))
            have HZ30 := Lib.hid (blkv hb30 (size_of_block HZ1.out) HZ1.out)
            clear hb30 hG hwn c2 c3
            have c2 := (HB30.out.cell (p := ⟨b, o + 2, none⟩) (show b < w.heap.size by rw [HZ.out]; exact hbZ)).trans C2.out
            have c3 := (HB30.out.cell (p := ⟨b, o + 3, none⟩) (show b < w.heap.size by rw [HZ.out]; exact hbZ)).trans C3.out
            refine wpAnyH_ready (rs := [1]) (by kernel_rfl) (by simp) ?_
            refine' AllReadyH.cons ?hiAv31 (fun K' hK => ?hAv31) AllReadyH.nil
            case hiAv31 => (simp only [List.getElem?_toArray, List.getElem?_cons_succ, List.getElem?_cons_zero]; exact rfl)
            go_simp
            have HRq := Lib.hid (HR.out.below HB30.out)
            go_at_call 33
            (with_reducible refine (refnum_4 HRq.out).mono ?_)
            rintro e w31 ⟨rfl, jj, hw'⟩
            rw [HN4.out]
            have hb31 := below_drewN (Below.refl w30.heap.size w30) jj
            rw [← hw'] at hb31
            clear hw' HRq
            have HB31 := Lib.hid (HB30.out.trans (hb31.mono HB30.out.size))
            have HZ31 := Lib.hid (blkv hb31 (size_of_block HZ30.out) HZ30.out)
            have HE31 := Lib.hid (blkv hb31 (size_of_block HE30.out) HE30.out)
            clear hb31 c2 c3
            have c2 := (HB31.out.cell (p := ⟨b, o + 2, none⟩) (show b < w.heap.size by rw [HZ.out]; exact hbZ)).trans C2.out
            have c3 := (HB31.out.cell (p := ⟨b, o + 3, none⟩) (show b < w.heap.size by rw [HZ.out]; exact hbZ)).trans C3.out
            refine hK.out _ _ (by go_keep) (fun hHeld => ?_)
            clear hK K'
            refine' wpAnyH_take (i := 3) ?hit32x3 ?hst32x3 ?hft32x3 ?hrt32x3 ?hQt32x3 ?hyt32x3 ?hSt32x3 ?ht32x3
            case hit32x3 => (simp only [List.getElem?_toArray, List.getElem?_cons_succ, List.getElem?_cons_zero]; exact rfl)
            case hst32x3 => kernel_rfl
            case hft32x3 => kernel_rfl
            case hrt32x3 => kernel_rfl
            case hQt32x3 => exact fun _ _ _ h => h
            case hyt32x3 => (first | (refine Or.inr ⟨by rfl, ?_⟩; rfl) | (refine Or.inl ⟨by rfl, ?_⟩; (intro w hSw; (try dsimp only at hSw); go_simp); try with_reducible rfl))
            case hSt32x3 => assumption
            try simp only [Act.put, List.setIfInBounds_toArray, List.set_cons_zero, List.set_cons_succ]
            refine wpAnyH_ready (rs := [15]) (by kernel_rfl) (by simp) ?_
            refine' AllReadyH.cons ?hiAv33 (fun K' hK => ?hAv33) AllReadyH.nil
            case hiAv33 => (simp only [List.getElem?_toArray, List.getElem?_cons_succ, List.getElem?_cons_zero]; exact rfl)
            go_simp
            have HRq := Lib.hid (HR.out.below HB31.out)
            go_at_call 33
            (with_reducible refine (refnum_12 HRq.out).mono ?_)
            rintro e w33 ⟨rfl, jj, hw'⟩
            rw [HN12.out]
            have hb33 := below_drewN (Below.refl w31.heap.size w31) jj
            rw [← hw'] at hb33
            clear hw' HRq
            have HB33 := Lib.hid (HB31.out.trans (hb33.mono HB31.out.size))
            have HZ33 := Lib.hid (blkv hb33 (size_of_block HZ31.out) HZ31.out)
            have HE33 := Lib.hid (blkv hb33 (size_of_block HE31.out) HE31.out)
            clear hb33 c2 c3
            have c2 := (HB33.out.cell (p := ⟨b, o + 2, none⟩) (show b < w.heap.size by rw [HZ.out]; exact hbZ)).trans C2.out
            have c3 := (HB33.out.cell (p := ⟨b, o + 3, none⟩) (show b < w.heap.size by rw [HZ.out]; exact hbZ)).trans C3.out
            refine hK.out _ _ (by go_keep) (fun hHeld => ?_)
            clear hK K'
            refine wpAnyH_ready (rs := [17]) (by kernel_rfl) (by simp) ?_
            refine' AllReadyH.cons ?hiAv34 (fun K' hK => ?hAv34) AllReadyH.nil
            case hiAv34 => (simp only [List.getElem?_toArray, List.getElem?_cons_succ, List.getElem?_cons_zero]; exact rfl)
            go_simp
            have HRq := Lib.hid (HR.out.below HB33.out)
            go_at_call 33
            (with_reducible refine (refnum_16 HRq.out).mono ?_)
            rintro e w34 ⟨rfl, jj, hw'⟩
            rw [HN16.out]
            have hb34 := below_drewN (Below.refl w33.heap.size w33) jj
            rw [← hw'] at hb34
            clear hw' HRq
            have HB34 := Lib.hid (HB33.out.trans (hb34.mono HB33.out.size))
            have HZ34 := Lib.hid (blkv hb34 (size_of_block HZ33.out) HZ33.out)
            have HE34 := Lib.hid (blkv hb34 (size_of_block HE33.out) HE33.out)
            clear hb34 c2 c3
            have c2 := (HB34.out.cell (p := ⟨b, o + 2, none⟩) (show b < w.heap.size by rw [HZ.out]; exact hbZ)).trans C2.out
            have c3 := (HB34.out.cell (p := ⟨b, o + 3, none⟩) (show b < w.heap.size by rw [HZ.out]; exact hbZ)).trans C3.out
            refine hK.out _ _ (by go_keep) (fun hHeld => ?_)
            clear hK K'
            refine' wpAnyH_take (i := 18) ?hit35x18 ?hst35x18 ?hft35x18 ?hrt35x18 ?hQt35x18 ?hyt35x18 ?hSt35x18 ?ht35x18
            case hit35x18 => (simp only [List.getElem?_toArray, List.getElem?_cons_succ, List.getElem?_cons_zero]; exact rfl)
            case hst35x18 => kernel_rfl
            case hft35x18 => kernel_rfl
            case hrt35x18 => kernel_rfl
            case hQt35x18 => exact fun _ _ _ h => h
            case hyt35x18 => (first | (refine Or.inr ⟨by rfl, ?_⟩; rfl) | (refine Or.inl ⟨by rfl, ?_⟩; (intro w hSw; (try dsimp only at hSw); go_simp); try with_reducible rfl))
            case hSt35x18 => assumption
            try simp only [Act.put, List.setIfInBounds_toArray, List.set_cons_zero, List.set_cons_succ]
            refine' wpAnyH_take (i := 19) ?hit35x19 ?hst35x19 ?hft35x19 ?hrt35x19 ?hQt35x19 ?hyt35x19 ?hSt35x19 ?ht35x19
            case hit35x19 => (simp only [List.getElem?_toArray, List.getElem?_cons_succ, List.getElem?_cons_zero]; exact rfl)
            case hst35x19 => kernel_rfl
            case hft35x19 => kernel_rfl
            case hrt35x19 => kernel_rfl
            case hQt35x19 => exact fun _ _ _ h => h
            case hyt35x19 => (first | (refine Or.inr ⟨by rfl, ?_⟩; rfl) | (refine Or.inl ⟨by rfl, ?_⟩; (intro w hSw; (try dsimp only at hSw); go_simp); try with_reducible rfl))
            case hSt35x19 => assumption
            try simp only [Act.put, List.setIfInBounds_toArray, List.set_cons_zero, List.set_cons_succ]
            refine wpAnyH_ready (rs := [21]) (by kernel_rfl) (by simp) ?_
            refine' AllReadyH.cons ?hiAv37 (fun K' hK => ?hAv37) AllReadyH.nil
            case hiAv37 => (simp only [List.getElem?_toArray, List.getElem?_cons_succ, List.getElem?_cons_zero]; exact rfl)
            obtain ⟨⟨e0, e1, e2, e3, e4⟩, f0, f1, f2, f3, f4⟩ := row5v HE34.out
            have q1 : ¬ b = G := by omega
            have q2 : ¬ G = b := by omega
            go_simp
            refine hK.out _ _ (by go_keep) (fun hHeld => ?_)
            clear hK K'
            refine wpAnyH_done (by kernel_rfl) ?_ _
            refine NoPanic.normal ?_
            clear hHeld
            go_wp2
            go_meet
            try rw [hw3]
            try rw [hw2]
            exact ⟨G, rfl, hGZ, Lib.hid (set5v _ _ _ _ _ HE34.out), Lib.hid ((set5o (by omega)).trans HZ34.out), Lib.hid (set5b _ _ _ _ _ HB34.out (by rw [HZ.out]; omega))⟩
        case rest =>
          obtain ⟨G, rfl, hGZ, HG2, HZ2, HB2⟩ := hcut
          clear HB1 HZ1
          obtain ⟨w2, hw2⟩ : ∃ w2, w2 = wc := ⟨_, rfl⟩
          subst hw2
          have d0 := (HB2.out.cell (p := ⟨b, o, none⟩) (show b < w.heap.size by rw [HZ.out]; exact hbZ)).trans C0.out
          have d1 := (HB2.out.cell (p := ⟨b, o + 1, none⟩) (show b < w.heap.size by rw [HZ.out]; exact hbZ)).trans C1.out
          have hi0 : (0 : Int) < 20 := by decide
          obtain ⟨⟨e0, e1, e2, e3, e4⟩, f0, f1, f2, f3, f4⟩ := row5v HG2.out
          obtain ⟨⟨z0, z1, z2, z3, z4⟩, y0, y1, y2, y3, y4⟩ := row5v HZ2.out
          by_cases hx0 : x0 = 0
          · subst hx0
            by_cases hx1 : x1 = 2
            · subst hx1
              obtain ⟨V, hV⟩ : ∃ V, maskV K = V := ⟨_, rfl⟩
              have HVV := Lib.hid hV
              rw [hV] at HIF
              clear hV
              have hK32 : K ≤ 32 := hK
              go_wp2_with fail
              go_at_call 7
              (with_reducible refine (MaskOf_n K _ hK32).mono ?_)
              rintro e w' ⟨rfl, rfl⟩
              rw [HVV.out]
              have HRq := Lib.hid (HR.out.below HB2.out)
              go_wp2_with fail
              go_at_call 33
              (with_reducible refine (refnum_8 HRq.out).mono ?_)
              rintro e w3 ⟨rfl, jj, hw'⟩
              rw [HM.out]
              have hb3 := below_drewN (Below.refl w2.heap.size w2) jj
              rw [← hw'] at hb3
              have HB3 := Lib.hid (HB2.out.trans (hb3.mono HB2.out.size))
              have HZ3 := Lib.hid (blkv hb3 (size_of_block HZ2.out) HZ2.out)
              have HG3 := Lib.hid (blkv hb3 (size_of_block HG2.out) HG2.out)
              clear hw' HRq hb3 d0 d1
              clear e0 e1 e2 e3 e4 f0 f1 f2 f3 f4 z0 z1 z2 z3 z4 y0 y1 y2 y3 y4
              obtain ⟨⟨e0, e1, e2, e3, e4⟩, f0, f1, f2, f3, f4⟩ := row5v HG3.out
              obtain ⟨⟨z0, z1, z2, z3, z4⟩, y0, y1, y2, y3, y4⟩ := row5v HZ3.out
              by_cases hm : V = M
              · have tm : (V == M) = true := by simp [hm]
                have HVM := Lib.hid hm
                clear hm
                obtain ⟨F, hF⟩ : ∃ F, netF (N4, (K : Int)) = F := ⟨_, rfl⟩
                have HF := Lib.hid hF
                rw [hF] at HIF
                clear hF
                go_wp2_with fail
                go_at_call 23
                (with_reducible refine (NetFault_n N4 K _ h4.1 h4.2).mono ?_)
                rw [HF.out]
                rintro e w4 ⟨rfl, hb4⟩
                have HB4 := Lib.hid (HB3.out.trans (hb4.mono HB3.out.size))
                have HZ4 := Lib.hid (blkv hb4 (size_of_block HZ3.out) HZ3.out)
                have HG4 := Lib.hid (blkv hb4 (size_of_block HG3.out) HG3.out)
                clear hb4
                clear e0 e1 e2 e3 e4 f0 f1 f2 f3 f4 z0 z1 z2 z3 z4 y0 y1 y2 y3 y4
                obtain ⟨⟨e0, e1, e2, e3, e4⟩, f0, f1, f2, f3, f4⟩ := row5v HG4.out
                obtain ⟨⟨z0, z1, z2, z3, z4⟩, y0, y1, y2, y3, y4⟩ := row5v HZ4.out
                by_cases hF0 : F = 0
                · subst hF0
                  by_cases h1 : 1 ≤ N16
                  · by_cases h2 : N16 ≤ 16
                    · skip
                      have HV : Hid (RR = true) := Lib.hid (by
                        rw [← HRR.out]
                        exact decide_eq_true (HIF.out.2 ⟨by simp, by simp, HVM.out, by simp, h1, h2⟩))
                      have HE := Lib.hid (set5v (.int .u32 N4) (.int .i64 K) (.int .i64 (x2 * 256 + x3)) (.int .u32 N12) (.int .i64 N16) HZ4.out)
                      have HEND : Hid (PP (.returned (.tuple #[.agg #[.int .u32 N4, .int .i64 K, .int .i64 (x2 * 256 + x3), .int .u32 N12, .int .i64 N16], .bool true])) (((((w4.setCell ⟨Z, 0, none⟩ (.int .u32 N4)).setCell ⟨Z, 1, none⟩ (.int .i64 K)).setCell ⟨Z, 2, none⟩ (.int .i64 (x2 * 256 + x3))).setCell ⟨Z, 3, none⟩ (.int .u32 N12)).setCell ⟨Z, 4, none⟩ (.int .i64 N16))) := Lib.hid (by
                        rw [← HPP.out]
                        exact ⟨by rw [HV.out, ← HPE.out], set5b _ _ _ _ _ HB4.out (by rw [HZ.out]; exact Nat.le_refl _)⟩)
                      go_wp2
                      exact entryof_end HE.out rfl rfl rfl HEND.out
                    · skip
                      have HH2 := Lib.hid h2
                      have tl : decide (N16 ≤ 16) = false := decide_eq_false h2
                      clear h2
                      have HV : Hid (RR = false) := Lib.hid (by
                        rw [← HRR.out]
                        exact decide_eq_false (fun h => absurd (HIF.out.1 h).2.2.2.2.2 HH2.out))
                      have HE := Lib.hid (set5v (.int .u32 N4) (.int .i64 K) (.int .i64 (x2 * 256 + x3)) (.int .u32 N12) (.int .i64 N16) HZ4.out)
                      have HEND : Hid (PP (.returned (.tuple #[.agg #[.int .u32 N4, .int .i64 K, .int .i64 (x2 * 256 + x3), .int .u32 N12, .int .i64 N16], .bool false])) (((((w4.setCell ⟨Z, 0, none⟩ (.int .u32 N4)).setCell ⟨Z, 1, none⟩ (.int .i64 K)).setCell ⟨Z, 2, none⟩ (.int .i64 (x2 * 256 + x3))).setCell ⟨Z, 3, none⟩ (.int .u32 N12)).setCell ⟨Z, 4, none⟩ (.int .i64 N16))) := Lib.hid (by
                        rw [← HPP.out]
                        exact ⟨by rw [HV.out, ← HPE.out], set5b _ _ _ _ _ HB4.out (by rw [HZ.out]; exact Nat.le_refl _)⟩)
                      go_wp2
                      exact entryof_end HE.out rfl rfl rfl HEND.out
                  · skip
                    have HH1 := Lib.hid h1
                    have tl : decide (1 ≤ N16) = false := decide_eq_false h1
                    clear h1
                    have HV : Hid (RR = false) := Lib.hid (by
                      rw [← HRR.out]
                      exact decide_eq_false (fun h => absurd (HIF.out.1 h).2.2.2.2.1 HH1.out))
                    have HE := Lib.hid (set5v (.int .u32 N4) (.int .i64 K) (.int .i64 (x2 * 256 + x3)) (.int .u32 N12) (.int .i64 N16) HZ4.out)
                    have HEND : Hid (PP (.returned (.tuple #[.agg #[.int .u32 N4, .int .i64 K, .int .i64 (x2 * 256 + x3), .int .u32 N12, .int .i64 N16], .bool false])) (((((w4.setCell ⟨Z, 0, none⟩ (.int .u32 N4)).setCell ⟨Z, 1, none⟩ (.int .i64 K)).setCell ⟨Z, 2, none⟩ (.int .i64 (x2 * 256 + x3))).setCell ⟨Z, 3, none⟩ (.int .u32 N12)).setCell ⟨Z, 4, none⟩ (.int .i64 N16))) := Lib.hid (by
                      rw [← HPP.out]
                      exact ⟨by rw [HV.out, ← HPE.out], set5b _ _ _ _ _ HB4.out (by rw [HZ.out]; exact Nat.le_refl _)⟩)
                    go_wp2
                    exact entryof_end HE.out rfl rfl rfl HEND.out
                · have tF : (F == 0) = false := by simpa using hF0
                  have HF0 := Lib.hid hF0
                  clear hF0
                  have HV : Hid (RR = false) := Lib.hid (by
                    rw [← HRR.out]
                    exact decide_eq_false (fun h => absurd (HIF.out.1 h).2.2.2.1 HF0.out))
                  have HE := Lib.hid (set5v (.int .u32 N4) (.int .i64 K) (.int .i64 (x2 * 256 + x3)) (.int .u32 N12) (.int .i64 N16) HZ4.out)
                  have HEND : Hid (PP (.returned (.tuple #[.agg #[.int .u32 N4, .int .i64 K, .int .i64 (x2 * 256 + x3), .int .u32 N12, .int .i64 N16], .bool false])) (((((w4.setCell ⟨Z, 0, none⟩ (.int .u32 N4)).setCell ⟨Z, 1, none⟩ (.int .i64 K)).setCell ⟨Z, 2, none⟩ (.int .i64 (x2 * 256 + x3))).setCell ⟨Z, 3, none⟩ (.int .u32 N12)).setCell ⟨Z, 4, none⟩ (.int .i64 N16))) := Lib.hid (by
                    rw [← HPP.out]
                    exact ⟨by rw [HV.out, ← HPE.out], set5b _ _ _ _ _ HB4.out (by rw [HZ.out]; exact Nat.le_refl _)⟩)
                  go_wp2
                  exact entryof_end HE.out rfl rfl rfl HEND.out
              · have tm : (V == M) = false := by simpa using hm
                have HVM := Lib.hid hm
                clear hm
                have HV : Hid (RR = false) := Lib.hid (by
                  rw [← HRR.out]
                  exact decide_eq_false (fun h => absurd (HIF.out.1 h).2.2.1 HVM.out))
                have HE := Lib.hid (set5v (.int .u32 N4) (.int .i64 K) (.int .i64 (x2 * 256 + x3)) (.int .u32 N12) (.int .i64 N16) HZ3.out)
                have HEND : Hid (PP (.returned (.tuple #[.agg #[.int .u32 N4, .int .i64 K, .int .i64 (x2 * 256 + x3), .int .u32 N12, .int .i64 N16], .bool false])) (((((w3.setCell ⟨Z, 0, none⟩ (.int .u32 N4)).setCell ⟨Z, 1, none⟩ (.int .i64 K)).setCell ⟨Z, 2, none⟩ (.int .i64 (x2 * 256 + x3))).setCell ⟨Z, 3, none⟩ (.int .u32 N12)).setCell ⟨Z, 4, none⟩ (.int .i64 N16))) := Lib.hid (by
                  rw [← HPP.out]
                  exact ⟨by rw [HV.out, ← HPE.out], set5b _ _ _ _ _ HB3.out (by rw [HZ.out]; exact Nat.le_refl _)⟩)
                go_wp2
                exact entryof_end HE.out rfl rfl rfl HEND.out
            · have t1 : (x1 == 2) = false := by simpa using hx1
              have HX1 := Lib.hid hx1
              clear hx1
              have HV : Hid (RR = false) := Lib.hid (by
                rw [← HRR.out]
                exact decide_eq_false (fun h => absurd (HIF.out.1 h).2.1 HX1.out))
              have HE := Lib.hid (set5v (.int .u32 N4) (.int .i64 K) (.int .i64 (x2 * 256 + x3)) (.int .u32 N12) (.int .i64 N16) HZ2.out)
              have HEND : Hid (PP (.returned (.tuple #[.agg #[.int .u32 N4, .int .i64 K, .int .i64 (x2 * 256 + x3), .int .u32 N12, .int .i64 N16], .bool false])) (((((w2.setCell ⟨Z, 0, none⟩ (.int .u32 N4)).setCell ⟨Z, 1, none⟩ (.int .i64 K)).setCell ⟨Z, 2, none⟩ (.int .i64 (x2 * 256 + x3))).setCell ⟨Z, 3, none⟩ (.int .u32 N12)).setCell ⟨Z, 4, none⟩ (.int .i64 N16))) := Lib.hid (by
                rw [← HPP.out]
                exact ⟨by rw [HV.out, ← HPE.out], set5b _ _ _ _ _ HB2.out (by rw [HZ.out]; exact Nat.le_refl _)⟩)
              go_wp2
              exact entryof_end HE.out rfl rfl rfl HEND.out
          · have t0 : (x0 == 0) = false := by simpa using hx0
            have HX0 := Lib.hid hx0
            clear hx0
            have HV : Hid (RR = false) := Lib.hid (by
              rw [← HRR.out]
              exact decide_eq_false (fun h => absurd (HIF.out.1 h).1 HX0.out))
            have HE := Lib.hid (set5v (.int .u32 N4) (.int .i64 K) (.int .i64 (x2 * 256 + x3)) (.int .u32 N12) (.int .i64 N16) HZ2.out)
            have HEND : Hid (PP (.returned (.tuple #[.agg #[.int .u32 N4, .int .i64 K, .int .i64 (x2 * 256 + x3), .int .u32 N12, .int .i64 N16], .bool false])) (((((w2.setCell ⟨Z, 0, none⟩ (.int .u32 N4)).setCell ⟨Z, 1, none⟩ (.int .i64 K)).setCell ⟨Z, 2, none⟩ (.int .i64 (x2 * 256 + x3))).setCell ⟨Z, 3, none⟩ (.int .u32 N12)).setCell ⟨Z, 4, none⟩ (.int .i64 N16))) := Lib.hid (by
              rw [← HPP.out]
              exact ⟨by rw [HV.out, ← HPE.out], set5b _ _ _ _ _ HB2.out (by rw [HZ.out]; exact Nat.le_refl _)⟩)
            go_wp2
            exact entryof_end HE.out rfl rfl rfl HEND.out
      · have HB1 := HB
        have HZ1 := HZB
        obtain ⟨w1, hw1⟩ : ∃ w1, w1 = wr := ⟨_, rfl⟩
        subst hw1
        have t32 : ¬ K < 32 := by omega
        have t33 : ¬ (K : Int) < 32 := by omega
        clear h32
        go_upto_region 4 with fail
        clear HB HZB HRr HBS
        go_cut [5] (fun ev wx => ∃ G : Nat, ev = .pointer (some ⟨G, 0, none⟩) ∧ Z < G ∧ Hid (wx.heap[G]? = some (.cells #[.int .u32 N4, .int .i64 K, .int .i64 (x2 * 256 + x3), .int .u32 N12, .int .i64 N16] 58 (0, 0))) ∧ Hid (wx.heap[Z]? = some (.cells #[.int .u32 0, .int .i64 0, .int .i64 0, .int .u32 0, .int .i64 0] 58 (0, 0))) ∧ Hid (Below w.heap.size w wx))
        case first =>
          have hw3 : IntKind.i64.wrap (IntKind.i64.wrap (IntKind.i64.wrap x2 * 256) + IntKind.i64.wrap x3) = x2 * 256 + x3 := by simp only [IntKind.wrap_i64]; omega
          have hw2 : IntKind.i64.wrap N16 = N16 := by rw [IntKind.wrap_i64]; omega
          have HB2 : Hid (Below w.heap.size w w1.drew) := Lib.hid (HB1.out.trans ((show Below w1.heap.size w1 w1.drew from below_drewN (Below.refl _ _) 1).mono HB1.out.size))
          have HZ2 : Hid (w1.drew.heap[Z]? = some (.cells #[.int .u32 0, .int .i64 0, .int .i64 0, .int .u32 0, .int .i64 0] 58 (0, 0))) := HZ1
          have c2 := (HB1.out.cell (p := ⟨b, o + 2, none⟩) (show b < w.heap.size by rw [HZ.out]; exact hbZ)).trans C2.out
          have c3 := (HB1.out.cell (p := ⟨b, o + 3, none⟩) (show b < w.heap.size by rw [HZ.out]; exact hbZ)).trans C3.out
          refine wp_region_noPanic ?_
          refine wp_region_held_drew (S := (fun w' => w'.cell? ⟨b, o + 2, none⟩ = some (.int .u8 x2) ∧ w'.cell? ⟨b, o + 3, none⟩ = some (.int .u8 x3))) (by kernel_rfl) (by go_keep) (fun hHeld => ?_)
          refine' wpAnyH_take (i := 0) ?his38x0 ?hss38x0 ?hfs38x0 ?hrs38x0 ?hQs38x0 ?hys38x0 ?hSs38x0 ?hs38x0
          case his38x0 => (simp only [List.getElem?_toArray, List.getElem?_cons_succ, List.getElem?_cons_zero]; exact rfl)
          case hss38x0 => kernel_rfl
          case hfs38x0 => kernel_rfl
          case hrs38x0 => kernel_rfl
          case hQs38x0 => exact fun _ _ _ h => h
          case hys38x0 => (first | (refine Or.inr ⟨by rfl, ?_⟩; rfl) | (refine Or.inl ⟨by rfl, ?_⟩; (intro w hSw; (try dsimp only at hSw); go_simp); try with_reducible rfl))
          case hSs38x0 => assumption
          try simp only [Act.put, List.setIfInBounds_toArray, List.set_cons_zero, List.set_cons_succ]
          refine' wpAnyH_take (i := 2) ?his38x2 ?hss38x2 ?hfs38x2 ?hrs38x2 ?hQs38x2 ?hys38x2 ?hSs38x2 ?hs38x2
          case his38x2 => (simp only [List.getElem?_toArray, List.getElem?_cons_succ, List.getElem?_cons_zero]; exact rfl)
          case hss38x2 => kernel_rfl
          case hfs38x2 => kernel_rfl
          case hrs38x2 => kernel_rfl
          case hQs38x2 => exact fun _ _ _ h => h
          case hys38x2 => (first | (refine Or.inr ⟨by rfl, ?_⟩; rfl) | (refine Or.inl ⟨by rfl, ?_⟩; (intro w hSw; (try dsimp only at hSw); go_simp); try with_reducible rfl))
          case hSs38x2 => assumption
          try simp only [Act.put, List.setIfInBounds_toArray, List.set_cons_zero, List.set_cons_succ]
          refine' wpAnyH_take (i := 4) ?his38x4 ?hss38x4 ?hfs38x4 ?hrs38x4 ?hQs38x4 ?hys38x4 ?hSs38x4 ?hs38x4
          case his38x4 => (simp only [List.getElem?_toArray, List.getElem?_cons_succ, List.getElem?_cons_zero]; exact rfl)
          case hss38x4 => kernel_rfl
          case hfs38x4 => kernel_rfl
          case hrs38x4 => kernel_rfl
          case hQs38x4 => exact fun _ _ _ h => h
          case hys38x4 => (first | (refine Or.inr ⟨by rfl, ?_⟩; rfl) | (refine Or.inl ⟨by rfl, ?_⟩; (intro w hSw; (try dsimp only at hSw); go_simp); try with_reducible rfl))
          case hSs38x4 => assumption
          try simp only [Act.put, List.setIfInBounds_toArray, List.set_cons_zero, List.set_cons_succ]
          refine' wpAnyH_take (i := 5) ?his38x5 ?hss38x5 ?hfs38x5 ?hrs38x5 ?hQs38x5 ?hys38x5 ?hSs38x5 ?hs38x5
          case his38x5 => (simp only [List.getElem?_toArray, List.getElem?_cons_succ, List.getElem?_cons_zero]; exact rfl)
          case hss38x5 => kernel_rfl
          case hfs38x5 => kernel_rfl
          case hrs38x5 => kernel_rfl
          case hQs38x5 => exact fun _ _ _ h => h
          case hys38x5 => (first | (refine Or.inr ⟨by rfl, ?_⟩; rfl) | (refine Or.inl ⟨by rfl, ?_⟩; (intro w hSw; (try dsimp only at hSw); go_simp); try with_reducible rfl))
          case hSs38x5 => assumption
          try simp only [Act.put, List.setIfInBounds_toArray, List.set_cons_zero, List.set_cons_succ]
          refine' wpAnyH_take (i := 6) ?his38x6 ?hss38x6 ?hfs38x6 ?hrs38x6 ?hQs38x6 ?hys38x6 ?hSs38x6 ?hs38x6
          case his38x6 => (simp only [List.getElem?_toArray, List.getElem?_cons_succ, List.getElem?_cons_zero]; exact rfl)
          case hss38x6 => kernel_rfl
          case hfs38x6 => kernel_rfl
          case hrs38x6 => kernel_rfl
          case hQs38x6 => exact fun _ _ _ h => h
          case hys38x6 => (first | (refine Or.inr ⟨by rfl, ?_⟩; rfl) | (refine Or.inl ⟨by rfl, ?_⟩; (intro w hSw; (try dsimp only at hSw); go_simp); try with_reducible rfl))
          case hSs38x6 => assumption
          try simp only [Act.put, List.setIfInBounds_toArray, List.set_cons_zero, List.set_cons_succ]
          refine' wpAnyH_take (i := 7) ?his38x7 ?hss38x7 ?hfs38x7 ?hrs38x7 ?hQs38x7 ?hys38x7 ?hSs38x7 ?hs38x7
          case his38x7 => (simp only [List.getElem?_toArray, List.getElem?_cons_succ, List.getElem?_cons_zero]; exact rfl)
          case hss38x7 => kernel_rfl
          case hfs38x7 => kernel_rfl
          case hrs38x7 => kernel_rfl
          case hQs38x7 => exact fun _ _ _ h => h
          case hys38x7 => (first | (refine Or.inr ⟨by rfl, ?_⟩; rfl) | (refine Or.inl ⟨by rfl, ?_⟩; (intro w hSw; (try dsimp only at hSw); go_simp); try with_reducible rfl))
          case hSs38x7 => assumption
          try simp only [Act.put, List.setIfInBounds_toArray, List.set_cons_zero, List.set_cons_succ]
          refine' wpAnyH_take (i := 8) ?his38x8 ?hss38x8 ?hfs38x8 ?hrs38x8 ?hQs38x8 ?hys38x8 ?hSs38x8 ?hs38x8
          case his38x8 => (simp only [List.getElem?_toArray, List.getElem?_cons_succ, List.getElem?_cons_zero]; exact rfl)
          case hss38x8 => kernel_rfl
          case hfs38x8 => kernel_rfl
          case hrs38x8 => kernel_rfl
          case hQs38x8 => exact fun _ _ _ h => h
          case hys38x8 => (first | (refine Or.inr ⟨by rfl, ?_⟩; rfl) | (refine Or.inl ⟨by rfl, ?_⟩; (intro w hSw; (try dsimp only at hSw); go_simp); try with_reducible rfl))
          case hSs38x8 => assumption
          try simp only [Act.put, List.setIfInBounds_toArray, List.set_cons_zero, List.set_cons_succ]
          refine' wpAnyH_take (i := 9) ?his38x9 ?hss38x9 ?hfs38x9 ?hrs38x9 ?hQs38x9 ?hys38x9 ?hSs38x9 ?hs38x9
          case his38x9 => (simp only [List.getElem?_toArray, List.getElem?_cons_succ, List.getElem?_cons_zero]; exact rfl)
          case hss38x9 => kernel_rfl
          case hfs38x9 => kernel_rfl
          case hrs38x9 => kernel_rfl
          case hQs38x9 => exact fun _ _ _ h => h
          case hys38x9 => (first | (refine Or.inr ⟨by rfl, ?_⟩; rfl) | (refine Or.inl ⟨by rfl, ?_⟩; (intro w hSw; (try dsimp only at hSw); go_simp); try with_reducible rfl))
          case hSs38x9 => assumption
          try simp only [Act.put, List.setIfInBounds_toArray, List.set_cons_zero, List.set_cons_succ]
          refine' wpAnyH_take (i := 10) ?his38x10 ?hss38x10 ?hfs38x10 ?hrs38x10 ?hQs38x10 ?hys38x10 ?hSs38x10 ?hs38x10
          case his38x10 => (simp only [List.getElem?_toArray, List.getElem?_cons_succ, List.getElem?_cons_zero]; exact rfl)
          case hss38x10 => kernel_rfl
          case hfs38x10 => kernel_rfl
          case hrs38x10 => kernel_rfl
          case hQs38x10 => exact fun _ _ _ h => h
          case hys38x10 => (first | (refine Or.inr ⟨by rfl, ?_⟩; rfl) | (refine Or.inl ⟨by rfl, ?_⟩; (intro w hSw; (try dsimp only at hSw); go_simp); try with_reducible rfl))
          case hSs38x10 => assumption
          try simp only [Act.put, List.setIfInBounds_toArray, List.set_cons_zero, List.set_cons_succ]
          refine' wpAnyH_take (i := 11) ?his38x11 ?hss38x11 ?hfs38x11 ?hrs38x11 ?hQs38x11 ?hys38x11 ?hSs38x11 ?hs38x11
          case his38x11 => (simp only [List.getElem?_toArray, List.getElem?_cons_succ, List.getElem?_cons_zero]; exact rfl)
          case hss38x11 => kernel_rfl
          case hfs38x11 => kernel_rfl
          case hrs38x11 => kernel_rfl
          case hQs38x11 => exact fun _ _ _ h => h
          case hys38x11 => (first | (refine Or.inr ⟨by rfl, ?_⟩; rfl) | (refine Or.inl ⟨by rfl, ?_⟩; (intro w hSw; (try dsimp only at hSw); go_simp); try with_reducible rfl))
          case hSs38x11 => assumption
          try simp only [Act.put, List.setIfInBounds_toArray, List.set_cons_zero, List.set_cons_succ]
          refine' wpAnyH_take (i := 12) ?his38x12 ?hss38x12 ?hfs38x12 ?hrs38x12 ?hQs38x12 ?hys38x12 ?hSs38x12 ?hs38x12
          case his38x12 => (simp only [List.getElem?_toArray, List.getElem?_cons_succ, List.getElem?_cons_zero]; exact rfl)
          case hss38x12 => kernel_rfl
          case hfs38x12 => kernel_rfl
          case hrs38x12 => kernel_rfl
          case hQs38x12 => exact fun _ _ _ h => h
          case hys38x12 => (first | (refine Or.inr ⟨by rfl, ?_⟩; rfl) | (refine Or.inl ⟨by rfl, ?_⟩; (intro w hSw; (try dsimp only at hSw); go_simp); try with_reducible rfl))
          case hSs38x12 => assumption
          try simp only [Act.put, List.setIfInBounds_toArray, List.set_cons_zero, List.set_cons_succ]
          refine' wpAnyH_take (i := 13) ?his38x13 ?hss38x13 ?hfs38x13 ?hrs38x13 ?hQs38x13 ?hys38x13 ?hSs38x13 ?hs38x13
          case his38x13 => (simp only [List.getElem?_toArray, List.getElem?_cons_succ, List.getElem?_cons_zero]; exact rfl)
          case hss38x13 => kernel_rfl
          case hfs38x13 => kernel_rfl
          case hrs38x13 => kernel_rfl
          case hQs38x13 => exact fun _ _ _ h => h
          case hys38x13 => (first | (refine Or.inr ⟨by rfl, ?_⟩; rfl) | (refine Or.inl ⟨by rfl, ?_⟩; (intro w hSw; (try dsimp only at hSw); go_simp); try with_reducible rfl))
          case hSs38x13 => assumption
          try simp only [Act.put, List.setIfInBounds_toArray, List.set_cons_zero, List.set_cons_succ]
          refine' wpAnyH_take (i := 14) ?his38x14 ?hss38x14 ?hfs38x14 ?hrs38x14 ?hQs38x14 ?hys38x14 ?hSs38x14 ?hs38x14
          case his38x14 => (simp only [List.getElem?_toArray, List.getElem?_cons_succ, List.getElem?_cons_zero]; exact rfl)
          case hss38x14 => kernel_rfl
          case hfs38x14 => kernel_rfl
          case hrs38x14 => kernel_rfl
          case hQs38x14 => exact fun _ _ _ h => h
          case hys38x14 => (first | (refine Or.inr ⟨by rfl, ?_⟩; rfl) | (refine Or.inl ⟨by rfl, ?_⟩; (intro w hSw; (try dsimp only at hSw); go_simp); try with_reducible rfl))
          case hSs38x14 => assumption
          try simp only [Act.put, List.setIfInBounds_toArray, List.set_cons_zero, List.set_cons_succ]
          refine' wpAnyH_take (i := 16) ?his38x16 ?hss38x16 ?hfs38x16 ?hrs38x16 ?hQs38x16 ?hys38x16 ?hSs38x16 ?hs38x16
          case his38x16 => (simp only [List.getElem?_toArray, List.getElem?_cons_succ, List.getElem?_cons_zero]; exact rfl)
          case hss38x16 => kernel_rfl
          case hfs38x16 => kernel_rfl
          case hrs38x16 => kernel_rfl
          case hQs38x16 => exact fun _ _ _ h => h
          case hys38x16 => (first | (refine Or.inr ⟨by rfl, ?_⟩; rfl) | (refine Or.inl ⟨by rfl, ?_⟩; (intro w hSw; (try dsimp only at hSw); go_simp); try with_reducible rfl))
          case hSs38x16 => assumption
          try simp only [Act.put, List.setIfInBounds_toArray, List.set_cons_zero, List.set_cons_succ]
          refine wpAnyH_ready (rs := [1, 20]) (by kernel_rfl) (by simp) ?_
          refine' AllReadyH.cons ?hiAv39 (fun K' hK => ?hAv39) (AllReadyH.cons ?hiBv39 (fun K' hK => ?hBv39) AllReadyH.nil)
          case hiAv39 => (simp only [List.getElem?_toArray, List.getElem?_cons_succ, List.getElem?_cons_zero]; exact rfl)
          case hiBv39 => (simp only [List.getElem?_toArray, List.getElem?_cons_succ, List.getElem?_cons_zero]; exact rfl)
          case hAv39 =>
            go_simp
            have HRq := Lib.hid (HR.out.below HB2.out)
            go_at_call 33
            (with_reducible refine (refnum_4 HRq.out).mono ?_)
            rintro e w39 ⟨rfl, jj, hw'⟩
            rw [HN4.out]
            have hb39 := below_drewN (Below.refl w1.drew.heap.size w1.drew) jj
            rw [← hw'] at hb39
            clear hw' HRq
            have HB39 := Lib.hid (HB2.out.trans (hb39.mono HB2.out.size))
            have HZ39 := Lib.hid (blkv hb39 (size_of_block HZ2.out) HZ2.out)
            clear hb39 c2 c3
            have c2 := (HB39.out.cell (p := ⟨b, o + 2, none⟩) (show b < w.heap.size by rw [HZ.out]; exact hbZ)).trans C2.out
            have c3 := (HB39.out.cell (p := ⟨b, o + 3, none⟩) (show b < w.heap.size by rw [HZ.out]; exact hbZ)).trans C3.out
            refine hK.out _ _ (by go_keep) (fun hHeld => ?_)
            clear hK K'
            refine' wpAnyH_take (i := 3) ?hit40x3 ?hst40x3 ?hft40x3 ?hrt40x3 ?hQt40x3 ?hyt40x3 ?hSt40x3 ?ht40x3
            case hit40x3 => (simp only [List.getElem?_toArray, List.getElem?_cons_succ, List.getElem?_cons_zero]; exact rfl)
            case hst40x3 => kernel_rfl
            case hft40x3 => kernel_rfl
            case hrt40x3 => kernel_rfl
            case hQt40x3 => exact fun _ _ _ h => h
            case hyt40x3 => (first | (refine Or.inr ⟨by rfl, ?_⟩; rfl) | (refine Or.inl ⟨by rfl, ?_⟩; (intro w hSw; (try dsimp only at hSw); go_simp); try with_reducible rfl))
            case hSt40x3 => assumption
            try simp only [Act.put, List.setIfInBounds_toArray, List.set_cons_zero, List.set_cons_succ]
            refine wpAnyH_ready (rs := [15, 20]) (by kernel_rfl) (by simp) ?_
            refine' AllReadyH.cons ?hiAv41 (fun K' hK => ?hAv41) (AllReadyH.cons ?hiBv41 (fun K' hK => ?hBv41) AllReadyH.nil)
            case hiAv41 => (simp only [List.getElem?_toArray, List.getElem?_cons_succ, List.getElem?_cons_zero]; exact rfl)
            case hiBv41 => (simp only [List.getElem?_toArray, List.getElem?_cons_succ, List.getElem?_cons_zero]; exact rfl)
            case hAv41 =>
              go_simp
              have HRq := Lib.hid (HR.out.below HB39.out)
              go_at_call 33
              (with_reducible refine (refnum_12 HRq.out).mono ?_)
              rintro e w41 ⟨rfl, jj, hw'⟩
              rw [HN12.out]
              have hb41 := below_drewN (Below.refl w39.heap.size w39) jj
              rw [← hw'] at hb41
              clear hw' HRq
              have HB41 := Lib.hid (HB39.out.trans (hb41.mono HB39.out.size))
              have HZ41 := Lib.hid (blkv hb41 (size_of_block HZ39.out) HZ39.out)
              clear hb41 c2 c3
              have c2 := (HB41.out.cell (p := ⟨b, o + 2, none⟩) (show b < w.heap.size by rw [HZ.out]; exact hbZ)).trans C2.out
              have c3 := (HB41.out.cell (p := ⟨b, o + 3, none⟩) (show b < w.heap.size by rw [HZ.out]; exact hbZ)).trans C3.out
              refine hK.out _ _ (by go_keep) (fun hHeld => ?_)
              clear hK K'
              refine wpAnyH_ready (rs := [17, 20]) (by kernel_rfl) (by simp) ?_
              refine' AllReadyH.cons ?hiAv42 (fun K' hK => ?hAv42) (AllReadyH.cons ?hiBv42 (fun K' hK => ?hBv42) AllReadyH.nil)
              case hiAv42 => (simp only [List.getElem?_toArray, List.getElem?_cons_succ, List.getElem?_cons_zero]; exact rfl)
              case hiBv42 => (simp only [List.getElem?_toArray, List.getElem?_cons_succ, List.getElem?_cons_zero]; exact rfl)
              case hAv42 =>
                go_simp
                have HRq := Lib.hid (HR.out.below HB41.out)
                go_at_call 33
                (with_reducible refine (refnum_16 HRq.out).mono ?_)
                rintro e w42 ⟨rfl, jj, hw'⟩
                rw [HN16.out]
                have hb42 := below_drewN (Below.refl w41.heap.size w41) jj
                rw [← hw'] at hb42
                clear hw' HRq
                have HB42 := Lib.hid (HB41.out.trans (hb42.mono HB41.out.size))
                have HZ42 := Lib.hid (blkv hb42 (size_of_block HZ41.out) HZ41.out)
                clear hb42 c2 c3
                have c2 := (HB42.out.cell (p := ⟨b, o + 2, none⟩) (show b < w.heap.size by rw [HZ.out]; exact hbZ)).trans C2.out
                have c3 := (HB42.out.cell (p := ⟨b, o + 3, none⟩) (show b < w.heap.size by rw [HZ.out]; exact hbZ)).trans C3.out
                refine hK.out _ _ (by go_keep) (fun hHeld => ?_)
                clear hK K'
                refine' wpAnyH_take (i := 18) ?hit43x18 ?hst43x18 ?hft43x18 ?hrt43x18 ?hQt43x18 ?hyt43x18 ?hSt43x18 ?ht43x18
                case hit43x18 => (simp only [List.getElem?_toArray, List.getElem?_cons_succ, List.getElem?_cons_zero]; exact rfl)
                case hst43x18 => kernel_rfl
                case hft43x18 => kernel_rfl
                case hrt43x18 => kernel_rfl
                case hQt43x18 => exact fun _ _ _ h => h
                case hyt43x18 => (first | (refine Or.inr ⟨by rfl, ?_⟩; rfl) | (refine Or.inl ⟨by rfl, ?_⟩; (intro w hSw; (try dsimp only at hSw); go_simp); try with_reducible rfl))
                case hSt43x18 => assumption
                try simp only [Act.put, List.setIfInBounds_toArray, List.set_cons_zero, List.set_cons_succ]
                refine' wpAnyH_take (i := 19) ?hit43x19 ?hst43x19 ?hft43x19 ?hrt43x19 ?hQt43x19 ?hyt43x19 ?hSt43x19 ?ht43x19
                case hit43x19 => (simp only [List.getElem?_toArray, List.getElem?_cons_succ, List.getElem?_cons_zero]; exact rfl)
                case hst43x19 => kernel_rfl
                case hft43x19 => kernel_rfl
                case hrt43x19 => kernel_rfl
                case hQt43x19 => exact fun _ _ _ h => h
                case hyt43x19 => (first | (refine Or.inr ⟨by rfl, ?_⟩; rfl) | (refine Or.inl ⟨by rfl, ?_⟩; (intro w hSw; (try dsimp only at hSw); go_simp); try with_reducible rfl))
                case hSt43x19 => assumption
                try simp only [Act.put, List.setIfInBounds_toArray, List.set_cons_zero, List.set_cons_succ]
                refine wpAnyH_ready (rs := [20]) (by kernel_rfl) (by simp) ?_
                refine' AllReadyH.cons ?hiAv44 (fun K' hK => ?hAv44) AllReadyH.nil
                case hiAv44 => (simp only [List.getElem?_toArray, List.getElem?_cons_succ, List.getElem?_cons_zero]; exact rfl)
                have p1 : b < w42.heap.size := by have h1 := size_of_block HZ42.out; first | (have h2 := (show w42.drew.heap.size = w42.heap.size from rfl); omega) | omega
                have p2 : ¬ b = w42.heap.size := by omega
                have p3 : ¬ w42.heap.size = b := by omega
                go_simp
                refine hK.out _ _ (by go_keep) (fun hHeld => ?_)
                clear hK K' p1 p2 p3
                have hb44 : Below w42.heap.size w42 (w42.alloc (.cells #[.int .u32 0, .int .i64 0, .int .i64 0, .int .u32 0, .int .i64 0] 58)) := alloc1v w42 _
                obtain ⟨G, hG⟩ : ∃ G, w42.heap.size = G := ⟨_, rfl⟩
                have HE44 : Hid ((w42.alloc (.cells #[.int .u32 0, .int .i64 0, .int .i64 0, .int .u32 0, .int .i64 0] 58)).heap[G]? = some (.cells #[.int .u32 0, .int .i64 0, .int .i64 0, .int .u32 0, .int .i64 0] 58 (0, 0))) := Lib.hid (by rw [← hG]; exact heap_alloc_new w42 _)
                have hGZ : Z < G := by rw [← hG]; exact size_of_block HZ42.out
                generalize hwn : (w42.alloc (.cells #[.int .u32 0, .int .i64 0, .int .i64 0, .int .u32 0, .int .i64 0] 58)) = w44 at *
                try rw [hG]
                have HB44 := Lib.hid (HB42.out.trans (hb44.mono HB42.out.size))
                have HZ44 := Lib.hid (blkv hb44 (size_of_block HZ42.out) HZ42.out)
                clear hb44 hG hwn c2 c3
                have c2 := (HB44.out.cell (p := ⟨b, o + 2, none⟩) (show b < w.heap.size by rw [HZ.out]; exact hbZ)).trans C2.out
                have c3 := (HB44.out.cell (p := ⟨b, o + 3, none⟩) (show b < w.heap.size by rw [HZ.out]; exact hbZ)).trans C3.out
                refine wpAnyH_ready (rs := [21]) (by kernel_rfl) (by simp) ?_
                refine' AllReadyH.cons ?hiAv46 (fun K' hK => ?hAv46) AllReadyH.nil
                case hiAv46 => (simp only [List.getElem?_toArray, List.getElem?_cons_succ, List.getElem?_cons_zero]; exact rfl)
                obtain ⟨⟨e0, e1, e2, e3, e4⟩, f0, f1, f2, f3, f4⟩ := row5v HE44.out
                have q1 : ¬ b = G := by omega
                have q2 : ¬ G = b := by omega
                go_simp
                refine hK.out _ _ (by go_keep) (fun hHeld => ?_)
                clear hK K'
                refine wpAnyH_done (by kernel_rfl) ?_ _
                refine NoPanic.normal ?_
                clear hHeld
                go_wp2
                go_meet
                try rw [hw3]
                try rw [hw2]
                exact ⟨G, rfl, hGZ, Lib.hid (set5v _ _ _ _ _ HE44.out), Lib.hid ((set5o (by omega)).trans HZ44.out), Lib.hid (set5b _ _ _ _ _ HB44.out (by rw [HZ.out]; omega))⟩
              case hBv42 =>
                have p1 : b < w41.heap.size := by have h1 := size_of_block HZ41.out; first | (have h2 := (show w41.drew.heap.size = w41.heap.size from rfl); omega) | omega
                have p2 : ¬ b = w41.heap.size := by omega
                have p3 : ¬ w41.heap.size = b := by omega
                go_simp
                refine hK.out _ _ (by go_keep) (fun hHeld => ?_)
                clear hK K' p1 p2 p3
                have hb47 : Below w41.heap.size w41 (w41.alloc (.cells #[.int .u32 0, .int .i64 0, .int .i64 0, .int .u32 0, .int .i64 0] 58)) := alloc1v w41 _
                obtain ⟨G, hG⟩ : ∃ G, w41.heap.size = G := ⟨_, rfl⟩
                have HE47 : Hid ((w41.alloc (.cells #[.int .u32 0, .int .i64 0, .int .i64 0, .int .u32 0, .int .i64 0] 58)).heap[G]? = some (.cells #[.int .u32 0, .int .i64 0, .int .i64 0, .int .u32 0, .int .i64 0] 58 (0, 0))) := Lib.hid (by rw [← hG]; exact heap_alloc_new w41 _)
                have hGZ : Z < G := by rw [← hG]; exact size_of_block HZ41.out
                generalize hwn : (w41.alloc (.cells #[.int .u32 0, .int .i64 0, .int .i64 0, .int .u32 0, .int .i64 0] 58)) = w47 at *
                try rw [hG]
                have HB47 := Lib.hid (HB41.out.trans (hb47.mono HB41.out.size))
                have HZ47 := Lib.hid (blkv hb47 (size_of_block HZ41.out) HZ41.out)
                clear hb47 hG hwn c2 c3
                have c2 := (HB47.out.cell (p := ⟨b, o + 2, none⟩) (show b < w.heap.size by rw [HZ.out]; exact hbZ)).trans C2.out
                have c3 := (HB47.out.cell (p := ⟨b, o + 3, none⟩) (show b < w.heap.size by rw [HZ.out]; exact hbZ)).trans C3.out
                refine wpAnyH_ready (rs := [17]) (by kernel_rfl) (by simp) ?_
                refine' AllReadyH.cons ?hiAv48 (fun K' hK => ?hAv48) AllReadyH.nil
                case hiAv48 => (simp only [List.getElem?_toArray, List.getElem?_cons_succ, List.getElem?_cons_zero]; exact rfl)
                go_simp
                have HRq := Lib.hid (HR.out.below HB47.out)
                go_at_call 33
                (with_reducible refine (refnum_16 HRq.out).mono ?_)
                rintro e w48 ⟨rfl, jj, hw'⟩
                rw [HN16.out]
                have hb48 := below_drewN (Below.refl w47.heap.size w47) jj
                rw [← hw'] at hb48
                clear hw' HRq
                have HB48 := Lib.hid (HB47.out.trans (hb48.mono HB47.out.size))
                have HZ48 := Lib.hid (blkv hb48 (size_of_block HZ47.out) HZ47.out)
                have HE48 := Lib.hid (blkv hb48 (size_of_block HE47.out) HE47.out)
                clear hb48 c2 c3
                have c2 := (HB48.out.cell (p := ⟨b, o + 2, none⟩) (show b < w.heap.size by rw [HZ.out]; exact hbZ)).trans C2.out
                have c3 := (HB48.out.cell (p := ⟨b, o + 3, none⟩) (show b < w.heap.size by rw [HZ.out]; exact hbZ)).trans C3.out
                refine hK.out _ _ (by go_keep) (fun hHeld => ?_)
                clear hK K'
                refine' wpAnyH_take (i := 18) ?hit49x18 ?hst49x18 ?hft49x18 ?hrt49x18 ?hQt49x18 ?hyt49x18 ?hSt49x18 ?ht49x18
                case hit49x18 => (simp only [List.getElem?_toArray, List.getElem?_cons_succ, List.getElem?_cons_zero]; exact rfl)
                case hst49x18 => kernel_rfl
                case hft49x18 => kernel_rfl
                case hrt49x18 => kernel_rfl
                case hQt49x18 => exact fun _ _ _ h => h
                case hyt49x18 => (first | (refine Or.inr ⟨by rfl, ?_⟩; rfl) | (refine Or.inl ⟨by rfl, ?_⟩; (intro w hSw; (try dsimp only at hSw); go_simp); try with_reducible rfl))
                case hSt49x18 => assumption
                try simp only [Act.put, List.setIfInBounds_toArray, List.set_cons_zero, List.set_cons_succ]
                refine' wpAnyH_take (i := 19) ?hit49x19 ?hst49x19 ?hft49x19 ?hrt49x19 ?hQt49x19 ?hyt49x19 ?hSt49x19 ?ht49x19
                case hit49x19 => (simp only [List.getElem?_toArray, List.getElem?_cons_succ, List.getElem?_cons_zero]; exact rfl)
                case hst49x19 => kernel_rfl
                case hft49x19 => kernel_rfl
                case hrt49x19 => kernel_rfl
                case hQt49x19 => exact fun _ _ _ h => h
                case hyt49x19 => (first | (refine Or.inr ⟨by rfl, ?_⟩; rfl) | (refine Or.inl ⟨by rfl, ?_⟩; (intro w hSw; (try dsimp only at hSw); go_simp); try with_reducible rfl))
                case hSt49x19 => assumption
                try simp only [Act.put, List.setIfInBounds_toArray, List.set_cons_zero, List.set_cons_succ]
                refine wpAnyH_ready (rs := [21]) (by kernel_rfl) (by simp) ?_
                refine' AllReadyH.cons ?hiAv51 (fun K' hK => ?hAv51) AllReadyH.nil
                case hiAv51 => (simp only [List.getElem?_toArray, List.getElem?_cons_succ, List.getElem?_cons_zero]; exact rfl)
                obtain ⟨⟨e0, e1, e2, e3, e4⟩, f0, f1, f2, f3, f4⟩ := row5v HE48.out
                have q1 : ¬ b = G := by omega
                have q2 : ¬ G = b := by omega
                go_simp
                refine hK.out _ _ (by go_keep) (fun hHeld => ?_)
                clear hK K'
                refine wpAnyH_done (by kernel_rfl) ?_ _
                refine NoPanic.normal ?_
                clear hHeld
                go_wp2
                go_meet
                try rw [hw3]
                try rw [hw2]
                exact ⟨G, rfl, hGZ, Lib.hid (set5v _ _ _ _ _ HE48.out), Lib.hid ((set5o (by omega)).trans HZ48.out), Lib.hid (set5b _ _ _ _ _ HB48.out (by rw [HZ.out]; omega))⟩
            case hBv41 =>
              have p1 : b < w39.heap.size := by have h1 := size_of_block HZ39.out; first | (have h2 := (show w39.drew.heap.size = w39.heap.size from rfl); omega) | omega
              have p2 : ¬ b = w39.heap.size := by omega
              have p3 : ¬ w39.heap.size = b := by omega
              go_simp
              refine hK.out _ _ (by go_keep) (fun hHeld => ?_)
              clear hK K' p1 p2 p3
              have hb52 : Below w39.heap.size w39 (w39.alloc (.cells #[.int .u32 0, .int .i64 0, .int .i64 0, .int .u32 0, .int .i64 0] 58)) := alloc1v w39 _
              obtain ⟨G, hG⟩ : ∃ G, w39.heap.size = G := ⟨_, rfl⟩
              have HE52 : Hid ((w39.alloc (.cells #[.int .u32 0, .int .i64 0, .int .i64 0, .int .u32 0, .int .i64 0] 58)).heap[G]? = some (.cells #[.int .u32 0, .int .i64 0, .int .i64 0, .int .u32 0, .int .i64 0] 58 (0, 0))) := Lib.hid (by rw [← hG]; exact heap_alloc_new w39 _)
              have hGZ : Z < G := by rw [← hG]; exact size_of_block HZ39.out
              generalize hwn : (w39.alloc (.cells #[.int .u32 0, .int .i64 0, .int .i64 0, .int .u32 0, .int .i64 0] 58)) = w52 at *
              try rw [hG]
              have HB52 := Lib.hid (HB39.out.trans (hb52.mono HB39.out.size))
              have HZ52 := Lib.hid (blkv hb52 (size_of_block HZ39.out) HZ39.out)
              clear hb52 hG hwn c2 c3
              have c2 := (HB52.out.cell (p := ⟨b, o + 2, none⟩) (show b < w.heap.size by rw [HZ.out]; exact hbZ)).trans C2.out
              have c3 := (HB52.out.cell (p := ⟨b, o + 3, none⟩) (show b < w.heap.size by rw [HZ.out]; exact hbZ)).trans C3.out
              refine wpAnyH_ready (rs := [15]) (by kernel_rfl) (by simp) ?_
              refine' AllReadyH.cons ?hiAv53 (fun K' hK => ?hAv53) AllReadyH.nil
              case hiAv53 => (simp only [List.getElem?_toArray, List.getElem?_cons_succ, List.getElem?_cons_zero]; exact rfl)
              go_simp
              have HRq := Lib.hid (HR.out.below HB52.out)
              go_at_call 33
              (with_reducible refine (refnum_12 HRq.out).mono ?_)
              rintro e w53 ⟨rfl, jj, hw'⟩
              rw [HN12.out]
              have hb53 := below_drewN (Below.refl w52.heap.size w52) jj
              rw [← hw'] at hb53
              clear hw' HRq
              have HB53 := Lib.hid (HB52.out.trans (hb53.mono HB52.out.size))
              have HZ53 := Lib.hid (blkv hb53 (size_of_block HZ52.out) HZ52.out)
              have HE53 := Lib.hid (blkv hb53 (size_of_block HE52.out) HE52.out)
              clear hb53 c2 c3
              have c2 := (HB53.out.cell (p := ⟨b, o + 2, none⟩) (show b < w.heap.size by rw [HZ.out]; exact hbZ)).trans C2.out
              have c3 := (HB53.out.cell (p := ⟨b, o + 3, none⟩) (show b < w.heap.size by rw [HZ.out]; exact hbZ)).trans C3.out
              refine hK.out _ _ (by go_keep) (fun hHeld => ?_)
              clear hK K'
              refine wpAnyH_ready (rs := [17]) (by kernel_rfl) (by simp) ?_
              refine' AllReadyH.cons ?hiAv54 (fun K' hK => ?hAv54) AllReadyH.nil
              case hiAv54 => (simp only [List.getElem?_toArray, List.getElem?_cons_succ, List.getElem?_cons_zero]; exact rfl)
              go_simp
              have HRq := Lib.hid (HR.out.below HB53.out)
              go_at_call 33
              (with_reducible refine (refnum_16 HRq.out).mono ?_)
              rintro e w54 ⟨rfl, jj, hw'⟩
              rw [HN16.out]
              have hb54 := below_drewN (Below.refl w53.heap.size w53) jj
              rw [← hw'] at hb54
              clear hw' HRq
              have HB54 := Lib.hid (HB53.out.trans (hb54.mono HB53.out.size))
              have HZ54 := Lib.hid (blkv hb54 (size_of_block HZ53.out) HZ53.out)
              have HE54 := Lib.hid (blkv hb54 (size_of_block HE53.out) HE53.out)
              clear hb54 c2 c3
              have c2 := (HB54.out.cell (p := ⟨b, o + 2, none⟩) (show b < w.heap.size by rw [HZ.out]; exact hbZ)).trans C2.out
              have c3 := (HB54.out.cell (p := ⟨b, o + 3, none⟩) (show b < w.heap.size by rw [HZ.out]; exact hbZ)).trans C3.out
              refine hK.out _ _ (by go_keep) (fun hHeld => ?_)
              clear hK K'
              refine' wpAnyH_take (i := 18) ?hit55x18 ?hst55x18 ?hft55x18 ?hrt55x18 ?hQt55x18 ?hyt55x18 ?hSt55x18 ?ht55x18
              case hit55x18 => (simp only [List.getElem?_toArray, List.getElem?_cons_succ, List.getElem?_cons_zero]; exact rfl)
              case hst55x18 => kernel_rfl
              case hft55x18 => kernel_rfl
              case hrt55x18 => kernel_rfl
              case hQt55x18 => exact fun _ _ _ h => h
              case hyt55x18 => (first | (refine Or.inr ⟨by rfl, ?_⟩; rfl) | (refine Or.inl ⟨by rfl, ?_⟩; (intro w hSw; (try dsimp only at hSw); go_simp); try with_reducible rfl))
              case hSt55x18 => assumption
              try simp only [Act.put, List.setIfInBounds_toArray, List.set_cons_zero, List.set_cons_succ]
              refine' wpAnyH_take (i := 19) ?hit55x19 ?hst55x19 ?hft55x19 ?hrt55x19 ?hQt55x19 ?hyt55x19 ?hSt55x19 ?ht55x19
              case hit55x19 => (simp only [List.getElem?_toArray, List.getElem?_cons_succ, List.getElem?_cons_zero]; exact rfl)
              case hst55x19 => kernel_rfl
              case hft55x19 => kernel_rfl
              case hrt55x19 => kernel_rfl
              case hQt55x19 => exact fun _ _ _ h => h
              case hyt55x19 => (first | (refine Or.inr ⟨by rfl, ?_⟩; rfl) | (refine Or.inl ⟨by rfl, ?_⟩; (intro w hSw; (try dsimp only at hSw); go_simp); try with_reducible rfl))
              case hSt55x19 => assumption
              try simp only [Act.put, List.setIfInBounds_toArray, List.set_cons_zero, List.set_cons_succ]
              refine wpAnyH_ready (rs := [21]) (by kernel_rfl) (by simp) ?_
              refine' AllReadyH.cons ?hiAv57 (fun K' hK => ?hAv57) AllReadyH.nil
              case hiAv57 => (simp only [List.getElem?_toArray, List.getElem?_cons_succ, List.getElem?_cons_zero]; exact rfl)
              obtain ⟨⟨e0, e1, e2, e3, e4⟩, f0, f1, f2, f3, f4⟩ := row5v HE54.out
              have q1 : ¬ b = G := by omega
              have q2 : ¬ G = b := by omega
              go_simp
              refine hK.out _ _ (by go_keep) (fun hHeld => ?_)
              clear hK K'
              refine wpAnyH_done (by kernel_rfl) ?_ _
              refine NoPanic.normal ?_
              clear hHeld
              go_wp2
              go_meet
              try rw [hw3]
              try rw [hw2]
              exact ⟨G, rfl, hGZ, Lib.hid (set5v _ _ _ _ _ HE54.out), Lib.hid ((set5o (by omega)).trans HZ54.out), Lib.hid (set5b _ _ _ _ _ HB54.out (by rw [HZ.out]; omega))⟩
          case hBv39 =>
            have p1 : b < w1.heap.size := by have h1 := size_of_block HZ2.out; first | (have h2 := (show w1.drew.heap.size = w1.heap.size from rfl); omega) | omega
            have p2 : ¬ b = w1.heap.size := by omega
            have p3 : ¬ w1.heap.size = b := by omega
            go_simp
            refine hK.out _ _ (by go_keep) (fun hHeld => ?_)
            clear hK K' p1 p2 p3
            have hb58 : Below w1.heap.size w1 (w1.alloc (.cells #[.int .u32 0, .int .i64 0, .int .i64 0, .int .u32 0, .int .i64 0] 58)).drew := below_drewN (alloc1v w1 _) 1
            obtain ⟨G, hG⟩ : ∃ G, w1.heap.size = G := ⟨_, rfl⟩
            have HE58 : Hid ((w1.alloc (.cells #[.int .u32 0, .int .i64 0, .int .i64 0, .int .u32 0, .int .i64 0] 58)).drew.heap[G]? = some (.cells #[.int .u32 0, .int .i64 0, .int .i64 0, .int .u32 0, .int .i64 0] 58 (0, 0))) := Lib.hid (by rw [← hG]; exact heap_alloc_new w1 _)
            have hGZ : Z < G := by rw [← hG]; exact size_of_block HZ1.out
            generalize hwn : (w1.alloc (.cells #[.int .u32 0, .int .i64 0, .int .i64 0, .int .u32 0, .int .i64 0] 58)).drew = w58 at *
            try rw [hG]
            have HB58 := Lib.hid (HB1.out.trans (hb58.mono HB1.out.size))
            have HZ58 := Lib.hid (blkv hb58 (size_of_block HZ1.out) HZ1.out)
            clear hb58 hG hwn c2 c3
            have c2 := (HB58.out.cell (p := ⟨b, o + 2, none⟩) (show b < w.heap.size by rw [HZ.out]; exact hbZ)).trans C2.out
            have c3 := (HB58.out.cell (p := ⟨b, o + 3, none⟩) (show b < w.heap.size by rw [HZ.out]; exact hbZ)).trans C3.out
            refine wpAnyH_ready (rs := [1]) (by kernel_rfl) (by simp) ?_
            refine' AllReadyH.cons ?hiAv59 (fun K' hK => ?hAv59) AllReadyH.nil
            case hiAv59 => (simp only [List.getElem?_toArray, List.getElem?_cons_succ, List.getElem?_cons_zero]; exact rfl)
            go_simp
            have HRq := Lib.hid (HR.out.below HB58.out)
            go_at_call 33
            (with_reducible refine (refnum_4 HRq.out).mono ?_)
            rintro e w59 ⟨rfl, jj, hw'⟩
            rw [HN4.out]
            have hb59 := below_drewN (Below.refl w58.heap.size w58) jj
            rw [← hw'] at hb59
            clear hw' HRq
            have HB59 := Lib.hid (HB58.out.trans (hb59.mono HB58.out.size))
            have HZ59 := Lib.hid (blkv hb59 (size_of_block HZ58.out) HZ58.out)
            have HE59 := Lib.hid (blkv hb59 (size_of_block HE58.out) HE58.out)
            clear hb59 c2 c3
            have c2 := (HB59.out.cell (p := ⟨b, o + 2, none⟩) (show b < w.heap.size by rw [HZ.out]; exact hbZ)).trans C2.out
            have c3 := (HB59.out.cell (p := ⟨b, o + 3, none⟩) (show b < w.heap.size by rw [HZ.out]; exact hbZ)).trans C3.out
            refine hK.out _ _ (by go_keep) (fun hHeld => ?_)
            clear hK K'
            refine' wpAnyH_take (i := 3) ?hit60x3 ?hst60x3 ?hft60x3 ?hrt60x3 ?hQt60x3 ?hyt60x3 ?hSt60x3 ?ht60x3
            case hit60x3 => (simp only [List.getElem?_toArray, List.getElem?_cons_succ, List.getElem?_cons_zero]; exact rfl)
            case hst60x3 => kernel_rfl
            case hft60x3 => kernel_rfl
            case hrt60x3 => kernel_rfl
            case hQt60x3 => exact fun _ _ _ h => h
            case hyt60x3 => (first | (refine Or.inr ⟨by rfl, ?_⟩; rfl) | (refine Or.inl ⟨by rfl, ?_⟩; (intro w hSw; (try dsimp only at hSw); go_simp); try with_reducible rfl))
            case hSt60x3 => assumption
            try simp only [Act.put, List.setIfInBounds_toArray, List.set_cons_zero, List.set_cons_succ]
            refine wpAnyH_ready (rs := [15]) (by kernel_rfl) (by simp) ?_
            refine' AllReadyH.cons ?hiAv61 (fun K' hK => ?hAv61) AllReadyH.nil
            case hiAv61 => (simp only [List.getElem?_toArray, List.getElem?_cons_succ, List.getElem?_cons_zero]; exact rfl)
            go_simp
            have HRq := Lib.hid (HR.out.below HB59.out)
            go_at_call 33
            (with_reducible refine (refnum_12 HRq.out).mono ?_)
            rintro e w61 ⟨rfl, jj, hw'⟩
            rw [HN12.out]
            have hb61 := below_drewN (Below.refl w59.heap.size w59) jj
            rw [← hw'] at hb61
            clear hw' HRq
            have HB61 := Lib.hid (HB59.out.trans (hb61.mono HB59.out.size))
            have HZ61 := Lib.hid (blkv hb61 (size_of_block HZ59.out) HZ59.out)
            have HE61 := Lib.hid (blkv hb61 (size_of_block HE59.out) HE59.out)
            clear hb61 c2 c3
            have c2 := (HB61.out.cell (p := ⟨b, o + 2, none⟩) (show b < w.heap.size by rw [HZ.out]; exact hbZ)).trans C2.out
            have c3 := (HB61.out.cell (p := ⟨b, o + 3, none⟩) (show b < w.heap.size by rw [HZ.out]; exact hbZ)).trans C3.out
            refine hK.out _ _ (by go_keep) (fun hHeld => ?_)
            clear hK K'
            refine wpAnyH_ready (rs := [17]) (by kernel_rfl) (by simp) ?_
            refine' AllReadyH.cons ?hiAv62 (fun K' hK => ?hAv62) AllReadyH.nil
            case hiAv62 => (simp only [List.getElem?_toArray, List.getElem?_cons_succ, List.getElem?_cons_zero]; exact rfl)
            go_simp
            have HRq := Lib.hid (HR.out.below HB61.out)
            go_at_call 33
            (with_reducible refine (refnum_16 HRq.out).mono ?_)
            rintro e w62 ⟨rfl, jj, hw'⟩
            rw [HN16.out]
            have hb62 := below_drewN (Below.refl w61.heap.size w61) jj
            rw [← hw'] at hb62
            clear hw' HRq
            have HB62 := Lib.hid (HB61.out.trans (hb62.mono HB61.out.size))
            have HZ62 := Lib.hid (blkv hb62 (size_of_block HZ61.out) HZ61.out)
            have HE62 := Lib.hid (blkv hb62 (size_of_block HE61.out) HE61.out)
            clear hb62 c2 c3
            have c2 := (HB62.out.cell (p := ⟨b, o + 2, none⟩) (show b < w.heap.size by rw [HZ.out]; exact hbZ)).trans C2.out
            have c3 := (HB62.out.cell (p := ⟨b, o + 3, none⟩) (show b < w.heap.size by rw [HZ.out]; exact hbZ)).trans C3.out
            refine hK.out _ _ (by go_keep) (fun hHeld => ?_)
            clear hK K'
            refine' wpAnyH_take (i := 18) ?hit63x18 ?hst63x18 ?hft63x18 ?hrt63x18 ?hQt63x18 ?hyt63x18 ?hSt63x18 ?ht63x18
            case hit63x18 => (simp only [List.getElem?_toArray, List.getElem?_cons_succ, List.getElem?_cons_zero]; exact rfl)
            case hst63x18 => kernel_rfl
            case hft63x18 => kernel_rfl
            case hrt63x18 => kernel_rfl
            case hQt63x18 => exact fun _ _ _ h => h
            case hyt63x18 => (first | (refine Or.inr ⟨by rfl, ?_⟩; rfl) | (refine Or.inl ⟨by rfl, ?_⟩; (intro w hSw; (try dsimp only at hSw); go_simp); try with_reducible rfl))
            case hSt63x18 => assumption
            try simp only [Act.put, List.setIfInBounds_toArray, List.set_cons_zero, List.set_cons_succ]
            refine' wpAnyH_take (i := 19) ?hit63x19 ?hst63x19 ?hft63x19 ?hrt63x19 ?hQt63x19 ?hyt63x19 ?hSt63x19 ?ht63x19
            case hit63x19 => (simp only [List.getElem?_toArray, List.getElem?_cons_succ, List.getElem?_cons_zero]; exact rfl)
            case hst63x19 => kernel_rfl
            case hft63x19 => kernel_rfl
            case hrt63x19 => kernel_rfl
            case hQt63x19 => exact fun _ _ _ h => h
            case hyt63x19 => (first | (refine Or.inr ⟨by rfl, ?_⟩; rfl) | (refine Or.inl ⟨by rfl, ?_⟩; (intro w hSw; (try dsimp only at hSw); go_simp); try with_reducible rfl))
            case hSt63x19 => assumption
            try simp only [Act.put, List.setIfInBounds_toArray, List.set_cons_zero, List.set_cons_succ]
            refine wpAnyH_ready (rs := [21]) (by kernel_rfl) (by simp) ?_
            refine' AllReadyH.cons ?hiAv65 (fun K' hK => ?hAv65) AllReadyH.nil
            case hiAv65 => (simp only [List.getElem?_toArray, List.getElem?_cons_succ, List.getElem?_cons_zero]; exact rfl)
            obtain ⟨⟨e0, e1, e2, e3, e4⟩, f0, f1, f2, f3, f4⟩ := row5v HE62.out
            have q1 : ¬ b = G := by omega
            have q2 : ¬ G = b := by omega
            go_simp
            refine hK.out _ _ (by go_keep) (fun hHeld => ?_)
            clear hK K'
            refine wpAnyH_done (by kernel_rfl) ?_ _
            refine NoPanic.normal ?_
            clear hHeld
            go_wp2
            go_meet
            try rw [hw3]
            try rw [hw2]
            exact ⟨G, rfl, hGZ, Lib.hid (set5v _ _ _ _ _ HE62.out), Lib.hid ((set5o (by omega)).trans HZ62.out), Lib.hid (set5b _ _ _ _ _ HB62.out (by rw [HZ.out]; omega))⟩
        case rest =>
          obtain ⟨G, rfl, hGZ, HG2, HZ2, HB2⟩ := hcut
          clear HB1 HZ1
          obtain ⟨w2, hw2⟩ : ∃ w2, w2 = wc := ⟨_, rfl⟩
          subst hw2
          have d0 := (HB2.out.cell (p := ⟨b, o, none⟩) (show b < w.heap.size by rw [HZ.out]; exact hbZ)).trans C0.out
          have d1 := (HB2.out.cell (p := ⟨b, o + 1, none⟩) (show b < w.heap.size by rw [HZ.out]; exact hbZ)).trans C1.out
          have hi0 : (0 : Int) < 20 := by decide
          obtain ⟨⟨e0, e1, e2, e3, e4⟩, f0, f1, f2, f3, f4⟩ := row5v HG2.out
          obtain ⟨⟨z0, z1, z2, z3, z4⟩, y0, y1, y2, y3, y4⟩ := row5v HZ2.out
          by_cases hx0 : x0 = 0
          · subst hx0
            by_cases hx1 : x1 = 2
            · subst hx1
              obtain ⟨V, hV⟩ : ∃ V, maskV K = V := ⟨_, rfl⟩
              have HVV := Lib.hid hV
              rw [hV] at HIF
              clear hV
              have hK32 : K ≤ 32 := hK
              go_wp2_with fail
              go_at_call 7
              (with_reducible refine (MaskOf_n K _ hK32).mono ?_)
              rintro e w' ⟨rfl, rfl⟩
              rw [HVV.out]
              have HRq := Lib.hid (HR.out.below HB2.out)
              go_wp2_with fail
              go_at_call 33
              (with_reducible refine (refnum_8 HRq.out).mono ?_)
              rintro e w3 ⟨rfl, jj, hw'⟩
              rw [HM.out]
              have hb3 := below_drewN (Below.refl w2.heap.size w2) jj
              rw [← hw'] at hb3
              have HB3 := Lib.hid (HB2.out.trans (hb3.mono HB2.out.size))
              have HZ3 := Lib.hid (blkv hb3 (size_of_block HZ2.out) HZ2.out)
              have HG3 := Lib.hid (blkv hb3 (size_of_block HG2.out) HG2.out)
              clear hw' HRq hb3 d0 d1
              clear e0 e1 e2 e3 e4 f0 f1 f2 f3 f4 z0 z1 z2 z3 z4 y0 y1 y2 y3 y4
              obtain ⟨⟨e0, e1, e2, e3, e4⟩, f0, f1, f2, f3, f4⟩ := row5v HG3.out
              obtain ⟨⟨z0, z1, z2, z3, z4⟩, y0, y1, y2, y3, y4⟩ := row5v HZ3.out
              by_cases hm : V = M
              · have tm : (V == M) = true := by simp [hm]
                have HVM := Lib.hid hm
                clear hm
                obtain ⟨F, hF⟩ : ∃ F, netF (N4, (K : Int)) = F := ⟨_, rfl⟩
                have HF := Lib.hid hF
                rw [hF] at HIF
                clear hF
                go_wp2_with fail
                go_at_call 23
                (with_reducible refine (NetFault_n N4 K _ h4.1 h4.2).mono ?_)
                rw [HF.out]
                rintro e w4 ⟨rfl, hb4⟩
                have HB4 := Lib.hid (HB3.out.trans (hb4.mono HB3.out.size))
                have HZ4 := Lib.hid (blkv hb4 (size_of_block HZ3.out) HZ3.out)
                have HG4 := Lib.hid (blkv hb4 (size_of_block HG3.out) HG3.out)
                clear hb4
                clear e0 e1 e2 e3 e4 f0 f1 f2 f3 f4 z0 z1 z2 z3 z4 y0 y1 y2 y3 y4
                obtain ⟨⟨e0, e1, e2, e3, e4⟩, f0, f1, f2, f3, f4⟩ := row5v HG4.out
                obtain ⟨⟨z0, z1, z2, z3, z4⟩, y0, y1, y2, y3, y4⟩ := row5v HZ4.out
                by_cases hF0 : F = 0
                · subst hF0
                  by_cases h1 : 1 ≤ N16
                  · by_cases h2 : N16 ≤ 16
                    · skip
                      have HV : Hid (RR = true) := Lib.hid (by
                        rw [← HRR.out]
                        exact decide_eq_true (HIF.out.2 ⟨by simp, by simp, HVM.out, by simp, h1, h2⟩))
                      have HE := Lib.hid (set5v (.int .u32 N4) (.int .i64 K) (.int .i64 (x2 * 256 + x3)) (.int .u32 N12) (.int .i64 N16) HZ4.out)
                      have HEND : Hid (PP (.returned (.tuple #[.agg #[.int .u32 N4, .int .i64 K, .int .i64 (x2 * 256 + x3), .int .u32 N12, .int .i64 N16], .bool true])) (((((w4.setCell ⟨Z, 0, none⟩ (.int .u32 N4)).setCell ⟨Z, 1, none⟩ (.int .i64 K)).setCell ⟨Z, 2, none⟩ (.int .i64 (x2 * 256 + x3))).setCell ⟨Z, 3, none⟩ (.int .u32 N12)).setCell ⟨Z, 4, none⟩ (.int .i64 N16))) := Lib.hid (by
                        rw [← HPP.out]
                        exact ⟨by rw [HV.out, ← HPE.out], set5b _ _ _ _ _ HB4.out (by rw [HZ.out]; exact Nat.le_refl _)⟩)
                      go_wp2
                      exact entryof_end HE.out rfl rfl rfl HEND.out
                    · skip
                      have HH2 := Lib.hid h2
                      have tl : decide (N16 ≤ 16) = false := decide_eq_false h2
                      clear h2
                      have HV : Hid (RR = false) := Lib.hid (by
                        rw [← HRR.out]
                        exact decide_eq_false (fun h => absurd (HIF.out.1 h).2.2.2.2.2 HH2.out))
                      have HE := Lib.hid (set5v (.int .u32 N4) (.int .i64 K) (.int .i64 (x2 * 256 + x3)) (.int .u32 N12) (.int .i64 N16) HZ4.out)
                      have HEND : Hid (PP (.returned (.tuple #[.agg #[.int .u32 N4, .int .i64 K, .int .i64 (x2 * 256 + x3), .int .u32 N12, .int .i64 N16], .bool false])) (((((w4.setCell ⟨Z, 0, none⟩ (.int .u32 N4)).setCell ⟨Z, 1, none⟩ (.int .i64 K)).setCell ⟨Z, 2, none⟩ (.int .i64 (x2 * 256 + x3))).setCell ⟨Z, 3, none⟩ (.int .u32 N12)).setCell ⟨Z, 4, none⟩ (.int .i64 N16))) := Lib.hid (by
                        rw [← HPP.out]
                        exact ⟨by rw [HV.out, ← HPE.out], set5b _ _ _ _ _ HB4.out (by rw [HZ.out]; exact Nat.le_refl _)⟩)
                      go_wp2
                      exact entryof_end HE.out rfl rfl rfl HEND.out
                  · skip
                    have HH1 := Lib.hid h1
                    have tl : decide (1 ≤ N16) = false := decide_eq_false h1
                    clear h1
                    have HV : Hid (RR = false) := Lib.hid (by
                      rw [← HRR.out]
                      exact decide_eq_false (fun h => absurd (HIF.out.1 h).2.2.2.2.1 HH1.out))
                    have HE := Lib.hid (set5v (.int .u32 N4) (.int .i64 K) (.int .i64 (x2 * 256 + x3)) (.int .u32 N12) (.int .i64 N16) HZ4.out)
                    have HEND : Hid (PP (.returned (.tuple #[.agg #[.int .u32 N4, .int .i64 K, .int .i64 (x2 * 256 + x3), .int .u32 N12, .int .i64 N16], .bool false])) (((((w4.setCell ⟨Z, 0, none⟩ (.int .u32 N4)).setCell ⟨Z, 1, none⟩ (.int .i64 K)).setCell ⟨Z, 2, none⟩ (.int .i64 (x2 * 256 + x3))).setCell ⟨Z, 3, none⟩ (.int .u32 N12)).setCell ⟨Z, 4, none⟩ (.int .i64 N16))) := Lib.hid (by
                      rw [← HPP.out]
                      exact ⟨by rw [HV.out, ← HPE.out], set5b _ _ _ _ _ HB4.out (by rw [HZ.out]; exact Nat.le_refl _)⟩)
                    go_wp2
                    exact entryof_end HE.out rfl rfl rfl HEND.out
                · have tF : (F == 0) = false := by simpa using hF0
                  have HF0 := Lib.hid hF0
                  clear hF0
                  have HV : Hid (RR = false) := Lib.hid (by
                    rw [← HRR.out]
                    exact decide_eq_false (fun h => absurd (HIF.out.1 h).2.2.2.1 HF0.out))
                  have HE := Lib.hid (set5v (.int .u32 N4) (.int .i64 K) (.int .i64 (x2 * 256 + x3)) (.int .u32 N12) (.int .i64 N16) HZ4.out)
                  have HEND : Hid (PP (.returned (.tuple #[.agg #[.int .u32 N4, .int .i64 K, .int .i64 (x2 * 256 + x3), .int .u32 N12, .int .i64 N16], .bool false])) (((((w4.setCell ⟨Z, 0, none⟩ (.int .u32 N4)).setCell ⟨Z, 1, none⟩ (.int .i64 K)).setCell ⟨Z, 2, none⟩ (.int .i64 (x2 * 256 + x3))).setCell ⟨Z, 3, none⟩ (.int .u32 N12)).setCell ⟨Z, 4, none⟩ (.int .i64 N16))) := Lib.hid (by
                    rw [← HPP.out]
                    exact ⟨by rw [HV.out, ← HPE.out], set5b _ _ _ _ _ HB4.out (by rw [HZ.out]; exact Nat.le_refl _)⟩)
                  go_wp2
                  exact entryof_end HE.out rfl rfl rfl HEND.out
              · have tm : (V == M) = false := by simpa using hm
                have HVM := Lib.hid hm
                clear hm
                have HV : Hid (RR = false) := Lib.hid (by
                  rw [← HRR.out]
                  exact decide_eq_false (fun h => absurd (HIF.out.1 h).2.2.1 HVM.out))
                have HE := Lib.hid (set5v (.int .u32 N4) (.int .i64 K) (.int .i64 (x2 * 256 + x3)) (.int .u32 N12) (.int .i64 N16) HZ3.out)
                have HEND : Hid (PP (.returned (.tuple #[.agg #[.int .u32 N4, .int .i64 K, .int .i64 (x2 * 256 + x3), .int .u32 N12, .int .i64 N16], .bool false])) (((((w3.setCell ⟨Z, 0, none⟩ (.int .u32 N4)).setCell ⟨Z, 1, none⟩ (.int .i64 K)).setCell ⟨Z, 2, none⟩ (.int .i64 (x2 * 256 + x3))).setCell ⟨Z, 3, none⟩ (.int .u32 N12)).setCell ⟨Z, 4, none⟩ (.int .i64 N16))) := Lib.hid (by
                  rw [← HPP.out]
                  exact ⟨by rw [HV.out, ← HPE.out], set5b _ _ _ _ _ HB3.out (by rw [HZ.out]; exact Nat.le_refl _)⟩)
                go_wp2
                exact entryof_end HE.out rfl rfl rfl HEND.out
            · have t1 : (x1 == 2) = false := by simpa using hx1
              have HX1 := Lib.hid hx1
              clear hx1
              have HV : Hid (RR = false) := Lib.hid (by
                rw [← HRR.out]
                exact decide_eq_false (fun h => absurd (HIF.out.1 h).2.1 HX1.out))
              have HE := Lib.hid (set5v (.int .u32 N4) (.int .i64 K) (.int .i64 (x2 * 256 + x3)) (.int .u32 N12) (.int .i64 N16) HZ2.out)
              have HEND : Hid (PP (.returned (.tuple #[.agg #[.int .u32 N4, .int .i64 K, .int .i64 (x2 * 256 + x3), .int .u32 N12, .int .i64 N16], .bool false])) (((((w2.setCell ⟨Z, 0, none⟩ (.int .u32 N4)).setCell ⟨Z, 1, none⟩ (.int .i64 K)).setCell ⟨Z, 2, none⟩ (.int .i64 (x2 * 256 + x3))).setCell ⟨Z, 3, none⟩ (.int .u32 N12)).setCell ⟨Z, 4, none⟩ (.int .i64 N16))) := Lib.hid (by
                rw [← HPP.out]
                exact ⟨by rw [HV.out, ← HPE.out], set5b _ _ _ _ _ HB2.out (by rw [HZ.out]; exact Nat.le_refl _)⟩)
              go_wp2
              exact entryof_end HE.out rfl rfl rfl HEND.out
          · have t0 : (x0 == 0) = false := by simpa using hx0
            have HX0 := Lib.hid hx0
            clear hx0
            have HV : Hid (RR = false) := Lib.hid (by
              rw [← HRR.out]
              exact decide_eq_false (fun h => absurd (HIF.out.1 h).1 HX0.out))
            have HE := Lib.hid (set5v (.int .u32 N4) (.int .i64 K) (.int .i64 (x2 * 256 + x3)) (.int .u32 N12) (.int .i64 N16) HZ2.out)
            have HEND : Hid (PP (.returned (.tuple #[.agg #[.int .u32 N4, .int .i64 K, .int .i64 (x2 * 256 + x3), .int .u32 N12, .int .i64 N16], .bool false])) (((((w2.setCell ⟨Z, 0, none⟩ (.int .u32 N4)).setCell ⟨Z, 1, none⟩ (.int .i64 K)).setCell ⟨Z, 2, none⟩ (.int .i64 (x2 * 256 + x3))).setCell ⟨Z, 3, none⟩ (.int .u32 N12)).setCell ⟨Z, 4, none⟩ (.int .i64 N16))) := Lib.hid (by
              rw [← HPP.out]
              exact ⟨by rw [HV.out, ← HPE.out], set5b _ _ _ _ _ HB2.out (by rw [HZ.out]; exact Nat.le_refl _)⟩)
            go_wp2
            exact entryof_end HE.out rfl rfl rfl HEND.out
end Go.Proofs.YtimdnfakgobadaaDoor
