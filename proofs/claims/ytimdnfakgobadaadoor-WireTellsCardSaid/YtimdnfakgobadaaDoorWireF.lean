/- wire.entry, by contract. -/
import Derived.Test.YtimdnfakgobadaaDoorWireE
import Derived.Deep.DeepCutAuto
import Derived.Deep.CutBlock
import Derived.Deep.RegionWith
namespace Go.Proofs.YtimdnfakgobadaaDoor
open Go.ChangeShapes Go.WideShapes Go.ChangeAt Go.RowKit
set_option linter.unusedVariables false
set_option linter.unusedSimpArgs false

theorem number_b {w w1 : World} {A : Option Addr} {n c : Nat} {l : List Int} {x : Int} (hr : R1 rdBytes w (.slice A n c) l) (hb : Below w.heap.size w w1) (h4 : n ≤ 4) (hx : num l = x) :
    Calls Tryd.prog 34 #[.slice A n c] w1 fun e w' => e = .returned (.int .u32 x) ∧ w1 = w' := by
  subst hx; exact number_any (R1.below hr hb) h4
theorem below_ad {a w : World} (h : Below a.heap.size a w) (o : Obj) : Below a.heap.size a (w.alloc o).drew := below_drewN (h.alloc h.size o) 1
/-- the state ahead of entry's last statement: the entry at block G, the message behind it, the result's block R -/
structure Ready (R G : Nat) (x4 l x2 x12 x16 : Int) (w : World) : Prop where
  e6 : w.heap[G]? = some (.cells #[.int .u32 x4, .int .i64 l, .int .i64 x2, .int .u32 x12, .int .i64 x16] 58 (0, 0))
  es : w.heap[G + 1]? = some (.cells #[.int .u32 x4, .int .i64 l, .int .i64 x2, .int .u32 x12, .int .i64 x16] 58 (0, 0))
  m7 : w.heap[G + 1 + 1]? = some (.cells #[.bool false, .slice (some ⟨G + 1, 0, none⟩) 1 1] 35 (0, 0))
  r : w.heap[R]? = some (.cells #[.int .u32 0, .int .i64 0, .int .i64 0, .int .u32 0, .int .i64 0] 58 (0, 0))
  ne : R < G
theorem size_of_block {w : World} {g : Nat} {o : Obj} (h : w.heap[g]? = some o) : g < w.heap.size := by
  rcases Nat.lt_or_ge g w.heap.size with h' | h'
  · exact h'
  · rw [Array.getElem?_eq_none h'] at h; cases h
theorem Ready.below {R G : Nat} {x4 l x2 x12 x16 : Int} {w w' : World} (h : Ready R G x4 l x2 x12 x16 w) (hb : Below w.heap.size w w') : Ready R G x4 l x2 x12 x16 w' :=
  ⟨(hb.block _ (size_of_block h.e6)).trans h.e6, (hb.block _ (size_of_block h.es)).trans h.es, (hb.block _ (size_of_block h.m7)).trans h.m7, (hb.block _ (size_of_block h.r)).trans h.r, h.ne⟩
theorem Ready.mk' {R : Nat} {W0 : World} {x4 l x2 x12 x16 : Int} (hr : W0.heap[R]? = some (.cells #[.int .u32 0, .int .i64 0, .int .i64 0, .int .u32 0, .int .i64 0] 58 (0, 0))) :
    Ready R W0.heap.size x4 l x2 x12 x16 (((W0.alloc (.cells #[.int .u32 x4, .int .i64 l, .int .i64 x2, .int .u32 x12, .int .i64 x16] 58)).alloc (.cells #[.int .u32 x4, .int .i64 l, .int .i64 x2, .int .u32 x12, .int .i64 x16] 58)).alloc (.cells #[.bool false, .slice (some ⟨W0.heap.size + 1, 0, none⟩) 1 1] 35)) := by
  have hR := size_of_block hr
  have b1 : ∀ (w : World) (o : Obj) k, k < w.heap.size → (w.alloc o).heap[k]? = w.heap[k]? := fun w o k hk => ((Below.refl w.heap.size w).alloc (Nat.le_refl _) o).block k hk
  refine ⟨?_, ?_, ?_, ?_, hR⟩
  · rw [b1 _ _ _ (by simp; omega), b1 _ _ _ (by simp)]; exact heap_alloc_new _ _
  · rw [b1 _ _ _ (by simp), ← World.size_alloc W0]; exact heap_alloc_new _ _
  · rw [← World.size_alloc W0, ← World.size_alloc]; exact heap_alloc_new _ _
  · rw [b1 _ _ _ (by simp; omega), b1 _ _ _ (by simp; omega), b1 _ _ _ hR]; exact hr
theorem Ready.drew {R G : Nat} {x4 l x2 x12 x16 : Int} {w : World} (h : Ready R G x4 l x2 x12 x16 w) : Ready R G x4 l x2 x12 x16 w.drew := ⟨h.e6, h.es, h.m7, h.r, h.ne⟩
theorem Ready.cells {R G : Nat} {x4 l x2 x12 x16 : Int} {w : World} (h : Ready R G x4 l x2 x12 x16 w) :
    w.cell? ⟨G, 0, none⟩ = some (.int .u32 x4) ∧ w.cell? ⟨G, 1, none⟩ = some (.int .i64 l) ∧ w.cell? ⟨G, 2, none⟩ = some (.int .i64 x2) ∧ w.cell? ⟨G, 3, none⟩ = some (.int .u32 x12) ∧ w.cell? ⟨G, 4, none⟩ = some (.int .i64 x16) ∧
    w.cell? ⟨G + 1 + 1, 0, none⟩ = some (.bool false) ∧ w.cell? ⟨G + 1 + 1, 1, none⟩ = some (.slice (some ⟨G + 1, 0, none⟩) 1 1) ∧
    w.cell? ⟨R, 0, none⟩ = some (.int .u32 0) ∧ w.cell? ⟨R, 1, none⟩ = some (.int .i64 0) ∧ w.cell? ⟨R, 2, none⟩ = some (.int .i64 0) ∧ w.cell? ⟨R, 3, none⟩ = some (.int .u32 0) ∧ w.cell? ⟨R, 4, none⟩ = some (.int .i64 0) ∧
    w.frozen? ⟨R, 0, none⟩ = false ∧ w.frozen? ⟨R, 1, none⟩ = false ∧ w.frozen? ⟨R, 2, none⟩ = false ∧ w.frozen? ⟨R, 3, none⟩ = false ∧ w.frozen? ⟨R, 4, none⟩ = false := by
  refine ⟨?_, ?_, ?_, ?_, ?_, ?_, ?_, ?_, ?_, ?_, ?_, ?_, ?_, ?_, ?_, ?_, ?_⟩
  · rw [cell_of_row _ G _ _ _ (0, 0) h.e6]; rfl
  · rw [cell_of_row _ G _ _ _ (0, 0) h.e6]; rfl
  · rw [cell_of_row _ G _ _ _ (0, 0) h.e6]; rfl
  · rw [cell_of_row _ G _ _ _ (0, 0) h.e6]; rfl
  · rw [cell_of_row _ G _ _ _ (0, 0) h.e6]; rfl
  · rw [cell_of_row _ _ _ _ _ (0, 0) h.m7]; rfl
  · rw [cell_of_row _ _ _ _ _ (0, 0) h.m7]; rfl
  · rw [cell_of_row _ R _ _ _ (0, 0) h.r]; rfl
  · rw [cell_of_row _ R _ _ _ (0, 0) h.r]; rfl
  · rw [cell_of_row _ R _ _ _ (0, 0) h.r]; rfl
  · rw [cell_of_row _ R _ _ _ (0, 0) h.r]; rfl
  · rw [cell_of_row _ R _ _ _ (0, 0) h.r]; rfl
  · exact frozen_of_row _ R _ _ _ h.r
  · exact frozen_of_row _ R _ _ _ h.r
  · exact frozen_of_row _ R _ _ _ h.r
  · exact frozen_of_row _ R _ _ _ h.r
  · exact frozen_of_row _ R _ _ _ h.r
theorem set5_cells {w : World} {R : Nat} {c0 c1 c2 c3 c4 : Value} (v0 v1 v2 v3 v4 : Value) {t : TypeId} (h : w.heap[R]? = some (.cells #[c0, c1, c2, c3, c4] t (0, 0))) :
    let w' := ((((w.setCell ⟨R, 0, none⟩ v0).setCell ⟨R, 1, none⟩ v1).setCell ⟨R, 2, none⟩ v2).setCell ⟨R, 3, none⟩ v3).setCell ⟨R, 4, none⟩ v4
    w'.heap[R]? = some (.cells #[v0, v1, v2, v3, v4] t (0, 0)) := by
  intro w'
  have h1 := heap_setCell_same w R 0 _ _ v0 h
  have h2 := heap_setCell_same _ R 1 _ _ v1 h1
  have h3 := heap_setCell_same _ R 2 _ _ v2 h2
  have h4 := heap_setCell_same _ R 3 _ _ v3 h3
  have h5 := heap_setCell_same _ R 4 _ _ v4 h4
  exact h5
theorem set5_below {W w : World} {B R : Nat} (h : Below B W w) (hR : B ≤ R) (v0 v1 v2 v3 v4 : Value) :
    Below B W (((((w.setCell ⟨R, 0, none⟩ v0).setCell ⟨R, 1, none⟩ v1).setCell ⟨R, 2, none⟩ v2).setCell ⟨R, 3, none⟩ v3).setCell ⟨R, 4, none⟩ v4) :=
  ((((h.setCell hR _).setCell hR _).setCell hR _).setCell hR _).setCell hR _
theorem row5 {w : World} {R : Nat} {v0 v1 v2 v3 v4 : Value} {t : TypeId} (h : w.heap[R]? = some (.cells #[v0, v1, v2, v3, v4] t (0, 0))) :
    w.cell? ⟨R, 0, none⟩ = some v0 ∧ w.cell? ⟨R, 1, none⟩ = some v1 ∧ w.cell? ⟨R, 2, none⟩ = some v2 ∧ w.cell? ⟨R, 3, none⟩ = some v3 ∧ w.cell? ⟨R, 4, none⟩ = some v4 := by
  refine ⟨?_, ?_, ?_, ?_, ?_⟩ <;> rw [cell_of_row _ R _ _ _ (0, 0) h] <;> rfl
/-- the end of entry: its two results -/
theorem entry_end {W : World} {R : Nat} {a : Act} {x4 l x2 x12 x16 : Int} {c0 c1 c2 c3 c4 : Value} {t : TypeId} {b : Bool} {K : Ending → World → Prop}
    (h : W.heap[R]? = some (.cells #[c0, c1, c2, c3, c4] t (0, 0))) (h2 : a.tmps[2]?.getD undef = .pointer (some ⟨R, 0, none⟩)) (h3 : a.tmps[3]?.getD undef = .bool b) (hd : a.defers = [])
    (hK : K (.returned (.tuple #[.agg #[.int .u32 x4, .int .i64 l, .int .i64 x2, .int .u32 x12, .int .i64 x16], .bool b])) (((((W.setCell ⟨R, 0, none⟩ (.int .u32 x4)).setCell ⟨R, 1, none⟩ (.int .i64 l)).setCell ⟨R, 2, none⟩ (.int .i64 x2)).setCell ⟨R, 3, none⟩ (.int .u32 x12)).setCell ⟨R, 4, none⟩ (.int .i64 x16)).drew.drew) :
    bodyPost Tryd.prog Tryd.f29 K .ret a (((((W.setCell ⟨R, 0, none⟩ (.int .u32 x4)).setCell ⟨R, 1, none⟩ (.int .i64 l)).setCell ⟨R, 2, none⟩ (.int .i64 x2)).setCell ⟨R, 3, none⟩ (.int .u32 x12)).setCell ⟨R, 4, none⟩ (.int .i64 x16)).drew.drew := by
  obtain ⟨e0, e1, e2, e3, e4⟩ := row5 (set5_cells (.int .u32 x4) (.int .i64 l) (.int .i64 x2) (.int .u32 x12) (.int .i64 x16) h)
  generalize ((((W.setCell ⟨R, 0, none⟩ (.int .u32 x4)).setCell ⟨R, 1, none⟩ (.int .i64 l)).setCell ⟨R, 2, none⟩ (.int .i64 x2)).setCell ⟨R, 3, none⟩ (.int .u32 x12)).setCell ⟨R, 4, none⟩ (.int .i64 x16) = W' at *
  exact bodyPost_ret (by simp [results, Tryd.results29, go_sem, h2, h3, e0, e1, e2, e3, e4]) hd hK
/-- the end of entry: its two results, nothing drawn -/
theorem entry_end0 {W : World} {R : Nat} {a : Act} {x4 l x2 x12 x16 : Int} {c0 c1 c2 c3 c4 : Value} {t : TypeId} {b : Bool} {K : Ending → World → Prop}
    (h : W.heap[R]? = some (.cells #[c0, c1, c2, c3, c4] t (0, 0))) (h2 : a.tmps[2]?.getD undef = .pointer (some ⟨R, 0, none⟩)) (h3 : a.tmps[3]?.getD undef = .bool b) (hd : a.defers = [])
    (hK : K (.returned (.tuple #[.agg #[.int .u32 x4, .int .i64 l, .int .i64 x2, .int .u32 x12, .int .i64 x16], .bool b])) (((((W.setCell ⟨R, 0, none⟩ (.int .u32 x4)).setCell ⟨R, 1, none⟩ (.int .i64 l)).setCell ⟨R, 2, none⟩ (.int .i64 x2)).setCell ⟨R, 3, none⟩ (.int .u32 x12)).setCell ⟨R, 4, none⟩ (.int .i64 x16))) :
    bodyPost Tryd.prog Tryd.f29 K .ret a (((((W.setCell ⟨R, 0, none⟩ (.int .u32 x4)).setCell ⟨R, 1, none⟩ (.int .i64 l)).setCell ⟨R, 2, none⟩ (.int .i64 x2)).setCell ⟨R, 3, none⟩ (.int .u32 x12)).setCell ⟨R, 4, none⟩ (.int .i64 x16)) := by
  obtain ⟨e0, e1, e2, e3, e4⟩ := row5 (set5_cells (.int .u32 x4) (.int .i64 l) (.int .i64 x2) (.int .u32 x12) (.int .i64 x16) h)
  generalize ((((W.setCell ⟨R, 0, none⟩ (.int .u32 x4)).setCell ⟨R, 1, none⟩ (.int .i64 l)).setCell ⟨R, 2, none⟩ (.int .i64 x2)).setCell ⟨R, 3, none⟩ (.int .u32 x12)).setCell ⟨R, 4, none⟩ (.int .i64 x16) = W' at *
  exact bodyPost_ret (by simp [results, Tryd.results29, go_sem, h2, h3, e0, e1, e2, e3, e4]) hd hK
def entV (e : Entry) : Value := .agg #[.int .u32 e.1.1, .int .i64 e.1.2, .int .i64 e.2.1, .int .u32 e.2.2.1, .int .i64 e.2.2.2]
set_option maxHeartbeats 2000000 in
set_option maxRecDepth 100000 in
theorem entry_any {w : World} {A : Option Addr} {p : List Int} (hr : R1 rdBytes w (.slice A 20 20) p) :
    Calls Tryd.prog 29 #[.slice A 20 20] w fun e w' => e = .returned (.tuple #[entV (entOf p), .bool (decide (entOk p))]) ∧ Below w.heap.size w w' := by
  have hb := rdBytes_rng hr
  obtain ⟨hn, hnc, hcm⟩ := RdSlice.len hr
  have hl : p.length = 20 := hn.symm
  obtain ⟨b, o, rfl, hbk⟩ := RdSlice.some_ hr (by omega)
  have r8 : R1 rdBytes w (.slice (some ⟨b, o + 8, none⟩) 4 12) ((p.drop 8).take 4) := RdSlice.mid hr 8 4 (by omega) hbk
  have r4 : R1 rdBytes w (.slice (some ⟨b, o + 4, none⟩) 4 16) ((p.drop 4).take 4) := RdSlice.mid hr 4 4 (by omega) hbk
  have r2 : R1 rdBytes w (.slice (some ⟨b, o + 2, none⟩) 2 18) ((p.drop 2).take 2) := RdSlice.mid hr 2 2 (by omega) hbk
  have r12 : R1 rdBytes w (.slice (some ⟨b, o + 12, none⟩) 4 8) ((p.drop 12).take 4) := RdSlice.mid hr 12 4 (by omega) hbk
  have r16 : R1 rdBytes w (.slice (some ⟨b, o + 16, none⟩) 4 4) ((p.drop 16).take 4) := RdSlice.mid hr 16 4 (by omega) hbk
  have r0 : R1 rdBytes w (.slice (some ⟨b, o, none⟩) 2 20) (p.take 2) := RdSlice.pre hr 2 (by omega)
  have hWF := Lib.hid (entOf_wf hl hb)
  have b4 := n4_rng hl hb 4 (by omega)
  have b8 := n4_rng hl hb 8 (by omega)
  have b12 := n4_rng hl hb 12 (by omega)
  have b16 := n4_rng hl hb 16 (by omega)
  have g2 := g_rng hb 2
  have g3 := g_rng hb 3
  have g0 := g_rng hb 0
  have g1 := g_rng hb 1
  have E4 := Lib.hid (num_4 hl)
  have E8 := Lib.hid (num_8 hl)
  have E12 := Lib.hid (num_12 hl)
  have E16 := Lib.hid (num_16 hl)
  have E2 := Lib.hid (num_2 hl)
  have E0 := Lib.hid (num_0 hl)
  have HL := Lib.hid hl
  have hV : Hid (entV (entOf p) = .agg #[.int .u32 (n4 p 4), .int .i64 (lenOf (n4 p 8)), .int .i64 (g p 2 * 256 + g p 3), .int .u32 (n4 p 12), .int .i64 (n4 p 16)]) := Lib.hid rfl
  have hOK : Hid (decide (entOk p) = decide (maskV (maskL (n4 p 8)) = n4 p 8 ∧ g p 0 * 256 + g p 1 = 2 ∧ entF (entOf p) = 0)) := Lib.hid rfl
  have hEnt : Hid (entOf p = ((n4 p 4, lenOf (n4 p 8)), g p 2 * 256 + g p 3, n4 p 12, n4 p 16)) := Lib.hid rfl
  have hlen : Hid (lenOf (n4 p 8) = if maskV (maskL (n4 p 8)) = n4 p 8 then (maskL (n4 p 8) : Int) else 0) := Lib.hid rfl
  clear hn hl hb
  generalize n4 p 4 = x4 at *
  generalize n4 p 8 = x8 at *
  generalize n4 p 12 = x12 at *
  generalize n4 p 16 = x16 at *
  have t0 : 0 ≤ g p 2 * 256 + g p 3 ∧ g p 2 * 256 + g p 3 ≤ 65535 := by omega
  have u0 : 0 ≤ g p 0 * 256 + g p 1 ∧ g p 0 * 256 + g p 1 ≤ 65535 := by omega
  clear g0 g1 g2 g3
  generalize g p 2 * 256 + g p 3 = x2 at *
  generalize g p 0 * 256 + g p 1 = x0 at *
  have hLEN : ∃ (k : Nat) (ev : Value), (∀ w, Calls Tryd.prog 10 #[.int .u32 x8] w fun e w' => e = .returned (.tuple #[.int .i64 (k : Int), ev]) ∧ w = w') ∧ Hid (lenOf x8 = k) ∧
      ((ev = .nilIface ∧ Hid (maskV (maskL x8) = x8)) ∨ (ev = .iface 23 (.int .i64 3) ∧ Hid (maskV (maskL x8) ≠ x8))) := by
    by_cases hm : maskV (maskL x8) = x8
    · refine ⟨maskL x8, .nilIface, fun w => ?_, Lib.hid (by rw [hlen.out, if_pos hm]), .inl ⟨rfl, Lib.hid hm⟩⟩
      have h := Len_any x8 w b8.1 b8.2
      rwa [if_pos hm] at h
    · refine ⟨0, .iface 23 (.int .i64 3), fun w => ?_, Lib.hid (by rw [hlen.out, if_neg hm]; rfl), .inr ⟨rfl, Lib.hid hm⟩⟩
      have h := Len_any x8 w b8.1 b8.2
      rwa [if_neg hm] at h
  obtain ⟨k, ev, hcon, hk, hcase⟩ := hLEN
  have HLEN' := Lib.hid hcon
  have hCASE := Lib.hid hcase
  clear hcon hcase
  ·
    go_enter Tryd.func29, Tryd.ntmps29
    have hB1 : Hid (Below w.heap.size w (w.alloc (.cells #[.int .u32 0, .int .i64 0, .int .i64 0, .int .u32 0, .int .i64 0] 58))) := Lib.hid ((Below.refl _ _).alloc (Nat.le_refl _) _)
    go_upto_region 2 with (first
      | (go_at_call 34; (with_reducible refine (number_b r8 hB1.out (by omega) E8.out).mono ?_); rintro e w' ⟨rfl, rfl⟩)
      | (go_at_call 10; refine (HLEN'.out _).mono ?_; rintro e w' ⟨rfl, rfl⟩)
      | fail)
    have bk0 : (w.alloc (.cells #[.int .u32 0, .int .i64 0, .int .i64 0, .int .u32 0, .int .i64 0] 58)).heap[w.heap.size]? = some (.cells #[.int .u32 0, .int .i64 0, .int .i64 0, .int .u32 0, .int .i64 0] 58 (0, 0)) := heap_alloc_new w _
    have hs0 : w.heap.size < (w.alloc (.cells #[.int .u32 0, .int .i64 0, .int .i64 0, .int .u32 0, .int .i64 0] 58)).heap.size := by simp
    have BK0 := Lib.hid bk0
    clear bk0
    generalize w.alloc (.cells #[.int .u32 0, .int .i64 0, .int .i64 0, .int .u32 0, .int .i64 0] 58) = W0 at *
    have HBd : Hid (Below w.heap.size w W0.drew) := Lib.hid (below_drewN hB1.out 1)
    have wx2 : IntKind.i64.wrap x2 = x2 := IntWalk.i64_in _ ⟨by omega, by omega⟩
    have wx16 : IntKind.i64.wrap x16 = x16 := IntWalk.i64_in _ ⟨by omega, by omega⟩
    go_cut [6] (fun s6 wx => s6 = .pointer (some ⟨W0.heap.size, 0, none⟩) ∧ wx = (W0.alloc (.cells #[.int .u32 x4, .int .i64 (k : Int), .int .i64 x2, .int .u32 x12, .int .i64 x16] 58)).drew)
    case first =>
      go_region_held3 (fun _ => True) (trivial) (first
        | (go_at_call 34; (with_reducible refine (number_b r4 (by first | exact HBd.out | exact below_ad hB1.out _) (by omega) E4.out).mono ?_); rintro e w' ⟨rfl, rfl⟩)
        | (go_at_call 34; (with_reducible refine (number_b r2 (by first | exact HBd.out | exact below_ad hB1.out _) (by omega) E2.out).mono ?_); rintro e w' ⟨rfl, rfl⟩)
        | (go_at_call 34; (with_reducible refine (number_b r12 (by first | exact HBd.out | exact below_ad hB1.out _) (by omega) E12.out).mono ?_); rintro e w' ⟨rfl, rfl⟩)
        | (go_at_call 34; (with_reducible refine (number_b r16 (by first | exact HBd.out | exact below_ad hB1.out _) (by omega) E16.out).mono ?_); rintro e w' ⟨rfl, rfl⟩)
        | fail)
      all_goals (go_wp2; go_meet; exact ⟨rfl, rfl⟩)
    case rest =>
      clear wx2 wx16 r8 r4 r2 r12 r16 b4 b8 b12 b16 E4 E8 E12 E16 E2 HL t0 u0 hlen hr hcm hnc HLEN' hs0
      obtain ⟨rfl, rfl⟩ := hcut
      go_wp2
      have rd := Ready.mk' (x4 := x4) (l := (k : Int)) (x2 := x2) (x12 := x12) (x16 := x16) BK0.out
      have HB40 : Below w.heap.size w (((W0.alloc (.cells #[.int .u32 x4, .int .i64 (k : Int), .int .i64 x2, .int .u32 x12, .int .i64 x16] 58)).alloc (.cells #[.int .u32 x4, .int .i64 (k : Int), .int .i64 x2, .int .u32 x12, .int .i64 x16] 58)).alloc (.cells #[.bool false, .slice (some ⟨W0.heap.size + 1, 0, none⟩) 1 1] 35)) :=
        ((hB1.out.alloc hB1.out.size _).alloc (Nat.le_trans hB1.out.size (by simp)) _).alloc (Nat.le_trans hB1.out.size (by simp; omega)) _
      have HB4 : Below w.heap.size w (((W0.alloc (.cells #[.int .u32 x4, .int .i64 (k : Int), .int .i64 x2, .int .u32 x12, .int .i64 x16] 58)).alloc (.cells #[.int .u32 x4, .int .i64 (k : Int), .int .i64 x2, .int .u32 x12, .int .i64 x16] 58)).alloc (.cells #[.bool false, .slice (some ⟨W0.heap.size + 1, 0, none⟩) 1 1] 35)).drew.drew :=
        below_drewN (below_drewN (((hB1.out.alloc hB1.out.size _).alloc (Nat.le_trans hB1.out.size (by simp)) _).alloc (Nat.le_trans hB1.out.size (by simp; omega)) _) 1) 1
      generalize ((W0.alloc (.cells #[.int .u32 x4, .int .i64 (k : Int), .int .i64 x2, .int .u32 x12, .int .i64 x16] 58)).alloc (.cells #[.int .u32 x4, .int .i64 (k : Int), .int .i64 x2, .int .u32 x12, .int .i64 x16] 58)).alloc (.cells #[.bool false, .slice (some ⟨W0.heap.size + 1, 0, none⟩) 1 1] 35) = W4 at *
      have RD := Lib.hid rd
      have hB4 := Lib.hid HB4
      have hB40 := Lib.hid HB40
      clear rd HB4 HB40 HBd
      rcases hCASE.out with ⟨rfl, HM⟩ | ⟨rfl, HM⟩
      · by_cases h02 : x0 = 2
        · have t02 : (x0 == 2) = true := by simpa using h02
          have H02 := Lib.hid h02
          clear h02
          have hne := Nat.ne_of_lt RD.out.ne
          have hne' := hne.symm
          have hne2 : w.heap.size ≠ W0.heap.size + 1 + 1 := by have := RD.out.ne; omega
          have hne2' := hne2.symm
          obtain ⟨p0, p1, p2, p3, p4, q0, q1, z0, z1, z2, z3, z4, f0, f1, f2, f3, f4⟩ := RD.out.cells
          have hle : Hid (entOf p = ((x4, (k : Int)), x2, x12, x16)) := Lib.hid (by rw [hEnt.out, hk.out])
          have hwf : Hid (entWf ((x4, (k : Int)), x2, x12, x16)) := Lib.hid (by rw [← hle.out]; exact hWF.out)
          by_cases hF : entF ((x4, (k : Int)), x2, x12, x16) = 0
          · have HF := Lib.hid hF
            have hyes : Hid (decide (entOk p) = true) := Lib.hid (by rw [hOK.out, hle.out]; simp [HF.out, HM.out, H02.out])
            clear hF
            go_region_held3 (fun w' => w'.cell? ⟨W0.heap.size, 0, none⟩ = some (.int .u32 x4) ∧ w'.cell? ⟨W0.heap.size, 1, none⟩ = some (.int .i64 (k : Int)) ∧ w'.cell? ⟨W0.heap.size, 2, none⟩ = some (.int .i64 x2) ∧ w'.cell? ⟨W0.heap.size, 3, none⟩ = some (.int .u32 x12) ∧ w'.cell? ⟨W0.heap.size, 4, none⟩ = some (.int .i64 x16) ∧ w'.cell? ⟨W0.heap.size + 1 + 1, 0, none⟩ = some (.bool false) ∧ w'.cell? ⟨W0.heap.size + 1 + 1, 1, none⟩ = some (.slice (some ⟨W0.heap.size + 1, 0, none⟩) 1 1)) (go_keep) (first
              | (go_at_call 34; (with_reducible refine (number_b r0 hB4.out (by omega) E0.out).mono ?_); rintro e w' ⟨rfl, rfl⟩)
              | (go_at_call 13; refine (Check_msg (q := false) (R1.one_entry RD.out.drew.drew.es hwf.out)).mono ?_; rintro e w5 ⟨rfl, hb5⟩; rw [entF_one, HF.out, errV_zero]; have RD5 := Lib.hid (RD.out.drew.drew.below hb5); obtain ⟨p50, p51, p52, p53, p54, q50, q51, z50, z51, z52, z53, z54, f50, f51, f52, f53, f54⟩ := RD5.out.cells; have hB5 := Lib.hid (hB4.out.trans (hb5.mono hB4.out.size)); clear hb5)
              | fail)
            all_goals go_wp2
            all_goals exact entry_end0 RD5.out.r rfl rfl rfl ⟨by rw [hV.out, hk.out, hyes.out], set5_below hB5.out (Nat.le_refl _) _ _ _ _ _⟩
          · have HF := Lib.hid (errV_ne hF)
            have hno : Hid (decide (entOk p) = false) := Lib.hid (by rw [hOK.out, hle.out]; simp [hF])
            clear hF
            go_region_held3 (fun w' => w'.cell? ⟨W0.heap.size, 0, none⟩ = some (.int .u32 x4) ∧ w'.cell? ⟨W0.heap.size, 1, none⟩ = some (.int .i64 (k : Int)) ∧ w'.cell? ⟨W0.heap.size, 2, none⟩ = some (.int .i64 x2) ∧ w'.cell? ⟨W0.heap.size, 3, none⟩ = some (.int .u32 x12) ∧ w'.cell? ⟨W0.heap.size, 4, none⟩ = some (.int .i64 x16) ∧ w'.cell? ⟨W0.heap.size + 1 + 1, 0, none⟩ = some (.bool false) ∧ w'.cell? ⟨W0.heap.size + 1 + 1, 1, none⟩ = some (.slice (some ⟨W0.heap.size + 1, 0, none⟩) 1 1)) (go_keep) (first
              | (go_at_call 34; (with_reducible refine (number_b r0 hB4.out (by omega) E0.out).mono ?_); rintro e w' ⟨rfl, rfl⟩)
              | (go_at_call 13; refine (Check_msg (q := false) (R1.one_entry RD.out.drew.drew.es hwf.out)).mono ?_; rintro e w5 ⟨rfl, hb5⟩; rw [entF_one, HF.out]; have RD5 := Lib.hid (RD.out.drew.drew.below hb5); obtain ⟨p50, p51, p52, p53, p54, q50, q51, z50, z51, z52, z53, z54, f50, f51, f52, f53, f54⟩ := RD5.out.cells; have hB5 := Lib.hid (hB4.out.trans (hb5.mono hB4.out.size)); clear hb5)
              | fail)
            all_goals go_wp2
            all_goals exact entry_end0 RD5.out.r rfl rfl rfl ⟨by rw [hV.out, hk.out, hno.out], set5_below hB5.out (Nat.le_refl _) _ _ _ _ _⟩
        · have t02 : (x0 == 2) = false := by simpa using h02
          have hno : Hid (decide (entOk p) = false) := Lib.hid (by rw [hOK.out]; simp [h02])
          clear h02
          have hne := Nat.ne_of_lt RD.out.ne
          have hne' := hne.symm
          have hne2 : w.heap.size ≠ W0.heap.size + 1 + 1 := by have := RD.out.ne; omega
          have hne2' := hne2.symm
          obtain ⟨p0, p1, p2, p3, p4, q0, q1, z0, z1, z2, z3, z4, f0, f1, f2, f3, f4⟩ := RD.out.cells
          refine wp_region_noPanic ?_
          refine wp_region_held_drew (S := (fun w' => w'.cell? ⟨W0.heap.size, 0, none⟩ = some (.int .u32 x4) ∧ w'.cell? ⟨W0.heap.size, 1, none⟩ = some (.int .i64 (k : Int)) ∧ w'.cell? ⟨W0.heap.size, 2, none⟩ = some (.int .i64 x2) ∧ w'.cell? ⟨W0.heap.size, 3, none⟩ = some (.int .u32 x12) ∧ w'.cell? ⟨W0.heap.size, 4, none⟩ = some (.int .i64 x16))) (by kernel_rfl) (by go_keep) (fun hHeld => ?_)
          refine' wpAnyH_take (i := 0) ?hib0 ?hsb0 ?hfb0 ?hrb0 ?hQb0 ?hyb0 ?hSb0 ?hb0
          case hib0 => (simp only [List.getElem?_toArray, List.getElem?_cons_succ, List.getElem?_cons_zero]; exact rfl)
          case hsb0 => kernel_rfl
          case hfb0 => kernel_rfl
          case hrb0 => kernel_rfl
          case hQb0 => exact fun _ _ _ h => h
          case hyb0 => (first | (refine Or.inr ⟨by rfl, ?_⟩; rfl) | (refine Or.inl ⟨by rfl, ?_⟩; (intro w hSw; (try dsimp only at hSw); go_simp); try with_reducible rfl))
          case hSb0 => assumption
          try simp only [Act.put, List.setIfInBounds_toArray, List.set_cons_zero, List.set_cons_succ]
          refine' wpAnyH_take (i := 1) ?hib1 ?hsb1 ?hfb1 ?hrb1 ?hQb1 ?hyb1 ?hSb1 ?hb1
          case hib1 => (simp only [List.getElem?_toArray, List.getElem?_cons_succ, List.getElem?_cons_zero]; exact rfl)
          case hsb1 => kernel_rfl
          case hfb1 => kernel_rfl
          case hrb1 => kernel_rfl
          case hQb1 => exact fun _ _ _ h => h
          case hyb1 => (first | (refine Or.inr ⟨by rfl, ?_⟩; rfl) | (refine Or.inl ⟨by rfl, ?_⟩; (intro w hSw; (try dsimp only at hSw); go_simp); try with_reducible rfl))
          case hSb1 => assumption
          try simp only [Act.put, List.setIfInBounds_toArray, List.set_cons_zero, List.set_cons_succ]
          refine' wpAnyH_take (i := 2) ?hib2 ?hsb2 ?hfb2 ?hrb2 ?hQb2 ?hyb2 ?hSb2 ?hb2
          case hib2 => (simp only [List.getElem?_toArray, List.getElem?_cons_succ, List.getElem?_cons_zero]; exact rfl)
          case hsb2 => kernel_rfl
          case hfb2 => kernel_rfl
          case hrb2 => kernel_rfl
          case hQb2 => exact fun _ _ _ h => h
          case hyb2 => (first | (refine Or.inr ⟨by rfl, ?_⟩; rfl) | (refine Or.inl ⟨by rfl, ?_⟩; (intro w hSw; (try dsimp only at hSw); go_simp); try with_reducible rfl))
          case hSb2 => assumption
          try simp only [Act.put, List.setIfInBounds_toArray, List.set_cons_zero, List.set_cons_succ]
          refine' wpAnyH_take (i := 3) ?hib3 ?hsb3 ?hfb3 ?hrb3 ?hQb3 ?hyb3 ?hSb3 ?hb3
          case hib3 => (simp only [List.getElem?_toArray, List.getElem?_cons_succ, List.getElem?_cons_zero]; exact rfl)
          case hsb3 => kernel_rfl
          case hfb3 => kernel_rfl
          case hrb3 => kernel_rfl
          case hQb3 => exact fun _ _ _ h => h
          case hyb3 => (first | (refine Or.inr ⟨by rfl, ?_⟩; rfl) | (refine Or.inl ⟨by rfl, ?_⟩; (intro w hSw; (try dsimp only at hSw); go_simp); try with_reducible rfl))
          case hSb3 => assumption
          try simp only [Act.put, List.setIfInBounds_toArray, List.set_cons_zero, List.set_cons_succ]
          refine' wpAnyH_take (i := 4) ?hib4 ?hsb4 ?hfb4 ?hrb4 ?hQb4 ?hyb4 ?hSb4 ?hb4
          case hib4 => (simp only [List.getElem?_toArray, List.getElem?_cons_succ, List.getElem?_cons_zero]; exact rfl)
          case hsb4 => kernel_rfl
          case hfb4 => kernel_rfl
          case hrb4 => kernel_rfl
          case hQb4 => exact fun _ _ _ h => h
          case hyb4 => (first | (refine Or.inr ⟨by rfl, ?_⟩; rfl) | (refine Or.inl ⟨by rfl, ?_⟩; (intro w hSw; (try dsimp only at hSw); go_simp); try with_reducible rfl))
          case hSb4 => assumption
          try simp only [Act.put, List.setIfInBounds_toArray, List.set_cons_zero, List.set_cons_succ]
          refine' wpAnyH_take (i := 5) ?hib5 ?hsb5 ?hfb5 ?hrb5 ?hQb5 ?hyb5 ?hSb5 ?hb5
          case hib5 => (simp only [List.getElem?_toArray, List.getElem?_cons_succ, List.getElem?_cons_zero]; exact rfl)
          case hsb5 => kernel_rfl
          case hfb5 => kernel_rfl
          case hrb5 => kernel_rfl
          case hQb5 => exact fun _ _ _ h => h
          case hyb5 => (first | (refine Or.inr ⟨by rfl, ?_⟩; rfl) | (refine Or.inl ⟨by rfl, ?_⟩; (intro w hSw; (try dsimp only at hSw); go_simp); try with_reducible rfl))
          case hSb5 => assumption
          try simp only [Act.put, List.setIfInBounds_toArray, List.set_cons_zero, List.set_cons_succ]
          refine wpAnyH_ready (rs := [6]) (by kernel_rfl) (by simp) ?_
          refine' AllReadyH.cons ?hib6 (fun K hK => ?hb6) AllReadyH.nil
          case hib6 => (simp only [List.getElem?_toArray, List.getElem?_cons_succ, List.getElem?_cons_zero]; exact rfl)
          go_simp
          (go_at_call 34; (with_reducible refine (number_b r0 hB4.out (by omega) E0.out).mono ?_); rintro e w' ⟨rfl, rfl⟩)
          try go_simp
          refine hK.out _ _ (by go_keep) (fun hHeld => ?_)
          clear hK K
          refine' wpAnyH_take (i := 7) ?hib7 ?hsb7 ?hfb7 ?hrb7 ?hQb7 ?hyb7 ?hSb7 ?hb7
          case hib7 => (simp only [List.getElem?_toArray, List.getElem?_cons_succ, List.getElem?_cons_zero]; exact rfl)
          case hsb7 => kernel_rfl
          case hfb7 => kernel_rfl
          case hrb7 => kernel_rfl
          case hQb7 => exact fun _ _ _ h => h
          case hyb7 => (first | (refine Or.inr ⟨by rfl, ?_⟩; rfl) | (refine Or.inl ⟨by rfl, ?_⟩; (intro w hSw; (try dsimp only at hSw); go_simp); try with_reducible rfl))
          case hSb7 => assumption
          try simp only [Act.put, List.setIfInBounds_toArray, List.set_cons_zero, List.set_cons_succ]
          refine' wpAnyH_take (i := 8) ?hib8 ?hsb8 ?hfb8 ?hrb8 ?hQb8 ?hyb8 ?hSb8 ?hb8
          case hib8 => (simp only [List.getElem?_toArray, List.getElem?_cons_succ, List.getElem?_cons_zero]; exact rfl)
          case hsb8 => kernel_rfl
          case hfb8 => kernel_rfl
          case hrb8 => kernel_rfl
          case hQb8 => exact fun _ _ _ h => h
          case hyb8 => (first | (refine Or.inr ⟨by rfl, ?_⟩; rfl) | (refine Or.inl ⟨by rfl, ?_⟩; (intro w hSw; (try dsimp only at hSw); go_simp); try with_reducible rfl))
          case hSb8 => assumption
          try simp only [Act.put, List.setIfInBounds_toArray, List.set_cons_zero, List.set_cons_succ]
          refine' wpAnyH_take (i := 9) ?hib9 ?hsb9 ?hfb9 ?hrb9 ?hQb9 ?hyb9 ?hSb9 ?hb9
          case hib9 => (simp only [List.getElem?_toArray, List.getElem?_cons_succ, List.getElem?_cons_zero]; exact rfl)
          case hsb9 => kernel_rfl
          case hfb9 => kernel_rfl
          case hrb9 => kernel_rfl
          case hQb9 => exact fun _ _ _ h => h
          case hyb9 => (first | (refine Or.inr ⟨by rfl, ?_⟩; rfl) | (refine Or.inl ⟨by rfl, ?_⟩; (intro w hSw; (try dsimp only at hSw); go_simp); try with_reducible rfl))
          case hSb9 => assumption
          try simp only [Act.put, List.setIfInBounds_toArray, List.set_cons_zero, List.set_cons_succ]
          refine' wpAnyH_take (i := 10) ?hib10 ?hsb10 ?hfb10 ?hrb10 ?hQb10 ?hyb10 ?hSb10 ?hb10
          case hib10 => (simp only [List.getElem?_toArray, List.getElem?_cons_succ, List.getElem?_cons_zero]; exact rfl)
          case hsb10 => kernel_rfl
          case hfb10 => kernel_rfl
          case hrb10 => kernel_rfl
          case hQb10 => exact fun _ _ _ h => h
          case hyb10 => (first | (refine Or.inr ⟨by rfl, ?_⟩; rfl) | (refine Or.inl ⟨by rfl, ?_⟩; (intro w hSw; (try dsimp only at hSw); go_simp); try with_reducible rfl))
          case hSb10 => assumption
          try simp only [Act.put, List.setIfInBounds_toArray, List.set_cons_zero, List.set_cons_succ]
          refine' wpAnyH_take (i := 11) ?hib11 ?hsb11 ?hfb11 ?hrb11 ?hQb11 ?hyb11 ?hSb11 ?hb11
          case hib11 => (simp only [List.getElem?_toArray, List.getElem?_cons_succ, List.getElem?_cons_zero]; exact rfl)
          case hsb11 => kernel_rfl
          case hfb11 => kernel_rfl
          case hrb11 => kernel_rfl
          case hQb11 => exact fun _ _ _ h => h
          case hyb11 => (first | (refine Or.inr ⟨by rfl, ?_⟩; rfl) | (refine Or.inl ⟨by rfl, ?_⟩; (intro w hSw; (try dsimp only at hSw); go_simp); try with_reducible rfl))
          case hSb11 => assumption
          try simp only [Act.put, List.setIfInBounds_toArray, List.set_cons_zero, List.set_cons_succ]
          refine' wpAnyH_take (i := 12) ?hib12 ?hsb12 ?hfb12 ?hrb12 ?hQb12 ?hyb12 ?hSb12 ?hb12
          case hib12 => (simp only [List.getElem?_toArray, List.getElem?_cons_succ, List.getElem?_cons_zero]; exact rfl)
          case hsb12 => kernel_rfl
          case hfb12 => kernel_rfl
          case hrb12 => kernel_rfl
          case hQb12 => exact fun _ _ _ h => h
          case hyb12 => (first | (refine Or.inr ⟨by rfl, ?_⟩; rfl) | (refine Or.inl ⟨by rfl, ?_⟩; (intro w hSw; (try dsimp only at hSw); go_simp); try with_reducible rfl))
          case hSb12 => assumption
          try simp only [Act.put, List.setIfInBounds_toArray, List.set_cons_zero, List.set_cons_succ]
          refine' wpAnyH_take (i := 13) ?hib13 ?hsb13 ?hfb13 ?hrb13 ?hQb13 ?hyb13 ?hSb13 ?hb13
          case hib13 => (simp only [List.getElem?_toArray, List.getElem?_cons_succ, List.getElem?_cons_zero]; exact rfl)
          case hsb13 => kernel_rfl
          case hfb13 => kernel_rfl
          case hrb13 => kernel_rfl
          case hQb13 => exact fun _ _ _ h => h
          case hyb13 => (first | (refine Or.inr ⟨by rfl, ?_⟩; rfl) | (refine Or.inl ⟨by rfl, ?_⟩; (intro w hSw; (try dsimp only at hSw); go_simp); try with_reducible rfl))
          case hSb13 => assumption
          try simp only [Act.put, List.setIfInBounds_toArray, List.set_cons_zero, List.set_cons_succ]
          refine wpAnyH_ready (rs := [14]) (by kernel_rfl) (by simp) ?_
          refine' AllReadyH.cons ?hib14 (fun K hK => ?hb14) AllReadyH.nil
          case hib14 => (simp only [List.getElem?_toArray, List.getElem?_cons_succ, List.getElem?_cons_zero]; exact rfl)
          go_simp
          refine hK.out _ _ (by go_keep) (fun hHeld => ?_)
          clear hK K
          refine' wpAnyH_take (i := 15) ?hib15 ?hsb15 ?hfb15 ?hrb15 ?hQb15 ?hyb15 ?hSb15 ?hb15
          case hib15 => (simp only [List.getElem?_toArray, List.getElem?_cons_succ, List.getElem?_cons_zero]; exact rfl)
          case hsb15 => kernel_rfl
          case hfb15 => kernel_rfl
          case hrb15 => kernel_rfl
          case hQb15 => exact fun _ _ _ h => h
          case hyb15 => (first | (refine Or.inr ⟨by rfl, ?_⟩; rfl) | (refine Or.inl ⟨by rfl, ?_⟩; (intro w hSw; (try dsimp only at hSw); go_simp); try with_reducible rfl))
          case hSb15 => assumption
          try simp only [Act.put, List.setIfInBounds_toArray, List.set_cons_zero, List.set_cons_succ]
          refine wpAnyH_done (by kernel_rfl) ?_ _
          refine NoPanic.normal ?_
          all_goals go_wp2
          all_goals exact entry_end RD.out.r rfl rfl rfl ⟨by rw [hV.out, hk.out, hno.out], below_drewN (below_drewN (set5_below hB40.out (Nat.le_refl _) _ _ _ _ _) 1) 1⟩
      · have hno : Hid (decide (entOk p) = false) := Lib.hid (by rw [hOK.out]; simp [HM.out])
        have hne := Nat.ne_of_lt RD.out.ne
        have hne' := hne.symm
        obtain ⟨p0, p1, p2, p3, p4, q0, q1, z0, z1, z2, z3, z4, f0, f1, f2, f3, f4⟩ := RD.out.cells
        refine wp_region_noPanic ?_
        refine wp_region_held_drew (S := (fun w' => w'.cell? ⟨W0.heap.size, 0, none⟩ = some (.int .u32 x4) ∧ w'.cell? ⟨W0.heap.size, 1, none⟩ = some (.int .i64 (k : Int)) ∧ w'.cell? ⟨W0.heap.size, 2, none⟩ = some (.int .i64 x2) ∧ w'.cell? ⟨W0.heap.size, 3, none⟩ = some (.int .u32 x12) ∧ w'.cell? ⟨W0.heap.size, 4, none⟩ = some (.int .i64 x16))) (by kernel_rfl) (by go_keep) (fun hHeld => ?_)
        refine' wpAnyH_take (i := 0) ?hia0 ?hsa0 ?hfa0 ?hra0 ?hQa0 ?hya0 ?hSa0 ?ha0
        case hia0 => (simp only [List.getElem?_toArray, List.getElem?_cons_succ, List.getElem?_cons_zero]; exact rfl)
        case hsa0 => kernel_rfl
        case hfa0 => kernel_rfl
        case hra0 => kernel_rfl
        case hQa0 => exact fun _ _ _ h => h
        case hya0 => (first | (refine Or.inr ⟨by rfl, ?_⟩; rfl) | (refine Or.inl ⟨by rfl, ?_⟩; (intro w hSw; (try dsimp only at hSw); go_simp); try with_reducible rfl))
        case hSa0 => assumption
        try simp only [Act.put, List.setIfInBounds_toArray, List.set_cons_zero, List.set_cons_succ]
        refine' wpAnyH_take (i := 1) ?hia1 ?hsa1 ?hfa1 ?hra1 ?hQa1 ?hya1 ?hSa1 ?ha1
        case hia1 => (simp only [List.getElem?_toArray, List.getElem?_cons_succ, List.getElem?_cons_zero]; exact rfl)
        case hsa1 => kernel_rfl
        case hfa1 => kernel_rfl
        case hra1 => kernel_rfl
        case hQa1 => exact fun _ _ _ h => h
        case hya1 => (first | (refine Or.inr ⟨by rfl, ?_⟩; rfl) | (refine Or.inl ⟨by rfl, ?_⟩; (intro w hSw; (try dsimp only at hSw); go_simp); try with_reducible rfl))
        case hSa1 => assumption
        try simp only [Act.put, List.setIfInBounds_toArray, List.set_cons_zero, List.set_cons_succ]
        refine' wpAnyH_take (i := 2) ?hia2 ?hsa2 ?hfa2 ?hra2 ?hQa2 ?hya2 ?hSa2 ?ha2
        case hia2 => (simp only [List.getElem?_toArray, List.getElem?_cons_succ, List.getElem?_cons_zero]; exact rfl)
        case hsa2 => kernel_rfl
        case hfa2 => kernel_rfl
        case hra2 => kernel_rfl
        case hQa2 => exact fun _ _ _ h => h
        case hya2 => (first | (refine Or.inr ⟨by rfl, ?_⟩; rfl) | (refine Or.inl ⟨by rfl, ?_⟩; (intro w hSw; (try dsimp only at hSw); go_simp); try with_reducible rfl))
        case hSa2 => assumption
        try simp only [Act.put, List.setIfInBounds_toArray, List.set_cons_zero, List.set_cons_succ]
        refine' wpAnyH_take (i := 3) ?hia3 ?hsa3 ?hfa3 ?hra3 ?hQa3 ?hya3 ?hSa3 ?ha3
        case hia3 => (simp only [List.getElem?_toArray, List.getElem?_cons_succ, List.getElem?_cons_zero]; exact rfl)
        case hsa3 => kernel_rfl
        case hfa3 => kernel_rfl
        case hra3 => kernel_rfl
        case hQa3 => exact fun _ _ _ h => h
        case hya3 => (first | (refine Or.inr ⟨by rfl, ?_⟩; rfl) | (refine Or.inl ⟨by rfl, ?_⟩; (intro w hSw; (try dsimp only at hSw); go_simp); try with_reducible rfl))
        case hSa3 => assumption
        try simp only [Act.put, List.setIfInBounds_toArray, List.set_cons_zero, List.set_cons_succ]
        refine' wpAnyH_take (i := 4) ?hia4 ?hsa4 ?hfa4 ?hra4 ?hQa4 ?hya4 ?hSa4 ?ha4
        case hia4 => (simp only [List.getElem?_toArray, List.getElem?_cons_succ, List.getElem?_cons_zero]; exact rfl)
        case hsa4 => kernel_rfl
        case hfa4 => kernel_rfl
        case hra4 => kernel_rfl
        case hQa4 => exact fun _ _ _ h => h
        case hya4 => (first | (refine Or.inr ⟨by rfl, ?_⟩; rfl) | (refine Or.inl ⟨by rfl, ?_⟩; (intro w hSw; (try dsimp only at hSw); go_simp); try with_reducible rfl))
        case hSa4 => assumption
        try simp only [Act.put, List.setIfInBounds_toArray, List.set_cons_zero, List.set_cons_succ]
        refine' wpAnyH_take (i := 5) ?hia5 ?hsa5 ?hfa5 ?hra5 ?hQa5 ?hya5 ?hSa5 ?ha5
        case hia5 => (simp only [List.getElem?_toArray, List.getElem?_cons_succ, List.getElem?_cons_zero]; exact rfl)
        case hsa5 => kernel_rfl
        case hfa5 => kernel_rfl
        case hra5 => kernel_rfl
        case hQa5 => exact fun _ _ _ h => h
        case hya5 => (first | (refine Or.inr ⟨by rfl, ?_⟩; rfl) | (refine Or.inl ⟨by rfl, ?_⟩; (intro w hSw; (try dsimp only at hSw); go_simp); try with_reducible rfl))
        case hSa5 => assumption
        try simp only [Act.put, List.setIfInBounds_toArray, List.set_cons_zero, List.set_cons_succ]
        refine' wpAnyH_take (i := 6) ?hia6 ?hsa6 ?hfa6 ?hra6 ?hQa6 ?hya6 ?hSa6 ?ha6
        case hia6 => (simp only [List.getElem?_toArray, List.getElem?_cons_succ, List.getElem?_cons_zero]; exact rfl)
        case hsa6 => kernel_rfl
        case hfa6 => kernel_rfl
        case hra6 => kernel_rfl
        case hQa6 => exact fun _ _ _ h => h
        case hya6 => (first | (refine Or.inr ⟨by rfl, ?_⟩; rfl) | (refine Or.inl ⟨by rfl, ?_⟩; (intro w hSw; (try dsimp only at hSw); go_simp); try with_reducible rfl))
        case hSa6 => assumption
        try simp only [Act.put, List.setIfInBounds_toArray, List.set_cons_zero, List.set_cons_succ]
        refine' wpAnyH_take (i := 7) ?hia7 ?hsa7 ?hfa7 ?hra7 ?hQa7 ?hya7 ?hSa7 ?ha7
        case hia7 => (simp only [List.getElem?_toArray, List.getElem?_cons_succ, List.getElem?_cons_zero]; exact rfl)
        case hsa7 => kernel_rfl
        case hfa7 => kernel_rfl
        case hra7 => kernel_rfl
        case hQa7 => exact fun _ _ _ h => h
        case hya7 => (first | (refine Or.inr ⟨by rfl, ?_⟩; rfl) | (refine Or.inl ⟨by rfl, ?_⟩; (intro w hSw; (try dsimp only at hSw); go_simp); try with_reducible rfl))
        case hSa7 => assumption
        try simp only [Act.put, List.setIfInBounds_toArray, List.set_cons_zero, List.set_cons_succ]
        refine' wpAnyH_take (i := 8) ?hia8 ?hsa8 ?hfa8 ?hra8 ?hQa8 ?hya8 ?hSa8 ?ha8
        case hia8 => (simp only [List.getElem?_toArray, List.getElem?_cons_succ, List.getElem?_cons_zero]; exact rfl)
        case hsa8 => kernel_rfl
        case hfa8 => kernel_rfl
        case hra8 => kernel_rfl
        case hQa8 => exact fun _ _ _ h => h
        case hya8 => (first | (refine Or.inr ⟨by rfl, ?_⟩; rfl) | (refine Or.inl ⟨by rfl, ?_⟩; (intro w hSw; (try dsimp only at hSw); go_simp); try with_reducible rfl))
        case hSa8 => assumption
        try simp only [Act.put, List.setIfInBounds_toArray, List.set_cons_zero, List.set_cons_succ]
        refine' wpAnyH_take (i := 9) ?hia9 ?hsa9 ?hfa9 ?hra9 ?hQa9 ?hya9 ?hSa9 ?ha9
        case hia9 => (simp only [List.getElem?_toArray, List.getElem?_cons_succ, List.getElem?_cons_zero]; exact rfl)
        case hsa9 => kernel_rfl
        case hfa9 => kernel_rfl
        case hra9 => kernel_rfl
        case hQa9 => exact fun _ _ _ h => h
        case hya9 => (first | (refine Or.inr ⟨by rfl, ?_⟩; rfl) | (refine Or.inl ⟨by rfl, ?_⟩; (intro w hSw; (try dsimp only at hSw); go_simp); try with_reducible rfl))
        case hSa9 => assumption
        try simp only [Act.put, List.setIfInBounds_toArray, List.set_cons_zero, List.set_cons_succ]
        refine' wpAnyH_take (i := 10) ?hia10 ?hsa10 ?hfa10 ?hra10 ?hQa10 ?hya10 ?hSa10 ?ha10
        case hia10 => (simp only [List.getElem?_toArray, List.getElem?_cons_succ, List.getElem?_cons_zero]; exact rfl)
        case hsa10 => kernel_rfl
        case hfa10 => kernel_rfl
        case hra10 => kernel_rfl
        case hQa10 => exact fun _ _ _ h => h
        case hya10 => (first | (refine Or.inr ⟨by rfl, ?_⟩; rfl) | (refine Or.inl ⟨by rfl, ?_⟩; (intro w hSw; (try dsimp only at hSw); go_simp); try with_reducible rfl))
        case hSa10 => assumption
        try simp only [Act.put, List.setIfInBounds_toArray, List.set_cons_zero, List.set_cons_succ]
        refine' wpAnyH_take (i := 11) ?hia11 ?hsa11 ?hfa11 ?hra11 ?hQa11 ?hya11 ?hSa11 ?ha11
        case hia11 => (simp only [List.getElem?_toArray, List.getElem?_cons_succ, List.getElem?_cons_zero]; exact rfl)
        case hsa11 => kernel_rfl
        case hfa11 => kernel_rfl
        case hra11 => kernel_rfl
        case hQa11 => exact fun _ _ _ h => h
        case hya11 => (first | (refine Or.inr ⟨by rfl, ?_⟩; rfl) | (refine Or.inl ⟨by rfl, ?_⟩; (intro w hSw; (try dsimp only at hSw); go_simp); try with_reducible rfl))
        case hSa11 => assumption
        try simp only [Act.put, List.setIfInBounds_toArray, List.set_cons_zero, List.set_cons_succ]
        refine' wpAnyH_take (i := 12) ?hia12 ?hsa12 ?hfa12 ?hra12 ?hQa12 ?hya12 ?hSa12 ?ha12
        case hia12 => (simp only [List.getElem?_toArray, List.getElem?_cons_succ, List.getElem?_cons_zero]; exact rfl)
        case hsa12 => kernel_rfl
        case hfa12 => kernel_rfl
        case hra12 => kernel_rfl
        case hQa12 => exact fun _ _ _ h => h
        case hya12 => (first | (refine Or.inr ⟨by rfl, ?_⟩; rfl) | (refine Or.inl ⟨by rfl, ?_⟩; (intro w hSw; (try dsimp only at hSw); go_simp); try with_reducible rfl))
        case hSa12 => assumption
        try simp only [Act.put, List.setIfInBounds_toArray, List.set_cons_zero, List.set_cons_succ]
        refine' wpAnyH_take (i := 13) ?hia13 ?hsa13 ?hfa13 ?hra13 ?hQa13 ?hya13 ?hSa13 ?ha13
        case hia13 => (simp only [List.getElem?_toArray, List.getElem?_cons_succ, List.getElem?_cons_zero]; exact rfl)
        case hsa13 => kernel_rfl
        case hfa13 => kernel_rfl
        case hra13 => kernel_rfl
        case hQa13 => exact fun _ _ _ h => h
        case hya13 => (first | (refine Or.inr ⟨by rfl, ?_⟩; rfl) | (refine Or.inl ⟨by rfl, ?_⟩; (intro w hSw; (try dsimp only at hSw); go_simp); try with_reducible rfl))
        case hSa13 => assumption
        try simp only [Act.put, List.setIfInBounds_toArray, List.set_cons_zero, List.set_cons_succ]
        refine wpAnyH_ready (rs := [14]) (by kernel_rfl) (by simp) ?_
        refine' AllReadyH.cons ?hia14 (fun K hK => ?ha14) AllReadyH.nil
        case hia14 => (simp only [List.getElem?_toArray, List.getElem?_cons_succ, List.getElem?_cons_zero]; exact rfl)
        go_simp
        refine hK.out _ _ (by go_keep) (fun hHeld => ?_)
        clear hK K
        refine' wpAnyH_take (i := 15) ?hia15 ?hsa15 ?hfa15 ?hra15 ?hQa15 ?hya15 ?hSa15 ?ha15
        case hia15 => (simp only [List.getElem?_toArray, List.getElem?_cons_succ, List.getElem?_cons_zero]; exact rfl)
        case hsa15 => kernel_rfl
        case hfa15 => kernel_rfl
        case hra15 => kernel_rfl
        case hQa15 => exact fun _ _ _ h => h
        case hya15 => (first | (refine Or.inr ⟨by rfl, ?_⟩; rfl) | (refine Or.inl ⟨by rfl, ?_⟩; (intro w hSw; (try dsimp only at hSw); go_simp); try with_reducible rfl))
        case hSa15 => assumption
        try simp only [Act.put, List.setIfInBounds_toArray, List.set_cons_zero, List.set_cons_succ]
        refine wpAnyH_done (by kernel_rfl) ?_ _
        refine NoPanic.normal ?_
        all_goals go_wp2
        all_goals exact entry_end RD.out.r rfl rfl rfl ⟨by rw [hV.out, hk.out, hno.out], below_drewN (below_drewN (set5_below hB40.out (Nat.le_refl _) _ _ _ _ _) 1) 1⟩
end Go.Proofs.YtimdnfakgobadaaDoor
