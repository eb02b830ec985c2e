/- wire.Decode of less than four bytes. -/
import Derived.Test.YtimdnfakgobadaaDoorWireG
namespace Go.Proofs.YtimdnfakgobadaaDoor
open Go.ChangeShapes Go.WideShapes Go.ChangeAt Go.RowKit
set_option linter.unusedVariables false
set_option linter.unusedSimpArgs false
set_option maxRecDepth 100000 in
set_option maxHeartbeats 2000000 in
theorem Decode_short {w : World} {A : Option Addr} {n c : Nat} {l : List Int} (hr : R1 rdBytes w (.slice A n c) l) (h4 : n < 4) :
    Calls Tryd.prog 18 #[.slice A n c] w (DecPost l w) := by
  obtain ⟨hn, hnc, hcm⟩ := RdSlice.len hr
  have hl4 : l.length < 4 := by omega
  have hb := rdBytes_rng hr
  obtain ⟨x0, x1, x2, x3, hx⟩ : ∃ x0 x1 x2 x3, hd4 l = [x0, x1, x2, x3] := by
    unfold hd4
    match l, hl4 with
    | [], _ => exact ⟨_, _, _, _, rfl⟩
    | [_], _ => exact ⟨_, _, _, _, rfl⟩
    | [_, _], _ => exact ⟨_, _, _, _, rfl⟩
    | [_, _, _], _ => exact ⟨_, _, _, _, rfl⟩
  have hsp : Hid (splice [2, 2, 0, 0] 0 (l.take 4) = [x0, x1, x2, x3]) := Lib.hid (by
    rw [splice_zero, List.take_of_length_le (by omega), ← hx]; unfold hd4; rw [List.take_of_length_le (by omega)])
  have hok : hdOk l ↔ (x0 = 1 ∨ x0 = 2) ∧ x1 = 2 ∧ x2 = 0 ∧ x3 = 0 := by unfold hdOk; rw [hx]; simp [g]
  have h4' : (n : Int) < 4 := by omega
  have hD : decM l = if hdOk l then ((false, []), 6) else ((false, []), 3) := by unfold decM; simp only [hl4, if_true]
  have HOK := Lib.hid hok
  have HD := Lib.hid hD
  clear hok hD hx hn hcm hl4 hb
  go_enter Tryd.func18, Tryd.ntmps18
  go_upto_region 6 with (refine wpList_copy_bytes rfl (.tmp 15) (.tmp 16) 36 5 rfl Tryd.underlying36 byte_one (w.heap.size + 1) 0 4 4 _ _ _ rfl rfl [2, 2, 0, 0] l (by rw [← World.size_alloc w]; exact heap_alloc_new _ _) (R1.alloc (R1.alloc hr _) _) (by decide) (w.heap.size + 1) (w.alloc (.cells #[.bool false, .slice none 0 0] 35)) ((Below.refl _ _).alloc (by simp) _) (Nat.le_refl _) ?_; intro k1 w1 H1 hb1)
  have h1 := H1.out
  rw [hsp.out] at h1
  have e0 : w1.cell? ⟨w.heap.size + 1, 0, none⟩ = some (.int .u8 x0) := by rw [cell_of_row _ _ _ _ _ (0, 0) h1]; rfl
  have e1 : w1.cell? ⟨w.heap.size + 1, 1, none⟩ = some (.int .u8 x1) := by rw [cell_of_row _ _ _ _ _ (0, 0) h1]; rfl
  have e2 : w1.cell? ⟨w.heap.size + 1, 2, none⟩ = some (.int .u8 x2) := by rw [cell_of_row _ _ _ _ _ (0, 0) h1]; rfl
  have e3 : w1.cell? ⟨w.heap.size + 1, 3, none⟩ = some (.int .u8 x3) := by rw [cell_of_row _ _ _ _ _ (0, 0) h1]; rfl
  have BR : Hid (w1.heap[w.heap.size]? = some (.cells #[.bool false, .slice none 0 0] 35 (0, 0))) := Lib.hid ((hb1.block _ (by omega)).trans (heap_alloc_new _ _))
  have hz1 : w.heap.size < w1.heap.size := size_of_block BR.out
  have hB1 : Hid (Below w.heap.size w w1) := Lib.hid (((Below.refl _ _).alloc (Nat.le_refl _) _).trans (hb1.mono (by omega)))
  obtain ⟨z0, z1, f0, f1⟩ := row2 BR.out
  clear h1 H1 hb1 hsp hr
  have HBAD : Hid (¬ ((x0 = 1 ∨ x0 = 2) ∧ x1 = 2 ∧ x2 = 0 ∧ x3 = 0) → decM l = ((false, []), 3)) := Lib.hid fun h => by rw [HD.out, if_neg (fun hh => h (HOK.out.1 hh))]
  rcases head_ways x0 x1 x2 x3 with ⟨ta | ⟨ta, ta'⟩, ⟨tb, ⟨tc, ⟨td, HX⟩ | ⟨td, HX⟩⟩ | ⟨tc, HX⟩⟩ | ⟨tb, HX⟩⟩ | ⟨ta, tb, HX⟩
  case inl.inl.inl.inl.inl | inl.inr.inl.inl.inl =>
    go_wp2
    refine wp_loop_rounds 1 ?_
    rw [rounds_succ]
    go_wp2
    exact dec_end (set2_block_a _ _ _ BR.out) rfl rfl rfl (dec_none_a _ _ (Nat.le_refl _) (.inr ⟨by rw [HD.out, if_pos (HOK.out.2 HX.out)], rfl⟩) hB1.out)
  all_goals
    go_wp2
    exact dec_end (set2_block _ _ BR.out) rfl rfl rfl (dec_none _ (Nat.le_refl _) (.inl ⟨HBAD.out HX.out, rfl⟩) hB1.out)
end Go.Proofs.YtimdnfakgobadaaDoor
