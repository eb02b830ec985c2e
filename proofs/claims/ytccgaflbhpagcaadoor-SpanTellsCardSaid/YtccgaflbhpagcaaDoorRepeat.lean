/- waywardenref1.Repeat; a row of the own of integers that is written. -/
import Derived.Test.YtccgaflbhpagcaaDoorOwnI
import Derived.Test.YtccgaflbhpagcaaDoorInts
namespace Go.Proofs.YtccgaflbhpagcaaDoor
open Go.ChangeShapes Go.WideShapes Go.ChangeAt Go.RowKit
set_option linter.unusedVariables false
theorem int_info_ : (Tryd.prog.info? 3).map (fun i => (i.zero, i.size, i.bytes)) = some (some (.int .i64 0), 1, 8) := by kernel_rfl
theorem OwnI.set {e : TypeId} {w : World} {base g c n : Nat} {xs : List Int} (h : OwnI e w base (.slice (some ⟨g, 0, none⟩) n c) xs) {k : Nat} {y : Int} (hy : (Lit.int .i64 y).wf = true) :
    OwnI e (w.setCell ⟨g, k, none⟩ (.int .i64 y)) base (.slice (some ⟨g, 0, none⟩) n c) (xs.set k y) := by
  obtain ⟨⟨h1, h2⟩, h3⟩ := h
  rcases h2 with ⟨e1, _⟩ | ⟨g', cap, cur, e1, hb, hg, hn, hc, hs, ht⟩
  · cases e1
  · simp only [Value.slice.injEq, Option.some.injEq, Addr.mk.injEq, and_true] at e1
    obtain ⟨rfl, hlen, rfl⟩ := e1
    have a1 := heap_setCell_same w g k _ _ (.int .i64 y) hg
    refine ⟨⟨by simp, .inr ⟨g, c, _, by rw [hlen, List.length_set], hb, a1, by rw [List.length_set]; exact hn, hc, by simpa using hs, ?_⟩⟩, fun q hq => ?_⟩
    · rw [List.map_set, ← ht]
      simp [List.take_set]
    · rcases List.mem_or_eq_of_mem_set hq with hq | rfl
      · exact h3 q hq
      · exact hy
theorem OwnI.some_ {e : TypeId} {w : World} {base : Nat} {v : Value} {xs : List Int} (h : OwnI e w base v xs) (h0 : 0 < xs.length) : ∃ g c, v = .slice (some ⟨g, 0, none⟩) xs.length c ∧ base ≤ g ∧ g < w.heap.size := by
  rcases h.1.2 with ⟨_, e1⟩ | ⟨g, cap, cur, e1, hb, hg, _⟩
  · omega
  · exact ⟨g, cap, e1, hb, size_of_block hg⟩
theorem OwnI.at_ {e : TypeId} {w : World} {base g n c : Nat} {xs : List Int} (h : OwnI e w base (.slice (some ⟨g, 0, none⟩) n c) xs) {k : Nat} {x : Int} (hx : xs[k]? = some x) :
    w.cell? ⟨g, k, none⟩ = some (.int .i64 x) ∧ w.frozen? ⟨g, k, none⟩ = false := by
  have hk := (List.getElem?_eq_some_iff.1 hx).1
  rcases h.1.2 with ⟨e1, _⟩ | ⟨g', cap, cur, e1, hb, hg, hn, hc, hs, ht⟩
  · cases e1
  simp only [Value.slice.injEq, Option.some.injEq, Addr.mk.injEq, and_true] at e1
  obtain ⟨rfl, hlen, rfl⟩ := e1
  refine ⟨?_, frozen_of_row _ g _ _ _ hg⟩
  rw [cell_of_row _ g _ _ _ (0, 0) hg]
  have h1 : (cur.toList.take (xs.length * 1))[k]? = some (.int .i64 x) := by rw [ht, List.getElem?_map, hx]; rfl
  rw [List.getElem?_take_of_lt (by omega)] at h1
  simpa using h1
theorem OwnI.setBelow {e : TypeId} {w : World} {base : Nat} {v : Value} {xs : List Int} (h : OwnI e w base v xs) {a : Addr} (ha : a.block < base) (u : Value) : OwnI e (w.setCell a u) base v xs := ⟨ownsRow_setCell_below h.1 ha u, h.2⟩
set_option maxRecDepth 100000 in
set_option maxHeartbeats 1000000 in
theorem Repeat_any {w : World} {n : Nat} {x : Int} (hx : (Lit.int .i64 x).wf = true) (hn : n ≤ 1000000) :
    Calls Tryd.prog 21 #[.int .i64 x, .int .i64 n] w fun e w' => ∃ v, e = .returned v ∧ OwnI 3 w' w.heap.size v (List.replicate n x) ∧ Below w.heap.size w w' := by
  have HX := Lib.hid hx
  clear hx
  go_enter Tryd.func21, Tryd.ntmps21
  go_wp2
  go_loopw [5, 6] (fun v t wr => ∃ k : Nat, k ≤ n ∧ t = .int .i64 k ∧ OwnI 3 wr w.heap.size v (List.replicate k x) ∧ Below w.heap.size w wr) (fun _ t _ => n - (intOf t).toNat)
  case atStart => exact ⟨0, Nat.zero_le _, rfl, OwnI.nil_ _ _ _, Below.refl _ _⟩
  case round =>
    obtain ⟨k, hk, rfl, hown, hb⟩ := hrel
    have HOWN := Lib.hid hown
    have HB := Lib.hid hb
    have s1 := hb.size
    clear hown hb
    by_cases hlt : k < n
    · have hlen : (List.replicate k x).length ≤ 5864062014000 := by simp; omega
      have HREP := Lib.hid (show List.replicate (k + 1) x = List.replicate k x ++ [x] by rw [List.replicate_succ'])
      go_wp2_with (first
        | (at_builtin; go_loud (refine wpList_append_int rfl _ _ 26 3 Tryd.underlying26 int_info_ rfl w.heap.size _ _ rfl (HOWN.out.alloc _) wr.heap.size x 3 rfl (heap_alloc_new wr _) HX.out hlen (by simp; omega) ?_); intro v' w2 hown2 hgrow2)
        | go_in)
      have s2 := hgrow2.size
      simp at s2
      go_roundw
      case rel => exact ⟨k + 1, by omega, by go_num, by rw [HREP.out]; exact hown2, hgrow2.below (HB.out.alloc s1 _) (HOWN.out.alloc _).1 (Nat.le_refl _) (by simp; omega)⟩
      case measure => simp [intOf]; omega
    · have ek : k = n := by omega
      subst ek
      go_wp2
      go_ret
      exact ⟨_, rfl, HOWN.out, HB.out⟩
end Go.Proofs.YtccgaflbhpagcaaDoor
