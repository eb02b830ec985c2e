/- span.turned. -/
import Derived.Test.YtccgaflbhpagcaaDoorLinkRow
namespace Go.Proofs.YtccgaflbhpagcaaDoor
open Go.ChangeShapes Go.WideShapes Go.ChangeAt Go.RowKit Sp
set_option linter.unusedVariables false
def turnL (x : Lnk) : Lnk := (x.2.1, x.1, x.2.2)
set_option maxRecDepth 100000 in
set_option maxHeartbeats 1000000 in
theorem turned_any {w : World} {A : Option Addr} {m c : Nat} {l : List Lnk} (hl : R1 rdLinks w (.slice A m c) l) (hr : l.length ≤ 5864062013000) :
    Calls Tryd.prog 24 #[.slice A m c] w fun e w' => ∃ v, e = .returned v ∧ R1 (RdSlice 3 rdT) w' v (l.map turnL) ∧ Below w.heap.size w w' := by
  obtain ⟨hm, hle, hcm⟩ := RdSlice.len hl
  have hm0 : m ≤ 9223372036854775807 := by unfold maxLen at hcm; omega
  have hm1 : m ≤ 5864062013000 := by omega
  have HL := Lib.hid hl
  have HM := Lib.hid hm
  clear hl hm hcm hle hr
  go_enter Tryd.func24, Tryd.ntmps24
  go_wp2
  go_loopw [3, 8] (fun v t wr => ∃ k : Nat, k ≤ m ∧ t = .int .i64 k ∧ OwnT 29 wr w.heap.size v ((l.take k).map turnL) ∧ Below w.heap.size w wr)
    (fun _ t _ => m - (intOf t).toNat)
  case atStart => exact ⟨0, Nat.zero_le _, rfl, OwnT.nil_ _ _ _, Below.refl _ _⟩
  case round =>
    obtain ⟨k, hk, rfl, hown, hb⟩ := hrel
    have HOWN := Lib.hid hown
    have HB := Lib.hid hb
    clear hown hb
    by_cases hlt : k < m
    · obtain ⟨b, o, x, y, z, rfl, hbb, HX, ⟨wx, wy, wz⟩, d0, d1, d2⟩ := RdSlice.atL HL.out hlt
      have c0 := (HB.out.cell hbb).trans d0
      have c1 := (HB.out.cell hbb).trans d1
      have c2 := (HB.out.cell hbb).trans d2
      have HW := Lib.hid (show wf3 y x z from ⟨wy, wx, wz⟩)
      have s1 := HB.out.size
      have hlen : ((l.take k).map turnL).length ≤ 5864062014000 := by rw [List.length_map, List.length_take]; omega
      clear d0 d1 d2 wx wy wz
      go_wp2_with (first
        | (at_builtin; go_loud (refine wpList_append_three rfl _ _ 22 29 Tryd.underlying22 link_info rfl w.heap.size _ _ rfl ((HOWN.out.alloc _).alloc _) (wr.heap.size + 1) (y, x, z) 29 rfl (by have := heap_alloc_new (wr.alloc (.cells #[.int .i64 x, .int .i64 y, .int .i64 z] 29 (0, 0))) (.cells #[.int .i64 y, .int .i64 x, .int .i64 z] 29 (0, 0)); rw [World.size_alloc] at this; exact this) HW.out hlen (by simp; omega) ?_); intro v' w2 hown2 hgrow2)
        | go_in)
      have s2 := hgrow2.size
      simp at s2
      go_roundw
      case rel =>
        refine ⟨k + 1, by omega, by go_num, ?_, ?_⟩
        · rw [List.take_add_one, HX.out, List.map_append]
          exact hown2
        · exact hgrow2.below ((HB.out.alloc s1 _).alloc (by simp; omega) _) ((HOWN.out.alloc _).alloc _).1 (Nat.le_refl _) (by simp; omega)
      case measure => simp [intOf]; omega
    · have ek : k = m := by omega
      subst ek
      have e : l.take k = l := List.take_of_length_le (by rw [HM.out]; exact Nat.le_refl _)
      have HE := Lib.hid e
      clear e
      go_wp2
      go_ret
      exact ⟨_, rfl, by have := HOWN.out.read; rw [HE.out] at this; exact this, HB.out⟩
end Go.Proofs.YtccgaflbhpagcaaDoor
