/- AddrBack: the walk. -/
import Derived.Test.YtohfeoahdbfjbaaDoorBl
namespace Go.Proofs.YtohfeoahdbfjbaaDoor
open Go.ChangeShapes Go.WideShapes Go.ChangeAt Go.RowKit
set_option linter.unusedVariables false
set_option linter.unusedSimpArgs false

set_option maxRecDepth 100000 in
set_option maxHeartbeats 2000000 in
theorem addrback_1 (W : World) (hg : HStr W) (a : Nat) (s : ByteArray) (ha : a < 4294967296) (hs : s.size ≤ 1048576) (c : Nat) (hc : c < 4294967296) (he : s.data.toList = addrT c) :
    Calls Tryd.prog 4 #[.int .u32 (a : Int), .string s] W fun e w' => e = .returned (.bool true) ∧ Below W.heap.size W w' := by
  have HE := Lib.hid he
  have HES : Hid (strV (addrT c) = .string s) := Lib.hid (by rw [← he])
  clear he
  have HG := Lib.hid hg
  have hst := BL.start W
  have HB := Lib.hid hst
  clear hst hg
  go_enter Tryd.func4, Tryd.ntmps4
  go_wp2_with fail
  go_at_call 21
  (with_reducible refine (Text_any a _ (HG.out.on HB.out.bel) ha).mono ?_); rintro e w1 ⟨rfl, hb⟩
  have hB := HB.out.below hb
  clear HB hb
  have zz := hB.bel.size
  have HB := Lib.hid hB; clear hB
  go_wp2_with fail
  go_at_call 20
  (with_reducible refine (Parse_ok a ⟨(addrT a).toArray⟩ _ (HG.out.on HB.out.bel) ha rfl).mono ?_); rintro e w2 ⟨rfl, hb⟩
  have hB := HB.out.below hb
  clear HB hb zz
  have zz := hB.bel.size
  have HB := Lib.hid hB; clear hB
  go_wp2_with fail
  go_at_call 20
  (with_reducible refine (Parse_ok c s _ (HG.out.on HB.out.bel) hc HE.out).mono ?_); rintro e w3 ⟨rfl, hb⟩
  have hB := HB.out.below hb
  clear HB hb zz
  have zz := hB.bel.size
  have HB := Lib.hid hB; clear hB
  go_wp2_with fail
  go_at_call 21
  (with_reducible refine (Text_any c _ (HG.out.on HB.out.bel) hc).mono ?_); rintro e w4 ⟨rfl, hb⟩; rw [HES.out]
  have hB := HB.out.below hb
  clear HB hb zz
  have zz := hB.bel.size
  have HB := Lib.hid hB; clear hB
  go_wp2
  go_ret
  exact ⟨rfl, (HB.out).bel⟩

set_option maxRecDepth 100000 in
set_option maxHeartbeats 2000000 in
theorem addrback_2 (W : World) (hg : HStr W) (a : Nat) (s : ByteArray) (ha : a < 4294967296) (hs : s.size ≤ 1048576) (he : ∀ c : Nat, c < 4294967296 → s.data.toList ≠ addrT c) :
    Calls Tryd.prog 4 #[.int .u32 (a : Int), .string s] W fun e w' => e = .returned (.bool true) ∧ Below W.heap.size W w' := by
  have HE := Lib.hid he
  clear he
  have HG := Lib.hid hg
  have hst := BL.start W
  have HB := Lib.hid hst
  clear hst hg
  go_enter Tryd.func4, Tryd.ntmps4
  go_wp2_with fail
  go_at_call 21
  (with_reducible refine (Text_any a _ (HG.out.on HB.out.bel) ha).mono ?_); rintro e w1 ⟨rfl, hb⟩
  have hB := HB.out.below hb
  clear HB hb
  have zz := hB.bel.size
  have HB := Lib.hid hB; clear hB
  go_wp2_with fail
  go_at_call 20
  (with_reducible refine (Parse_ok a ⟨(addrT a).toArray⟩ _ (HG.out.on HB.out.bel) ha rfl).mono ?_); rintro e w2 ⟨rfl, hb⟩
  have hB := HB.out.below hb
  clear HB hb zz
  have zz := hB.bel.size
  have HB := Lib.hid hB; clear hB
  go_wp2_with fail
  go_at_call 20
  (with_reducible refine (Parse_bad s _ (HG.out.on HB.out.bel) hs HE.out).mono ?_); rintro e w3 ⟨rfl, hb⟩
  have hB := HB.out.below hb
  clear HB hb zz
  have zz := hB.bel.size
  have HB := Lib.hid hB; clear hB
  go_wp2
  go_ret
  exact ⟨rfl, (HB.out).bel⟩

theorem AddrBack_walk (W : World) (x : Int) (hx : 0 ≤ x ∧ x ≤ 4294967295) (s : ByteArray) (hr : s.size ≤ reachBytes) (hg : HStr W) (hk : 1 + (s.size + 1) ≤ 1048576) :
    Calls Tryd.prog 4 #[.int .u32 x, .string s] W fun e w' => e = .returned (.bool true) ∧ Below W.heap.size W w' := by
  obtain ⟨a, rfl⟩ := Int.eq_ofNat_of_zero_le hx.1
  have ha : a < 4294967296 := by omega
  by_cases h : ∃ c : Nat, c < 4294967296 ∧ s.data.toList = addrT c
  · obtain ⟨c, hc, he⟩ := h
    exact addrback_1 W hg a s ha (by omega) c hc he
  · exact addrback_2 W hg a s ha (by omega) (fun c hc he => h ⟨c, hc, he⟩)
end Go.Proofs.YtohfeoahdbfjbaaDoor
