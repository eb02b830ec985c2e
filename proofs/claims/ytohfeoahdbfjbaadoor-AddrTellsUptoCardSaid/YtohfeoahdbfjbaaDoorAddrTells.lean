/- AddrTells: the walk. -/
import Derived.Test.YtohfeoahdbfjbaaDoorBl
import Derived.Test.YtohfeoahdbfjbaaDoorRefA
import Derived.Test.YtohfeoahdbfjbaaDoorErr
namespace Go.Proofs.YtohfeoahdbfjbaaDoor
open Go.ChangeShapes Go.WideShapes Go.ChangeAt Go.RowKit
set_option linter.unusedVariables false
set_option linter.unusedSimpArgs false

set_option maxRecDepth 100000 in
set_option maxHeartbeats 2000000 in
theorem addrtells_1 (W : World) (hg : HStr W) (hg2 : HErr W) (a : Nat) (s : ByteArray) (ha : a < 4294967296) (hs : s.size ≤ 1048576) (c : Nat) (hc : c < 4294967296) (he : s.data.toList = addrT c) :
    Calls Tryd.prog 10 #[.int .u32 (a : Int), .string s] W fun e w' => e = .returned (.bool true) ∧ Below W.heap.size W w' := by
  have HE := Lib.hid he
  have HG2 := Lib.hid hg2
  clear he hg2
  have HG := Lib.hid hg
  have hst := BL.start W
  have HB := Lib.hid hst
  clear hst hg
  go_enter Tryd.func10, Tryd.ntmps10
  go_wp2_with fail
  go_at_call 32
  (with_reducible refine (AddrOf_yes c s _ hc HE.out).mono ?_); rintro e w1 ⟨rfl, hb⟩
  have hB := HB.out.below hb
  clear HB hb
  have zz := hB.bel.size
  have HB := Lib.hid hB; clear hB
  go_wp2_with fail
  go_at_call 20
  (with_reducible refine (Parse_ok c s _ (HG.out.on HB.out.bel) hc HE.out).mono ?_); rintro e w2 ⟨rfl, hb⟩
  have hB := HB.out.below hb
  clear HB hb zz
  have zz := hB.bel.size
  have HB := Lib.hid hB; clear hB
  go_wp2_with fail
  go_at_call 16
  (with_reducible refine (error_is (k := 0) (e := 0) (v := .nilIface) (r := true) errV_zero rfl _ (HG2.out.below HB.out.bel)).mono ?_); rintro e w3 ⟨rfl, hb⟩
  have hB := HB.out.below hb
  clear HB hb zz
  have zz := hB.bel.size
  have HB := Lib.hid hB; clear hB
  go_wp2_with fail
  go_at_call 21
  (with_reducible refine (Text_any a _ (HG.out.on HB.out.bel) ha).mono ?_); rintro e w4 ⟨rfl, hb⟩
  have hB := HB.out.below hb
  clear HB hb zz
  have zz := hB.bel.size
  have HB := Lib.hid hB; clear hB
  go_wp2_with fail
  go_at_call 33
  (with_reducible refine (AddrText_any a _ ha).mono ?_); rintro e w5 ⟨rfl, hb⟩
  have hB := HB.out.below hb
  clear HB hb zz
  have zz := hB.bel.size
  have HB := Lib.hid hB; clear hB
  go_wp2
  go_ret
  exact ⟨rfl, (HB.out).bel⟩

set_option maxRecDepth 100000 in
set_option maxHeartbeats 2000000 in
theorem addrtells_2 (W : World) (hg : HStr W) (hg2 : HErr W) (a : Nat) (s : ByteArray) (ha : a < 4294967296) (hs : s.size ≤ 1048576) (he : ∀ c : Nat, c < 4294967296 → s.data.toList ≠ addrT c) :
    Calls Tryd.prog 10 #[.int .u32 (a : Int), .string s] W fun e w' => e = .returned (.bool true) ∧ Below W.heap.size W w' := by
  have HE := Lib.hid he
  have HG2 := Lib.hid hg2
  clear he hg2
  have HG := Lib.hid hg
  have hst := BL.start W
  have HB := Lib.hid hst
  clear hst hg
  go_enter Tryd.func10, Tryd.ntmps10
  go_wp2_with fail
  go_at_call 32
  (with_reducible refine (AddrOf_no s _ hs HE.out).mono ?_); rintro e w1 ⟨rfl, hb⟩
  have hB := HB.out.below hb
  clear HB hb
  have zz := hB.bel.size
  have HB := Lib.hid hB; clear hB
  go_wp2_with fail
  go_at_call 20
  (with_reducible refine (Parse_bad s _ (HG.out.on HB.out.bel) hs HE.out).mono ?_); rintro e w2 ⟨rfl, hb⟩
  have hB := HB.out.below hb
  clear HB hb zz
  have zz := hB.bel.size
  have HB := Lib.hid hB; clear hB
  go_wp2_with fail
  go_at_call 16
  (with_reducible refine (error_is (k := 3) (e := 3) (v := .iface 25 (.int .i64 3)) (r := true) (errV_ne (by decide)) rfl _ (HG2.out.below HB.out.bel)).mono ?_); rintro e w3 ⟨rfl, hb⟩
  have hB := HB.out.below hb
  clear HB hb zz
  have zz := hB.bel.size
  have HB := Lib.hid hB; clear hB
  go_wp2_with fail
  go_at_call 21
  (with_reducible refine (Text_any a _ (HG.out.on HB.out.bel) ha).mono ?_); rintro e w4 ⟨rfl, hb⟩
  have hB := HB.out.below hb
  clear HB hb zz
  have zz := hB.bel.size
  have HB := Lib.hid hB; clear hB
  go_wp2_with fail
  go_at_call 33
  (with_reducible refine (AddrText_any a _ ha).mono ?_); rintro e w5 ⟨rfl, hb⟩
  have hB := HB.out.below hb
  clear HB hb zz
  have zz := hB.bel.size
  have HB := Lib.hid hB; clear hB
  go_wp2
  go_ret
  exact ⟨rfl, (HB.out).bel⟩

theorem AddrTells_walk (W : World) (x : Int) (hx : 0 ≤ x ∧ x ≤ 4294967295) (s : ByteArray) (hr : s.size ≤ reachBytes) (hg : HStr W) (hg2 : HErr W) (hk : 1 + (s.size + 1) ≤ 1048576) :
    Calls Tryd.prog 10 #[.int .u32 x, .string s] W fun e w' => e = .returned (.bool true) ∧ Below W.heap.size W w' := by
  obtain ⟨a, rfl⟩ := Int.eq_ofNat_of_zero_le hx.1
  have ha : a < 4294967296 := by omega
  by_cases h : ∃ c : Nat, c < 4294967296 ∧ s.data.toList = addrT c
  · obtain ⟨c, hc, he⟩ := h
    exact addrtells_1 W hg hg2 a s ha (by omega) c hc he
  · exact addrtells_2 W hg hg2 a s ha (by omega) (fun c hc he => h ⟨c, hc, he⟩)
end Go.Proofs.YtohfeoahdbfjbaaDoor
