/- PrefOrder: the walk. -/
import Derived.Test.YtohfeoahdbfjbaaDoorKnown
import Derived.BigQuiet
namespace Go.Proofs.YtohfeoahdbfjbaaDoor
open Go.ChangeShapes Go.WideShapes Go.ChangeAt Go.RowKit
set_option linter.unusedVariables false
set_option linter.unusedSimpArgs false

abbrev netB (a l : Int) : Obj := .cells #[.int .u32 a, .int .i64 l] 29 (0, 0)
theorem less_c {w : World} {a l b m : Int} {r : Bool} (h : lessB (a, l) (b, m) = r) (d : Nat) (os : Array Obj) :
    Calls Tryd.prog 28 #[.agg #[.int .u32 a, .int .i64 l], .agg #[.int .u32 b, .int .i64 m]] (Sort.grow (redrawn w d) os) fun e w'' => e = .returned (.bool r) ∧ ∃ p : Regrown, w'' = Sort.grow (redrawn w p.d) p.os :=
  Calls.regrown_of ((Less_any a l b m _).mono fun e w' ⟨he, hb⟩ => ⟨by rw [he, h], hb⟩)
theorem less_is {a l b m : Int} {r : Bool} (h : lessB (a, l) (b, m) = r) (w : World) :
    Calls Tryd.prog 28 #[.agg #[.int .u32 a, .int .i64 l], .agg #[.int .u32 b, .int .i64 m]] w fun e w' => e = .returned (.bool r) ∧ Below w.heap.size w w' :=
  (Less_any a l b m _).mono fun e w' ⟨he, hb⟩ => ⟨by rw [he, h], hb⟩
theorem in_is {a l b m : Int} {r : Bool} (h : inB (a, l) (b, m) = r) (ha : is32 a) (hb : is32 b) (w : World) :
    Calls Tryd.prog 27 #[.agg #[.int .u32 a, .int .i64 l], .agg #[.int .u32 b, .int .i64 m]] w fun e w' => e = .returned (.bool r) ∧ Below w.heap.size w w' :=
  (In_any a l b m _ ha hb).mono fun e w' ⟨he, hb⟩ => ⟨by rw [he, h], hb⟩
theorem has_is {a l x : Int} {r : Bool} (h : hasB (a, l) x = r) (ha : is32 a) (hx : is32 x) (w : World) :
    Calls Tryd.prog 26 #[.agg #[.int .u32 a, .int .i64 l], .int .u32 x] w fun e w' => e = .returned (.bool r) ∧ Below w.heap.size w w' :=
  (Has_any a l x _ ha hx).mono fun e w' ⟨he, hb⟩ => ⟨by rw [he, h], hb⟩
theorem B3.grow {W w : World} {o1 o2 o3 : Obj} (h : B3 W o1 o2 o3 w) (d : Nat) (os : Array Obj) : B3 W o1 o2 o3 (Sort.grow (redrawn w d) os) := h.below (below_regrown w d os)

set_option maxRecDepth 100000 in
set_option maxHeartbeats 2000000 in
theorem order_same (W : World) (hg : HStr W) (a l c n : Int) (ha : is32 a) :
    Calls Tryd.prog 7 #[.agg #[.int .u32 a, .int .i64 l], .agg #[.int .u32 a, .int .i64 l], .agg #[.int .u32 c, .int .i64 n]] W fun e w' => e = .returned (.bool true) ∧ Below W.heap.size W w' := by
  have HAA := Lib.hid (less_irr (a, l))
  obtain ⟨i, hi⟩ : ∃ i, inB (a, l) (a, l) = i := ⟨_, rfl⟩
  have HI := Lib.hid hi
  have HA := Lib.hid ha
  have HA2 := HA
  clear hi ha
  have HG := Lib.hid hg
  have hst := B3.start W (netB a l) (netB a l) (netB c n)
  have HB0 := Lib.hid hst
  clear hst hg
  go_enter Tryd.func7, Tryd.ntmps7
  go_wp2_with (first | (go_at_call 22; (with_reducible refine (known_any _ (HG.out.on HB0.out.bel)).mono ?_); rintro e w1 ⟨rfl, hb1⟩; have hB := HB0.out.below hb1; have HB := Lib.hid hB; clear hb1 hB) | fail)
  have k0 := fun d os => (HB.out.grow d os).cells.1
  have k1 := fun d os => (HB.out.grow d os).cells.2.1
  have k2 := fun d os => (HB.out.grow d os).cells.2.2.1
  have k3 := fun d os => (HB.out.grow d os).cells.2.2.2.1
  refine wp_region_quiet_below (by kernel_rfl) (by kernel_rfl) ?_
  repeat (go_big_quiet_step (first | (with_reducible exact less_c HAA.out _ _) | fail))
  refine wpQuiet_nil ?_
  intro _ hw'
  obtain ⟨⟨dq, osq⟩, hw''⟩ := hw'
  have hB := HB.out.grow dq osq
  rw [← hw''] at hB
  clear hw'' k0 k1 k2 k3 HB
  obtain ⟨d0, d1, d2, d3, d4, d5⟩ := hB.cells
  have HB := Lib.hid hB; clear hB
  go_wp2_with (first
    | (go_at_call 28; (with_reducible refine (less_is HAA.out _).mono ?_); rintro e w1 ⟨rfl, hb1⟩; have hB := HB.out.below hb1; clear HB d0 d1 d2 d3 d4 d5 hb1; obtain ⟨d0, d1, d2, d3, d4, d5⟩ := hB.cells; have HB := Lib.hid hB; clear hB)
    | (go_at_call 27; (with_reducible refine (in_is HI.out HA.out HA2.out _).mono ?_); rintro e w1 ⟨rfl, hb1⟩; have hB := HB.out.below hb1; clear HB d0 d1 d2 d3 d4 d5 hb1; obtain ⟨d0, d1, d2, d3, d4, d5⟩ := hB.cells; have HB := Lib.hid hB; clear hB)
    | fail)
  all_goals (go_ret; exact ⟨rfl, HB.out.bel⟩)
set_option maxRecDepth 100000 in
set_option maxHeartbeats 2000000 in
theorem order_a1 (W : World) (hg : HStr W) (a l b m c n : Int) (ha : is32 a) (hb : is32 b) (hne : ¬ a = b) (hab : lessB (a, l) (b, m) = true) (hba : lessB (b, m) (a, l) = false) (hbc : lessB (b, m) (c, n) = true) (hac : lessB (a, l) (c, n) = true) (hin : inB (a, l) (b, m) = false) :
    Calls Tryd.prog 7 #[.agg #[.int .u32 a, .int .i64 l], .agg #[.int .u32 b, .int .i64 m], .agg #[.int .u32 c, .int .i64 n]] W fun e w' => e = .returned (.bool true) ∧ Below W.heap.size W w' := by
  have t1 : (a == b) = false := by simpa using hne
  have HAA := Lib.hid (less_irr (a, l))
  have HAB := Lib.hid hab
  have HBA := Lib.hid hba
  have HA := Lib.hid ha
  have HA2 := Lib.hid hb
  clear ha hb hab hba
  have HBC := Lib.hid hbc
  have HAC := Lib.hid hac
  have HI := Lib.hid hin
  clear hbc hac hin
  have HG := Lib.hid hg
  have hst := B3.start W (netB a l) (netB b m) (netB c n)
  have HB0 := Lib.hid hst
  clear hst hg
  go_enter Tryd.func7, Tryd.ntmps7
  go_wp2_with (first | (go_at_call 22; (with_reducible refine (known_any _ (HG.out.on HB0.out.bel)).mono ?_); rintro e w1 ⟨rfl, hb1⟩; have hB := HB0.out.below hb1; have HB := Lib.hid hB; clear hb1 hB) | fail)
  have k0 := fun d os => (HB.out.grow d os).cells.1
  have k1 := fun d os => (HB.out.grow d os).cells.2.1
  have k2 := fun d os => (HB.out.grow d os).cells.2.2.1
  have k3 := fun d os => (HB.out.grow d os).cells.2.2.2.1
  refine wp_region_quiet_below (by kernel_rfl) (by kernel_rfl) ?_
  repeat (go_big_quiet_step (first | (with_reducible exact less_c HAA.out _ _) | (with_reducible exact less_c HAB.out _ _) | (with_reducible exact less_c HBA.out _ _) | (with_reducible exact less_c HBC.out _ _) | (with_reducible exact less_c HAC.out _ _) | fail))
  refine wpQuiet_nil ?_
  intro _ hw'
  obtain ⟨⟨dq, osq⟩, hw''⟩ := hw'
  have hB := HB.out.grow dq osq
  rw [← hw''] at hB
  clear hw'' k0 k1 k2 k3 HB
  obtain ⟨d0, d1, d2, d3, d4, d5⟩ := hB.cells
  have HB := Lib.hid hB; clear hB
  go_wp2_with (first
    | (go_at_call 28; (with_reducible refine (less_is HAA.out _).mono ?_); rintro e w1 ⟨rfl, hb1⟩; have hB := HB.out.below hb1; clear HB d0 d1 d2 d3 d4 d5 hb1; obtain ⟨d0, d1, d2, d3, d4, d5⟩ := hB.cells; have HB := Lib.hid hB; clear hB)
    | (go_at_call 28; (with_reducible refine (less_is HAB.out _).mono ?_); rintro e w1 ⟨rfl, hb1⟩; have hB := HB.out.below hb1; clear HB d0 d1 d2 d3 d4 d5 hb1; obtain ⟨d0, d1, d2, d3, d4, d5⟩ := hB.cells; have HB := Lib.hid hB; clear hB)
    | (go_at_call 28; (with_reducible refine (less_is HBA.out _).mono ?_); rintro e w1 ⟨rfl, hb1⟩; have hB := HB.out.below hb1; clear HB d0 d1 d2 d3 d4 d5 hb1; obtain ⟨d0, d1, d2, d3, d4, d5⟩ := hB.cells; have HB := Lib.hid hB; clear hB)
    | (go_at_call 28; (with_reducible refine (less_is HBC.out _).mono ?_); rintro e w1 ⟨rfl, hb1⟩; have hB := HB.out.below hb1; clear HB d0 d1 d2 d3 d4 d5 hb1; obtain ⟨d0, d1, d2, d3, d4, d5⟩ := hB.cells; have HB := Lib.hid hB; clear hB)
    | (go_at_call 28; (with_reducible refine (less_is HAC.out _).mono ?_); rintro e w1 ⟨rfl, hb1⟩; have hB := HB.out.below hb1; clear HB d0 d1 d2 d3 d4 d5 hb1; obtain ⟨d0, d1, d2, d3, d4, d5⟩ := hB.cells; have HB := Lib.hid hB; clear hB)
    | (go_at_call 27; (with_reducible refine (in_is HI.out HA.out HA2.out _).mono ?_); rintro e w1 ⟨rfl, hb1⟩; have hB := HB.out.below hb1; clear HB d0 d1 d2 d3 d4 d5 hb1; obtain ⟨d0, d1, d2, d3, d4, d5⟩ := hB.cells; have HB := Lib.hid hB; clear hB)
    | fail)
  all_goals (go_ret; exact ⟨rfl, HB.out.bel⟩)
set_option maxRecDepth 100000 in
set_option maxHeartbeats 2000000 in
theorem order_a2 (W : World) (hg : HStr W) (a l b m c n : Int) (ha : is32 a) (hb : is32 b) (hne : ¬ a = b) (hab : lessB (a, l) (b, m) = true) (hba : lessB (b, m) (a, l) = false) (hbc : lessB (b, m) (c, n) = false) (hin : inB (a, l) (b, m) = false) :
    Calls Tryd.prog 7 #[.agg #[.int .u32 a, .int .i64 l], .agg #[.int .u32 b, .int .i64 m], .agg #[.int .u32 c, .int .i64 n]] W fun e w' => e = .returned (.bool true) ∧ Below W.heap.size W w' := by
  have t1 : (a == b) = false := by simpa using hne
  have HAA := Lib.hid (less_irr (a, l))
  have HAB := Lib.hid hab
  have HBA := Lib.hid hba
  have HA := Lib.hid ha
  have HA2 := Lib.hid hb
  clear ha hb hab hba
  have HBC := Lib.hid hbc
  have HI := Lib.hid hin
  clear hbc hin
  have HG := Lib.hid hg
  have hst := B3.start W (netB a l) (netB b m) (netB c n)
  have HB0 := Lib.hid hst
  clear hst hg
  go_enter Tryd.func7, Tryd.ntmps7
  go_wp2_with (first | (go_at_call 22; (with_reducible refine (known_any _ (HG.out.on HB0.out.bel)).mono ?_); rintro e w1 ⟨rfl, hb1⟩; have hB := HB0.out.below hb1; have HB := Lib.hid hB; clear hb1 hB) | fail)
  have k0 := fun d os => (HB.out.grow d os).cells.1
  have k1 := fun d os => (HB.out.grow d os).cells.2.1
  have k2 := fun d os => (HB.out.grow d os).cells.2.2.1
  have k3 := fun d os => (HB.out.grow d os).cells.2.2.2.1
  refine wp_region_quiet_below (by kernel_rfl) (by kernel_rfl) ?_
  repeat (go_big_quiet_step (first | (with_reducible exact less_c HAA.out _ _) | (with_reducible exact less_c HAB.out _ _) | (with_reducible exact less_c HBA.out _ _) | (with_reducible exact less_c HBC.out _ _) | fail))
  refine wpQuiet_nil ?_
  intro _ hw'
  obtain ⟨⟨dq, osq⟩, hw''⟩ := hw'
  have hB := HB.out.grow dq osq
  rw [← hw''] at hB
  clear hw'' k0 k1 k2 k3 HB
  obtain ⟨d0, d1, d2, d3, d4, d5⟩ := hB.cells
  have HB := Lib.hid hB; clear hB
  go_wp2_with (first
    | (go_at_call 28; (with_reducible refine (less_is HAA.out _).mono ?_); rintro e w1 ⟨rfl, hb1⟩; have hB := HB.out.below hb1; clear HB d0 d1 d2 d3 d4 d5 hb1; obtain ⟨d0, d1, d2, d3, d4, d5⟩ := hB.cells; have HB := Lib.hid hB; clear hB)
    | (go_at_call 28; (with_reducible refine (less_is HAB.out _).mono ?_); rintro e w1 ⟨rfl, hb1⟩; have hB := HB.out.below hb1; clear HB d0 d1 d2 d3 d4 d5 hb1; obtain ⟨d0, d1, d2, d3, d4, d5⟩ := hB.cells; have HB := Lib.hid hB; clear hB)
    | (go_at_call 28; (with_reducible refine (less_is HBA.out _).mono ?_); rintro e w1 ⟨rfl, hb1⟩; have hB := HB.out.below hb1; clear HB d0 d1 d2 d3 d4 d5 hb1; obtain ⟨d0, d1, d2, d3, d4, d5⟩ := hB.cells; have HB := Lib.hid hB; clear hB)
    | (go_at_call 28; (with_reducible refine (less_is HBC.out _).mono ?_); rintro e w1 ⟨rfl, hb1⟩; have hB := HB.out.below hb1; clear HB d0 d1 d2 d3 d4 d5 hb1; obtain ⟨d0, d1, d2, d3, d4, d5⟩ := hB.cells; have HB := Lib.hid hB; clear hB)
    | (go_at_call 27; (with_reducible refine (in_is HI.out HA.out HA2.out _).mono ?_); rintro e w1 ⟨rfl, hb1⟩; have hB := HB.out.below hb1; clear HB d0 d1 d2 d3 d4 d5 hb1; obtain ⟨d0, d1, d2, d3, d4, d5⟩ := hB.cells; have HB := Lib.hid hB; clear hB)
    | fail)
  all_goals (go_ret; exact ⟨rfl, HB.out.bel⟩)
set_option maxRecDepth 100000 in
set_option maxHeartbeats 2000000 in
theorem order_a3 (W : World) (hg : HStr W) (a l b m c n : Int) (ha : is32 a) (hb : is32 b) (hne : ¬ a = b) (hab : lessB (a, l) (b, m) = false) (hba : lessB (b, m) (a, l) = true) :
    Calls Tryd.prog 7 #[.agg #[.int .u32 a, .int .i64 l], .agg #[.int .u32 b, .int .i64 m], .agg #[.int .u32 c, .int .i64 n]] W fun e w' => e = .returned (.bool true) ∧ Below W.heap.size W w' := by
  have t1 : (a == b) = false := by simpa using hne
  obtain ⟨i, hi⟩ : ∃ i, inB (a, l) (b, m) = i := ⟨_, rfl⟩
  have HAA := Lib.hid (less_irr (a, l))
  have HAB := Lib.hid hab
  have HBA := Lib.hid hba
  have HA := Lib.hid ha
  have HA2 := Lib.hid hb
  clear ha hb hab hba
  have HI := Lib.hid hi
  clear hi
  have HG := Lib.hid hg
  have hst := B3.start W (netB a l) (netB b m) (netB c n)
  have HB0 := Lib.hid hst
  clear hst hg
  go_enter Tryd.func7, Tryd.ntmps7
  go_wp2_with (first | (go_at_call 22; (with_reducible refine (known_any _ (HG.out.on HB0.out.bel)).mono ?_); rintro e w1 ⟨rfl, hb1⟩; have hB := HB0.out.below hb1; have HB := Lib.hid hB; clear hb1 hB) | fail)
  have k0 := fun d os => (HB.out.grow d os).cells.1
  have k1 := fun d os => (HB.out.grow d os).cells.2.1
  have k2 := fun d os => (HB.out.grow d os).cells.2.2.1
  have k3 := fun d os => (HB.out.grow d os).cells.2.2.2.1
  refine wp_region_quiet_below (by kernel_rfl) (by kernel_rfl) ?_
  repeat (go_big_quiet_step (first | (with_reducible exact less_c HAA.out _ _) | (with_reducible exact less_c HAB.out _ _) | (with_reducible exact less_c HBA.out _ _) | fail))
  refine wpQuiet_nil ?_
  intro _ hw'
  obtain ⟨⟨dq, osq⟩, hw''⟩ := hw'
  have hB := HB.out.grow dq osq
  rw [← hw''] at hB
  clear hw'' k0 k1 k2 k3 HB
  obtain ⟨d0, d1, d2, d3, d4, d5⟩ := hB.cells
  have HB := Lib.hid hB; clear hB
  go_wp2_with (first
    | (go_at_call 28; (with_reducible refine (less_is HAA.out _).mono ?_); rintro e w1 ⟨rfl, hb1⟩; have hB := HB.out.below hb1; clear HB d0 d1 d2 d3 d4 d5 hb1; obtain ⟨d0, d1, d2, d3, d4, d5⟩ := hB.cells; have HB := Lib.hid hB; clear hB)
    | (go_at_call 28; (with_reducible refine (less_is HAB.out _).mono ?_); rintro e w1 ⟨rfl, hb1⟩; have hB := HB.out.below hb1; clear HB d0 d1 d2 d3 d4 d5 hb1; obtain ⟨d0, d1, d2, d3, d4, d5⟩ := hB.cells; have HB := Lib.hid hB; clear hB)
    | (go_at_call 28; (with_reducible refine (less_is HBA.out _).mono ?_); rintro e w1 ⟨rfl, hb1⟩; have hB := HB.out.below hb1; clear HB d0 d1 d2 d3 d4 d5 hb1; obtain ⟨d0, d1, d2, d3, d4, d5⟩ := hB.cells; have HB := Lib.hid hB; clear hB)
    | (go_at_call 27; (with_reducible refine (in_is HI.out HA.out HA2.out _).mono ?_); rintro e w1 ⟨rfl, hb1⟩; have hB := HB.out.below hb1; clear HB d0 d1 d2 d3 d4 d5 hb1; obtain ⟨d0, d1, d2, d3, d4, d5⟩ := hB.cells; have HB := Lib.hid hB; clear hB)
    | fail)
  all_goals (go_ret; exact ⟨rfl, HB.out.bel⟩)
set_option maxRecDepth 100000 in
set_option maxHeartbeats 2000000 in
theorem order_l1 (W : World) (hg : HStr W) (a l  m c n : Int) (ha : is32 a) (hb : is32 a) (hne : ¬ l = m) (hab : lessB (a, l) (a, m) = true) (hba : lessB (a, m) (a, l) = false) (hbc : lessB (a, m) (c, n) = true) (hac : lessB (a, l) (c, n) = true) (hin : inB (a, l) (a, m) = false) :
    Calls Tryd.prog 7 #[.agg #[.int .u32 a, .int .i64 l], .agg #[.int .u32 a, .int .i64 m], .agg #[.int .u32 c, .int .i64 n]] W fun e w' => e = .returned (.bool true) ∧ Below W.heap.size W w' := by
  have t1 : (l == m) = false := by simpa using hne
  have HAA := Lib.hid (less_irr (a, l))
  have HAB := Lib.hid hab
  have HBA := Lib.hid hba
  have HA := Lib.hid ha
  have HA2 := Lib.hid hb
  clear ha hb hab hba
  have HBC := Lib.hid hbc
  have HAC := Lib.hid hac
  have HI := Lib.hid hin
  clear hbc hac hin
  have HG := Lib.hid hg
  have hst := B3.start W (netB a l) (netB a m) (netB c n)
  have HB0 := Lib.hid hst
  clear hst hg
  go_enter Tryd.func7, Tryd.ntmps7
  go_wp2_with (first | (go_at_call 22; (with_reducible refine (known_any _ (HG.out.on HB0.out.bel)).mono ?_); rintro e w1 ⟨rfl, hb1⟩; have hB := HB0.out.below hb1; have HB := Lib.hid hB; clear hb1 hB) | fail)
  have k0 := fun d os => (HB.out.grow d os).cells.1
  have k1 := fun d os => (HB.out.grow d os).cells.2.1
  have k2 := fun d os => (HB.out.grow d os).cells.2.2.1
  have k3 := fun d os => (HB.out.grow d os).cells.2.2.2.1
  refine wp_region_quiet_below (by kernel_rfl) (by kernel_rfl) ?_
  repeat (go_big_quiet_step (first | (with_reducible exact less_c HAA.out _ _) | (with_reducible exact less_c HAB.out _ _) | (with_reducible exact less_c HBA.out _ _) | (with_reducible exact less_c HBC.out _ _) | (with_reducible exact less_c HAC.out _ _) | fail))
  refine wpQuiet_nil ?_
  intro _ hw'
  obtain ⟨⟨dq, osq⟩, hw''⟩ := hw'
  have hB := HB.out.grow dq osq
  rw [← hw''] at hB
  clear hw'' k0 k1 k2 k3 HB
  obtain ⟨d0, d1, d2, d3, d4, d5⟩ := hB.cells
  have HB := Lib.hid hB; clear hB
  go_wp2_with (first
    | (go_at_call 28; (with_reducible refine (less_is HAA.out _).mono ?_); rintro e w1 ⟨rfl, hb1⟩; have hB := HB.out.below hb1; clear HB d0 d1 d2 d3 d4 d5 hb1; obtain ⟨d0, d1, d2, d3, d4, d5⟩ := hB.cells; have HB := Lib.hid hB; clear hB)
    | (go_at_call 28; (with_reducible refine (less_is HAB.out _).mono ?_); rintro e w1 ⟨rfl, hb1⟩; have hB := HB.out.below hb1; clear HB d0 d1 d2 d3 d4 d5 hb1; obtain ⟨d0, d1, d2, d3, d4, d5⟩ := hB.cells; have HB := Lib.hid hB; clear hB)
    | (go_at_call 28; (with_reducible refine (less_is HBA.out _).mono ?_); rintro e w1 ⟨rfl, hb1⟩; have hB := HB.out.below hb1; clear HB d0 d1 d2 d3 d4 d5 hb1; obtain ⟨d0, d1, d2, d3, d4, d5⟩ := hB.cells; have HB := Lib.hid hB; clear hB)
    | (go_at_call 28; (with_reducible refine (less_is HBC.out _).mono ?_); rintro e w1 ⟨rfl, hb1⟩; have hB := HB.out.below hb1; clear HB d0 d1 d2 d3 d4 d5 hb1; obtain ⟨d0, d1, d2, d3, d4, d5⟩ := hB.cells; have HB := Lib.hid hB; clear hB)
    | (go_at_call 28; (with_reducible refine (less_is HAC.out _).mono ?_); rintro e w1 ⟨rfl, hb1⟩; have hB := HB.out.below hb1; clear HB d0 d1 d2 d3 d4 d5 hb1; obtain ⟨d0, d1, d2, d3, d4, d5⟩ := hB.cells; have HB := Lib.hid hB; clear hB)
    | (go_at_call 27; (with_reducible refine (in_is HI.out HA.out HA2.out _).mono ?_); rintro e w1 ⟨rfl, hb1⟩; have hB := HB.out.below hb1; clear HB d0 d1 d2 d3 d4 d5 hb1; obtain ⟨d0, d1, d2, d3, d4, d5⟩ := hB.cells; have HB := Lib.hid hB; clear hB)
    | fail)
  all_goals (go_ret; exact ⟨rfl, HB.out.bel⟩)
set_option maxRecDepth 100000 in
set_option maxHeartbeats 2000000 in
theorem order_l2 (W : World) (hg : HStr W) (a l  m c n : Int) (ha : is32 a) (hb : is32 a) (hne : ¬ l = m) (hab : lessB (a, l) (a, m) = true) (hba : lessB (a, m) (a, l) = false) (hbc : lessB (a, m) (c, n) = false) (hin : inB (a, l) (a, m) = false) :
    Calls Tryd.prog 7 #[.agg #[.int .u32 a, .int .i64 l], .agg #[.int .u32 a, .int .i64 m], .agg #[.int .u32 c, .int .i64 n]] W fun e w' => e = .returned (.bool true) ∧ Below W.heap.size W w' := by
  have t1 : (l == m) = false := by simpa using hne
  have HAA := Lib.hid (less_irr (a, l))
  have HAB := Lib.hid hab
  have HBA := Lib.hid hba
  have HA := Lib.hid ha
  have HA2 := Lib.hid hb
  clear ha hb hab hba
  have HBC := Lib.hid hbc
  have HI := Lib.hid hin
  clear hbc hin
  have HG := Lib.hid hg
  have hst := B3.start W (netB a l) (netB a m) (netB c n)
  have HB0 := Lib.hid hst
  clear hst hg
  go_enter Tryd.func7, Tryd.ntmps7
  go_wp2_with (first | (go_at_call 22; (with_reducible refine (known_any _ (HG.out.on HB0.out.bel)).mono ?_); rintro e w1 ⟨rfl, hb1⟩; have hB := HB0.out.below hb1; have HB := Lib.hid hB; clear hb1 hB) | fail)
  have k0 := fun d os => (HB.out.grow d os).cells.1
  have k1 := fun d os => (HB.out.grow d os).cells.2.1
  have k2 := fun d os => (HB.out.grow d os).cells.2.2.1
  have k3 := fun d os => (HB.out.grow d os).cells.2.2.2.1
  refine wp_region_quiet_below (by kernel_rfl) (by kernel_rfl) ?_
  repeat (go_big_quiet_step (first | (with_reducible exact less_c HAA.out _ _) | (with_reducible exact less_c HAB.out _ _) | (with_reducible exact less_c HBA.out _ _) | (with_reducible exact less_c HBC.out _ _) | fail))
  refine wpQuiet_nil ?_
  intro _ hw'
  obtain ⟨⟨dq, osq⟩, hw''⟩ := hw'
  have hB := HB.out.grow dq osq
  rw [← hw''] at hB
  clear hw'' k0 k1 k2 k3 HB
  obtain ⟨d0, d1, d2, d3, d4, d5⟩ := hB.cells
  have HB := Lib.hid hB; clear hB
  go_wp2_with (first
    | (go_at_call 28; (with_reducible refine (less_is HAA.out _).mono ?_); rintro e w1 ⟨rfl, hb1⟩; have hB := HB.out.below hb1; clear HB d0 d1 d2 d3 d4 d5 hb1; obtain ⟨d0, d1, d2, d3, d4, d5⟩ := hB.cells; have HB := Lib.hid hB; clear hB)
    | (go_at_call 28; (with_reducible refine (less_is HAB.out _).mono ?_); rintro e w1 ⟨rfl, hb1⟩; have hB := HB.out.below hb1; clear HB d0 d1 d2 d3 d4 d5 hb1; obtain ⟨d0, d1, d2, d3, d4, d5⟩ := hB.cells; have HB := Lib.hid hB; clear hB)
    | (go_at_call 28; (with_reducible refine (less_is HBA.out _).mono ?_); rintro e w1 ⟨rfl, hb1⟩; have hB := HB.out.below hb1; clear HB d0 d1 d2 d3 d4 d5 hb1; obtain ⟨d0, d1, d2, d3, d4, d5⟩ := hB.cells; have HB := Lib.hid hB; clear hB)
    | (go_at_call 28; (with_reducible refine (less_is HBC.out _).mono ?_); rintro e w1 ⟨rfl, hb1⟩; have hB := HB.out.below hb1; clear HB d0 d1 d2 d3 d4 d5 hb1; obtain ⟨d0, d1, d2, d3, d4, d5⟩ := hB.cells; have HB := Lib.hid hB; clear hB)
    | (go_at_call 27; (with_reducible refine (in_is HI.out HA.out HA2.out _).mono ?_); rintro e w1 ⟨rfl, hb1⟩; have hB := HB.out.below hb1; clear HB d0 d1 d2 d3 d4 d5 hb1; obtain ⟨d0, d1, d2, d3, d4, d5⟩ := hB.cells; have HB := Lib.hid hB; clear hB)
    | fail)
  all_goals (go_ret; exact ⟨rfl, HB.out.bel⟩)
set_option maxRecDepth 100000 in
set_option maxHeartbeats 2000000 in
theorem order_l3 (W : World) (hg : HStr W) (a l  m c n : Int) (ha : is32 a) (hb : is32 a) (hne : ¬ l = m) (hab : lessB (a, l) (a, m) = false) (hba : lessB (a, m) (a, l) = true) :
    Calls Tryd.prog 7 #[.agg #[.int .u32 a, .int .i64 l], .agg #[.int .u32 a, .int .i64 m], .agg #[.int .u32 c, .int .i64 n]] W fun e w' => e = .returned (.bool true) ∧ Below W.heap.size W w' := by
  have t1 : (l == m) = false := by simpa using hne
  obtain ⟨i, hi⟩ : ∃ i, inB (a, l) (a, m) = i := ⟨_, rfl⟩
  have HAA := Lib.hid (less_irr (a, l))
  have HAB := Lib.hid hab
  have HBA := Lib.hid hba
  have HA := Lib.hid ha
  have HA2 := Lib.hid hb
  clear ha hb hab hba
  have HI := Lib.hid hi
  clear hi
  have HG := Lib.hid hg
  have hst := B3.start W (netB a l) (netB a m) (netB c n)
  have HB0 := Lib.hid hst
  clear hst hg
  go_enter Tryd.func7, Tryd.ntmps7
  go_wp2_with (first | (go_at_call 22; (with_reducible refine (known_any _ (HG.out.on HB0.out.bel)).mono ?_); rintro e w1 ⟨rfl, hb1⟩; have hB := HB0.out.below hb1; have HB := Lib.hid hB; clear hb1 hB) | fail)
  have k0 := fun d os => (HB.out.grow d os).cells.1
  have k1 := fun d os => (HB.out.grow d os).cells.2.1
  have k2 := fun d os => (HB.out.grow d os).cells.2.2.1
  have k3 := fun d os => (HB.out.grow d os).cells.2.2.2.1
  refine wp_region_quiet_below (by kernel_rfl) (by kernel_rfl) ?_
  repeat (go_big_quiet_step (first | (with_reducible exact less_c HAA.out _ _) | (with_reducible exact less_c HAB.out _ _) | (with_reducible exact less_c HBA.out _ _) | fail))
  refine wpQuiet_nil ?_
  intro _ hw'
  obtain ⟨⟨dq, osq⟩, hw''⟩ := hw'
  have hB := HB.out.grow dq osq
  rw [← hw''] at hB
  clear hw'' k0 k1 k2 k3 HB
  obtain ⟨d0, d1, d2, d3, d4, d5⟩ := hB.cells
  have HB := Lib.hid hB; clear hB
  go_wp2_with (first
    | (go_at_call 28; (with_reducible refine (less_is HAA.out _).mono ?_); rintro e w1 ⟨rfl, hb1⟩; have hB := HB.out.below hb1; clear HB d0 d1 d2 d3 d4 d5 hb1; obtain ⟨d0, d1, d2, d3, d4, d5⟩ := hB.cells; have HB := Lib.hid hB; clear hB)
    | (go_at_call 28; (with_reducible refine (less_is HAB.out _).mono ?_); rintro e w1 ⟨rfl, hb1⟩; have hB := HB.out.below hb1; clear HB d0 d1 d2 d3 d4 d5 hb1; obtain ⟨d0, d1, d2, d3, d4, d5⟩ := hB.cells; have HB := Lib.hid hB; clear hB)
    | (go_at_call 28; (with_reducible refine (less_is HBA.out _).mono ?_); rintro e w1 ⟨rfl, hb1⟩; have hB := HB.out.below hb1; clear HB d0 d1 d2 d3 d4 d5 hb1; obtain ⟨d0, d1, d2, d3, d4, d5⟩ := hB.cells; have HB := Lib.hid hB; clear hB)
    | (go_at_call 27; (with_reducible refine (in_is HI.out HA.out HA2.out _).mono ?_); rintro e w1 ⟨rfl, hb1⟩; have hB := HB.out.below hb1; clear HB d0 d1 d2 d3 d4 d5 hb1; obtain ⟨d0, d1, d2, d3, d4, d5⟩ := hB.cells; have HB := Lib.hid hB; clear hB)
    | fail)
  all_goals (go_ret; exact ⟨rfl, HB.out.bel⟩)
theorem PrefOrder_walk (W : World) (A0 : Array Value) (x : Int × Int) (hx : RV rdNet W (.agg A0) x) (cx : True ∧ True) (A1 : Array Value) (y : Int × Int) (hy : RV rdNet W (.agg A1) y) (cy : True ∧ True)
    (A2 : Array Value) (z : Int × Int) (hz : RV rdNet W (.agg A2) z) (cz : True ∧ True) (hg : HStr W) :
    Calls Tryd.prog 7 #[.agg A0, .agg A1, .agg A2] W fun e w' => e = .returned (.bool true) ∧ Below W.heap.size W w' := by
  obtain ⟨a, l, rfl, rfl, ha, _⟩ := net_parts hx
  obtain ⟨b, m, rfl, rfl, hb, _⟩ := net_parts hy
  obtain ⟨c, n, rfl, rfl, hc, _⟩ := net_parts hz
  by_cases h1 : a = b
  · subst h1
    by_cases h2 : l = m
    · subst h2
      exact order_same W hg a l c n ha
    · have hne : ((a, l) : Int × Int) ≠ (a, m) := fun e => h2 (Prod.mk.inj e).2
      have hba := less_one hne
      cases hab : lessB (a, l) (a, m) with
      | true =>
        rw [hab] at hba
        have hin : inB (a, l) (a, m) = false := by
          cases h : inB (a, l) (a, m) with
          | false => rfl
          | true => have := less_in h hne; rw [hba] at this; cases this
        cases hbc : lessB (a, m) (c, n) with
        | true => exact order_l1 W hg a l m c n ha hb h2 hab hba hbc (less_trans hab hbc) hin
        | false => exact order_l2 W hg a l m c n ha hb h2 hab hba hbc hin
      | false =>
        rw [hab] at hba
        exact order_l3 W hg a l m c n ha hb h2 hab hba
  · have hne : ((a, l) : Int × Int) ≠ (b, m) := fun e => h1 (Prod.mk.inj e).1
    have hba := less_one hne
    cases hab : lessB (a, l) (b, m) with
    | true =>
      rw [hab] at hba
      have hin : inB (a, l) (b, m) = false := by
        cases h : inB (a, l) (b, m) with
        | false => rfl
        | true => have := less_in h hne; rw [hba] at this; cases this
      cases hbc : lessB (b, m) (c, n) with
      | true => exact order_a1 W hg a l b m c n ha hb h1 hab hba hbc (less_trans hab hbc) hin
      | false => exact order_a2 W hg a l b m c n ha hb h1 hab hba hbc hin
    | false =>
      rw [hab] at hba
      exact order_a3 W hg a l b m c n ha hb h1 hab hba
end Go.Proofs.YtohfeoahdbfjbaaDoor
