/- PrefTells: the walk. -/
import Derived.Test.YtohfeoahdbfjbaaGreatDoorTellsC
import Derived.BigQuiet
namespace Go.Proofs.YtohfeoahdbfjbaaGreatDoor
open Go.ChangeShapes Go.WideShapes Go.ChangeAt Go.RowKit
set_option linter.unusedVariables false
set_option linter.unusedSimpArgs false

theorem check_f {a l f : Int} (hf : netF (a, l) = f) (h : netF (a, l) ≠ 0) (ha : is32 a) (w : World) :
    Calls Tryz.prog 7 #[.agg #[.int .u32 a, .int .i64 l]] w fun e w' => e = .returned (.iface 26 (.int .i64 f)) ∧ Below w.heap.size w w' := by
  subst hf; exact Check_bad w ha.1 ha.2 h
theorem upbad_f {a l f : Int} (hf : netF (a, l) = f) (h : netF (a, l) ≠ 0) (ha : is32 a) (w : World) :
    Calls Tryz.prog 21 #[.agg #[.int .u32 a, .int .i64 l]] w fun e w' => e = .returned (.tuple #[.agg #[.int .u32 0, .int .i64 0], .iface 26 (.int .i64 f)]) ∧ Below w.heap.size w w' := by
  subst hf; exact Up_bad w ha h
theorem halvesbad_f {a l f : Int} (hf : netF (a, l) = f) (h : netF (a, l) ≠ 0) (ha : is32 a) (w : World) :
    Calls Tryz.prog 22 #[.agg #[.int .u32 a, .int .i64 l]] w fun e w' => e = .returned (.tuple #[.agg #[.int .u32 0, .int .i64 0], .agg #[.int .u32 0, .int .i64 0], .iface 26 (.int .i64 f)]) ∧ Below w.heap.size w w' := by
  subst hf; exact Halves_bad w ha h
theorem commonbad1_f {a l b m f : Int} (hf : netF (a, l) = f) (h : netF (a, l) ≠ 0) (ha : is32 a) (w : World) :
    Calls Tryz.prog 23 #[.agg #[.int .u32 a, .int .i64 l], .agg #[.int .u32 b, .int .i64 m]] w fun e w' => e = .returned (.tuple #[.agg #[.int .u32 0, .int .i64 0], .iface 26 (.int .i64 f)]) ∧ Below w.heap.size w w' := by
  subst hf; exact Common_bad1 w ha h
theorem commonbad2_f {a l b m f : Int} (hf : netF (b, m) = f) (h : netF (b, m) ≠ 0) (ha : is32 a) (hb : is32 b) (hz : netF (a, l) = 0) (w : World) :
    Calls Tryz.prog 23 #[.agg #[.int .u32 a, .int .i64 l], .agg #[.int .u32 b, .int .i64 m]] w fun e w' => e = .returned (.tuple #[.agg #[.int .u32 0, .int .i64 0], .iface 26 (.int .i64 f)]) ∧ Below w.heap.size w w' := by
  subst hf; exact Common_bad2 w ha hb hz h
theorem ntext_i {W w : World} {a i : Int} {A k : Nat} (hg : HStr W) (hb : Below W.heap.size W w) (hA : a = A) (ha : A < 4294967296) (hk : k ≤ 32) (hi : (k : Int) = i) (d : Nat) (os : Array Obj) :
    Calls Tryz.prog 16 #[.agg #[.int .u32 a, .int .i64 i]] (Sort.grow (redrawn w d) os) fun e w'' => e = .returned (strV (netT A k)) ∧ ∃ p : Regrown, w'' = Sort.grow (redrawn w p.d) p.os := by
  subst hA; exact ntext_c hg hb ha hk hi d os
theorem rntext_i {w : World} {a i : Int} {A k : Nat} (hA : a = A) (ha : A < 4294967296) (hk : k ≤ 32) (hi : (k : Int) = i) (d : Nat) (os : Array Obj) :
    Calls Tryz.prog 17 #[.agg #[.int .u32 a, .int .i64 i]] (Sort.grow (redrawn w d) os) fun e w'' => e = .returned (strV (netT A k)) ∧ ∃ p : Regrown, w'' = Sort.grow (redrawn w p.d) p.os := by
  subst hA; exact rntext_c ha hk hi d os

end Go.Proofs.YtohfeoahdbfjbaaGreatDoor
