/- SpanTells: the walk of the law. -/
import Derived.Test.YtccgaflbhpagcaaDoorTellsB
import Derived.Test.YtccgaflbhpagcaaDoorTellsC
namespace Go.Proofs.YtccgaflbhpagcaaDoor
open Go.ChangeShapes Go.WideShapes Go.ChangeAt Go.RowKit Sp
set_option linter.unusedVariables false
theorem SpanTells_walk (w : World) (n : Int) (bn : -9223372036854775808 ≤ n ∧ n ≤ 9223372036854775807) (A : Option Addr) (m c : Nat) (l : List Lnk) (rr1 : RV rdLinks w (.slice A m c) l) (q1 : l.length * 24 ≤ reachBytes ∧ ∀ x ∈ l, True ∧ True ∧ True) (hg : HErr w) :
    Calls Tryd.prog 3 #[.int .i64 n, .slice A m c] w fun e w' => e = .returned (.bool true) ∧ Below w.heap.size w w' := by
  by_cases h0 : graphE n l = 0
  · obtain ⟨N, rfl, h1, h8, hok⟩ := graphE_ok h0
    exact SpanTells_good (show R1 rdLinks w _ l from rr1) hok h1 h8 hg
  · exact SpanTells_bad (show R1 rdLinks w _ l from rr1) q1.1 rfl h0 hg
end Go.Proofs.YtccgaflbhpagcaaDoor
