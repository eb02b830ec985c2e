/- waywardenref2: BestOffer, OffersOf. -/
import Derived.Test.YtnihheikaddmoaaDoorGaoS
import Derived.Test.YtnihheikaddmoaaDoorGaoH
namespace Go.Proofs.YtnihheikaddmoaaDoor
open Go.ChangeShapes Go.WideShapes Go.ChangeAt Go.RowKit Ga
set_option linter.unusedVariables false
set_option linter.unusedSimpArgs false
theorem BetterOf_c {w : World} {A A' : Option Addr} {n n' c c' : Nat} {t u : Int} {p q : List Int} {r : Bool} (hp : R1 (RdSlice 1 (rdInt .i64)) w (.slice A n c) p) (hq : R1 (RdSlice 1 (rdInt .i64)) w (.slice A' n' c') q) (hr : betterB (t, p) (u, q) = r) (d : Nat) (os : Array Obj) :
    Calls Tryd.prog 13 #[.agg #[.int .i64 t, .slice A n c], .agg #[.int .i64 u, .slice A' n' c']] (Sort.grow (redrawn w d) os) fun e w'' => e = .returned (.bool r) ∧ ∃ p : Regrown, w'' = Sort.grow (redrawn w p.d) p.os :=
  Calls.regrown_of (BetterOf_any (hp.below (below_regrown w d os)) (hq.below (below_regrown w d os)) (fun _ h => h) (fun _ h => h) hr)
/-- the box of the best, while lists that came in stay -/
def BoxW (w wr : World) (g : Nat) (x : Ga.Way) : Prop := ∃ A n c, wr.heap[g]? = some (.cells #[.int .i64 x.1, .slice A n c] 26 (0, 0)) ∧ (Lit.int .i64 x.1).wf = true ∧ R1 (RdSlice 1 (rdInt .i64)) w (.slice A n c) x.2
def BestPost (w : World) (x : Ga.Way) (e : Ending) (w' : World) : Prop := ∃ A n c, e = .returned (.agg #[.int .i64 x.1, .slice A n c]) ∧ (Lit.int .i64 x.1).wf = true ∧ R1 (RdSlice 1 (rdInt .i64)) w (.slice A n c) x.2 ∧ Below w.heap.size w w'
theorem nil_r1 (w : World) : R1 (RdSlice 1 (rdInt .i64)) w (.slice none 0 0) ([] : List Int) := ⟨none, 0, rfl, Nat.le_refl _, by decide, fun h => by simp at h⟩
end Go.Proofs.YtnihheikaddmoaaDoor
