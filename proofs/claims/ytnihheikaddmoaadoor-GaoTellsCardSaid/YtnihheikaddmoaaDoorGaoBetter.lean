/- gao.Better in worlds that have grown; reading a way. -/
import Derived.Test.YtnihheikaddmoaaDoorGaoI
namespace Go.Proofs.YtnihheikaddmoaaDoor
open Go.ChangeShapes Go.WideShapes Go.ChangeAt Go.RowKit Ga
set_option linter.unusedVariables false
set_option linter.unusedSimpArgs false
theorem R1.rd {α : Type} {rd : Rdr α} {w : World} {v : Value} {x : α} (h : R1 rd w v x) : rd w (fun b => b < w.heap.size) [v] x := h
theorem Better_c {w : World} {A A' : Option Addr} {n n' c c' : Nat} {t u : Int} {p q : List Int} {r : Bool} (hp : R1 (RdSlice 1 (rdInt .i64)) w (.slice A n c) p) (hq : R1 (RdSlice 1 (rdInt .i64)) w (.slice A' n' c') q) (hr : betterB (t, p) (u, q) = r) (d : Nat) (os : Array Obj) :
    Calls Tryd.prog 12 #[.agg #[.int .i64 t, .slice A n c], .agg #[.int .i64 u, .slice A' n' c']] (Sort.grow (redrawn w d) os) fun e w'' => e = .returned (.bool r) ∧ ∃ p : Regrown, w'' = Sort.grow (redrawn w p.d) p.os :=
  Calls.regrown_of (Better_any (hp.below (below_regrown w d os)) (hq.below (below_regrown w d os)) (fun _ h => h) (fun _ h => h) hr)
theorem way_form {w : World} {ok : Nat → Prop} {vs : Array Value} {x : Int × List Int} (h : rdWay w ok vs.toList x) : ∃ A c, vs = #[.int .i64 x.1, .slice A x.2.length c] ∧ (Lit.int .i64 x.1).wf = true ∧ RdSlice 1 (rdInt .i64) w ok [.slice A x.2.length c] x.2 := by
  obtain ⟨_, _, e, ⟨rfl, w0⟩, hp⟩ := h
  have hp' := hp
  obtain ⟨A, c, e2, _⟩ := hp'
  subst e2
  exact ⟨A, c, by cases vs; simpa using e, w0, hp⟩
end Go.Proofs.YtnihheikaddmoaaDoor
