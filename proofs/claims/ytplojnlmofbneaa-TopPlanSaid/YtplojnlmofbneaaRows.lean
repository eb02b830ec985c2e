/-
  No cell of these rows narrows 'for every input' (looked for: loops, veiled, ifaces, maps, wideKeys, modest, calm, conditions, laid).
  DERIVED. THE GIVEN ROWS OF THIS SEAT. 4 by the template 'for every input the law returns true; each argument reads behind the call as it read before'; 0 by the template 'total and deterministic' (their statements: YtplojnlmofbneaaTotals.lean).
  GIVEN WITH THE SEED: the statements are not yours to turn. If you find one false, say at which input.
  Laid BY PROGRAM, IN A SANDBOX (cutbox-rows.mjs): the forced cells as the released guide's own fill.sh prints them over the translation 89c83a21ab35d19d… (all of the seat's roots in one cut). By AI agents, Wed Nov 11 2026. No macro, syntax, notation, axiom, sorry.
-/
import Derived.Test.YtplojnlmofbneaaChecked
import GoSem.Claim
import GoSem.ClaimJoined
import GoSem.ClaimMapViews
import Derived.JoinedTies
import Derived.KernelRfl
namespace Go.Proofs.Ytplojnlmofbneaa
/- THE CELL 'sum', in the pinned program and in every row, IS THE sha256 OF THE DUMP (.gsa) THAT YtplojnlmofbneaaProg.lean LOADS. Nothing in Lean hashes anything: it is a label: what it is worth is what the hold of that sum in a sandbox is worth. -/
noncomputable def Try.pinned : Pinned := { name := "ytplojnlmofbneaa", sum := "89c83a21ab35d19dfcab600b6b32ae1c88dec7f4969ae76bd0e58763beb81f1d", checked := Try.checked }
namespace Rows
def none {H : Type} : Left H := { results := [], args := [] }

/-- 'waywardenlaw1.TrieLongest': WHATEVER THE INPUT: true; the input reads as it did. -/
def trieLongestSpec : ChangeSpec := { name := "trieLongest", fn := fun _ => fun
  | [d1, d2] => { results := [.lit (.bool true)], args := [d1, d2] }
  | _ => none }
def trieLongestRow : OpenClaim := { program := "ytplojnlmofbneaa", sum := "89c83a21ab35d19dfcab600b6b32ae1c88dec7f4969ae76bd0e58763beb81f1d", func := "waywarden/waywardenlaw1.TrieLongest", spec := "trieLongest", unfollowed := true, recurses := true, apart := false }
def TrieLongestSaid : Prop := trieLongestRow.holds Try.pinned (OpenSpec.ofChange trieLongestSpec)

/-- ITS FALSE NEIGHBOUR: 'it returns false'. Refute it at one input. -/
def trieLongestWrong : ChangeSpec := { name := "trieLongest", fn := fun _ => fun
  | [d1, d2] => { results := [.lit (.bool false)], args := [d1, d2] }
  | _ => none }
def TrieLongestWrongFalsely : Prop := trieLongestRow.holds Try.pinned (OpenSpec.ofChange trieLongestWrong)

/-- 'waywardentop.TopPlan': WHATEVER THE INPUT: true; the input reads as it did. -/
def topPlanSpec : ChangeSpec := { name := "topPlan", fn := fun _ => fun
  | [d1, d2, d3, d4] => { results := [.lit (.bool true)], args := [d1, d2, d3, d4] }
  | _ => none }
def topPlanRow : OpenClaim := { program := "ytplojnlmofbneaa", sum := "89c83a21ab35d19dfcab600b6b32ae1c88dec7f4969ae76bd0e58763beb81f1d", func := "waywarden/waywardentop.TopPlan", spec := "topPlan", unfollowed := true, recurses := true, apart := false }
def TopPlanSaid : Prop := topPlanRow.holds Try.pinned (OpenSpec.ofChange topPlanSpec)

/-- ITS FALSE NEIGHBOUR: 'it returns false'. Refute it at one input. -/
def topPlanWrong : ChangeSpec := { name := "topPlan", fn := fun _ => fun
  | [d1, d2, d3, d4] => { results := [.lit (.bool false)], args := [d1, d2, d3, d4] }
  | _ => none }
def TopPlanWrongFalsely : Prop := topPlanRow.holds Try.pinned (OpenSpec.ofChange topPlanWrong)

/-- 'waywardenlaw5.PlanApart': WHATEVER THE INPUT: true; the input reads as it did. -/
def planApartSpec : ChangeSpec := { name := "planApart", fn := fun _ => fun
  | [d1, d2, d3] => { results := [.lit (.bool true)], args := [d1, d2, d3] }
  | _ => none }
def planApartRow : OpenClaim := { program := "ytplojnlmofbneaa", sum := "89c83a21ab35d19dfcab600b6b32ae1c88dec7f4969ae76bd0e58763beb81f1d", func := "waywarden/waywardenlaw5.PlanApart", spec := "planApart", unfollowed := true, recurses := true, apart := false }
def PlanApartSaid : Prop := planApartRow.holds Try.pinned (OpenSpec.ofChange planApartSpec)

/-- ITS FALSE NEIGHBOUR: 'it returns false'. Refute it at one input. -/
def planApartWrong : ChangeSpec := { name := "planApart", fn := fun _ => fun
  | [d1, d2, d3] => { results := [.lit (.bool false)], args := [d1, d2, d3] }
  | _ => none }
def PlanApartWrongFalsely : Prop := planApartRow.holds Try.pinned (OpenSpec.ofChange planApartWrong)

/-- 'waywardenlaw5.PlanFirst': WHATEVER THE INPUT: true; the input reads as it did. -/
def planFirstSpec : ChangeSpec := { name := "planFirst", fn := fun _ => fun
  | [d1, d2, d3, d4] => { results := [.lit (.bool true)], args := [d1, d2, d3, d4] }
  | _ => none }
def planFirstRow : OpenClaim := { program := "ytplojnlmofbneaa", sum := "89c83a21ab35d19dfcab600b6b32ae1c88dec7f4969ae76bd0e58763beb81f1d", func := "waywarden/waywardenlaw5.PlanFirst", spec := "planFirst", unfollowed := true, recurses := true, apart := false }
def PlanFirstSaid : Prop := planFirstRow.holds Try.pinned (OpenSpec.ofChange planFirstSpec)

/-- ITS FALSE NEIGHBOUR: 'it returns false'. Refute it at one input. -/
def planFirstWrong : ChangeSpec := { name := "planFirst", fn := fun _ => fun
  | [d1, d2, d3, d4] => { results := [.lit (.bool false)], args := [d1, d2, d3, d4] }
  | _ => none }
def PlanFirstWrongFalsely : Prop := planFirstRow.holds Try.pinned (OpenSpec.ofChange planFirstWrong)

/- THE SECOND FORM. 'bulk': how many values and letters a reading holds, each counted each time it is reached (what is shared counts as often as it is met; a slice's spare places count too). A statement '..UptoSaid' is the law's where the arguments, and the package variables that the reading takes, are together of bulk at most 1048576: NARROWER than '..Said'. Prove '..Said' where nothing that the law and all that it calls make is longer than what came in: it says more and counts as full. Else prove '..UptoSaid'. A law counts once. -/
mutual
def uptoBulk {H : Type} : DataW H → Nat
  | .lit (.string bytes) => bytes.length + 1
  | .lit _ => 1
  | .nil => 1
  | .ptr d => uptoBulk d + 1
  | .slice elems spare => uptoBulkAll elems + uptoBulkAll spare + 1
  | .agg parts => uptoBulkAll parts + 1
  | .iface _ d => uptoBulk d + 1
  | .map entries => uptoBulkEntries entries + 1
  | .held _ => 1
def uptoBulkAll {H : Type} : List (DataW H) → Nat
  | [] => 0
  | d :: r => uptoBulk d + uptoBulkAll r
def uptoBulkEntries {H : Type} : List (Lit × DataW H) → Nat
  | [] => 0
  | x :: r => uptoBulkEntry x + uptoBulkEntries r
def uptoBulkEntry {H : Type} : Lit × DataW H → Nat
  | (.string bytes, d) => bytes.length + uptoBulk d + 1
  | (_, d) => uptoBulk d + 1
 end
def uptoSmall : (H : Type) → List (DataW H) → Bool := fun _ ds => decide (uptoBulkAll ds ≤ 1048576)
def OpenSpec.upto (s : _root_.Go.ChangeSpec) : _root_.Go.OpenSpec := { _root_.Go.OpenSpec.ofChange s with cond := some uptoSmall }

/-- 'waywardenlaw1.TrieLongest', WHERE WHAT IT READS IS OF BULK AT MOST 1048576: true; the input reads as it did. -/
def trieLongestUptoRow : OpenClaim := { program := "ytplojnlmofbneaa", sum := "89c83a21ab35d19dfcab600b6b32ae1c88dec7f4969ae76bd0e58763beb81f1d", func := "waywarden/waywardenlaw1.TrieLongest", spec := "trieLongest", unfollowed := true, recurses := true, apart := false, narrowed := true }
def TrieLongestUptoSaid : Prop := trieLongestUptoRow.holds Try.pinned (OpenSpec.upto trieLongestSpec)

/-- 'waywardentop.TopPlan', WHERE WHAT IT READS IS OF BULK AT MOST 1048576: true; the input reads as it did. -/
def topPlanUptoRow : OpenClaim := { program := "ytplojnlmofbneaa", sum := "89c83a21ab35d19dfcab600b6b32ae1c88dec7f4969ae76bd0e58763beb81f1d", func := "waywarden/waywardentop.TopPlan", spec := "topPlan", unfollowed := true, recurses := true, apart := false, narrowed := true }
def TopPlanUptoSaid : Prop := topPlanUptoRow.holds Try.pinned (OpenSpec.upto topPlanSpec)

/-- 'waywardenlaw5.PlanApart', WHERE WHAT IT READS IS OF BULK AT MOST 1048576: true; the input reads as it did. -/
def planApartUptoRow : OpenClaim := { program := "ytplojnlmofbneaa", sum := "89c83a21ab35d19dfcab600b6b32ae1c88dec7f4969ae76bd0e58763beb81f1d", func := "waywarden/waywardenlaw5.PlanApart", spec := "planApart", unfollowed := true, recurses := true, apart := false, narrowed := true }
def PlanApartUptoSaid : Prop := planApartUptoRow.holds Try.pinned (OpenSpec.upto planApartSpec)

/-- 'waywardenlaw5.PlanFirst', WHERE WHAT IT READS IS OF BULK AT MOST 1048576: true; the input reads as it did. -/
def planFirstUptoRow : OpenClaim := { program := "ytplojnlmofbneaa", sum := "89c83a21ab35d19dfcab600b6b32ae1c88dec7f4969ae76bd0e58763beb81f1d", func := "waywarden/waywardenlaw5.PlanFirst", spec := "planFirst", unfollowed := true, recurses := true, apart := false, narrowed := true }
def PlanFirstUptoSaid : Prop := planFirstUptoRow.holds Try.pinned (OpenSpec.upto planFirstSpec)

end Rows
end Go.Proofs.Ytplojnlmofbneaa
