/-
  No cell of these rows narrows 'for every input' (looked for: loops, veiled, ifaces, maps, wideKeys, modest, calm, conditions, laid).
  DERIVED. THE GIVEN ROWS OF THIS SEAT. 3 by the template 'for every input the law returns true; each argument reads behind the call as it read before'; 0 by the template 'total and deterministic' (their statements: YtdomjiihnliemaaTotals.lean).
  GIVEN WITH THE SEED: the statements are not yours to turn. If you find one false, say at which input.
  Laid BY PROGRAM, IN A SANDBOX (cutbox-rows.mjs): the forced cells as the released guide's own fill.sh prints them over the translation 09dfddfe08b3abfd… (all of the seat's roots in one cut). By AI agents, Wed Nov 11 2026. No macro, syntax, notation, axiom, sorry.
-/
import Derived.Test.YtdomjiihnliemaaChecked
import GoSem.Claim
import GoSem.ClaimJoined
import GoSem.ClaimMapViews
import Derived.JoinedTies
import Derived.KernelRfl
namespace Go.Proofs.Ytdomjiihnliemaa
/- THE CELL 'sum', in the pinned program and in every row, IS THE sha256 OF THE DUMP (.gsa) THAT YtdomjiihnliemaaProg.lean LOADS. Nothing in Lean hashes anything: it is a label: what it is worth is what the hold of that sum in a sandbox is worth. -/
noncomputable def Try.pinned : Pinned := { name := "ytdomjiihnliemaa", sum := "09dfddfe08b3abfd67d6294302a85ad81b44c63873566855f249d9cd6305e0ad", checked := Try.checked }
namespace Rows
def none {H : Type} : Left H := { results := [], args := [] }

/-- 'waywardenlaw1.CoverFew': WHATEVER THE INPUT: true; the input reads as it did. -/
def coverFewSpec : ChangeSpec := { name := "coverFew", fn := fun _ => fun
  | [d1, d2] => { results := [.lit (.bool true)], args := [d1, d2] }
  | _ => none }
def coverFewRow : OpenClaim := { program := "ytdomjiihnliemaa", sum := "09dfddfe08b3abfd67d6294302a85ad81b44c63873566855f249d9cd6305e0ad", func := "waywarden/waywardenlaw1.CoverFew", spec := "coverFew", unfollowed := true, recurses := true, apart := false }
def CoverFewSaid : Prop := coverFewRow.holds Try.pinned (OpenSpec.ofChange coverFewSpec)

/-- ITS FALSE NEIGHBOUR: 'it returns false'. Refute it at one input. -/
def coverFewWrong : ChangeSpec := { name := "coverFew", fn := fun _ => fun
  | [d1, d2] => { results := [.lit (.bool false)], args := [d1, d2] }
  | _ => none }
def CoverFewWrongFalsely : Prop := coverFewRow.holds Try.pinned (OpenSpec.ofChange coverFewWrong)

/-- 'waywardenlaw1.CoverSizes': WHATEVER THE INPUT: true; the input reads as it did. -/
def coverSizesSpec : ChangeSpec := { name := "coverSizes", fn := fun _ => fun
  | [d1, d2] => { results := [.lit (.bool true)], args := [d1, d2] }
  | _ => none }
def coverSizesRow : OpenClaim := { program := "ytdomjiihnliemaa", sum := "09dfddfe08b3abfd67d6294302a85ad81b44c63873566855f249d9cd6305e0ad", func := "waywarden/waywardenlaw1.CoverSizes", spec := "coverSizes", unfollowed := true, recurses := true, apart := false }
def CoverSizesSaid : Prop := coverSizesRow.holds Try.pinned (OpenSpec.ofChange coverSizesSpec)

/-- ITS FALSE NEIGHBOUR: 'it returns false'. Refute it at one input. -/
def coverSizesWrong : ChangeSpec := { name := "coverSizes", fn := fun _ => fun
  | [d1, d2] => { results := [.lit (.bool false)], args := [d1, d2] }
  | _ => none }
def CoverSizesWrongFalsely : Prop := coverSizesRow.holds Try.pinned (OpenSpec.ofChange coverSizesWrong)

/-- 'waywardenlaw1.CoverSame': WHATEVER THE INPUT: true; the input reads as it did. -/
def coverSameSpec : ChangeSpec := { name := "coverSame", fn := fun _ => fun
  | [d1, d2] => { results := [.lit (.bool true)], args := [d1, d2] }
  | _ => none }
def coverSameRow : OpenClaim := { program := "ytdomjiihnliemaa", sum := "09dfddfe08b3abfd67d6294302a85ad81b44c63873566855f249d9cd6305e0ad", func := "waywarden/waywardenlaw1.CoverSame", spec := "coverSame", unfollowed := true, recurses := true, apart := false }
def CoverSameSaid : Prop := coverSameRow.holds Try.pinned (OpenSpec.ofChange coverSameSpec)

/-- ITS FALSE NEIGHBOUR: 'it returns false'. Refute it at one input. -/
def coverSameWrong : ChangeSpec := { name := "coverSame", fn := fun _ => fun
  | [d1, d2] => { results := [.lit (.bool false)], args := [d1, d2] }
  | _ => none }
def CoverSameWrongFalsely : Prop := coverSameRow.holds Try.pinned (OpenSpec.ofChange coverSameWrong)

/- THE SECOND FORM. 'bulk': how many values and letters a reading holds, each counted each time it is reached (what is shared counts as often as it is met; a slice's spare places count too). A statement '..UptoSaid' is the law's where the arguments, and the package variables that the reading takes, are together of bulk at most 1048576: NARROWER than '..Said'. Prove '..Said' where nothing that the law and all that it calls make is longer than what came in: it says more and counts as full. Else prove '..UptoSaid'. A law counts once. -/
mutual
def uptoBulk {H : Type} : DataW H → Nat
  | .lit (.string bytes) => bytes.length + 1
  | .lit _ => 1
  | .nil => 1
  | .ptr d => uptoBulk d + 1
  | .slice elems spare => uptoBulkAll elems + uptoBulkAll spare + 1
  | .agg parts => uptoBulkAll parts + 1
  | .iface _ d => uptoBulk d + 1
  | .map entries => uptoBulkEntries entries + 1
  | .held _ => 1
def uptoBulkAll {H : Type} : List (DataW H) → Nat
  | [] => 0
  | d :: r => uptoBulk d + uptoBulkAll r
def uptoBulkEntries {H : Type} : List (Lit × DataW H) → Nat
  | [] => 0
  | x :: r => uptoBulkEntry x + uptoBulkEntries r
def uptoBulkEntry {H : Type} : Lit × DataW H → Nat
  | (.string bytes, d) => bytes.length + uptoBulk d + 1
  | (_, d) => uptoBulk d + 1
 end
def uptoSmall : (H : Type) → List (DataW H) → Bool := fun _ ds => decide (uptoBulkAll ds ≤ 1048576)
def OpenSpec.upto (s : _root_.Go.ChangeSpec) : _root_.Go.OpenSpec := { _root_.Go.OpenSpec.ofChange s with cond := some uptoSmall }

/-- 'waywardenlaw1.CoverFew', WHERE WHAT IT READS IS OF BULK AT MOST 1048576: true; the input reads as it did. -/
def coverFewUptoRow : OpenClaim := { program := "ytdomjiihnliemaa", sum := "09dfddfe08b3abfd67d6294302a85ad81b44c63873566855f249d9cd6305e0ad", func := "waywarden/waywardenlaw1.CoverFew", spec := "coverFew", unfollowed := true, recurses := true, apart := false, narrowed := true }
def CoverFewUptoSaid : Prop := coverFewUptoRow.holds Try.pinned (OpenSpec.upto coverFewSpec)

/-- 'waywardenlaw1.CoverSizes', WHERE WHAT IT READS IS OF BULK AT MOST 1048576: true; the input reads as it did. -/
def coverSizesUptoRow : OpenClaim := { program := "ytdomjiihnliemaa", sum := "09dfddfe08b3abfd67d6294302a85ad81b44c63873566855f249d9cd6305e0ad", func := "waywarden/waywardenlaw1.CoverSizes", spec := "coverSizes", unfollowed := true, recurses := true, apart := false, narrowed := true }
def CoverSizesUptoSaid : Prop := coverSizesUptoRow.holds Try.pinned (OpenSpec.upto coverSizesSpec)

/-- 'waywardenlaw1.CoverSame', WHERE WHAT IT READS IS OF BULK AT MOST 1048576: true; the input reads as it did. -/
def coverSameUptoRow : OpenClaim := { program := "ytdomjiihnliemaa", sum := "09dfddfe08b3abfd67d6294302a85ad81b44c63873566855f249d9cd6305e0ad", func := "waywarden/waywardenlaw1.CoverSame", spec := "coverSame", unfollowed := true, recurses := true, apart := false, narrowed := true }
def CoverSameUptoSaid : Prop := coverSameUptoRow.holds Try.pinned (OpenSpec.upto coverSameSpec)

end Rows
end Go.Proofs.Ytdomjiihnliemaa
