/-
  No cell of these rows narrows 'for every input' (looked for: loops, veiled, ifaces, maps, wideKeys, modest, calm, conditions, laid).
  DERIVED. THE GIVEN ROWS OF THIS SEAT. 2 by the template 'for every input the law returns true; each argument reads behind the call as it read before'; 0 by the template 'total and deterministic' (their statements: YtcpknghfdlmopaaTotals.lean).
  GIVEN WITH THE SEED: the statements are not yours to turn. If you find one false, say at which input.
  Laid BY PROGRAM, IN A SANDBOX (cutbox-rows.mjs): the forced cells as the released guide's own fill.sh prints them over the translation 87c0fcce501e0b55… (all of the seat's roots in one cut). By AI agents, Wed Nov 11 2026. No macro, syntax, notation, axiom, sorry.
-/
import Derived.Test.YtcpknghfdlmopaaChecked
import GoSem.Claim
import GoSem.ClaimJoined
import GoSem.ClaimMapViews
import Derived.JoinedTies
import Derived.KernelRfl
namespace Go.Proofs.Ytcpknghfdlmopaa
/- THE CELL 'sum', in the pinned program and in every row, IS THE sha256 OF THE DUMP (.gsa) THAT YtcpknghfdlmopaaProg.lean LOADS. Nothing in Lean hashes anything: it is a label: what it is worth is what the hold of that sum in a sandbox is worth. -/
noncomputable def Try.pinned : Pinned := { name := "ytcpknghfdlmopaa", sum := "87c0fcce501e0b55b46629bed8972e1d5e083c2af89bbfbc2cd0b1092cf67d4b", checked := Try.checked }
namespace Rows
def none {H : Type} : Left H := { results := [], args := [] }

/-- 'waywardenlaw5.SppNever': WHATEVER THE INPUT: true; the input reads as it did. -/
def sppNeverSpec : ChangeSpec := { name := "sppNever", fn := fun _ => fun
  | [d1, d2] => { results := [.lit (.bool true)], args := [d1, d2] }
  | _ => none }
def sppNeverRow : OpenClaim := { program := "ytcpknghfdlmopaa", sum := "87c0fcce501e0b55b46629bed8972e1d5e083c2af89bbfbc2cd0b1092cf67d4b", func := "waywarden/waywardenlaw5.SppNever", spec := "sppNever", unfollowed := true, recurses := true, apart := false }
def SppNeverSaid : Prop := sppNeverRow.holds Try.pinned (OpenSpec.ofChange sppNeverSpec)

/-- ITS FALSE NEIGHBOUR: 'it returns false'. Refute it at one input. -/
def sppNeverWrong : ChangeSpec := { name := "sppNever", fn := fun _ => fun
  | [d1, d2] => { results := [.lit (.bool false)], args := [d1, d2] }
  | _ => none }
def SppNeverWrongFalsely : Prop := sppNeverRow.holds Try.pinned (OpenSpec.ofChange sppNeverWrong)

/-- 'waywardenlaw5.SppStill': WHATEVER THE INPUT: true; the input reads as it did. -/
def sppStillSpec : ChangeSpec := { name := "sppStill", fn := fun _ => fun
  | [d1, d2, d3] => { results := [.lit (.bool true)], args := [d1, d2, d3] }
  | _ => none }
def sppStillRow : OpenClaim := { program := "ytcpknghfdlmopaa", sum := "87c0fcce501e0b55b46629bed8972e1d5e083c2af89bbfbc2cd0b1092cf67d4b", func := "waywarden/waywardenlaw5.SppStill", spec := "sppStill", unfollowed := true, recurses := true, apart := false }
def SppStillSaid : Prop := sppStillRow.holds Try.pinned (OpenSpec.ofChange sppStillSpec)

/-- ITS FALSE NEIGHBOUR: 'it returns false'. Refute it at one input. -/
def sppStillWrong : ChangeSpec := { name := "sppStill", fn := fun _ => fun
  | [d1, d2, d3] => { results := [.lit (.bool false)], args := [d1, d2, d3] }
  | _ => none }
def SppStillWrongFalsely : Prop := sppStillRow.holds Try.pinned (OpenSpec.ofChange sppStillWrong)

/- THE SECOND FORM. 'bulk': how many values and letters a reading holds, each counted each time it is reached (what is shared counts as often as it is met; a slice's spare places count too). A statement '..UptoSaid' is the law's where the arguments, and the package variables that the reading takes, are together of bulk at most 1048576: NARROWER than '..Said'. Prove '..Said' where nothing that the law and all that it calls make is longer than what came in: it says more and counts as full. Else prove '..UptoSaid'. A law counts once. -/
mutual
def uptoBulk {H : Type} : DataW H → Nat
  | .lit (.string bytes) => bytes.length + 1
  | .lit _ => 1
  | .nil => 1
  | .ptr d => uptoBulk d + 1
  | .slice elems spare => uptoBulkAll elems + uptoBulkAll spare + 1
  | .agg parts => uptoBulkAll parts + 1
  | .iface _ d => uptoBulk d + 1
  | .map entries => uptoBulkEntries entries + 1
  | .held _ => 1
def uptoBulkAll {H : Type} : List (DataW H) → Nat
  | [] => 0
  | d :: r => uptoBulk d + uptoBulkAll r
def uptoBulkEntries {H : Type} : List (Lit × DataW H) → Nat
  | [] => 0
  | x :: r => uptoBulkEntry x + uptoBulkEntries r
def uptoBulkEntry {H : Type} : Lit × DataW H → Nat
  | (.string bytes, d) => bytes.length + uptoBulk d + 1
  | (_, d) => uptoBulk d + 1
 end
def uptoSmall : (H : Type) → List (DataW H) → Bool := fun _ ds => decide (uptoBulkAll ds ≤ 1048576)
def OpenSpec.upto (s : _root_.Go.ChangeSpec) : _root_.Go.OpenSpec := { _root_.Go.OpenSpec.ofChange s with cond := some uptoSmall }

/-- 'waywardenlaw5.SppNever', WHERE WHAT IT READS IS OF BULK AT MOST 1048576: true; the input reads as it did. -/
def sppNeverUptoRow : OpenClaim := { program := "ytcpknghfdlmopaa", sum := "87c0fcce501e0b55b46629bed8972e1d5e083c2af89bbfbc2cd0b1092cf67d4b", func := "waywarden/waywardenlaw5.SppNever", spec := "sppNever", unfollowed := true, recurses := true, apart := false, narrowed := true }
def SppNeverUptoSaid : Prop := sppNeverUptoRow.holds Try.pinned (OpenSpec.upto sppNeverSpec)

/-- 'waywardenlaw5.SppStill', WHERE WHAT IT READS IS OF BULK AT MOST 1048576: true; the input reads as it did. -/
def sppStillUptoRow : OpenClaim := { program := "ytcpknghfdlmopaa", sum := "87c0fcce501e0b55b46629bed8972e1d5e083c2af89bbfbc2cd0b1092cf67d4b", func := "waywarden/waywardenlaw5.SppStill", spec := "sppStill", unfollowed := true, recurses := true, apart := false, narrowed := true }
def SppStillUptoSaid : Prop := sppStillUptoRow.holds Try.pinned (OpenSpec.upto sppStillSpec)

end Rows
end Go.Proofs.Ytcpknghfdlmopaa
