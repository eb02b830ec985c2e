/-
  No cell of these rows narrows 'for every input' (looked for: loops, veiled, ifaces, maps, wideKeys, modest, calm, conditions, laid).
  DERIVED. THE GIVEN ROWS OF THIS SEAT. 4 by the template 'for every input the law returns true; each argument reads behind the call as it read before'; 0 by the template 'total and deterministic' (their statements: YtnihheikaddmoaaTotals.lean).
  GIVEN WITH THE SEED: the statements are not yours to turn. If you find one false, say at which input.
  Laid BY PROGRAM, IN A SANDBOX (cutbox-rows.mjs): the forced cells as the released guide's own fill.sh prints them over the translation fd56cf7f9533de5d… (all of the seat's roots in one cut). By AI agents, Wed Nov 11 2026. No macro, syntax, notation, axiom, sorry.
-/
import Derived.Test.YtnihheikaddmoaaChecked
import GoSem.Claim
import GoSem.ClaimJoined
import GoSem.ClaimMapViews
import Derived.JoinedTies
import Derived.KernelRfl
namespace Go.Proofs.Ytnihheikaddmoaa
/- THE CELL 'sum', in the pinned program and in every row, IS THE sha256 OF THE DUMP (.gsa) THAT YtnihheikaddmoaaProg.lean LOADS. Nothing in Lean hashes anything: it is a label: what it is worth is what the hold of that sum in a sandbox is worth. -/
noncomputable def Try.pinned : Pinned := { name := "ytnihheikaddmoaa", sum := "fd56cf7f9533de5d5090860acacb3f8a114c42283804129ed6e43ef5570e7786", checked := Try.checked }
namespace Rows
def none {H : Type} : Left H := { results := [], args := [] }

/-- 'waywardenlaw5.GaoStable': WHATEVER THE INPUT: true; the input reads as it did. -/
def gaoStableSpec : ChangeSpec := { name := "gaoStable", fn := fun _ => fun
  | [d1, d2, d3] => { results := [.lit (.bool true)], args := [d1, d2, d3] }
  | _ => none }
def gaoStableRow : OpenClaim := { program := "ytnihheikaddmoaa", sum := "fd56cf7f9533de5d5090860acacb3f8a114c42283804129ed6e43ef5570e7786", func := "waywarden/waywardenlaw5.GaoStable", spec := "gaoStable", unfollowed := true, recurses := true, apart := false }
def GaoStableSaid : Prop := gaoStableRow.holds Try.pinned (OpenSpec.ofChange gaoStableSpec)

/-- ITS FALSE NEIGHBOUR: 'it returns false'. Refute it at one input. -/
def gaoStableWrong : ChangeSpec := { name := "gaoStable", fn := fun _ => fun
  | [d1, d2, d3] => { results := [.lit (.bool false)], args := [d1, d2, d3] }
  | _ => none }
def GaoStableWrongFalsely : Prop := gaoStableRow.holds Try.pinned (OpenSpec.ofChange gaoStableWrong)

/-- 'waywardenlaw5.GaoOnly': WHATEVER THE INPUT: true; the input reads as it did. -/
def gaoOnlySpec : ChangeSpec := { name := "gaoOnly", fn := fun _ => fun
  | [d1, d2, d3, d4] => { results := [.lit (.bool true)], args := [d1, d2, d3, d4] }
  | _ => none }
def gaoOnlyRow : OpenClaim := { program := "ytnihheikaddmoaa", sum := "fd56cf7f9533de5d5090860acacb3f8a114c42283804129ed6e43ef5570e7786", func := "waywarden/waywardenlaw5.GaoOnly", spec := "gaoOnly", unfollowed := true, recurses := true, apart := false }
def GaoOnlySaid : Prop := gaoOnlyRow.holds Try.pinned (OpenSpec.ofChange gaoOnlySpec)

/-- ITS FALSE NEIGHBOUR: 'it returns false'. Refute it at one input. -/
def gaoOnlyWrong : ChangeSpec := { name := "gaoOnly", fn := fun _ => fun
  | [d1, d2, d3, d4] => { results := [.lit (.bool false)], args := [d1, d2, d3, d4] }
  | _ => none }
def GaoOnlyWrongFalsely : Prop := gaoOnlyRow.holds Try.pinned (OpenSpec.ofChange gaoOnlyWrong)

/-- 'waywardenlaw5.GaoValleys': WHATEVER THE INPUT: true; the input reads as it did. -/
def gaoValleysSpec : ChangeSpec := { name := "gaoValleys", fn := fun _ => fun
  | [d1, d2, d3, d4] => { results := [.lit (.bool true)], args := [d1, d2, d3, d4] }
  | _ => none }
def gaoValleysRow : OpenClaim := { program := "ytnihheikaddmoaa", sum := "fd56cf7f9533de5d5090860acacb3f8a114c42283804129ed6e43ef5570e7786", func := "waywarden/waywardenlaw5.GaoValleys", spec := "gaoValleys", unfollowed := true, recurses := true, apart := false }
def GaoValleysSaid : Prop := gaoValleysRow.holds Try.pinned (OpenSpec.ofChange gaoValleysSpec)

/-- ITS FALSE NEIGHBOUR: 'it returns false'. Refute it at one input. -/
def gaoValleysWrong : ChangeSpec := { name := "gaoValleys", fn := fun _ => fun
  | [d1, d2, d3, d4] => { results := [.lit (.bool false)], args := [d1, d2, d3, d4] }
  | _ => none }
def GaoValleysWrongFalsely : Prop := gaoValleysRow.holds Try.pinned (OpenSpec.ofChange gaoValleysWrong)

/-- 'waywardenlaw5.GaoBetter': WHATEVER THE INPUT: true; the input reads as it did. -/
def gaoBetterSpec : ChangeSpec := { name := "gaoBetter", fn := fun _ => fun
  | [d1, d2, d3] => { results := [.lit (.bool true)], args := [d1, d2, d3] }
  | _ => none }
def gaoBetterRow : OpenClaim := { program := "ytnihheikaddmoaa", sum := "fd56cf7f9533de5d5090860acacb3f8a114c42283804129ed6e43ef5570e7786", func := "waywarden/waywardenlaw5.GaoBetter", spec := "gaoBetter", unfollowed := true, recurses := true, apart := false }
def GaoBetterSaid : Prop := gaoBetterRow.holds Try.pinned (OpenSpec.ofChange gaoBetterSpec)

/-- ITS FALSE NEIGHBOUR: 'it returns false'. Refute it at one input. -/
def gaoBetterWrong : ChangeSpec := { name := "gaoBetter", fn := fun _ => fun
  | [d1, d2, d3] => { results := [.lit (.bool false)], args := [d1, d2, d3] }
  | _ => none }
def GaoBetterWrongFalsely : Prop := gaoBetterRow.holds Try.pinned (OpenSpec.ofChange gaoBetterWrong)

/- THE SECOND FORM. 'bulk': how many values and letters a reading holds, each counted each time it is reached (what is shared counts as often as it is met; a slice's spare places count too). A statement '..UptoSaid' is the law's where the arguments, and the package variables that the reading takes, are together of bulk at most 1048576: NARROWER than '..Said'. Prove '..Said' where nothing that the law and all that it calls make is longer than what came in: it says more and counts as full. Else prove '..UptoSaid'. A law counts once. -/
mutual
def uptoBulk {H : Type} : DataW H → Nat
  | .lit (.string bytes) => bytes.length + 1
  | .lit _ => 1
  | .nil => 1
  | .ptr d => uptoBulk d + 1
  | .slice elems spare => uptoBulkAll elems + uptoBulkAll spare + 1
  | .agg parts => uptoBulkAll parts + 1
  | .iface _ d => uptoBulk d + 1
  | .map entries => uptoBulkEntries entries + 1
  | .held _ => 1
def uptoBulkAll {H : Type} : List (DataW H) → Nat
  | [] => 0
  | d :: r => uptoBulk d + uptoBulkAll r
def uptoBulkEntries {H : Type} : List (Lit × DataW H) → Nat
  | [] => 0
  | x :: r => uptoBulkEntry x + uptoBulkEntries r
def uptoBulkEntry {H : Type} : Lit × DataW H → Nat
  | (.string bytes, d) => bytes.length + uptoBulk d + 1
  | (_, d) => uptoBulk d + 1
 end
def uptoSmall : (H : Type) → List (DataW H) → Bool := fun _ ds => decide (uptoBulkAll ds ≤ 1048576)
def OpenSpec.upto (s : _root_.Go.ChangeSpec) : _root_.Go.OpenSpec := { _root_.Go.OpenSpec.ofChange s with cond := some uptoSmall }

/-- 'waywardenlaw5.GaoStable', WHERE WHAT IT READS IS OF BULK AT MOST 1048576: true; the input reads as it did. -/
def gaoStableUptoRow : OpenClaim := { program := "ytnihheikaddmoaa", sum := "fd56cf7f9533de5d5090860acacb3f8a114c42283804129ed6e43ef5570e7786", func := "waywarden/waywardenlaw5.GaoStable", spec := "gaoStable", unfollowed := true, recurses := true, apart := false, narrowed := true }
def GaoStableUptoSaid : Prop := gaoStableUptoRow.holds Try.pinned (OpenSpec.upto gaoStableSpec)

/-- 'waywardenlaw5.GaoOnly', WHERE WHAT IT READS IS OF BULK AT MOST 1048576: true; the input reads as it did. -/
def gaoOnlyUptoRow : OpenClaim := { program := "ytnihheikaddmoaa", sum := "fd56cf7f9533de5d5090860acacb3f8a114c42283804129ed6e43ef5570e7786", func := "waywarden/waywardenlaw5.GaoOnly", spec := "gaoOnly", unfollowed := true, recurses := true, apart := false, narrowed := true }
def GaoOnlyUptoSaid : Prop := gaoOnlyUptoRow.holds Try.pinned (OpenSpec.upto gaoOnlySpec)

/-- 'waywardenlaw5.GaoValleys', WHERE WHAT IT READS IS OF BULK AT MOST 1048576: true; the input reads as it did. -/
def gaoValleysUptoRow : OpenClaim := { program := "ytnihheikaddmoaa", sum := "fd56cf7f9533de5d5090860acacb3f8a114c42283804129ed6e43ef5570e7786", func := "waywarden/waywardenlaw5.GaoValleys", spec := "gaoValleys", unfollowed := true, recurses := true, apart := false, narrowed := true }
def GaoValleysUptoSaid : Prop := gaoValleysUptoRow.holds Try.pinned (OpenSpec.upto gaoValleysSpec)

/-- 'waywardenlaw5.GaoBetter', WHERE WHAT IT READS IS OF BULK AT MOST 1048576: true; the input reads as it did. -/
def gaoBetterUptoRow : OpenClaim := { program := "ytnihheikaddmoaa", sum := "fd56cf7f9533de5d5090860acacb3f8a114c42283804129ed6e43ef5570e7786", func := "waywarden/waywardenlaw5.GaoBetter", spec := "gaoBetter", unfollowed := true, recurses := true, apart := false, narrowed := true }
def GaoBetterUptoSaid : Prop := gaoBetterUptoRow.holds Try.pinned (OpenSpec.upto gaoBetterSpec)

end Rows
end Go.Proofs.Ytnihheikaddmoaa
