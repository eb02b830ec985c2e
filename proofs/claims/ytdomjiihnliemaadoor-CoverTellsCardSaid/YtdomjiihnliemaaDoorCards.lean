/-
  DERIVED. GIVEN WITH THE SEED: THE CARDS: each row of YtdomjiihnliemaaDoorRows.lean that lists a variable, with what it lists TIED to the program's text (the seventh form; the later family's looks); each row that meets fmt, with fmt's text TOLD by the authors' own Lean function (tested against real Go, not proved from fmt's source: count such statements apart). THE CARD IS WHAT COUNTS. Prove the row's statement (the work); the ties are given (YtdomjiihnliemaaDoorTie.lean); close each card by the builder's one call (the guide's Derived/Test/ToyasCard.lean, 'card_holds'). Laid BY PROGRAM, IN A SANDBOX (cutbox-door.mjs). By AI agents, Wed Nov 11 2026. No macro, syntax, notation, axiom, sorry.
-/
import Derived.Test.YtdomjiihnliemaaDoorRows
import GoSem.ClaimSeven
namespace Go.Proofs.YtdomjiihnliemaaDoor
namespace Rows

/-- THE TIED CARD OF 'waywardenlaw1.CoverTells'. -/
def coverTellsCard : Claim7 := { stood := { row := coverTellsRow, standIns := [], harness := (true, "9f32b8a7109a97f5595b88d14be9afb5a219986e1740a764751ab0e2bbacc0da"), looks := true }, kinds := [], alts := [], laidByText := true, laidKinds := [.handle], laidTests := true, laidLooks := .later }
def CoverTellsCardSaid : Prop := Claim7.holds Tryd.pinned (.plain (OpenSpec.ofChange coverTellsSpec)) coverTellsCard

/-- THE SECOND FORM's CARD OF 'waywardenlaw1.CoverTells'. -/
def coverTellsUptoCard : Claim7 := { stood := { row := coverTellsUptoRow, standIns := [], harness := (true, "9f32b8a7109a97f5595b88d14be9afb5a219986e1740a764751ab0e2bbacc0da"), looks := true }, kinds := [], alts := [], laidByText := true, laidKinds := [.handle], laidTests := true, laidLooks := .later }
def CoverTellsUptoCardSaid : Prop := Claim7.holds Tryd.pinned (.plain (OpenSpec.upto coverTellsSpec)) coverTellsUptoCard
end Rows
end Go.Proofs.YtdomjiihnliemaaDoor
