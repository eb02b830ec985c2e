/-
  DERIVED. GIVEN WITH THE SEED: THE CARDS: each row of YtcpknghfdlmopaaDoorRows.lean that lists a variable, with what it lists TIED to the program's text (the seventh form; the later family's looks); each row that meets fmt, with fmt's text TOLD by the authors' own Lean function (tested against real Go, not proved from fmt's source: count such statements apart). THE CARD IS WHAT COUNTS. Prove the row's statement (the work); the ties are given (YtcpknghfdlmopaaDoorTie.lean); close each card by the builder's one call (the guide's Derived/Test/ToyasCard.lean, 'card_holds'). Laid BY PROGRAM, IN A SANDBOX (cutbox-door.mjs). By AI agents, Wed Nov 11 2026. No macro, syntax, notation, axiom, sorry.
-/
import Derived.Test.YtcpknghfdlmopaaDoorRows
import GoSem.ClaimSeven
namespace Go.Proofs.YtcpknghfdlmopaaDoor
namespace Rows

/-- THE TIED CARD OF 'waywardenlaw5.SppTells'. -/
def sppTellsCard : Claim7 := { stood := { row := sppTellsRow, standIns := [], harness := (true, "2c0f2e8c3f61a479dd65d717082c5d042e5ede62fb296f3db7c8eecf18f29264"), looks := true }, kinds := [], alts := [], laidByText := true, laidKinds := [.handle], laidTests := true, laidLooks := .later }
def SppTellsCardSaid : Prop := Claim7.holds Tryd.pinned (.plain (OpenSpec.ofChange sppTellsSpec)) sppTellsCard

/-- THE SECOND FORM's CARD OF 'waywardenlaw5.SppTells'. -/
def sppTellsUptoCard : Claim7 := { stood := { row := sppTellsUptoRow, standIns := [], harness := (true, "2c0f2e8c3f61a479dd65d717082c5d042e5ede62fb296f3db7c8eecf18f29264"), looks := true }, kinds := [], alts := [], laidByText := true, laidKinds := [.handle], laidTests := true, laidLooks := .later }
def SppTellsUptoCardSaid : Prop := Claim7.holds Tryd.pinned (.plain (OpenSpec.upto sppTellsSpec)) sppTellsUptoCard
end Rows
end Go.Proofs.YtcpknghfdlmopaaDoor
