/-
  DERIVED. GIVEN WITH THE SEED: THE CARDS: each row of YtohfeoahdbfjbaaGreatDoorRows.lean that lists a variable, with what it lists TIED to the program's text (the seventh form; the later family's looks); each row that meets fmt, with fmt's text TOLD by the authors' own Lean function (tested against real Go, not proved from fmt's source: count such statements apart). THE CARD IS WHAT COUNTS. Prove the row's statement (the work); the ties are given (YtohfeoahdbfjbaaGreatDoorTie.lean); close each card by the builder's one call (the guide's Derived/Test/ToyasCard.lean, 'card_holds'). Laid BY PROGRAM, IN A SANDBOX (cutbox-door.mjs). By AI agents, Wed Nov 11 2026. No macro, syntax, notation, axiom, sorry.
-/
import Derived.Test.YtohfeoahdbfjbaaGreatDoorRows
import GoSem.ClaimSeven
namespace Go.Proofs.YtohfeoahdbfjbaaGreatDoor
namespace Rows

/-- THE TIED CARD OF 'waywardenlaw1.PrefTells'. -/
def prefTellsCard : Claim7 := { stood := { row := prefTellsRow, standIns := [], harness := (true, "cd4ad417bfb8b5fea2428b9b199b995b8ddacd3e0ba707339916659ea74fa2f2"), looks := true }, kinds := [], alts := [], laidByText := true, laidKinds := [.data, .data, .data, .data, .handle, .sentinel, .sentinel, .pinned], laidTests := true, laidLooks := .later }
def PrefTellsCardSaid : Prop := Claim7.holds Tryz.pinned (.plain (OpenSpec.ofChange prefTellsSpec)) prefTellsCard

/-- THE SECOND FORM's CARD OF 'waywardenlaw1.PrefTells'. -/
def prefTellsUptoCard : Claim7 := { stood := { row := prefTellsUptoRow, standIns := [], harness := (true, "cd4ad417bfb8b5fea2428b9b199b995b8ddacd3e0ba707339916659ea74fa2f2"), looks := true }, kinds := [], alts := [], laidByText := true, laidKinds := [.data, .data, .data, .data, .handle, .sentinel, .sentinel, .pinned], laidTests := true, laidLooks := .later }
def PrefTellsUptoCardSaid : Prop := Claim7.holds Tryz.pinned (.plain (OpenSpec.upto prefTellsSpec)) prefTellsUptoCard
end Rows
end Go.Proofs.YtohfeoahdbfjbaaGreatDoor
