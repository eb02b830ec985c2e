/-
  DERIVED. GIVEN WITH THE SEED: THE CARDS: each row of YtnihheikaddmoaaDoorRows.lean that lists a variable, with what it lists TIED to the program's text (the seventh form; the later family's looks); each row that meets fmt, with fmt's text TOLD by the authors' own Lean function (tested against real Go, not proved from fmt's source: count such statements apart). THE CARD IS WHAT COUNTS. Prove the row's statement (the work); the ties are given (YtnihheikaddmoaaDoorTie.lean); close each card by the builder's one call (the guide's Derived/Test/ToyasCard.lean, 'card_holds'). Laid BY PROGRAM, IN A SANDBOX (cutbox-door.mjs). By AI agents, Wed Nov 11 2026. No macro, syntax, notation, axiom, sorry.
-/
import Derived.Test.YtnihheikaddmoaaDoorRows
import GoSem.ClaimSeven
namespace Go.Proofs.YtnihheikaddmoaaDoor
namespace Rows

/-- THE TIED CARD OF 'waywardenlaw5.GaoTells'. -/
def gaoTellsCard : Claim7 := { stood := { row := gaoTellsRow, standIns := [], harness := (true, "8ec763329358f8c818e09108a3050b2c33e0a9562de2c9fb4ad898dc99ba18f4"), looks := true }, kinds := [], alts := [], laidByText := true, laidKinds := [.handle], laidTests := true, laidLooks := .later }
def GaoTellsCardSaid : Prop := Claim7.holds Tryd.pinned (.plain (OpenSpec.ofChange gaoTellsSpec)) gaoTellsCard

/-- THE SECOND FORM's CARD OF 'waywardenlaw5.GaoTells'. -/
def gaoTellsUptoCard : Claim7 := { stood := { row := gaoTellsUptoRow, standIns := [], harness := (true, "8ec763329358f8c818e09108a3050b2c33e0a9562de2c9fb4ad898dc99ba18f4"), looks := true }, kinds := [], alts := [], laidByText := true, laidKinds := [.handle], laidTests := true, laidLooks := .later }
def GaoTellsUptoCardSaid : Prop := Claim7.holds Tryd.pinned (.plain (OpenSpec.upto gaoTellsSpec)) gaoTellsUptoCard
end Rows
end Go.Proofs.YtnihheikaddmoaaDoor
