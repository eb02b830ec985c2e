/-
  DERIVED. GIVEN WITH THE SEED: THE CARDS: each row of YtplojnlmofbneaaDoorRows.lean that lists a variable, with what it lists TIED to the program's text (the seventh form; the later family's looks); each row that meets fmt, with fmt's text TOLD by the authors' own Lean function (tested against real Go, not proved from fmt's source: count such statements apart). THE CARD IS WHAT COUNTS. Prove the row's statement (the work); the ties are given (YtplojnlmofbneaaDoorTie.lean); close each card by the builder's one call (the guide's Derived/Test/ToyasCard.lean, 'card_holds'). Laid BY PROGRAM, IN A SANDBOX (cutbox-door.mjs). By AI agents, Wed Nov 11 2026. No macro, syntax, notation, axiom, sorry.
-/
import Derived.Test.YtplojnlmofbneaaDoorRows
import GoSem.ClaimSeven
namespace Go.Proofs.YtplojnlmofbneaaDoor
namespace Rows

/-- THE TIED CARD OF 'waywardentop.TopFinds'. -/
def topFindsCard : Claim7 := { stood := { row := topFindsRow, standIns := [], harness := (true, "666dd36752849751d1a5a89756ba8777ce2578910eb7f212ed3f7b67294382a7"), looks := true }, kinds := [], alts := [], laidByText := true, laidKinds := [.handle], laidTests := true, laidLooks := .later }
def TopFindsCardSaid : Prop := Claim7.holds Tryd.pinned (.plain (OpenSpec.ofChange topFindsSpec)) topFindsCard

/-- THE TIED CARD OF 'waywardenlaw1.TrieTells'. -/
def trieTellsCard : Claim7 := { stood := { row := trieTellsRow, standIns := [], harness := (true, "666dd36752849751d1a5a89756ba8777ce2578910eb7f212ed3f7b67294382a7"), looks := true }, kinds := [], alts := [], laidByText := true, laidKinds := [.handle], laidTests := true, laidLooks := .later }
def TrieTellsCardSaid : Prop := Claim7.holds Tryd.pinned (.plain (OpenSpec.ofChange trieTellsSpec)) trieTellsCard

/-- THE TIED CARD OF 'waywardenlaw1.TrieDrops'. -/
def trieDropsCard : Claim7 := { stood := { row := trieDropsRow, standIns := [], harness := (true, "666dd36752849751d1a5a89756ba8777ce2578910eb7f212ed3f7b67294382a7"), looks := true }, kinds := [], alts := [], laidByText := true, laidKinds := [.handle], laidTests := true, laidLooks := .later }
def TrieDropsCardSaid : Prop := Claim7.holds Tryd.pinned (.plain (OpenSpec.ofChange trieDropsSpec)) trieDropsCard

/-- THE TIED CARD OF 'waywardenlaw5.PlanTells'. -/
def planTellsCard : Claim7 := { stood := { row := planTellsRow, standIns := [], harness := (true, "666dd36752849751d1a5a89756ba8777ce2578910eb7f212ed3f7b67294382a7"), looks := true }, kinds := [], alts := [], laidByText := true, laidKinds := [.handle], laidTests := true, laidLooks := .later }
def PlanTellsCardSaid : Prop := Claim7.holds Tryd.pinned (.plain (OpenSpec.ofChange planTellsSpec)) planTellsCard

/-- THE TIED CARD OF 'waywardenlaw5.PlanFits'. -/
def planFitsCard : Claim7 := { stood := { row := planFitsRow, standIns := [], harness := (true, "666dd36752849751d1a5a89756ba8777ce2578910eb7f212ed3f7b67294382a7"), looks := true }, kinds := [], alts := [], laidByText := true, laidKinds := [.handle], laidTests := true, laidLooks := .later }
def PlanFitsCardSaid : Prop := Claim7.holds Tryd.pinned (.plain (OpenSpec.ofChange planFitsSpec)) planFitsCard

/-- THE SECOND FORM's CARD OF 'waywardentop.TopFinds'. -/
def topFindsUptoCard : Claim7 := { stood := { row := topFindsUptoRow, standIns := [], harness := (true, "666dd36752849751d1a5a89756ba8777ce2578910eb7f212ed3f7b67294382a7"), looks := true }, kinds := [], alts := [], laidByText := true, laidKinds := [.handle], laidTests := true, laidLooks := .later }
def TopFindsUptoCardSaid : Prop := Claim7.holds Tryd.pinned (.plain (OpenSpec.upto topFindsSpec)) topFindsUptoCard

/-- THE SECOND FORM's CARD OF 'waywardenlaw1.TrieTells'. -/
def trieTellsUptoCard : Claim7 := { stood := { row := trieTellsUptoRow, standIns := [], harness := (true, "666dd36752849751d1a5a89756ba8777ce2578910eb7f212ed3f7b67294382a7"), looks := true }, kinds := [], alts := [], laidByText := true, laidKinds := [.handle], laidTests := true, laidLooks := .later }
def TrieTellsUptoCardSaid : Prop := Claim7.holds Tryd.pinned (.plain (OpenSpec.upto trieTellsSpec)) trieTellsUptoCard

/-- THE SECOND FORM's CARD OF 'waywardenlaw1.TrieDrops'. -/
def trieDropsUptoCard : Claim7 := { stood := { row := trieDropsUptoRow, standIns := [], harness := (true, "666dd36752849751d1a5a89756ba8777ce2578910eb7f212ed3f7b67294382a7"), looks := true }, kinds := [], alts := [], laidByText := true, laidKinds := [.handle], laidTests := true, laidLooks := .later }
def TrieDropsUptoCardSaid : Prop := Claim7.holds Tryd.pinned (.plain (OpenSpec.upto trieDropsSpec)) trieDropsUptoCard

/-- THE SECOND FORM's CARD OF 'waywardenlaw5.PlanTells'. -/
def planTellsUptoCard : Claim7 := { stood := { row := planTellsUptoRow, standIns := [], harness := (true, "666dd36752849751d1a5a89756ba8777ce2578910eb7f212ed3f7b67294382a7"), looks := true }, kinds := [], alts := [], laidByText := true, laidKinds := [.handle], laidTests := true, laidLooks := .later }
def PlanTellsUptoCardSaid : Prop := Claim7.holds Tryd.pinned (.plain (OpenSpec.upto planTellsSpec)) planTellsUptoCard

/-- THE SECOND FORM's CARD OF 'waywardenlaw5.PlanFits'. -/
def planFitsUptoCard : Claim7 := { stood := { row := planFitsUptoRow, standIns := [], harness := (true, "666dd36752849751d1a5a89756ba8777ce2578910eb7f212ed3f7b67294382a7"), looks := true }, kinds := [], alts := [], laidByText := true, laidKinds := [.handle], laidTests := true, laidLooks := .later }
def PlanFitsUptoCardSaid : Prop := Claim7.holds Tryd.pinned (.plain (OpenSpec.upto planFitsSpec)) planFitsUptoCard
end Rows
end Go.Proofs.YtplojnlmofbneaaDoor
