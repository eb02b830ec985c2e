/-
  DERIVED. GIVEN WITH THE SEED: THE CARDS: each row of YtimdnfakgobadaaDoorRows.lean that lists a variable, with what it lists TIED to the program's text (the seventh form; the later family's looks); each row that meets fmt, with fmt's text TOLD by the authors' own Lean function (tested against real Go, not proved from fmt's source: count such statements apart). THE CARD IS WHAT COUNTS. Prove the row's statement (the work); the ties are given (YtimdnfakgobadaaDoorTie.lean); close each card by the builder's one call (the guide's Derived/Test/ToyasCard.lean, 'card_holds'). Laid BY PROGRAM, IN A SANDBOX (cutbox-door.mjs). By AI agents, Wed Nov 11 2026. No macro, syntax, notation, axiom, sorry.
-/
import Derived.Test.YtimdnfakgobadaaDoorRows
import GoSem.ClaimSeven
namespace Go.Proofs.YtimdnfakgobadaaDoor
namespace Rows

/-- THE TIED CARD OF 'waywardenlaw1.MaskTells'. -/
def maskTellsCard : Claim7 := { stood := { row := maskTellsRow, standIns := [], harness := (true, "24a769971b17ed0eb6e4822e16913a176176e75b1e7e0e32a31b8a36161ea863"), looks := true }, kinds := [], alts := [], laidByText := true, laidKinds := [.handle], laidTests := true, laidLooks := .later }
def MaskTellsCardSaid : Prop := Claim7.holds Tryd.pinned (.plain (OpenSpec.ofChange maskTellsSpec)) maskTellsCard

/-- THE TIED CARD OF 'waywardenlaw1.WireTells'. -/
def wireTellsCard : Claim7 := { stood := { row := wireTellsRow, standIns := [], harness := (true, "24a769971b17ed0eb6e4822e16913a176176e75b1e7e0e32a31b8a36161ea863"), looks := true }, kinds := [], alts := [], laidByText := true, laidKinds := [.handle], laidTests := true, laidLooks := .later }
def WireTellsCardSaid : Prop := Claim7.holds Tryd.pinned (.plain (OpenSpec.ofChange wireTellsSpec)) wireTellsCard

/-- THE TIED CARD OF 'waywardenlaw1.WireTorn'. -/
def wireTornCard : Claim7 := { stood := { row := wireTornRow, standIns := [], harness := (true, "24a769971b17ed0eb6e4822e16913a176176e75b1e7e0e32a31b8a36161ea863"), looks := true }, kinds := [], alts := [], laidByText := true, laidKinds := [.handle], laidTests := true, laidLooks := .later }
def WireTornCardSaid : Prop := Claim7.holds Tryd.pinned (.plain (OpenSpec.ofChange wireTornSpec)) wireTornCard

/-- THE TIED CARD OF 'waywardenlaw1.WireShort'. -/
def wireShortCard : Claim7 := { stood := { row := wireShortRow, standIns := [], harness := (true, "24a769971b17ed0eb6e4822e16913a176176e75b1e7e0e32a31b8a36161ea863"), looks := true }, kinds := [], alts := [], laidByText := true, laidKinds := [.handle], laidTests := true, laidLooks := .later }
def WireShortCardSaid : Prop := Claim7.holds Tryd.pinned (.plain (OpenSpec.ofChange wireShortSpec)) wireShortCard

/-- THE SECOND FORM's CARD OF 'waywardenlaw1.MaskTells'. -/
def maskTellsUptoCard : Claim7 := { stood := { row := maskTellsUptoRow, standIns := [], harness := (true, "24a769971b17ed0eb6e4822e16913a176176e75b1e7e0e32a31b8a36161ea863"), looks := true }, kinds := [], alts := [], laidByText := true, laidKinds := [.handle], laidTests := true, laidLooks := .later }
def MaskTellsUptoCardSaid : Prop := Claim7.holds Tryd.pinned (.plain (OpenSpec.upto maskTellsSpec)) maskTellsUptoCard

/-- THE SECOND FORM's CARD OF 'waywardenlaw1.WireTells'. -/
def wireTellsUptoCard : Claim7 := { stood := { row := wireTellsUptoRow, standIns := [], harness := (true, "24a769971b17ed0eb6e4822e16913a176176e75b1e7e0e32a31b8a36161ea863"), looks := true }, kinds := [], alts := [], laidByText := true, laidKinds := [.handle], laidTests := true, laidLooks := .later }
def WireTellsUptoCardSaid : Prop := Claim7.holds Tryd.pinned (.plain (OpenSpec.upto wireTellsSpec)) wireTellsUptoCard

/-- THE SECOND FORM's CARD OF 'waywardenlaw1.WireTorn'. -/
def wireTornUptoCard : Claim7 := { stood := { row := wireTornUptoRow, standIns := [], harness := (true, "24a769971b17ed0eb6e4822e16913a176176e75b1e7e0e32a31b8a36161ea863"), looks := true }, kinds := [], alts := [], laidByText := true, laidKinds := [.handle], laidTests := true, laidLooks := .later }
def WireTornUptoCardSaid : Prop := Claim7.holds Tryd.pinned (.plain (OpenSpec.upto wireTornSpec)) wireTornUptoCard

/-- THE SECOND FORM's CARD OF 'waywardenlaw1.WireShort'. -/
def wireShortUptoCard : Claim7 := { stood := { row := wireShortUptoRow, standIns := [], harness := (true, "24a769971b17ed0eb6e4822e16913a176176e75b1e7e0e32a31b8a36161ea863"), looks := true }, kinds := [], alts := [], laidByText := true, laidKinds := [.handle], laidTests := true, laidLooks := .later }
def WireShortUptoCardSaid : Prop := Claim7.holds Tryd.pinned (.plain (OpenSpec.upto wireShortSpec)) wireShortUptoCard
end Rows
end Go.Proofs.YtimdnfakgobadaaDoor
