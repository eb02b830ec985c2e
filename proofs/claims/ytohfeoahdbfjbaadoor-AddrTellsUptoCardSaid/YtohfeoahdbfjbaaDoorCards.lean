/-
  DERIVED. GIVEN WITH THE SEED: THE CARDS: each row of YtohfeoahdbfjbaaDoorRows.lean that lists a variable, with what it lists TIED to the program's text (the seventh form; the later family's looks); each row that meets fmt, with fmt's text TOLD by the authors' own Lean function (tested against real Go, not proved from fmt's source: count such statements apart). THE CARD IS WHAT COUNTS. Prove the row's statement (the work); the ties are given (YtohfeoahdbfjbaaDoorTie.lean); close each card by the builder's one call (the guide's Derived/Test/ToyasCard.lean, 'card_holds'). Laid BY PROGRAM, IN A SANDBOX (cutbox-door.mjs). By AI agents, Wed Nov 11 2026. No macro, syntax, notation, axiom, sorry.
-/
import Derived.Test.YtohfeoahdbfjbaaDoorRows
import GoSem.ClaimSeven
namespace Go.Proofs.YtohfeoahdbfjbaaDoor
namespace Rows

/-- THE TIED CARD OF 'waywardenlaw1.CoverTells'. -/
def coverTellsCard : Claim7 := { stood := { row := coverTellsRow, standIns := [], harness := (true, "03f43717408dbd0272eef265564ff530eddd3f8294902bdfd24c1685ba4e1f26"), looks := true }, kinds := [], alts := [], laidByText := true, laidKinds := [.handle], laidTests := true, laidLooks := .later }
def CoverTellsCardSaid : Prop := Claim7.holds Tryd.pinned (.plain (OpenSpec.ofChange coverTellsSpec)) coverTellsCard

/-- THE TIED CARD OF 'waywardenlaw1.AddrBack'. -/
def addrBackCard : Claim7 := { stood := { row := addrBackRow, standIns := [], harness := (true, "03f43717408dbd0272eef265564ff530eddd3f8294902bdfd24c1685ba4e1f26"), looks := true }, kinds := [], alts := [], laidByText := true, laidKinds := [.data, .data, .data, .data, .sentinel, .sentinel, .pinned], laidTests := true, laidLooks := .later }
def AddrBackCardSaid : Prop := Claim7.holds Tryd.pinned (.plain (OpenSpec.ofChange addrBackSpec)) addrBackCard

/-- THE TIED CARD OF 'waywardenlaw1.PrefBack'. -/
def prefBackCard : Claim7 := { stood := { row := prefBackRow, standIns := [], harness := (true, "03f43717408dbd0272eef265564ff530eddd3f8294902bdfd24c1685ba4e1f26"), looks := true }, kinds := [], alts := [], laidByText := true, laidKinds := [.data, .data, .data, .data, .sentinel, .sentinel, .pinned], laidTests := true, laidLooks := .later }
def PrefBackCardSaid : Prop := Claim7.holds Tryd.pinned (.plain (OpenSpec.ofChange prefBackSpec)) prefBackCard

/-- THE TIED CARD OF 'waywardenlaw1.PrefNests'. -/
def prefNestsCard : Claim7 := { stood := { row := prefNestsRow, standIns := [], harness := (true, "03f43717408dbd0272eef265564ff530eddd3f8294902bdfd24c1685ba4e1f26"), looks := true }, kinds := [], alts := [], laidByText := true, laidKinds := [.data, .data, .data, .data, .sentinel, .sentinel, .pinned], laidTests := true, laidLooks := .later }
def PrefNestsCardSaid : Prop := Claim7.holds Tryd.pinned (.plain (OpenSpec.ofChange prefNestsSpec)) prefNestsCard

/-- THE TIED CARD OF 'waywardenlaw1.PrefOrder'. -/
def prefOrderCard : Claim7 := { stood := { row := prefOrderRow, standIns := [], harness := (true, "03f43717408dbd0272eef265564ff530eddd3f8294902bdfd24c1685ba4e1f26"), looks := true }, kinds := [], alts := [], laidByText := true, laidKinds := [.data, .data, .data, .data, .sentinel, .sentinel, .pinned], laidTests := true, laidLooks := .later }
def PrefOrderCardSaid : Prop := Claim7.holds Tryd.pinned (.plain (OpenSpec.ofChange prefOrderSpec)) prefOrderCard

/-- THE TIED CARD OF 'waywardenlaw1.PrefHalves'. -/
def prefHalvesCard : Claim7 := { stood := { row := prefHalvesRow, standIns := [], harness := (true, "03f43717408dbd0272eef265564ff530eddd3f8294902bdfd24c1685ba4e1f26"), looks := true }, kinds := [], alts := [], laidByText := true, laidKinds := [.data, .data, .data, .data, .sentinel, .sentinel, .pinned], laidTests := true, laidLooks := .later }
def PrefHalvesCardSaid : Prop := Claim7.holds Tryd.pinned (.plain (OpenSpec.ofChange prefHalvesSpec)) prefHalvesCard

/-- THE TIED CARD OF 'waywardenlaw1.PrefCommon'. -/
def prefCommonCard : Claim7 := { stood := { row := prefCommonRow, standIns := [], harness := (true, "03f43717408dbd0272eef265564ff530eddd3f8294902bdfd24c1685ba4e1f26"), looks := true }, kinds := [], alts := [], laidByText := true, laidKinds := [.data, .data, .data, .data, .sentinel, .sentinel, .pinned], laidTests := true, laidLooks := .later }
def PrefCommonCardSaid : Prop := Claim7.holds Tryd.pinned (.plain (OpenSpec.ofChange prefCommonSpec)) prefCommonCard

/-- THE TIED CARD OF 'waywardenlaw1.AddrTells'. -/
def addrTellsCard : Claim7 := { stood := { row := addrTellsRow, standIns := [], harness := (true, "03f43717408dbd0272eef265564ff530eddd3f8294902bdfd24c1685ba4e1f26"), looks := true }, kinds := [], alts := [], laidByText := true, laidKinds := [.data, .data, .data, .data, .handle, .sentinel, .sentinel, .pinned], laidTests := true, laidLooks := .later }
def AddrTellsCardSaid : Prop := Claim7.holds Tryd.pinned (.plain (OpenSpec.ofChange addrTellsSpec)) addrTellsCard

/-- THE SECOND FORM's CARD OF 'waywardenlaw1.CoverTells'. -/
def coverTellsUptoCard : Claim7 := { stood := { row := coverTellsUptoRow, standIns := [], harness := (true, "03f43717408dbd0272eef265564ff530eddd3f8294902bdfd24c1685ba4e1f26"), looks := true }, kinds := [], alts := [], laidByText := true, laidKinds := [.handle], laidTests := true, laidLooks := .later }
def CoverTellsUptoCardSaid : Prop := Claim7.holds Tryd.pinned (.plain (OpenSpec.upto coverTellsSpec)) coverTellsUptoCard

/-- THE SECOND FORM's CARD OF 'waywardenlaw1.AddrBack'. -/
def addrBackUptoCard : Claim7 := { stood := { row := addrBackUptoRow, standIns := [], harness := (true, "03f43717408dbd0272eef265564ff530eddd3f8294902bdfd24c1685ba4e1f26"), looks := true }, kinds := [], alts := [], laidByText := true, laidKinds := [.data, .data, .data, .data, .sentinel, .sentinel, .pinned], laidTests := true, laidLooks := .later }
def AddrBackUptoCardSaid : Prop := Claim7.holds Tryd.pinned (.plain (OpenSpec.upto addrBackSpec)) addrBackUptoCard

/-- THE SECOND FORM's CARD OF 'waywardenlaw1.PrefBack'. -/
def prefBackUptoCard : Claim7 := { stood := { row := prefBackUptoRow, standIns := [], harness := (true, "03f43717408dbd0272eef265564ff530eddd3f8294902bdfd24c1685ba4e1f26"), looks := true }, kinds := [], alts := [], laidByText := true, laidKinds := [.data, .data, .data, .data, .sentinel, .sentinel, .pinned], laidTests := true, laidLooks := .later }
def PrefBackUptoCardSaid : Prop := Claim7.holds Tryd.pinned (.plain (OpenSpec.upto prefBackSpec)) prefBackUptoCard

/-- THE SECOND FORM's CARD OF 'waywardenlaw1.PrefNests'. -/
def prefNestsUptoCard : Claim7 := { stood := { row := prefNestsUptoRow, standIns := [], harness := (true, "03f43717408dbd0272eef265564ff530eddd3f8294902bdfd24c1685ba4e1f26"), looks := true }, kinds := [], alts := [], laidByText := true, laidKinds := [.data, .data, .data, .data, .sentinel, .sentinel, .pinned], laidTests := true, laidLooks := .later }
def PrefNestsUptoCardSaid : Prop := Claim7.holds Tryd.pinned (.plain (OpenSpec.upto prefNestsSpec)) prefNestsUptoCard

/-- THE SECOND FORM's CARD OF 'waywardenlaw1.PrefOrder'. -/
def prefOrderUptoCard : Claim7 := { stood := { row := prefOrderUptoRow, standIns := [], harness := (true, "03f43717408dbd0272eef265564ff530eddd3f8294902bdfd24c1685ba4e1f26"), looks := true }, kinds := [], alts := [], laidByText := true, laidKinds := [.data, .data, .data, .data, .sentinel, .sentinel, .pinned], laidTests := true, laidLooks := .later }
def PrefOrderUptoCardSaid : Prop := Claim7.holds Tryd.pinned (.plain (OpenSpec.upto prefOrderSpec)) prefOrderUptoCard

/-- THE SECOND FORM's CARD OF 'waywardenlaw1.PrefHalves'. -/
def prefHalvesUptoCard : Claim7 := { stood := { row := prefHalvesUptoRow, standIns := [], harness := (true, "03f43717408dbd0272eef265564ff530eddd3f8294902bdfd24c1685ba4e1f26"), looks := true }, kinds := [], alts := [], laidByText := true, laidKinds := [.data, .data, .data, .data, .sentinel, .sentinel, .pinned], laidTests := true, laidLooks := .later }
def PrefHalvesUptoCardSaid : Prop := Claim7.holds Tryd.pinned (.plain (OpenSpec.upto prefHalvesSpec)) prefHalvesUptoCard

/-- THE SECOND FORM's CARD OF 'waywardenlaw1.PrefCommon'. -/
def prefCommonUptoCard : Claim7 := { stood := { row := prefCommonUptoRow, standIns := [], harness := (true, "03f43717408dbd0272eef265564ff530eddd3f8294902bdfd24c1685ba4e1f26"), looks := true }, kinds := [], alts := [], laidByText := true, laidKinds := [.data, .data, .data, .data, .sentinel, .sentinel, .pinned], laidTests := true, laidLooks := .later }
def PrefCommonUptoCardSaid : Prop := Claim7.holds Tryd.pinned (.plain (OpenSpec.upto prefCommonSpec)) prefCommonUptoCard

/-- THE SECOND FORM's CARD OF 'waywardenlaw1.AddrTells'. -/
def addrTellsUptoCard : Claim7 := { stood := { row := addrTellsUptoRow, standIns := [], harness := (true, "03f43717408dbd0272eef265564ff530eddd3f8294902bdfd24c1685ba4e1f26"), looks := true }, kinds := [], alts := [], laidByText := true, laidKinds := [.data, .data, .data, .data, .handle, .sentinel, .sentinel, .pinned], laidTests := true, laidLooks := .later }
def AddrTellsUptoCardSaid : Prop := Claim7.holds Tryd.pinned (.plain (OpenSpec.upto addrTellsSpec)) addrTellsUptoCard
end Rows
end Go.Proofs.YtohfeoahdbfjbaaDoor
