/-
  DERIVED. GIVEN WITH THE SEED: THE CARDS: each row of YtaolbokpeafejaaGreatDoorRows.lean that lists a variable, with what it lists TIED to the program's text (the seventh form; the later family's looks); each row that meets fmt, with fmt's text TOLD by the authors' own Lean function (tested against real Go, not proved from fmt's source: count such statements apart). THE CARD IS WHAT COUNTS. Prove the row's statement (the work); the ties are given (YtaolbokpeafejaaGreatDoorTie.lean); close each card by the builder's one call (the guide's Derived/Test/ToyasCard.lean, 'card_holds'). Laid BY PROGRAM, IN A SANDBOX (cutbox-door.mjs). By AI agents, Wed Nov 11 2026. No macro, syntax, notation, axiom, sorry.
-/
import Derived.Test.YtaolbokpeafejaaGreatDoorRows
import GoSem.ClaimSeven
namespace Go.Proofs.YtaolbokpeafejaaGreatDoor
namespace Rows

/-- THE TIED CARD OF 'almanaclaw12.PieceKnown'. -/
def pieceKnownCard : Claim7 := { stood := { row := pieceKnownRow, standIns := [], harness := (true, "94daa52195dd7e6b40cc73547b1bacd75989b8c3e788ae1486ec8c276a48cfbc"), looks := true }, kinds := [], alts := [], laidByText := true, laidKinds := [.funcs], laidTests := true, laidLooks := .later }
def PieceKnownCardSaid : Prop := Claim7.holds Tryz.pinned (.plain (OpenSpec.ofChange pieceKnownSpec)) pieceKnownCard

/-- THE TIED CARD OF 'almanaclaw15.StoreKnown'. -/
def storeKnownCard : Claim7 := { stood := { row := storeKnownRow, standIns := [], harness := (true, "94daa52195dd7e6b40cc73547b1bacd75989b8c3e788ae1486ec8c276a48cfbc"), looks := true }, kinds := [], alts := [], laidByText := true, laidKinds := [.funcs], laidTests := true, laidLooks := .later }
def StoreKnownCardSaid : Prop := Claim7.holds Tryz.pinned (.plain (OpenSpec.ofChange storeKnownSpec)) storeKnownCard

/-- THE TIED CARD OF 'almanaclaw16.SnapKnown'. -/
def snapKnownCard : Claim7 := { stood := { row := snapKnownRow, standIns := [], harness := (true, "94daa52195dd7e6b40cc73547b1bacd75989b8c3e788ae1486ec8c276a48cfbc"), looks := true }, kinds := [], alts := [], laidByText := true, laidKinds := [.funcs], laidTests := true, laidLooks := .later }
def SnapKnownCardSaid : Prop := Claim7.holds Tryz.pinned (.plain (OpenSpec.ofChange snapKnownSpec)) snapKnownCard

/-- THE TIED CARD OF 'almanaclaw13.EntityKnown'. -/
def entityKnownCard : Claim7 := { stood := { row := entityKnownRow, standIns := [], harness := (true, "94daa52195dd7e6b40cc73547b1bacd75989b8c3e788ae1486ec8c276a48cfbc"), looks := true }, kinds := [], alts := [], laidByText := true, laidKinds := [.funcs], laidTests := true, laidLooks := .later }
def EntityKnownCardSaid : Prop := Claim7.holds Tryz.pinned (.plain (OpenSpec.ofChange entityKnownSpec)) entityKnownCard

/-- THE TIED CARD OF 'almanaclaw14.BatchKnown'. -/
def batchKnownCard : Claim7 := { stood := { row := batchKnownRow, standIns := [], harness := (true, "94daa52195dd7e6b40cc73547b1bacd75989b8c3e788ae1486ec8c276a48cfbc"), looks := true }, kinds := [], alts := [], laidByText := true, laidKinds := [.funcs], laidTests := true, laidLooks := .later }
def BatchKnownCardSaid : Prop := Claim7.holds Tryz.pinned (.plain (OpenSpec.ofChange batchKnownSpec)) batchKnownCard

/-- THE TIED CARD OF 'almanaclaw17.AdjKnown'. -/
def adjKnownCard : Claim7 := { stood := { row := adjKnownRow, standIns := [], harness := (true, "94daa52195dd7e6b40cc73547b1bacd75989b8c3e788ae1486ec8c276a48cfbc"), looks := true }, kinds := [], alts := [], laidByText := true, laidKinds := [.funcs], laidTests := true, laidLooks := .later }
def AdjKnownCardSaid : Prop := Claim7.holds Tryz.pinned (.plain (OpenSpec.ofChange adjKnownSpec)) adjKnownCard

/-- THE TIED CARD OF 'almanaclaw18.IndexKnown'. -/
def indexKnownCard : Claim7 := { stood := { row := indexKnownRow, standIns := [], harness := (true, "94daa52195dd7e6b40cc73547b1bacd75989b8c3e788ae1486ec8c276a48cfbc"), looks := true }, kinds := [], alts := [], laidByText := true, laidKinds := [.funcs], laidTests := true, laidLooks := .later }
def IndexKnownCardSaid : Prop := Claim7.holds Tryz.pinned (.plain (OpenSpec.ofChange indexKnownSpec)) indexKnownCard

/-- THE SECOND FORM's CARD OF 'almanaclaw12.PieceKnown'. -/
def pieceKnownUptoCard : Claim7 := { stood := { row := pieceKnownUptoRow, standIns := [], harness := (true, "94daa52195dd7e6b40cc73547b1bacd75989b8c3e788ae1486ec8c276a48cfbc"), looks := true }, kinds := [], alts := [], laidByText := true, laidKinds := [.funcs], laidTests := true, laidLooks := .later }
def PieceKnownUptoCardSaid : Prop := Claim7.holds Tryz.pinned (.plain (OpenSpec.upto pieceKnownSpec)) pieceKnownUptoCard

/-- THE SECOND FORM's CARD OF 'almanaclaw15.StoreKnown'. -/
def storeKnownUptoCard : Claim7 := { stood := { row := storeKnownUptoRow, standIns := [], harness := (true, "94daa52195dd7e6b40cc73547b1bacd75989b8c3e788ae1486ec8c276a48cfbc"), looks := true }, kinds := [], alts := [], laidByText := true, laidKinds := [.funcs], laidTests := true, laidLooks := .later }
def StoreKnownUptoCardSaid : Prop := Claim7.holds Tryz.pinned (.plain (OpenSpec.upto storeKnownSpec)) storeKnownUptoCard

/-- THE SECOND FORM's CARD OF 'almanaclaw16.SnapKnown'. -/
def snapKnownUptoCard : Claim7 := { stood := { row := snapKnownUptoRow, standIns := [], harness := (true, "94daa52195dd7e6b40cc73547b1bacd75989b8c3e788ae1486ec8c276a48cfbc"), looks := true }, kinds := [], alts := [], laidByText := true, laidKinds := [.funcs], laidTests := true, laidLooks := .later }
def SnapKnownUptoCardSaid : Prop := Claim7.holds Tryz.pinned (.plain (OpenSpec.upto snapKnownSpec)) snapKnownUptoCard

/-- THE SECOND FORM's CARD OF 'almanaclaw13.EntityKnown'. -/
def entityKnownUptoCard : Claim7 := { stood := { row := entityKnownUptoRow, standIns := [], harness := (true, "94daa52195dd7e6b40cc73547b1bacd75989b8c3e788ae1486ec8c276a48cfbc"), looks := true }, kinds := [], alts := [], laidByText := true, laidKinds := [.funcs], laidTests := true, laidLooks := .later }
def EntityKnownUptoCardSaid : Prop := Claim7.holds Tryz.pinned (.plain (OpenSpec.upto entityKnownSpec)) entityKnownUptoCard

/-- THE SECOND FORM's CARD OF 'almanaclaw14.BatchKnown'. -/
def batchKnownUptoCard : Claim7 := { stood := { row := batchKnownUptoRow, standIns := [], harness := (true, "94daa52195dd7e6b40cc73547b1bacd75989b8c3e788ae1486ec8c276a48cfbc"), looks := true }, kinds := [], alts := [], laidByText := true, laidKinds := [.funcs], laidTests := true, laidLooks := .later }
def BatchKnownUptoCardSaid : Prop := Claim7.holds Tryz.pinned (.plain (OpenSpec.upto batchKnownSpec)) batchKnownUptoCard

/-- THE SECOND FORM's CARD OF 'almanaclaw17.AdjKnown'. -/
def adjKnownUptoCard : Claim7 := { stood := { row := adjKnownUptoRow, standIns := [], harness := (true, "94daa52195dd7e6b40cc73547b1bacd75989b8c3e788ae1486ec8c276a48cfbc"), looks := true }, kinds := [], alts := [], laidByText := true, laidKinds := [.funcs], laidTests := true, laidLooks := .later }
def AdjKnownUptoCardSaid : Prop := Claim7.holds Tryz.pinned (.plain (OpenSpec.upto adjKnownSpec)) adjKnownUptoCard

/-- THE SECOND FORM's CARD OF 'almanaclaw18.IndexKnown'. -/
def indexKnownUptoCard : Claim7 := { stood := { row := indexKnownUptoRow, standIns := [], harness := (true, "94daa52195dd7e6b40cc73547b1bacd75989b8c3e788ae1486ec8c276a48cfbc"), looks := true }, kinds := [], alts := [], laidByText := true, laidKinds := [.funcs], laidTests := true, laidLooks := .later }
def IndexKnownUptoCardSaid : Prop := Claim7.holds Tryz.pinned (.plain (OpenSpec.upto indexKnownSpec)) indexKnownUptoCard
end Rows
end Go.Proofs.YtaolbokpeafejaaGreatDoor
