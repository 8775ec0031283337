/-
  DERIVED. GIVEN WITH THE SEED: THE CARDS: each row of YtkbddcapcjdenaaGreatDoorRows.lean that lists a variable, with what it lists TIED to the program's text (the seventh form; the later family's looks); each row that meets fmt, with fmt's text TOLD by the authors' own Lean function (tested against real Go, not proved from fmt's source: count such statements apart). THE CARD IS WHAT COUNTS. Prove the row's statement (the work); the ties are given (YtkbddcapcjdenaaGreatDoorTie.lean); close each card by the builder's one call (the guide's Derived/Test/ToyasCard.lean, 'card_holds'). Laid BY PROGRAM, IN A SANDBOX (cutbox-door.mjs). By AI agents, Wed Nov 11 2026. No macro, syntax, notation, axiom, sorry.
-/
import Derived.Test.YtkbddcapcjdenaaGreatDoorRows
import GoSem.ClaimSeven
namespace Go.Proofs.YtkbddcapcjdenaaGreatDoor
namespace Rows

/-- THE TIED CARD OF 'dryrotlaw13.IndexWrites'. -/
def indexWritesCard : Claim7 := { stood := { row := indexWritesRow, standIns := [], harness := (true, "a5dc1be27454e4709e78089cdab1fc4f11f36fc3796fc17fb7ac2c8cb2d388e8"), looks := true }, kinds := [], alts := [], laidByText := true, laidKinds := [.data], laidTests := true, laidLooks := .later }
def IndexWritesCardSaid : Prop := Claim7.holds Tryz.pinned (.plain (OpenSpec.ofChange indexWritesSpec)) indexWritesCard

/-- THE TIED CARD OF 'dryrotlaw13.IndexSeries'. -/
def indexSeriesCard : Claim7 := { stood := { row := indexSeriesRow, standIns := [], harness := (true, "a5dc1be27454e4709e78089cdab1fc4f11f36fc3796fc17fb7ac2c8cb2d388e8"), looks := true }, kinds := [], alts := [], laidByText := true, laidKinds := [.data], laidTests := true, laidLooks := .later }
def IndexSeriesCardSaid : Prop := Claim7.holds Tryz.pinned (.plain (OpenSpec.ofChange indexSeriesSpec)) indexSeriesCard

/-- THE TIED CARD OF 'dryrotlaw13.IndexReads'. -/
def indexReadsCard : Claim7 := { stood := { row := indexReadsRow, standIns := [], harness := (true, "a5dc1be27454e4709e78089cdab1fc4f11f36fc3796fc17fb7ac2c8cb2d388e8"), looks := true }, kinds := [], alts := [], laidByText := true, laidKinds := [.data], laidTests := true, laidLooks := .later }
def IndexReadsCardSaid : Prop := Claim7.holds Tryz.pinned (.plain (OpenSpec.ofChange indexReadsSpec)) indexReadsCard

/-- THE TIED CARD OF 'dryrotlaw19.BlockMakes'. -/
def blockMakesCard : Claim7 := { stood := { row := blockMakesRow, standIns := [], harness := (true, "a5dc1be27454e4709e78089cdab1fc4f11f36fc3796fc17fb7ac2c8cb2d388e8"), looks := true }, kinds := [], alts := [], laidByText := true, laidKinds := [.data], laidTests := true, laidLooks := .later }
def BlockMakesCardSaid : Prop := Claim7.holds Tryz.pinned (.plain (OpenSpec.ofChange blockMakesSpec)) blockMakesCard

/-- THE SECOND FORM's CARD OF 'dryrotlaw13.IndexWrites'. -/
def indexWritesUptoCard : Claim7 := { stood := { row := indexWritesUptoRow, standIns := [], harness := (true, "a5dc1be27454e4709e78089cdab1fc4f11f36fc3796fc17fb7ac2c8cb2d388e8"), looks := true }, kinds := [], alts := [], laidByText := true, laidKinds := [.data], laidTests := true, laidLooks := .later }
def IndexWritesUptoCardSaid : Prop := Claim7.holds Tryz.pinned (.plain (OpenSpec.upto indexWritesSpec)) indexWritesUptoCard

/-- THE SECOND FORM's CARD OF 'dryrotlaw13.IndexSeries'. -/
def indexSeriesUptoCard : Claim7 := { stood := { row := indexSeriesUptoRow, standIns := [], harness := (true, "a5dc1be27454e4709e78089cdab1fc4f11f36fc3796fc17fb7ac2c8cb2d388e8"), looks := true }, kinds := [], alts := [], laidByText := true, laidKinds := [.data], laidTests := true, laidLooks := .later }
def IndexSeriesUptoCardSaid : Prop := Claim7.holds Tryz.pinned (.plain (OpenSpec.upto indexSeriesSpec)) indexSeriesUptoCard

/-- THE SECOND FORM's CARD OF 'dryrotlaw13.IndexReads'. -/
def indexReadsUptoCard : Claim7 := { stood := { row := indexReadsUptoRow, standIns := [], harness := (true, "a5dc1be27454e4709e78089cdab1fc4f11f36fc3796fc17fb7ac2c8cb2d388e8"), looks := true }, kinds := [], alts := [], laidByText := true, laidKinds := [.data], laidTests := true, laidLooks := .later }
def IndexReadsUptoCardSaid : Prop := Claim7.holds Tryz.pinned (.plain (OpenSpec.upto indexReadsSpec)) indexReadsUptoCard

/-- THE SECOND FORM's CARD OF 'dryrotlaw19.BlockMakes'. -/
def blockMakesUptoCard : Claim7 := { stood := { row := blockMakesUptoRow, standIns := [], harness := (true, "a5dc1be27454e4709e78089cdab1fc4f11f36fc3796fc17fb7ac2c8cb2d388e8"), looks := true }, kinds := [], alts := [], laidByText := true, laidKinds := [.data], laidTests := true, laidLooks := .later }
def BlockMakesUptoCardSaid : Prop := Claim7.holds Tryz.pinned (.plain (OpenSpec.upto blockMakesSpec)) blockMakesUptoCard
end Rows
end Go.Proofs.YtkbddcapcjdenaaGreatDoor
