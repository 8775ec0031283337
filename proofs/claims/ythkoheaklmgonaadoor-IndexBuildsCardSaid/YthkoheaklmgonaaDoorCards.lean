/-
  DERIVED. GIVEN WITH THE SEED: THE CARDS: each row of YthkoheaklmgonaaDoorRows.lean that lists a variable, with what it lists TIED to the program's text (the seventh form; the later family's looks); each row that meets fmt, with fmt's text TOLD by the authors' own Lean function (tested against real Go, not proved from fmt's source: count such statements apart). THE CARD IS WHAT COUNTS. Prove the row's statement (the work); the ties are given (YthkoheaklmgonaaDoorTie.lean); close each card by the builder's one call (the guide's Derived/Test/ToyasCard.lean, 'card_holds'). Laid BY PROGRAM, IN A SANDBOX (cutbox-door.mjs). By AI agents, Wed Nov 11 2026. No macro, syntax, notation, axiom, sorry.
-/
import Derived.Test.YthkoheaklmgonaaDoorRows
import GoSem.ClaimSeven
namespace Go.Proofs.YthkoheaklmgonaaDoor
namespace Rows

/-- THE TIED CARD OF 'dryrotlaw19.BlockFeet'. -/
def blockFeetCard : Claim7 := { stood := { row := blockFeetRow, standIns := [], harness := (true, "5713b373975ffdab19f6aefb8d252e1fe7b0a0de936cde39309dcece24eb1dc8"), looks := false }, kinds := [], alts := [], laidByText := true, laidKinds := [.data], laidTests := true, laidLooks := .later }
def BlockFeetCardSaid : Prop := Claim7.holds Tryd.pinned (.plain (OpenSpec.ofChange blockFeetSpec)) blockFeetCard

/-- THE TIED CARD OF 'dryrotlaw13.IndexBuilds'. -/
def indexBuildsCard : Claim7 := { stood := { row := indexBuildsRow, standIns := [], harness := (true, "5713b373975ffdab19f6aefb8d252e1fe7b0a0de936cde39309dcece24eb1dc8"), looks := false }, kinds := [], alts := [], laidByText := true, laidKinds := [.data], laidTests := true, laidLooks := .later }
def IndexBuildsCardSaid : Prop := Claim7.holds Tryd.pinned (.plain (OpenSpec.ofChange indexBuildsSpec)) indexBuildsCard

/-- THE TIED CARD OF 'dryrotlaw13.IndexParts'. -/
def indexPartsCard : Claim7 := { stood := { row := indexPartsRow, standIns := [], harness := (true, "5713b373975ffdab19f6aefb8d252e1fe7b0a0de936cde39309dcece24eb1dc8"), looks := false }, kinds := [], alts := [], laidByText := true, laidKinds := [.data], laidTests := true, laidLooks := .later }
def IndexPartsCardSaid : Prop := Claim7.holds Tryd.pinned (.plain (OpenSpec.ofChange indexPartsSpec)) indexPartsCard

/-- THE SECOND FORM's CARD OF 'dryrotlaw19.BlockFeet'. -/
def blockFeetUptoCard : Claim7 := { stood := { row := blockFeetUptoRow, standIns := [], harness := (true, "5713b373975ffdab19f6aefb8d252e1fe7b0a0de936cde39309dcece24eb1dc8"), looks := false }, kinds := [], alts := [], laidByText := true, laidKinds := [.data], laidTests := true, laidLooks := .later }
def BlockFeetUptoCardSaid : Prop := Claim7.holds Tryd.pinned (.plain (OpenSpec.upto blockFeetSpec)) blockFeetUptoCard

/-- THE SECOND FORM's CARD OF 'dryrotlaw13.IndexBuilds'. -/
def indexBuildsUptoCard : Claim7 := { stood := { row := indexBuildsUptoRow, standIns := [], harness := (true, "5713b373975ffdab19f6aefb8d252e1fe7b0a0de936cde39309dcece24eb1dc8"), looks := false }, kinds := [], alts := [], laidByText := true, laidKinds := [.data], laidTests := true, laidLooks := .later }
def IndexBuildsUptoCardSaid : Prop := Claim7.holds Tryd.pinned (.plain (OpenSpec.upto indexBuildsSpec)) indexBuildsUptoCard

/-- THE SECOND FORM's CARD OF 'dryrotlaw13.IndexParts'. -/
def indexPartsUptoCard : Claim7 := { stood := { row := indexPartsUptoRow, standIns := [], harness := (true, "5713b373975ffdab19f6aefb8d252e1fe7b0a0de936cde39309dcece24eb1dc8"), looks := false }, kinds := [], alts := [], laidByText := true, laidKinds := [.data], laidTests := true, laidLooks := .later }
def IndexPartsUptoCardSaid : Prop := Claim7.holds Tryd.pinned (.plain (OpenSpec.upto indexPartsSpec)) indexPartsUptoCard
end Rows
end Go.Proofs.YthkoheaklmgonaaDoor
