/-
  DERIVED. GIVEN WITH THE SEED: THE CARDS: each row of YtckonkiblmdeiaaGreatDoorRows.lean that lists a variable, with what it lists TIED to the program's text (the seventh form; the later family's looks); each row that meets fmt, with fmt's text TOLD by the authors' own Lean function (tested against real Go, not proved from fmt's source: count such statements apart). THE CARD IS WHAT COUNTS. Prove the row's statement (the work); the ties are given (YtckonkiblmdeiaaGreatDoorTie.lean); close each card by the builder's one call (the guide's Derived/Test/ToyasCard.lean, 'card_holds'). Laid BY PROGRAM, IN A SANDBOX (cutbox-door.mjs). By AI agents, Wed Nov 11 2026. No macro, syntax, notation, axiom, sorry.
-/
import Derived.Test.YtckonkiblmdeiaaGreatDoorRows
import GoSem.ClaimSeven
namespace Go.Proofs.YtckonkiblmdeiaaGreatDoor
namespace Rows

/-- THE TIED CARD OF 'dryrotlaw23.ModelNobody'. -/
def modelNobodyCard : Claim7 := { stood := { row := modelNobodyRow, standIns := [], harness := (true, "11fbc9f3cb74dd51319bdc634cc97fe9eba36ab9e60a4b74e5f5c4da9b7e7ce8"), looks := false }, kinds := [], alts := [], laidByText := true, laidKinds := [.data, .pinned], laidTests := true, laidLooks := .later }
def ModelNobodyCardSaid : Prop := Claim7.holds Tryz.pinned (.plain (OpenSpec.ofChange modelNobodySpec)) modelNobodyCard

/-- THE SECOND FORM's CARD OF 'dryrotlaw23.ModelNobody'. -/
def modelNobodyUptoCard : Claim7 := { stood := { row := modelNobodyUptoRow, standIns := [], harness := (true, "11fbc9f3cb74dd51319bdc634cc97fe9eba36ab9e60a4b74e5f5c4da9b7e7ce8"), looks := false }, kinds := [], alts := [], laidByText := true, laidKinds := [.data, .pinned], laidTests := true, laidLooks := .later }
def ModelNobodyUptoCardSaid : Prop := Claim7.holds Tryz.pinned (.plain (OpenSpec.upto modelNobodySpec)) modelNobodyUptoCard
end Rows
end Go.Proofs.YtckonkiblmdeiaaGreatDoor
