/-
  DERIVED. GIVEN WITH THE SEED: THE CARDS: each row of YtnapechhagnmaaaGreatDoorRows.lean that lists a variable, with what it lists TIED to the program's text (the seventh form; the later family's looks); each row that meets fmt, with fmt's text TOLD by the authors' own Lean function (tested against real Go, not proved from fmt's source: count such statements apart). THE CARD IS WHAT COUNTS. Prove the row's statement (the work); the ties are given (YtnapechhagnmaaaGreatDoorTie.lean); close each card by the builder's one call (the guide's Derived/Test/ToyasCard.lean, 'card_holds'). Laid BY PROGRAM, IN A SANDBOX (cutbox-door.mjs). By AI agents, Wed Nov 11 2026. No macro, syntax, notation, axiom, sorry.
-/
import Derived.Test.YtnapechhagnmaaaGreatDoorRows
import GoSem.ClaimSeven
namespace Go.Proofs.YtnapechhagnmaaaGreatDoor
namespace Rows

/-- THE TIED CARD OF 'dryrotlaw15.HeadMerges'. -/
def headMergesCard : Claim7 := { stood := { row := headMergesRow, standIns := [], harness := (true, "0ba8caa3be9651bcd0e80d0fdfe0c05c6afa16226d54debfb13a91019b0cd4d8"), looks := false }, kinds := [], alts := [], laidByText := true, laidKinds := [.data, .pinned], laidTests := true, laidLooks := .later }
def HeadMergesCardSaid : Prop := Claim7.holds Tryz.pinned (.plain (OpenSpec.ofChange headMergesSpec)) headMergesCard

/-- THE TIED CARD OF 'dryrotlaw15.HeadBoth'. -/
def headBothCard : Claim7 := { stood := { row := headBothRow, standIns := [], harness := (true, "0ba8caa3be9651bcd0e80d0fdfe0c05c6afa16226d54debfb13a91019b0cd4d8"), looks := false }, kinds := [], alts := [], laidByText := true, laidKinds := [.data, .pinned], laidTests := true, laidLooks := .later }
def HeadBothCardSaid : Prop := Claim7.holds Tryz.pinned (.plain (OpenSpec.ofChange headBothSpec)) headBothCard

/-- THE TIED CARD OF 'dryrotlaw23.ModelFloors'. -/
def modelFloorsCard : Claim7 := { stood := { row := modelFloorsRow, standIns := [], harness := (true, "0ba8caa3be9651bcd0e80d0fdfe0c05c6afa16226d54debfb13a91019b0cd4d8"), looks := false }, kinds := [], alts := [], laidByText := true, laidKinds := [.data, .pinned], laidTests := true, laidLooks := .later }
def ModelFloorsCardSaid : Prop := Claim7.holds Tryz.pinned (.plain (OpenSpec.ofChange modelFloorsSpec)) modelFloorsCard

/-- THE SECOND FORM's CARD OF 'dryrotlaw15.HeadMerges'. -/
def headMergesUptoCard : Claim7 := { stood := { row := headMergesUptoRow, standIns := [], harness := (true, "0ba8caa3be9651bcd0e80d0fdfe0c05c6afa16226d54debfb13a91019b0cd4d8"), looks := false }, kinds := [], alts := [], laidByText := true, laidKinds := [.data, .pinned], laidTests := true, laidLooks := .later }
def HeadMergesUptoCardSaid : Prop := Claim7.holds Tryz.pinned (.plain (OpenSpec.upto headMergesSpec)) headMergesUptoCard

/-- THE SECOND FORM's CARD OF 'dryrotlaw15.HeadBoth'. -/
def headBothUptoCard : Claim7 := { stood := { row := headBothUptoRow, standIns := [], harness := (true, "0ba8caa3be9651bcd0e80d0fdfe0c05c6afa16226d54debfb13a91019b0cd4d8"), looks := false }, kinds := [], alts := [], laidByText := true, laidKinds := [.data, .pinned], laidTests := true, laidLooks := .later }
def HeadBothUptoCardSaid : Prop := Claim7.holds Tryz.pinned (.plain (OpenSpec.upto headBothSpec)) headBothUptoCard

/-- THE SECOND FORM's CARD OF 'dryrotlaw23.ModelFloors'. -/
def modelFloorsUptoCard : Claim7 := { stood := { row := modelFloorsUptoRow, standIns := [], harness := (true, "0ba8caa3be9651bcd0e80d0fdfe0c05c6afa16226d54debfb13a91019b0cd4d8"), looks := false }, kinds := [], alts := [], laidByText := true, laidKinds := [.data, .pinned], laidTests := true, laidLooks := .later }
def ModelFloorsUptoCardSaid : Prop := Claim7.holds Tryz.pinned (.plain (OpenSpec.upto modelFloorsSpec)) modelFloorsUptoCard
end Rows
end Go.Proofs.YtnapechhagnmaaaGreatDoor
