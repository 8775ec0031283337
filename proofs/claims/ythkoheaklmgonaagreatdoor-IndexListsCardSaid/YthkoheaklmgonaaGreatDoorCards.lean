/-
  DERIVED. GIVEN WITH THE SEED: THE CARDS: each row of YthkoheaklmgonaaGreatDoorRows.lean that lists a variable, with what it lists TIED to the program's text (the seventh form; the later family's looks); each row that meets fmt, with fmt's text TOLD by the authors' own Lean function (tested against real Go, not proved from fmt's source: count such statements apart). THE CARD IS WHAT COUNTS. Prove the row's statement (the work); the ties are given (YthkoheaklmgonaaGreatDoorTie.lean); close each card by the builder's one call (the guide's Derived/Test/ToyasCard.lean, 'card_holds'). Laid BY PROGRAM, IN A SANDBOX (cutbox-door.mjs). By AI agents, Wed Nov 11 2026. No macro, syntax, notation, axiom, sorry.
-/
import Derived.Test.YthkoheaklmgonaaGreatDoorRows
import GoSem.ClaimSeven
namespace Go.Proofs.YthkoheaklmgonaaGreatDoor
namespace Rows

/-- THE TIED CARD OF 'dryrotlaw13.IndexLists'. -/
def indexListsCard : Claim7 := { stood := { row := indexListsRow, standIns := [], harness := (true, "56ff34163235473e1a35b44cfa0b8cfba0044e958dab059e43a4de5d9f5beb43"), looks := false }, kinds := [], alts := [], laidByText := true, laidKinds := [.data], laidTests := true, laidLooks := .later }
def IndexListsCardSaid : Prop := Claim7.holds Tryz.pinned (.plain (OpenSpec.ofChange indexListsSpec)) indexListsCard

/-- THE TIED CARD OF 'dryrotlaw15.HeadNobody'. -/
def headNobodyCard : Claim7 := { stood := { row := headNobodyRow, standIns := [], harness := (true, "56ff34163235473e1a35b44cfa0b8cfba0044e958dab059e43a4de5d9f5beb43"), looks := false }, kinds := [], alts := [], laidByText := true, laidKinds := [.data, .pinned], laidTests := true, laidLooks := .later }
def HeadNobodyCardSaid : Prop := Claim7.holds Tryz.pinned (.plain (OpenSpec.ofChange headNobodySpec)) headNobodyCard

/-- THE TIED CARD OF 'dryrotlaw15.HeadMerges'. -/
def headMergesCard : Claim7 := { stood := { row := headMergesRow, standIns := [], harness := (true, "56ff34163235473e1a35b44cfa0b8cfba0044e958dab059e43a4de5d9f5beb43"), looks := false }, kinds := [], alts := [], laidByText := true, laidKinds := [.data, .pinned], laidTests := true, laidLooks := .later }
def HeadMergesCardSaid : Prop := Claim7.holds Tryz.pinned (.plain (OpenSpec.ofChange headMergesSpec)) headMergesCard

/-- THE TIED CARD OF 'dryrotlaw15.HeadBoth'. -/
def headBothCard : Claim7 := { stood := { row := headBothRow, standIns := [], harness := (true, "56ff34163235473e1a35b44cfa0b8cfba0044e958dab059e43a4de5d9f5beb43"), looks := false }, kinds := [], alts := [], laidByText := true, laidKinds := [.data, .pinned], laidTests := true, laidLooks := .later }
def HeadBothCardSaid : Prop := Claim7.holds Tryz.pinned (.plain (OpenSpec.ofChange headBothSpec)) headBothCard

/-- THE SECOND FORM's CARD OF 'dryrotlaw13.IndexLists'. -/
def indexListsUptoCard : Claim7 := { stood := { row := indexListsUptoRow, standIns := [], harness := (true, "56ff34163235473e1a35b44cfa0b8cfba0044e958dab059e43a4de5d9f5beb43"), looks := false }, kinds := [], alts := [], laidByText := true, laidKinds := [.data], laidTests := true, laidLooks := .later }
def IndexListsUptoCardSaid : Prop := Claim7.holds Tryz.pinned (.plain (OpenSpec.upto indexListsSpec)) indexListsUptoCard

/-- THE SECOND FORM's CARD OF 'dryrotlaw15.HeadNobody'. -/
def headNobodyUptoCard : Claim7 := { stood := { row := headNobodyUptoRow, standIns := [], harness := (true, "56ff34163235473e1a35b44cfa0b8cfba0044e958dab059e43a4de5d9f5beb43"), looks := false }, kinds := [], alts := [], laidByText := true, laidKinds := [.data, .pinned], laidTests := true, laidLooks := .later }
def HeadNobodyUptoCardSaid : Prop := Claim7.holds Tryz.pinned (.plain (OpenSpec.upto headNobodySpec)) headNobodyUptoCard

/-- THE SECOND FORM's CARD OF 'dryrotlaw15.HeadMerges'. -/
def headMergesUptoCard : Claim7 := { stood := { row := headMergesUptoRow, standIns := [], harness := (true, "56ff34163235473e1a35b44cfa0b8cfba0044e958dab059e43a4de5d9f5beb43"), looks := false }, kinds := [], alts := [], laidByText := true, laidKinds := [.data, .pinned], laidTests := true, laidLooks := .later }
def HeadMergesUptoCardSaid : Prop := Claim7.holds Tryz.pinned (.plain (OpenSpec.upto headMergesSpec)) headMergesUptoCard

/-- THE SECOND FORM's CARD OF 'dryrotlaw15.HeadBoth'. -/
def headBothUptoCard : Claim7 := { stood := { row := headBothUptoRow, standIns := [], harness := (true, "56ff34163235473e1a35b44cfa0b8cfba0044e958dab059e43a4de5d9f5beb43"), looks := false }, kinds := [], alts := [], laidByText := true, laidKinds := [.data, .pinned], laidTests := true, laidLooks := .later }
def HeadBothUptoCardSaid : Prop := Claim7.holds Tryz.pinned (.plain (OpenSpec.upto headBothSpec)) headBothUptoCard
end Rows
end Go.Proofs.YthkoheaklmgonaaGreatDoor
