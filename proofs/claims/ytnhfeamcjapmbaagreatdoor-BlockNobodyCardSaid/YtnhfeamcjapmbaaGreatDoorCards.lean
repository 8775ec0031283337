/-
  DERIVED. GIVEN WITH THE SEED: THE CARDS: each row of YtnhfeamcjapmbaaGreatDoorRows.lean that lists a variable, with what it lists TIED to the program's text (the seventh form; the later family's looks); each row that meets fmt, with fmt's text TOLD by the authors' own Lean function (tested against real Go, not proved from fmt's source: count such statements apart). THE CARD IS WHAT COUNTS. Prove the row's statement (the work); the ties are given (YtnhfeamcjapmbaaGreatDoorTie.lean); close each card by the builder's one call (the guide's Derived/Test/ToyasCard.lean, 'card_holds'). Laid BY PROGRAM, IN A SANDBOX (cutbox-door.mjs). By AI agents, Wed Nov 11 2026. No macro, syntax, notation, axiom, sorry.
-/
import Derived.Test.YtnhfeamcjapmbaaGreatDoorRows
import GoSem.ClaimSeven
namespace Go.Proofs.YtnhfeamcjapmbaaGreatDoor
namespace Rows

/-- THE TIED CARD OF 'dryrotlaw19.BlockNobody'. -/
def blockNobodyCard : Claim7 := { stood := { row := blockNobodyRow, standIns := [], harness := (true, "b10d59c629052f390cfd313aead89688b138d721c190cf2938ab15367c30a8e6"), looks := true }, kinds := [], alts := [], laidByText := true, laidKinds := [.data, .data, .data, .data, .data, .pinned], laidTests := true, laidLooks := .later }
def BlockNobodyCardSaid : Prop := Claim7.holds Tryz.pinned (.plain (OpenSpec.ofChange blockNobodySpec)) blockNobodyCard

/-- THE SECOND FORM's CARD OF 'dryrotlaw19.BlockNobody'. -/
def blockNobodyUptoCard : Claim7 := { stood := { row := blockNobodyUptoRow, standIns := [], harness := (true, "b10d59c629052f390cfd313aead89688b138d721c190cf2938ab15367c30a8e6"), looks := true }, kinds := [], alts := [], laidByText := true, laidKinds := [.data, .data, .data, .data, .data, .pinned], laidTests := true, laidLooks := .later }
def BlockNobodyUptoCardSaid : Prop := Claim7.holds Tryz.pinned (.plain (OpenSpec.upto blockNobodySpec)) blockNobodyUptoCard
end Rows
end Go.Proofs.YtnhfeamcjapmbaaGreatDoor
