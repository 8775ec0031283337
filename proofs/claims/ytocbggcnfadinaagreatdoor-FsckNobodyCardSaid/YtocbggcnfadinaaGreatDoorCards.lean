/-
  DERIVED. GIVEN WITH THE SEED: THE CARDS: each row of YtocbggcnfadinaaGreatDoorRows.lean that lists a variable, with what it lists TIED to the program's text (the seventh form; the later family's looks); each row that meets fmt, with fmt's text TOLD by the authors' own Lean function (tested against real Go, not proved from fmt's source: count such statements apart). THE CARD IS WHAT COUNTS. Prove the row's statement (the work); the ties are given (YtocbggcnfadinaaGreatDoorTie.lean); close each card by the builder's one call (the guide's Derived/Test/ToyasCard.lean, 'card_holds'). Laid BY PROGRAM, IN A SANDBOX (cutbox-door.mjs). By AI agents, Wed Nov 11 2026. No macro, syntax, notation, axiom, sorry.
-/
import Derived.Test.YtocbggcnfadinaaGreatDoorRows
import GoSem.ClaimSeven
namespace Go.Proofs.YtocbggcnfadinaaGreatDoor
namespace Rows

/-- THE TIED CARD OF 'dryrotlaw21.FsckNobody'. -/
def fsckNobodyCard : Claim7 := { stood := { row := fsckNobodyRow, standIns := [], harness := (true, "4c27f38bd7e8669a69c30788e4a0397f9d6af3410407c75e69a78a6ef877d9a7"), looks := true }, kinds := [], alts := [], laidByText := true, laidKinds := [.data, .data, .data, .data, .data, .sentinel, .sentinel, .pinned], laidTests := true, laidLooks := .later }
def FsckNobodyCardSaid : Prop := Claim7.holds Tryz.pinned (.plain (OpenSpec.ofChange fsckNobodySpec)) fsckNobodyCard

/-- THE SECOND FORM's CARD OF 'dryrotlaw21.FsckNobody'. -/
def fsckNobodyUptoCard : Claim7 := { stood := { row := fsckNobodyUptoRow, standIns := [], harness := (true, "4c27f38bd7e8669a69c30788e4a0397f9d6af3410407c75e69a78a6ef877d9a7"), looks := true }, kinds := [], alts := [], laidByText := true, laidKinds := [.data, .data, .data, .data, .data, .sentinel, .sentinel, .pinned], laidTests := true, laidLooks := .later }
def FsckNobodyUptoCardSaid : Prop := Claim7.holds Tryz.pinned (.plain (OpenSpec.upto fsckNobodySpec)) fsckNobodyUptoCard
end Rows
end Go.Proofs.YtocbggcnfadinaaGreatDoor
