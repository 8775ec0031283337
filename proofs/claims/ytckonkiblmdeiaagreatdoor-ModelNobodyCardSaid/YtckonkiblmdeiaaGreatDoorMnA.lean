import Derived.Test.YtckonkiblmdeiaaGreatDoorRows
import Derived.Test.YtckonkiblmdeiaaGreatDoorCards
import Derived.Test.YtckonkiblmdeiaaGreatDoorTie
import Derived.Test.YtckonkiblmdeiaaGreatDoorDrNd2
import Derived.Lib.LaidIn
import Derived.SevenTiedAt
import Derived.SizedLaws
namespace Go.Proofs.YtckonkiblmdeiaaGreatDoor
open Go Go.Dr Go.RowKit Go.ChangeShapes Go.WideShapes Go.ChangeAt Go.Lib
set_option maxRecDepth 100000

theorem ownM : ownKnob Tryz.prog.godebug = none := by kernel_rfl
theorem laidOutM : laidOutB Tryz.prog = true := by kernel_rfl
theorem numM : Tryz.prog.funcs.all (fun f => f.name != "runtime.NumGoroutine") = true := by kernel_rfl

theorem runM : okTrueD (evCallD Tryz.prog (fun _ => none) 100000 1000 (.fn 3) [.agg (rawsFrom 0 6)] ⟨Tryz.prog.globals.size, .leaf⟩) = true := by kernel_rfl

def firstCellsM : List Int := List.replicate 128 240 ++ (List.replicate 66 241 ++ (List.replicate 30 2 ++ ([19] ++ (List.replicate 12 3 ++ ([35, 3, 3, 52, 4, 4, 4, 68] ++ List.replicate 11 241)))))
def intsM (k : IntKind) (l : List Int) : Array Value := (l.map fun z => Value.int k z).toArray

/-- a world that fits: the settled one, the listed variables' cells laid -/
noncomputable def laidWorldM (os : Os) : World :=
  let w0 := World.holding Tryz.prog os ⟨#[], #[], []⟩
  let put (h : Array Obj) (g : Nat) (cs : Array Value) : Array Obj := h.modify g fun
    | .cells _ t frozen => .cells cs t frozen
    | o => o
  let h := w0.heap
  let h := put h 2 (intsM .u8 [128, 191, 160, 191, 128, 159, 144, 191, 128, 143, 0, 0, 0, 0, 0, 0, 0, 0, 0, 0, 0, 0, 0, 0, 0, 0, 0, 0, 0, 0, 0, 0])
  let h := put h 1 (intsM .u8 firstCellsM)
  { w0 with heap := h }

theorem laidRunM (os : Os) (args : Array Value) : LaidIn Tryz.prog ((laidWorldM os).forCall (fun _ _ => 0) ⟨#[], args, []⟩).memory (Rows.modelNobodyRow.laid.filter fun x => x.2.handleName?.isNone) [0, 1, 2] :=
  LaidIn.of_run _ 8 (by kernel_rfl) (by kernel_rfl) (by kernel_rfl) (by kernel_rfl)

theorem laidMetM (os : Os) (args : Array Value) : laidMetH Tryz.prog Rows.modelNobodyRow.laid ((laidWorldM os).forCall (fun _ _ => 0) ⟨#[], args, []⟩).memory :=
  laidMetH_of_parts (laidRunM os args).met (by kernel_rfl)

end Go.Proofs.YtckonkiblmdeiaaGreatDoor
