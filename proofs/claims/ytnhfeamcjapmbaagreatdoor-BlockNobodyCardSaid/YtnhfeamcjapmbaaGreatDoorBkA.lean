import Derived.Test.YtnhfeamcjapmbaaGreatDoorRows
import Derived.Test.YtnhfeamcjapmbaaGreatDoorCards
import Derived.Test.YtnhfeamcjapmbaaGreatDoorTie
import Derived.Test.YtnhfeamcjapmbaaGreatDoorDrJoin
import Derived.Lib.LaidIn
import Derived.SevenTiedAt
import Derived.SizedLaws
namespace Go.Proofs.YtnhfeamcjapmbaaGreatDoor
open Go Go.Dr Go.RowKit Go.ChangeShapes Go.WideShapes Go.ChangeAt Go.Lib
set_option maxRecDepth 100000

theorem ownK : ownKnob Tryz.prog.godebug = none := by kernel_rfl
theorem laidOutK : laidOutB Tryz.prog = true := by kernel_rfl
theorem numK : Tryz.prog.funcs.all (fun f => f.name != "runtime.NumGoroutine") = true := by kernel_rfl

theorem runK : okTrue (evCall Tryz.prog (fun _ => none) 100000 1000 (.fn 3) [.agg (rawsFrom 0 8), .raw 8] ⟨Tryz.prog.globals.size, .leaf⟩) = true := by kernel_rfl

def firstCellsK : List Int := List.replicate 128 240 ++ (List.replicate 66 241 ++ (List.replicate 30 2 ++ ([19] ++ (List.replicate 12 3 ++ ([35, 3, 3, 52, 4, 4, 4, 68] ++ List.replicate 11 241)))))
def intsK (k : IntKind) (l : List Int) : Array Value := (l.map fun z => Value.int k z).toArray

/-- a world that fits: the settled one, the listed variables' cells laid -/
noncomputable def laidWorldK (os : Os) : World :=
  let w0 := World.holding Tryz.prog os ⟨#[], #[], []⟩
  let put (h : Array Obj) (g : Nat) (cs : Array Value) : Array Obj := h.modify g fun
    | .cells _ t frozen => .cells cs t frozen
    | o => o
  let h := w0.heap
  let h := put h 1 (intsK .u32 [0, 1098587580, 2197175160, 3280807620])
  let h := put h 3 (intsK .u8 [0, 1, 28, 2, 29, 14, 24, 3, 30, 22, 20, 15, 25, 17, 4, 8, 31, 27, 13, 23, 21, 19, 16, 7, 26, 12, 18, 6, 11, 5, 10, 9])
  let h := put h 0 (intsK .u8 [0, 1, 56, 2, 57, 49, 28, 3, 61, 58, 42, 50, 38, 29, 17, 4, 62, 47, 59, 36, 45, 43, 51, 22, 53, 39, 33, 30, 24, 18, 12, 5, 63, 55, 48, 27, 60, 41, 37, 16, 46, 35, 44, 21, 52, 32, 23, 11, 54, 26, 40, 15, 34, 20, 31, 10, 25, 14, 19, 9, 13, 8, 7, 6])
  let h := put h 2 (intsK .u64 [1, 10, 100, 1000, 10000, 100000, 1000000, 10000000, 100000000, 1000000000, 10000000000, 100000000000, 1000000000000, 10000000000000, 100000000000000, 1000000000000000, 10000000000000000, 100000000000000000, 1000000000000000000, 10000000000000000000])
  let h := put h 6 (intsK .u8 [128, 191, 160, 191, 128, 159, 144, 191, 128, 143, 0, 0, 0, 0, 0, 0, 0, 0, 0, 0, 0, 0, 0, 0, 0, 0, 0, 0, 0, 0, 0, 0])
  let h := put h 5 (intsK .u8 firstCellsK)
  { w0 with heap := h }

theorem laidRunK (os : Os) (args : Array Value) : LaidIn Tryz.prog ((laidWorldK os).forCall (fun _ _ => 0) ⟨#[], args, []⟩).memory (Rows.blockNobodyRow.laid.filter fun x => x.2.handleName?.isNone) [0, 1, 2, 3, 4, 5, 6] :=
  LaidIn.of_run _ 8 (by kernel_rfl) (by kernel_rfl) (by kernel_rfl) (by kernel_rfl)

theorem laidMetK (os : Os) (args : Array Value) : laidMetH Tryz.prog Rows.blockNobodyRow.laid ((laidWorldK os).forCall (fun _ _ => 0) ⟨#[], args, []⟩).memory :=
  laidMetH_of_parts (laidRunK os args).met (by kernel_rfl)

end Go.Proofs.YtnhfeamcjapmbaaGreatDoor
