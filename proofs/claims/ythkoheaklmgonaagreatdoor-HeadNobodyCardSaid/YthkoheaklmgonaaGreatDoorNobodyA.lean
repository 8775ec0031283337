import Derived.Test.YthkoheaklmgonaaGreatDoorRows
import Derived.Test.YthkoheaklmgonaaGreatDoorCards
import Derived.Test.YthkoheaklmgonaaGreatDoorTie
import Derived.Test.YthkoheaklmgonaaGreatDoorDrJoin
import Derived.Lib.LaidIn
import Derived.SevenTiedAt
import Derived.SizedLaws
namespace Go.Proofs.YthkoheaklmgonaaGreatDoor
open Go Go.Dr Go.RowKit Go.ChangeShapes Go.WideShapes Go.ChangeAt Go.Lib
set_option maxRecDepth 100000

theorem own15 : ownKnob Tryz.prog.godebug = none := by kernel_rfl
theorem laidOut15 : laidOutB Tryz.prog = true := by kernel_rfl
theorem num15 : Tryz.prog.funcs.all (fun f => f.name != "runtime.NumGoroutine") = true := by kernel_rfl

theorem run15N (c0 c1 c2 c3 c4 : Value) : okTrue (evCall Tryz.prog (fun _ => none) 100000 1000 (.fn 4) [.agg [.raw c0, .raw c1, .raw c2, .raw c3, .raw c4]] ⟨Tryz.prog.globals.size, .leaf⟩) = true := by kernel_rfl

def firstCells15 : List Int := List.replicate 128 240 ++ (List.replicate 66 241 ++ (List.replicate 30 2 ++ ([19] ++ (List.replicate 12 3 ++ ([35, 3, 3, 52, 4, 4, 4, 68] ++ List.replicate 11 241)))))
def accCells15 : List Int := [128, 191, 160, 191, 128, 159, 144, 191, 128, 143] ++ List.replicate 22 0

/-- a world that fits: the settled one, the listed variables' cells laid -/
noncomputable def laidWorld15 (os : Os) : World :=
  let w0 := World.holding Tryz.prog os ⟨#[], #[], []⟩
  let put (h : Array Obj) (g : Nat) (cs : Array Value) : Array Obj := h.modify g fun
    | .cells _ t frozen => .cells cs t frozen
    | o => o
  let h1 := put w0.heap 2 (firstCells15.map fun z => Value.int .u8 z).toArray
  let h2 := put h1 3 (accCells15.map fun z => Value.int .u8 z).toArray
  { w0 with heap := h2 }

theorem laid_met15 (os : Os) (args : Array Value) : laidMetH Tryz.prog Rows.headNobodyRow.laid ((laidWorld15 os).forCall (fun _ _ => 0) ⟨#[], args, []⟩).memory :=
  laidMetH_of_parts ((LaidIn.of_run (l := Rows.headNobodyRow.laid.filter fun x => x.2.handleName?.isNone) [3, 2] 8 (by kernel_rfl) (by kernel_rfl) (by kernel_rfl) (by kernel_rfl)).met) (by kernel_rfl)

end Go.Proofs.YthkoheaklmgonaaGreatDoor
