import Derived.Test.YthkoheaklmgonaaDoorBfI
import Derived.Test.YthkoheaklmgonaaDoorCards
import Derived.Test.YthkoheaklmgonaaDoorTie
import Derived.Lib.LaidIn
import Derived.SevenTiedAt
import Derived.SizedLaws
namespace Go.Proofs.YthkoheaklmgonaaDoor
open Go Go.Dr Go.RowKit Go.ChangeShapes Go.WideShapes Go.ChangeAt Go.Lib
set_option maxRecDepth 100000

theorem ownBf : ownKnob Tryd.prog.godebug = none := by kernel_rfl
theorem laidOutBf : laidOutB Tryd.prog = true := by kernel_rfl
theorem numBf : Tryd.prog.funcs.all (fun f => f.name != "runtime.NumGoroutine") = true := by kernel_rfl

theorem awake12 : okTrue (evCall Tryd.prog (fun _ => none) 100000 1000 (.fn 12) [] ⟨Tryd.prog.globals.size, .leaf⟩) = true := by kernel_rfl

def firstCellsBf : List Int := List.replicate 128 240 ++ (List.replicate 66 241 ++ (List.replicate 30 2 ++ ([19] ++ (List.replicate 12 3 ++ ([35, 3, 3, 52, 4, 4, 4, 68] ++ List.replicate 11 241)))))
def intsBf (k : IntKind) (l : List Int) : Array Value := (l.map fun z => Value.int k z).toArray

/-- a world that fits: the settled one, the listed variables' cells laid -/
noncomputable def laidWorldBf (os : Os) : World :=
  let w0 := World.holding Tryd.prog os ⟨#[], #[], []⟩
  let put (h : Array Obj) (g : Nat) (cs : Array Value) : Array Obj := h.modify g fun
    | .cells _ t frozen => .cells cs t frozen
    | o => o
  let h := w0.heap
  let h := put h 0 (intsBf .u8 [0, 1, 56, 2, 57, 49, 28, 3, 61, 58, 42, 50, 38, 29, 17, 4, 62, 47, 59, 36, 45, 43, 51, 22, 53, 39, 33, 30, 24, 18, 12, 5, 63, 55, 48, 27, 60, 41, 37, 16, 46, 35, 44, 21, 52, 32, 23, 11, 54, 26, 40, 15, 34, 20, 31, 10, 25, 14, 19, 9, 13, 8, 7, 6])
  { w0 with heap := h }

theorem laidRunBf (os : Os) (args : Array Value) : LaidIn Tryd.prog ((laidWorldBf os).forCall (fun _ _ => 0) ⟨#[], args, []⟩).memory (Rows.blockFeetRow.laid.filter fun x => x.2.handleName?.isNone) [0] :=
  LaidIn.of_run _ 8 (by kernel_rfl) (by kernel_rfl) (by kernel_rfl) (by kernel_rfl)

theorem laidMetBf (os : Os) (args : Array Value) : laidMetH Tryd.prog Rows.blockFeetRow.laid ((laidWorldBf os).forCall (fun _ _ => 0) ⟨#[], args, []⟩).memory :=
  laidMetH_of_parts (laidRunBf os args).met (by kernel_rfl)

end Go.Proofs.YthkoheaklmgonaaDoor
