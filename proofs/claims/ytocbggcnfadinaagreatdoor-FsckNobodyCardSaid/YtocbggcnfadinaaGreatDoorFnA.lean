import Derived.Test.YtocbggcnfadinaaGreatDoorRows
import Derived.Test.YtocbggcnfadinaaGreatDoorCards
import Derived.Test.YtocbggcnfadinaaGreatDoorTie
import Derived.Test.YtocbggcnfadinaaGreatDoorDrJoin
import Derived.Lib.LaidIn
import Derived.SevenTiedAt
import Derived.SizedLaws
namespace Go.Proofs.YtocbggcnfadinaaGreatDoor
open Go Go.Dr Go.RowKit Go.ChangeShapes Go.WideShapes Go.ChangeAt Go.Lib
set_option maxRecDepth 100000

theorem ownN : ownKnob Tryz.prog.godebug = none := by kernel_rfl
theorem laidOutN : laidOutB Tryz.prog = true := by kernel_rfl
theorem numN : Tryz.prog.funcs.all (fun f => f.name != "runtime.NumGoroutine") = true := by kernel_rfl

theorem runN0 (c0 : Value) : okTrue (evCall Tryz.prog (fun _ => none) 100000 1000 (.fn 3) [.raw c0] ⟨Tryz.prog.globals.size, .leaf⟩) = true := by kernel_rfl

def firstCellsN : List Int := List.replicate 128 240 ++ (List.replicate 66 241 ++ (List.replicate 30 2 ++ ([19] ++ (List.replicate 12 3 ++ ([35, 3, 3, 52, 4, 4, 4, 68] ++ List.replicate 11 241)))))
def intsN (k : IntKind) (l : List Int) : Array Value := (l.map fun z => Value.int k z).toArray
noncomputable def lowN : Nat := (World.holding Tryz.prog default ⟨#[], #[], []⟩).heap.size

/-- a world that fits: the settled one, the listed variables' cells laid -/
noncomputable def laidWorldN (os : Os) : World :=
  let w0 := World.holding Tryz.prog os ⟨#[.cells #[.string ⟨#[105, 110, 118, 97, 108, 105, 100, 32, 115, 121, 110, 116, 97, 120]⟩] 296, .cells #[.string ⟨#[118, 97, 108, 117, 101, 32, 111, 117, 116, 32, 111, 102, 32, 114, 97, 110, 103, 101]⟩] 296], #[], []⟩
  let put (h : Array Obj) (g : Nat) (cs : Array Value) : Array Obj := h.modify g fun
    | .cells _ t frozen => .cells cs t frozen
    | o => o
  let h := put w0.heap 0 #[.iface 294 (.pointer (some ⟨lowN, 0, none⟩))]
  let h := put h 1 #[.iface 294 (.pointer (some ⟨lowN + 1, 0, none⟩))]
  let h := put h 2 (intsN .u64 [1, 10, 100, 1000, 10000, 100000, 1000000, 10000000, 100000000, 1000000000, 10000000000, 100000000000, 1000000000000, 10000000000000, 100000000000000, 1000000000000000, 10000000000000000, 100000000000000000, 1000000000000000000, 10000000000000000000])
  let h := put h 3 (intsN .u32 [0, 1098587580, 2197175160, 3280807620])
  let h := put h 4 (intsN .u8 [0, 1, 28, 2, 29, 14, 24, 3, 30, 22, 20, 15, 25, 17, 4, 8, 31, 27, 13, 23, 21, 19, 16, 7, 26, 12, 18, 6, 11, 5, 10, 9])
  let h := put h 5 (intsN .u8 [0, 1, 56, 2, 57, 49, 28, 3, 61, 58, 42, 50, 38, 29, 17, 4, 62, 47, 59, 36, 45, 43, 51, 22, 53, 39, 33, 30, 24, 18, 12, 5, 63, 55, 48, 27, 60, 41, 37, 16, 46, 35, 44, 21, 52, 32, 23, 11, 54, 26, 40, 15, 34, 20, 31, 10, 25, 14, 19, 9, 13, 8, 7, 6])
  let h := put h 6 (intsN .u8 firstCellsN)
  let h := put h 7 (intsN .u8 [128, 191, 160, 191, 128, 159, 144, 191, 128, 143, 0, 0, 0, 0, 0, 0, 0, 0, 0, 0, 0, 0, 0, 0, 0, 0, 0, 0, 0, 0, 0, 0])
  { w0 with heap := h }

theorem laidRunN (os : Os) (args : Array Value) : LaidIn Tryz.prog ((laidWorldN os).forCall (fun _ _ => 0) ⟨#[], args, []⟩).memory (Rows.fsckNobodyRow.laid.filter fun x => x.2.handleName?.isNone) [0, 1, 2, 3, 4, 5, 6, 7, lowN, lowN + 1] :=
  LaidIn.of_run _ 8 (by kernel_rfl) (by kernel_rfl) (by kernel_rfl) (by kernel_rfl)

theorem laidMetN (os : Os) (args : Array Value) : laidMetH Tryz.prog Rows.fsckNobodyRow.laid ((laidWorldN os).forCall (fun _ _ => 0) ⟨#[], args, []⟩).memory :=
  laidMetH_of_parts (laidRunN os args).met (by kernel_rfl)
end Go.Proofs.YtocbggcnfadinaaGreatDoor
