/-
  The law IndexParts comes out true whatever two lists of numbers it is given, and leaves what it is given as it was. No condition beyond the row's.
-/
import Derived.Test.YthkoheaklmgonaaDoorIxI
namespace Go.Proofs.YthkoheaklmgonaaDoor
open Go Go.Dr Go.RowKit Go.ChangeShapes Go.WideShapes Go.ChangeAt Go.Lib
set_option maxRecDepth 100000

theorem indexParts_said : Rows.IndexPartsSaid :=
  OpenClaim.holds_of_wide 5 Tryd.f5 rfl rfl rfl rfl rfl rfl rfl ⟨rfl, rfl, rfl, rfl, rfl⟩ rfl rfl rfl rfl rfl (by kernel_rfl) Tryd.func5 (by kernel_rfl)
    (of_decide_eq_true (by kernel_rfl)) (by unfold Func.isWrapper; rw [if_neg (of_decide_eq_false (by kernel_rfl))]; exact ⟨rfl, rfl⟩)
    (fun os started H enc _ => liftedIx os started H enc)

theorem standIn22Ix : Tryd.prog.wantsStandIn 22 = false := by kernel_rfl
theorem named5Ix : Tryd.prog.funcNamed "dryrot/dryrotlaw13.IndexParts" = some 5 := by kernel_rfl
theorem wfIx : Rows.indexPartsRow.wfByText (OpenSpec.ofChange Rows.indexPartsSpec) = true := by kernel_rfl
theorem goesIx : false = Rows.indexPartsRow.goesBy Tryd.pinned.checked.prog := by kernel_rfl
theorem mainIx : Tryd.pinned.checked.prog.mainIs = some (true, "5713b373975ffdab19f6aefb8d252e1fe7b0a0de936cde39309dcece24eb1dc8".toList) := by kernel_rfl
theorem looksIx : false = Tryd.pinned.checked.prog.looks [] := by kernel_rfl

theorem indexParts_card : Rows.IndexPartsCardSaid :=
  Claim7.holds_tied_plain_at .later [] [.data] true (true, "5713b373975ffdab19f6aefb8d252e1fe7b0a0de936cde39309dcece24eb1dc8") false
    indexParts_said (fun _ h => by cases h) wfIx (fun _ h => by cases h) indexParts_row_tie rfl ⟨rfl, rfl⟩ mainIx rfl
    (fun f fn hf hfn => by
      obtain rfl : f = 5 := (Option.some.inj (named5Ix.symm.trans hf)).symm
      obtain rfl : fn = Tryd.f5 := (Option.some.inj (Tryd.func5.symm.trans hfn)).symm
      exact ⟨looksIx, fun j t ht => by
        rw [Tryd.params5] at ht
        have h3 : t = 22 := by
          rcases j with _ | _ | j
          · simpa using ht.symm
          · simpa using ht.symm
          · simp at ht
        subst h3
        exact standIn22Ix⟩)
    goesIx
end Go.Proofs.YthkoheaklmgonaaDoor
