/-
  The law ModelNobody comes out true whatever it is given, in whatever order its maps are gone through, and leaves what it is given as it was. No condition beyond the row's.
-/
import Derived.Test.YtckonkiblmdeiaaGreatDoorMnB
namespace Go.Proofs.YtckonkiblmdeiaaGreatDoor
open Go Go.Dr Go.RowKit Go.ChangeShapes Go.WideShapes Go.ChangeAt Go.Lib
set_option maxRecDepth 100000

theorem modelNobody_said : Rows.ModelNobodySaid :=
  OpenClaim.holds_of_wide 3 Tryz.f3 rfl rfl rfl rfl rfl rfl rfl ⟨rfl, rfl, rfl, rfl, rfl⟩ rfl rfl rfl rfl rfl (by kernel_rfl) Tryz.func3 (by kernel_rfl)
    (of_decide_eq_true (by kernel_rfl)) (by unfold Func.isWrapper; rw [if_neg (of_decide_eq_false (by kernel_rfl))]; exact ⟨rfl, rfl⟩)
    (fun os started H enc _ => liftedM os started H enc)

theorem standIn25M : Tryz.prog.wantsStandIn 25 = false := by kernel_rfl
theorem named3M : Tryz.prog.funcNamed "dryrot/dryrotlaw23.ModelNobody" = some 3 := by kernel_rfl
theorem wfM : Rows.modelNobodyRow.wfByText (OpenSpec.ofChange Rows.modelNobodySpec) = true := by kernel_rfl
theorem goesM : false = Rows.modelNobodyRow.goesBy Tryz.pinned.checked.prog := by kernel_rfl
theorem mainM : Tryz.pinned.checked.prog.mainIs = some (true, "11fbc9f3cb74dd51319bdc634cc97fe9eba36ab9e60a4b74e5f5c4da9b7e7ce8".toList) := by kernel_rfl
theorem looksM : false = Tryz.pinned.checked.prog.looks [] := by kernel_rfl

theorem modelNobody_card : Rows.ModelNobodyCardSaid :=
  Claim7.holds_tied_plain_at .later [] [.data, .pinned] true (true, "11fbc9f3cb74dd51319bdc634cc97fe9eba36ab9e60a4b74e5f5c4da9b7e7ce8") false
    modelNobody_said (fun _ h => by cases h) wfM (fun _ h => by cases h) modelNobody_row_tie rfl ⟨rfl, rfl⟩ mainM rfl
    (fun f fn hf hfn => by
      obtain rfl : f = 3 := (Option.some.inj (named3M.symm.trans hf)).symm
      obtain rfl : fn = Tryz.f3 := (Option.some.inj (Tryz.func3.symm.trans hfn)).symm
      exact ⟨looksM, fun j t ht => by
        rw [Tryz.params3] at ht
        have h3 : t = 25 := by
          rcases j with _ | j
          · simpa using ht.symm
          · simp at ht
        subst h3
        exact standIn25M⟩)
    goesM
end Go.Proofs.YtckonkiblmdeiaaGreatDoor
