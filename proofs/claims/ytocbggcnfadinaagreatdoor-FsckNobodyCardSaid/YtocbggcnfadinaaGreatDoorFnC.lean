/-
  The law FsckNobody comes out true whatever it is given, and leaves what it is given as it was. No condition beyond the row's.
-/
import Derived.Test.YtocbggcnfadinaaGreatDoorFnB
namespace Go.Proofs.YtocbggcnfadinaaGreatDoor
open Go Go.Dr Go.RowKit Go.ChangeShapes Go.WideShapes Go.ChangeAt Go.Lib
set_option maxRecDepth 100000

theorem fsckNobody_said : Rows.FsckNobodySaid :=
  OpenClaim.holds_of_wide 3 Tryz.f3 rfl rfl rfl rfl rfl rfl rfl ⟨rfl, rfl, rfl, rfl, rfl⟩ rfl rfl rfl rfl rfl (by kernel_rfl) Tryz.func3 (by kernel_rfl)
    (of_decide_eq_true (by kernel_rfl)) (by unfold Func.isWrapper; rw [if_neg (of_decide_eq_false (by kernel_rfl))]; exact ⟨rfl, rfl⟩)
    (fun os started H enc _ => liftedN os started H enc)

theorem standIn3N : Tryz.prog.wantsStandIn 3 = false := by kernel_rfl
theorem named3N : Tryz.prog.funcNamed "dryrot/dryrotlaw21.FsckNobody" = some 3 := by kernel_rfl
theorem wfN : Rows.fsckNobodyRow.wfByText (OpenSpec.ofChange Rows.fsckNobodySpec) = true := by kernel_rfl
theorem goesN : false = Rows.fsckNobodyRow.goesBy Tryz.pinned.checked.prog := by kernel_rfl
theorem mainN : Tryz.pinned.checked.prog.mainIs = some (true, "4c27f38bd7e8669a69c30788e4a0397f9d6af3410407c75e69a78a6ef877d9a7".toList) := by kernel_rfl
theorem looksN : true = Tryz.pinned.checked.prog.looks [] := by kernel_rfl

theorem fsckNobody_card : Rows.FsckNobodyCardSaid :=
  Claim7.holds_tied_plain_at .later [] [.data, .data, .data, .data, .data, .sentinel, .sentinel, .pinned] true (true, "4c27f38bd7e8669a69c30788e4a0397f9d6af3410407c75e69a78a6ef877d9a7") true
    fsckNobody_said (fun _ h => by cases h) wfN (fun _ h => by cases h) fsckNobody_row_tie rfl ⟨rfl, rfl⟩ mainN rfl
    (fun f fn hf hfn => by
      obtain rfl : f = 3 := (Option.some.inj (named3N.symm.trans hf)).symm
      obtain rfl : fn = Tryz.f3 := (Option.some.inj (Tryz.func3.symm.trans hfn)).symm
      exact ⟨looksN, fun j t ht => by
        rw [Tryz.params3] at ht
        have h3 : t = 3 := by
          rcases j with _ | j
          · simpa using ht.symm
          · simp at ht
        subst h3
        exact standIn3N⟩)
    goesN
end Go.Proofs.YtocbggcnfadinaaGreatDoor
