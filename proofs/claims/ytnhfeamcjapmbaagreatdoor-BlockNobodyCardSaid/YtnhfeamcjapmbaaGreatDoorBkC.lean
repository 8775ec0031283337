/-
  The law BlockNobody comes out true whatever it is given, and leaves what it is given as it was. No condition beyond the row's.
-/
import Derived.Test.YtnhfeamcjapmbaaGreatDoorBkB
namespace Go.Proofs.YtnhfeamcjapmbaaGreatDoor
open Go Go.Dr Go.RowKit Go.ChangeShapes Go.WideShapes Go.ChangeAt Go.Lib
set_option maxRecDepth 100000

theorem blockNobody_said : Rows.BlockNobodySaid :=
  OpenClaim.holds_of_wide 3 Tryz.f3 rfl rfl rfl rfl rfl rfl rfl ⟨rfl, rfl, rfl, rfl, rfl⟩ rfl rfl rfl rfl rfl (by kernel_rfl) Tryz.func3 (by kernel_rfl)
    (of_decide_eq_true (by kernel_rfl)) (by unfold Func.isWrapper; rw [if_neg (of_decide_eq_false (by kernel_rfl))]; exact ⟨rfl, rfl⟩)
    (fun os started H enc _ => liftedK os started H enc)

theorem standIn24K : Tryz.prog.wantsStandIn 24 = false := by kernel_rfl
theorem standIn25K : Tryz.prog.wantsStandIn 25 = false := by kernel_rfl
theorem named3K : Tryz.prog.funcNamed "dryrot/dryrotlaw19.BlockNobody" = some 3 := by kernel_rfl
theorem wfK : Rows.blockNobodyRow.wfByText (OpenSpec.ofChange Rows.blockNobodySpec) = true := by kernel_rfl
theorem goesK : false = Rows.blockNobodyRow.goesBy Tryz.pinned.checked.prog := by kernel_rfl
theorem mainK : Tryz.pinned.checked.prog.mainIs = some (true, "b10d59c629052f390cfd313aead89688b138d721c190cf2938ab15367c30a8e6".toList) := by kernel_rfl
theorem looksK : true = Tryz.pinned.checked.prog.looks [] := by kernel_rfl

theorem blockNobody_card : Rows.BlockNobodyCardSaid :=
  Claim7.holds_tied_plain_at .later [] [.data, .data, .data, .data, .data, .pinned] true (true, "b10d59c629052f390cfd313aead89688b138d721c190cf2938ab15367c30a8e6") true
    blockNobody_said (fun _ h => by cases h) wfK (fun _ h => by cases h) blockNobody_row_tie rfl ⟨rfl, rfl⟩ mainK rfl
    (fun f fn hf hfn => by
      obtain rfl : f = 3 := (Option.some.inj (named3K.symm.trans hf)).symm
      obtain rfl : fn = Tryz.f3 := (Option.some.inj (Tryz.func3.symm.trans hfn)).symm
      exact ⟨looksK, fun j t ht => by
        rw [Tryz.params3] at ht
        have h3 : t = 24 ∨ t = 25 := by
          rcases j with _ | _ | j
          · exact .inl (by simpa using ht.symm)
          · exact .inr (by simpa using ht.symm)
          · simp at ht
        rcases h3 with rfl | rfl
        · exact standIn24K
        · exact standIn25K⟩)
    goesK
end Go.Proofs.YtnhfeamcjapmbaaGreatDoor
