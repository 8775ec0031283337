/-
  The law BlockFeet comes out true whatever footer and whatever bytes it is given, and leaves what it is given as it was. No condition beyond the row's.
-/
import Derived.Test.YthkoheaklmgonaaDoorBfK
namespace Go.Proofs.YthkoheaklmgonaaDoor
open Go Go.Dr Go.RowKit Go.ChangeShapes Go.WideShapes Go.ChangeAt Go.Lib
set_option maxRecDepth 100000

theorem blockFeet_said : Rows.BlockFeetSaid :=
  OpenClaim.holds_of_wide 3 Tryd.f3 rfl rfl rfl rfl rfl rfl rfl ⟨rfl, rfl, rfl, rfl, rfl⟩ rfl rfl rfl rfl rfl (by kernel_rfl) Tryd.func3 (by kernel_rfl)
    (of_decide_eq_true (by kernel_rfl)) (by unfold Func.isWrapper; rw [if_neg (of_decide_eq_false (by kernel_rfl))]; exact ⟨rfl, rfl⟩)
    (fun os started H enc _ => liftedBf os started H enc)

theorem standIn24Bf : Tryd.prog.wantsStandIn 24 = false := by kernel_rfl
theorem standIn25Bf : Tryd.prog.wantsStandIn 25 = false := by kernel_rfl
theorem named3Bf : Tryd.prog.funcNamed "dryrot/dryrotlaw19.BlockFeet" = some 3 := by kernel_rfl
theorem wfBf : Rows.blockFeetRow.wfByText (OpenSpec.ofChange Rows.blockFeetSpec) = true := by kernel_rfl
theorem goesBf : false = Rows.blockFeetRow.goesBy Tryd.pinned.checked.prog := by kernel_rfl
theorem mainBf : Tryd.pinned.checked.prog.mainIs = some (true, "5713b373975ffdab19f6aefb8d252e1fe7b0a0de936cde39309dcece24eb1dc8".toList) := by kernel_rfl
theorem looksBf : false = Tryd.pinned.checked.prog.looks [] := by kernel_rfl

theorem blockFeet_card : Rows.BlockFeetCardSaid :=
  Claim7.holds_tied_plain_at .later [] [.data] true (true, "5713b373975ffdab19f6aefb8d252e1fe7b0a0de936cde39309dcece24eb1dc8") false
    blockFeet_said (fun _ h => by cases h) wfBf (fun _ h => by cases h) blockFeet_row_tie rfl ⟨rfl, rfl⟩ mainBf rfl
    (fun f fn hf hfn => by
      obtain rfl : f = 3 := (Option.some.inj (named3Bf.symm.trans hf)).symm
      obtain rfl : fn = Tryd.f3 := (Option.some.inj (Tryd.func3.symm.trans hfn)).symm
      exact ⟨looksBf, fun j t ht => by
        rw [Tryd.params3] at ht
        have h3 : t = 24 ∨ t = 25 := by
          rcases j with _ | _ | j
          · exact .inl (by simpa using ht.symm)
          · exact .inr (by simpa using ht.symm)
          · simp at ht
        rcases h3 with rfl | rfl
        · exact standIn24Bf
        · exact standIn25Bf⟩)
    goesBf
end Go.Proofs.YthkoheaklmgonaaDoor
