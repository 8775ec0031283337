/-
  The law IndexReads comes out true whatever it is given, and leaves what it is given as it was. No condition beyond the row's.
-/
import Derived.Test.YtkbddcapcjdenaaGreatDoorT7
namespace Go.Proofs.YtkbddcapcjdenaaGreatDoor
open Go Go.Dr Go.RowKit Go.ChangeShapes Go.WideShapes Go.ChangeAt Go.Lib
set_option maxRecDepth 100000

theorem readIr_0 : Tryz.prog.readableRec 23 = true := by kernel_rfl
theorem typIr_0 : 23 < Tryz.prog.types.size := of_decide_eq_true (by kernel_rfl)

theorem liftedIr (os : Os) (started : os.Started) (H : Type) (enc : TypeId × Value → H) :
    ReturnsInHanded {} Tryz.checked os 5 .any (fun w args => (Rows.indexReadsSpec.pre enc Tryz.prog Tryz.f5 [] false w args ∧ laidMetH Tryz.prog Rows.indexReadsRow.laid w) ∧ sizedMet enc Tryz.prog Tryz.f5 (OpenSpec.ofChange Rows.indexReadsSpec) false w args)
      (Rows.indexReadsSpec.post enc Tryz.prog Tryz.f5 false true false false) := by
  refine returnsInHanded_of_change_and (C := Tryz.checked) (X := fun w _ => laidMetH Tryz.prog Rows.indexReadsRow.laid w) (fun _ _ _ hh h => h.of_heap hh) ownIr started (by kernel_rfl) Tryz.func5
    (ChangeSpec.witness_at (enc := enc) (C := Tryz.checked) (os := os) (X := fun w _ => laidMetH Tryz.prog Rows.indexReadsRow.laid w) false (laidWorldIr os) #[.slice none 0 0] 8 rfl (by kernel_rfl) (by kernel_rfl) (by kernel_rfl) (by kernel_rfl) (by kernel_rfl) (laidMetIr os _)) ?_
  intro W base args ds gs before hval0 hW _ _ _ _
  have hval : ∀ (j : Nat) t v, Tryz.f5.params[j]? = some t → args[j]? = some v → Value.okWide Tryz.prog W .any base t v := hval0
  have hW' := hW
  obtain ⟨p, q, hA0, hV0, rfl, _, _⟩ := hW
  have hA : DataW.TrodAll enc Tryz.prog W 0 (fun _ => true) true Tryz.f5.params.toList args.toList ds p := hA0
  have hlt : ∀ x ∈ p, x.block < W.heap.size := hA.lt
  rw [Tryz.params5] at hA hval
  obtain ⟨v0, d0, rfl, rfl, h0⟩ := trodAll_one hA
  obtain ⟨rfl, rfl⟩ := trodVars_none hV0
  refine (calls_IndexReads (hval 0 23 v0 rfl rfl) h0).mono fun e W' ⟨he, hb⟩ => ?_
  refine ⟨_, he, _, _, _, [], p, [], hW', ?_, ?_, ?_, hb.frame _, fun h => by cases h⟩
  · exact trodAll_mk1 (shut_bool Tryz.underlying4 true)
  · exact trodAll_mk1 (hb.trod laidOutIr readIr_0 typIr_0 h0 hlt)
  · rfl

theorem indexReads_said : Rows.IndexReadsSaid :=
  OpenClaim.holds_of_wide 5 Tryz.f5 rfl rfl rfl rfl rfl rfl rfl ⟨rfl, rfl, rfl, rfl, rfl⟩ rfl rfl rfl rfl rfl (by kernel_rfl) Tryz.func5 (by kernel_rfl)
    (of_decide_eq_true (by kernel_rfl)) (by unfold Func.isWrapper; rw [if_neg (of_decide_eq_false (by kernel_rfl))]; exact ⟨rfl, rfl⟩)
    (fun os started H enc _ => liftedIr os started H enc)

theorem standInIr_23 : Tryz.prog.wantsStandIn 23 = false := by kernel_rfl
theorem namedIr : Tryz.prog.funcNamed "dryrot/dryrotlaw13.IndexReads" = some 5 := by kernel_rfl
theorem wfIr : Rows.indexReadsRow.wfByText (OpenSpec.ofChange Rows.indexReadsSpec) = true := by kernel_rfl
theorem goesIr : false = Rows.indexReadsRow.goesBy Tryz.pinned.checked.prog := by kernel_rfl
theorem mainIr : Tryz.pinned.checked.prog.mainIs = some (true, "a5dc1be27454e4709e78089cdab1fc4f11f36fc3796fc17fb7ac2c8cb2d388e8".toList) := by kernel_rfl
theorem looksIr : true = Tryz.pinned.checked.prog.looks [] := by kernel_rfl

theorem indexReads_card : Rows.IndexReadsCardSaid :=
  Claim7.holds_tied_plain_at .later [] [.data] true (true, "a5dc1be27454e4709e78089cdab1fc4f11f36fc3796fc17fb7ac2c8cb2d388e8") true
    indexReads_said (fun _ h => by cases h) wfIr (fun _ h => by cases h) indexReads_row_tie rfl ⟨rfl, rfl⟩ mainIr rfl
    (fun f fn hf hfn => by
      obtain rfl : f = 5 := (Option.some.inj (namedIr.symm.trans hf)).symm
      obtain rfl : fn = Tryz.f5 := (Option.some.inj (Tryz.func5.symm.trans hfn)).symm
      exact ⟨looksIr, fun j t ht => by
        rw [Tryz.params5] at ht
        have h3 : t = 23 := by
          rcases j with _ | j
          · simpa using ht.symm
          · simp at ht
        subst h3
        exact standInIr_23⟩)
    goesIr

end Go.Proofs.YtkbddcapcjdenaaGreatDoor
