/-
  The law IndexWrites comes out true whatever it is given, and leaves what it is given as it was. No condition beyond the row's.
-/
import Derived.Test.YtkbddcapcjdenaaGreatDoorT6
namespace Go.Proofs.YtkbddcapcjdenaaGreatDoor
open Go Go.Dr Go.RowKit Go.ChangeShapes Go.WideShapes Go.ChangeAt Go.Lib
set_option maxRecDepth 100000

theorem readIw_0 : Tryz.prog.readableRec 22 = true := by kernel_rfl
theorem typIw_0 : 22 < Tryz.prog.types.size := of_decide_eq_true (by kernel_rfl)

theorem liftedIw (os : Os) (started : os.Started) (H : Type) (enc : TypeId × Value → H) :
    ReturnsInHanded {} Tryz.checked os 3 .any (fun w args => (Rows.indexWritesSpec.pre enc Tryz.prog Tryz.f3 [] false w args ∧ laidMetH Tryz.prog Rows.indexWritesRow.laid w) ∧ sizedMet enc Tryz.prog Tryz.f3 (OpenSpec.ofChange Rows.indexWritesSpec) false w args)
      (Rows.indexWritesSpec.post enc Tryz.prog Tryz.f3 false true false false) := by
  refine returnsInHanded_of_change_and (C := Tryz.checked) (X := fun w _ => laidMetH Tryz.prog Rows.indexWritesRow.laid w) (fun _ _ _ hh h => h.of_heap hh) ownIw started (by kernel_rfl) Tryz.func3
    (ChangeSpec.witness_at (enc := enc) (C := Tryz.checked) (os := os) (X := fun w _ => laidMetH Tryz.prog Rows.indexWritesRow.laid w) false (laidWorldIw os) #[.slice none 0 0] 8 rfl (by kernel_rfl) (by kernel_rfl) (by kernel_rfl) (by kernel_rfl) (by kernel_rfl) (laidMetIw os _)) ?_
  intro W base args ds gs before hval0 hW x1 x2 x3 x4
  have hsz : (DataW.weightsEach Tryz.prog (Tryz.f3.params.toList ++ Rows.indexWritesSpec.plain.varTypes Tryz.prog) (ds ++ gs)).all (· ≤ reachBytes) = true := by
    first | exact x1 | exact x2 | exact x3 | exact x4
  have hval : ∀ (j : Nat) t v, Tryz.f3.params[j]? = some t → args[j]? = some v → Value.okWide Tryz.prog W .any base t v := hval0
  have hW' := hW
  obtain ⟨p, q, hA0, hV0, rfl, _, _⟩ := hW
  have hA : DataW.TrodAll enc Tryz.prog W 0 (fun _ => true) true Tryz.f3.params.toList args.toList ds p := hA0
  have hlt : ∀ x ∈ p, x.block < W.heap.size := hA.lt
  rw [Tryz.params3] at hA hval
  obtain ⟨v0, d0, rfl, rfl, h0⟩ := trodAll_one hA
  obtain ⟨rfl, rfl⟩ := trodVars_none hV0
  rw [Tryz.params3] at hsz
  have hw0 : ∀ n ∈ d0.weights Tryz.prog 22, n ≤ reachBytes := fun n hn => of_decide_eq_true (List.all_eq_true.1 hsz n (DataW.weights_mem_each (j := 0) rfl rfl n hn))
  refine (calls_IndexWrites (hval 0 22 v0 rfl rfl) h0 hw0).mono fun e W' ⟨he, hb⟩ => ?_
  refine ⟨_, he, _, _, _, [], p, [], hW', ?_, ?_, ?_, hb.frame _, fun h => by cases h⟩
  · exact trodAll_mk1 (shut_bool Tryz.underlying4 true)
  · exact trodAll_mk1 (hb.trod laidOutIw readIw_0 typIw_0 h0 hlt)
  · rfl

theorem indexWrites_said : Rows.IndexWritesSaid :=
  OpenClaim.holds_of_wide 3 Tryz.f3 rfl rfl rfl rfl rfl rfl rfl ⟨rfl, rfl, rfl, rfl, rfl⟩ rfl rfl rfl rfl rfl (by kernel_rfl) Tryz.func3 (by kernel_rfl)
    (of_decide_eq_true (by kernel_rfl)) (by unfold Func.isWrapper; rw [if_neg (of_decide_eq_false (by kernel_rfl))]; exact ⟨rfl, rfl⟩)
    (fun os started H enc _ => liftedIw os started H enc)

theorem standInIw_22 : Tryz.prog.wantsStandIn 22 = false := by kernel_rfl
theorem namedIw : Tryz.prog.funcNamed "dryrot/dryrotlaw13.IndexWrites" = some 3 := by kernel_rfl
theorem wfIw : Rows.indexWritesRow.wfByText (OpenSpec.ofChange Rows.indexWritesSpec) = true := by kernel_rfl
theorem goesIw : false = Rows.indexWritesRow.goesBy Tryz.pinned.checked.prog := by kernel_rfl
theorem mainIw : Tryz.pinned.checked.prog.mainIs = some (true, "a5dc1be27454e4709e78089cdab1fc4f11f36fc3796fc17fb7ac2c8cb2d388e8".toList) := by kernel_rfl
theorem looksIw : true = Tryz.pinned.checked.prog.looks [] := by kernel_rfl

theorem indexWrites_card : Rows.IndexWritesCardSaid :=
  Claim7.holds_tied_plain_at .later [] [.data] true (true, "a5dc1be27454e4709e78089cdab1fc4f11f36fc3796fc17fb7ac2c8cb2d388e8") true
    indexWrites_said (fun _ h => by cases h) wfIw (fun _ h => by cases h) indexWrites_row_tie rfl ⟨rfl, rfl⟩ mainIw rfl
    (fun f fn hf hfn => by
      obtain rfl : f = 3 := (Option.some.inj (namedIw.symm.trans hf)).symm
      obtain rfl : fn = Tryz.f3 := (Option.some.inj (Tryz.func3.symm.trans hfn)).symm
      exact ⟨looksIw, fun j t ht => by
        rw [Tryz.params3] at ht
        have h3 : t = 22 := by
          rcases j with _ | j
          · simpa using ht.symm
          · simp at ht
        subst h3
        exact standInIw_22⟩)
    goesIw

end Go.Proofs.YtkbddcapcjdenaaGreatDoor
