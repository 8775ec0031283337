/-
  The law IndexBuilds comes out true whatever it is given, and leaves what it is given as it was. No condition beyond the row's.
-/
import Derived.Test.YthkoheaklmgonaaDoorT7
namespace Go.Proofs.YthkoheaklmgonaaDoor
open Go Go.Dr Go.RowKit Go.ChangeShapes Go.WideShapes Go.ChangeAt Go.Lib
set_option maxRecDepth 100000

theorem readBx_0 : Tryd.prog.readableRec 25 = true := by kernel_rfl
theorem typBx_0 : 25 < Tryd.prog.types.size := of_decide_eq_true (by kernel_rfl)

theorem liftedBx (os : Os) (started : os.Started) (H : Type) (enc : TypeId × Value → H) :
    ReturnsInHanded {} Tryd.checked os 4 .any (fun w args => (Rows.indexBuildsSpec.pre enc Tryd.prog Tryd.f4 [] false w args ∧ laidMetH Tryd.prog Rows.indexBuildsRow.laid w) ∧ sizedMet enc Tryd.prog Tryd.f4 (OpenSpec.ofChange Rows.indexBuildsSpec) false w args)
      (Rows.indexBuildsSpec.post enc Tryd.prog Tryd.f4 false true false false) := by
  refine returnsInHanded_of_change_and (C := Tryd.checked) (X := fun w _ => laidMetH Tryd.prog Rows.indexBuildsRow.laid w) (fun _ _ _ hh h => h.of_heap hh) ownBx started (by kernel_rfl) Tryd.func4
    (ChangeSpec.witness_at (enc := enc) (C := Tryd.checked) (os := os) (X := fun w _ => laidMetH Tryd.prog Rows.indexBuildsRow.laid w) false (laidWorldBx os) #[.slice none 0 0] 8 rfl (by kernel_rfl) (by kernel_rfl) (by kernel_rfl) (by kernel_rfl) (by kernel_rfl) (laidMetBx os _)) ?_
  intro W base args ds gs before hval0 hW x1 x2 x3 x4
  have hlaid : laidMetH Tryd.prog Rows.indexBuildsRow.laid W := by first | exact x1 | exact x2 | exact x3 | exact x4 | exact x1.1 | exact x2.1 | exact x3.1 | exact x4.1 | exact x1.2 | exact x2.2 | exact x3.2 | exact x4.2
  have hval : ∀ (j : Nat) t v, Tryd.f4.params[j]? = some t → args[j]? = some v → Value.okWide Tryd.prog W .any base t v := hval0
  have hW' := hW
  obtain ⟨p, q, hA0, hV0, rfl, _, _⟩ := hW
  have hA : DataW.TrodAll enc Tryd.prog W 0 (fun _ => true) true Tryd.f4.params.toList args.toList ds p := hA0
  have hlt : ∀ x ∈ p, x.block < W.heap.size := hA.lt
  rw [Tryd.params4] at hA hval
  obtain ⟨v0, d0, rfl, rfl, h0⟩ := trodAll_one hA
  obtain ⟨rfl, rfl⟩ := trodVars_none hV0
  refine (calls_IndexBuilds (hval 0 25 v0 rfl rfl) h0 hlaid).mono fun e W' ⟨he, hb⟩ => ?_
  refine ⟨_, he, _, _, _, [], p, [], hW', ?_, ?_, ?_, hb.frame _, fun h => by cases h⟩
  · exact trodAll_mk1 (shut_bool Tryd.underlying4 true)
  · exact trodAll_mk1 (hb.trod laidOutBx readBx_0 typBx_0 h0 hlt)
  · rfl

theorem indexBuilds_said : Rows.IndexBuildsSaid :=
  OpenClaim.holds_of_wide 4 Tryd.f4 rfl rfl rfl rfl rfl rfl rfl ⟨rfl, rfl, rfl, rfl, rfl⟩ rfl rfl rfl rfl rfl (by kernel_rfl) Tryd.func4 (by kernel_rfl)
    (of_decide_eq_true (by kernel_rfl)) (by unfold Func.isWrapper; rw [if_neg (of_decide_eq_false (by kernel_rfl))]; exact ⟨rfl, rfl⟩)
    (fun os started H enc _ => liftedBx os started H enc)

theorem standInBx_25 : Tryd.prog.wantsStandIn 25 = false := by kernel_rfl
theorem namedBx : Tryd.prog.funcNamed "dryrot/dryrotlaw13.IndexBuilds" = some 4 := by kernel_rfl
theorem wfBx : Rows.indexBuildsRow.wfByText (OpenSpec.ofChange Rows.indexBuildsSpec) = true := by kernel_rfl
theorem goesBx : false = Rows.indexBuildsRow.goesBy Tryd.pinned.checked.prog := by kernel_rfl
theorem mainBx : Tryd.pinned.checked.prog.mainIs = some (true, "5713b373975ffdab19f6aefb8d252e1fe7b0a0de936cde39309dcece24eb1dc8".toList) := by kernel_rfl
theorem looksBx : false = Tryd.pinned.checked.prog.looks [] := by kernel_rfl

theorem indexBuilds_card : Rows.IndexBuildsCardSaid :=
  Claim7.holds_tied_plain_at .later [] [.data] true (true, "5713b373975ffdab19f6aefb8d252e1fe7b0a0de936cde39309dcece24eb1dc8") false
    indexBuilds_said (fun _ h => by cases h) wfBx (fun _ h => by cases h) indexBuilds_row_tie rfl ⟨rfl, rfl⟩ mainBx rfl
    (fun f fn hf hfn => by
      obtain rfl : f = 4 := (Option.some.inj (namedBx.symm.trans hf)).symm
      obtain rfl : fn = Tryd.f4 := (Option.some.inj (Tryd.func4.symm.trans hfn)).symm
      exact ⟨looksBx, fun j t ht => by
        rw [Tryd.params4] at ht
        have h3 : t = 25 := by
          rcases j with _ | j
          · simpa using ht.symm
          · simp at ht
        subst h3
        exact standInBx_25⟩)
    goesBx

end Go.Proofs.YthkoheaklmgonaaDoor
