/-
  The law IndexLists comes out true whatever it is given, and leaves what it is given as it was. No condition beyond the row's.
-/
import Derived.Test.YthkoheaklmgonaaGreatDoorT4
namespace Go.Proofs.YthkoheaklmgonaaGreatDoor
open Go Go.Dr Go.RowKit Go.ChangeShapes Go.WideShapes Go.ChangeAt Go.Lib
set_option maxRecDepth 100000

theorem readLx_0 : Tryz.prog.readableRec 22 = true := by kernel_rfl
theorem typLx_0 : 22 < Tryz.prog.types.size := of_decide_eq_true (by kernel_rfl)
theorem readLx_1 : Tryz.prog.readableRec 22 = true := by kernel_rfl
theorem typLx_1 : 22 < Tryz.prog.types.size := of_decide_eq_true (by kernel_rfl)

theorem liftedLx (os : Os) (started : os.Started) (H : Type) (enc : TypeId × Value → H) :
    ReturnsInHanded {} Tryz.checked os 3 .any (fun w args => (Rows.indexListsSpec.pre enc Tryz.prog Tryz.f3 [] false w args ∧ laidMetH Tryz.prog Rows.indexListsRow.laid w) ∧ sizedMet enc Tryz.prog Tryz.f3 (OpenSpec.ofChange Rows.indexListsSpec) false w args)
      (Rows.indexListsSpec.post enc Tryz.prog Tryz.f3 false true false false) := by
  refine returnsInHanded_of_change_and (C := Tryz.checked) (X := fun w _ => laidMetH Tryz.prog Rows.indexListsRow.laid w) (fun _ _ _ hh h => h.of_heap hh) ownLx started (by kernel_rfl) Tryz.func3
    (ChangeSpec.witness_at (enc := enc) (C := Tryz.checked) (os := os) (X := fun w _ => laidMetH Tryz.prog Rows.indexListsRow.laid w) false (laidWorldLx os) #[.slice none 0 0, .slice none 0 0] 8 rfl (by kernel_rfl) (by kernel_rfl) (by kernel_rfl) (by kernel_rfl) (by kernel_rfl) (laidMetLx os _)) ?_
  intro W base args ds gs before hval0 hW _ _ _ _
  have hval : ∀ (j : Nat) t v, Tryz.f3.params[j]? = some t → args[j]? = some v → Value.okWide Tryz.prog W .any base t v := hval0
  have hW' := hW
  obtain ⟨p, q, hA0, hV0, rfl, _, _⟩ := hW
  have hA : DataW.TrodAll enc Tryz.prog W 0 (fun _ => true) true Tryz.f3.params.toList args.toList ds p := hA0
  have hlt : ∀ x ∈ p, x.block < W.heap.size := hA.lt
  rw [Tryz.params3] at hA hval
  obtain ⟨v0, v1, d0, d1, p0, p1, rfl, rfl, rfl, h0, h1⟩ := trodAll_two hA
  obtain ⟨rfl, rfl⟩ := trodVars_none hV0
  refine (calls_IndexLists (hval 0 22 v0 rfl rfl) (hval 1 22 v1 rfl rfl) h0 h1).mono fun e W' ⟨he, hb⟩ => ?_
  refine ⟨_, he, _, _, _, [], p0 ++ p1, [], hW', ?_, ?_, ?_, hb.frame _, fun h => by cases h⟩
  · exact trodAll_mk1 (shut_bool Tryz.underlying4 true)
  · exact trodAll_mk2 (hb.trod laidOutLx readLx_0 typLx_0 h0 fun x hx => hlt x (List.mem_append_left _ hx)) (hb.trod laidOutLx readLx_1 typLx_1 h1 fun x hx => hlt x (List.mem_append_right _ hx))
  · rfl

theorem indexLists_said : Rows.IndexListsSaid :=
  OpenClaim.holds_of_wide 3 Tryz.f3 rfl rfl rfl rfl rfl rfl rfl ⟨rfl, rfl, rfl, rfl, rfl⟩ rfl rfl rfl rfl rfl (by kernel_rfl) Tryz.func3 (by kernel_rfl)
    (of_decide_eq_true (by kernel_rfl)) (by unfold Func.isWrapper; rw [if_neg (of_decide_eq_false (by kernel_rfl))]; exact ⟨rfl, rfl⟩)
    (fun os started H enc _ => liftedLx os started H enc)

theorem standInLx_22 : Tryz.prog.wantsStandIn 22 = false := by kernel_rfl
theorem namedLx : Tryz.prog.funcNamed "dryrot/dryrotlaw13.IndexLists" = some 3 := by kernel_rfl
theorem wfLx : Rows.indexListsRow.wfByText (OpenSpec.ofChange Rows.indexListsSpec) = true := by kernel_rfl
theorem goesLx : false = Rows.indexListsRow.goesBy Tryz.pinned.checked.prog := by kernel_rfl
theorem mainLx : Tryz.pinned.checked.prog.mainIs = some (true, "56ff34163235473e1a35b44cfa0b8cfba0044e958dab059e43a4de5d9f5beb43".toList) := by kernel_rfl
theorem looksLx : false = Tryz.pinned.checked.prog.looks [] := by kernel_rfl

theorem indexLists_card : Rows.IndexListsCardSaid :=
  Claim7.holds_tied_plain_at .later [] [.data] true (true, "56ff34163235473e1a35b44cfa0b8cfba0044e958dab059e43a4de5d9f5beb43") false
    indexLists_said (fun _ h => by cases h) wfLx (fun _ h => by cases h) indexLists_row_tie rfl ⟨rfl, rfl⟩ mainLx rfl
    (fun f fn hf hfn => by
      obtain rfl : f = 3 := (Option.some.inj (namedLx.symm.trans hf)).symm
      obtain rfl : fn = Tryz.f3 := (Option.some.inj (Tryz.func3.symm.trans hfn)).symm
      exact ⟨looksLx, fun j t ht => by
        rw [Tryz.params3] at ht
        have h3 : t = 22 := by
          rcases j with _ | _ | j
          · simpa using ht.symm
          · simpa using ht.symm
          · simp at ht
        subst h3
        exact standInLx_22⟩)
    goesLx

end Go.Proofs.YthkoheaklmgonaaGreatDoor
