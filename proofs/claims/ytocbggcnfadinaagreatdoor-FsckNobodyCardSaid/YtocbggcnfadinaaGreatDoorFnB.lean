import Derived.Test.YtocbggcnfadinaaGreatDoorFnA
namespace Go.Proofs.YtocbggcnfadinaaGreatDoor
open Go Go.Dr Go.RowKit Go.ChangeShapes Go.WideShapes Go.ChangeAt Go.Lib
set_option maxRecDepth 100000

theorem scalarN {W : World} {base : Nat} {v : Value} (h : Value.okWide Tryz.prog W .any base 3 v) : scalarV v = true := by
  unfold Value.okWide at h
  rw [Tryz.underlying3] at h
  exact okWide_scalar h

theorem readableN : Tryz.prog.readableRec 3 = true := by kernel_rfl
theorem typesN : 3 < Tryz.prog.types.size := of_decide_eq_true (by kernel_rfl)

theorem liftedN (os : Os) (started : os.Started) (H : Type) (enc : TypeId × Value → H) :
    ReturnsInHanded {} Tryz.checked os 3 .any (fun w args => (Rows.fsckNobodySpec.pre enc Tryz.prog Tryz.f3 [] false w args ∧ laidMetH Tryz.prog Rows.fsckNobodyRow.laid w) ∧ sizedMet enc Tryz.prog Tryz.f3 (OpenSpec.ofChange Rows.fsckNobodySpec) false w args)
      (Rows.fsckNobodySpec.post enc Tryz.prog Tryz.f3 false true false false) := by
  refine returnsInHanded_of_change_and (C := Tryz.checked) (X := fun w _ => laidMetH Tryz.prog Rows.fsckNobodyRow.laid w) (fun _ _ _ hh h => h.of_heap hh) ownN started (by kernel_rfl) Tryz.func3
    (ChangeSpec.witness_at (enc := enc) (C := Tryz.checked) (os := os) (X := fun w _ => laidMetH Tryz.prog Rows.fsckNobodyRow.laid w) false (laidWorldN os) #[.int .i64 0] 8 rfl (by kernel_rfl) (by kernel_rfl) (by kernel_rfl) (by kernel_rfl) (by kernel_rfl) (laidMetN os _)) ?_
  intro W base args ds gs before hval0 hW _ _ _ _
  have hval : ∀ (j : Nat) t v, Tryz.f3.params[j]? = some t → args[j]? = some v → Value.okWide Tryz.prog W .any base t v := hval0
  have hW' := hW
  obtain ⟨p, q, hA0, hV0, rfl, _, _⟩ := hW
  have hA : DataW.TrodAll enc Tryz.prog W 0 (fun _ => true) true Tryz.f3.params.toList args.toList ds p := hA0
  rw [Tryz.params3] at hA hval
  obtain ⟨v0, d0, rfl, rfl, h0⟩ := trodAll_one hA
  obtain ⟨rfl, rfl⟩ := trodVars_none hV0
  have hlt : ∀ x ∈ p, x.block < W.heap.size := hA.lt
  have hs := scalarN (hval 0 3 v0 rfl rfl)
  have hcall := law_true (P := Tryz.prog) Tryz.checked.mixed numN (runN0 v0) (args' := [v0]) (fun φ => .cons (.raw hs) .nil) W
  refine hcall.mono fun e W' ⟨he, hb⟩ => ?_
  refine ⟨_, he, _, _, _, [], p, [], hW', ?_, ?_, ?_, hb.frame _, fun h => by cases h⟩
  · exact trodAll_mk1 (shut_bool Tryz.underlying4 true)
  · exact trodAll_mk1 (hb.trod laidOutN readableN typesN h0 hlt)
  · rfl
end Go.Proofs.YtocbggcnfadinaaGreatDoor
