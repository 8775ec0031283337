import Derived.Test.YtckonkiblmdeiaaGreatDoorMnA
namespace Go.Proofs.YtckonkiblmdeiaaGreatDoor
open Go Go.Dr Go.RowKit Go.ChangeShapes Go.WideShapes Go.ChangeAt Go.Lib
set_option maxRecDepth 100000

theorem cells25M : Tryz.prog.cellsOf 25 = 6 := by kernel_rfl
theorem readable25M : Tryz.prog.readableRec 25 = true := by kernel_rfl
theorem types25M : 25 < Tryz.prog.types.size := of_decide_eq_true (by kernel_rfl)

theorem callsM {W : World} {b0 : Nat} {v0 : Value} (h0 : Value.okWide Tryz.prog W .any b0 25 v0) :
    Calls Tryz.prog 3 #[v0] W fun e W' => e = .returned (.bool true) ∧ Below W.heap.size W W' := by
  obtain ⟨cs, rfl, hl, hs⟩ := struct_cells Tryz.underlying25 h0
  rw [cells25M] at hl
  refine law_trueD (P := Tryz.prog) Tryz.checked.mixed numM runM (args' := [.agg ⟨cs⟩]) (ρ := fun t => cs.getD t (.bool true)) (fun φ hφ => .cons (.agg ?_) .nil) W
  rw [← hl]
  refine raws_at hs fun i v hi => ?_
  rw [hφ, Nat.zero_add]
  show cs.getD i (.bool true) = v
  rw [List.getD_eq_getElem?_getD, hi]
  rfl

theorem liftedM (os : Os) (started : os.Started) (H : Type) (enc : TypeId × Value → H) :
    ReturnsInHanded {} Tryz.checked os 3 .any (fun w args => (Rows.modelNobodySpec.pre enc Tryz.prog Tryz.f3 [] false w args ∧ laidMetH Tryz.prog Rows.modelNobodyRow.laid w) ∧ sizedMet enc Tryz.prog Tryz.f3 (OpenSpec.ofChange Rows.modelNobodySpec) false w args)
      (Rows.modelNobodySpec.post enc Tryz.prog Tryz.f3 false true false false) := by
  refine returnsInHanded_of_change_and (C := Tryz.checked) (X := fun w _ => laidMetH Tryz.prog Rows.modelNobodyRow.laid w) (fun _ _ _ hh h => h.of_heap hh) ownM started (by kernel_rfl) Tryz.func3
    (ChangeSpec.witness_at (enc := enc) (C := Tryz.checked) (os := os) (X := fun w _ => laidMetH Tryz.prog Rows.modelNobodyRow.laid w) false (laidWorldM os) #[.agg #[.int .i64 0, .slice none 0 0, .slice none 0 0, .int .i64 0, .int .i64 0, .int .i64 0]] 8 rfl (by kernel_rfl) (by kernel_rfl) (by kernel_rfl) (by kernel_rfl) (by kernel_rfl) (laidMetM os _)) ?_
  intro W base args ds gs before hval0 hW _ _ _ _
  have hval : ∀ (j : Nat) t v, Tryz.f3.params[j]? = some t → args[j]? = some v → Value.okWide Tryz.prog W .any base t v := hval0
  have hW' := hW
  obtain ⟨p, q, hA0, hV0, rfl, _, _⟩ := hW
  have hA : DataW.TrodAll enc Tryz.prog W 0 (fun _ => true) true Tryz.f3.params.toList args.toList ds p := hA0
  rw [Tryz.params3] at hA hval
  obtain ⟨v0, d0, rfl, rfl, h0⟩ := trodAll_one hA
  obtain ⟨rfl, rfl⟩ := trodVars_none hV0
  have hlt : ∀ x ∈ p, x.block < W.heap.size := hA.lt
  refine (callsM (hval 0 25 v0 rfl rfl)).mono fun e W' ⟨he, hb⟩ => ?_
  refine ⟨_, he, _, _, _, [], p, [], hW', ?_, ?_, ?_, hb.frame _, fun h => by cases h⟩
  · exact trodAll_mk1 (shut_bool Tryz.underlying4 true)
  · exact trodAll_mk1 (hb.trod laidOutM readable25M types25M h0 hlt)
  · rfl
end Go.Proofs.YtckonkiblmdeiaaGreatDoor
