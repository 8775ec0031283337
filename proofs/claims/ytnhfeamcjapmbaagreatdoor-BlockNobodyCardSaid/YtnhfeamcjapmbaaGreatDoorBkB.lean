import Derived.Test.YtnhfeamcjapmbaaGreatDoorBkA
namespace Go.Proofs.YtnhfeamcjapmbaaGreatDoor
open Go Go.Dr Go.RowKit Go.ChangeShapes Go.WideShapes Go.ChangeAt Go.Lib
set_option maxRecDepth 100000

theorem scalarK {W : World} {base : Nat} {v : Value} (h : Value.okWide Tryz.prog W .any base 25 v) : scalarV v = true := by
  unfold Value.okWide at h
  rw [Tryz.underlying25] at h
  exact okWide_scalar h

theorem cells24K : Tryz.prog.cellsOf 24 = 8 := by kernel_rfl
theorem readable24K : Tryz.prog.readableRec 24 = true := by kernel_rfl
theorem readable25K : Tryz.prog.readableRec 25 = true := by kernel_rfl
theorem types24K : 24 < Tryz.prog.types.size := of_decide_eq_true (by kernel_rfl)
theorem types25K : 25 < Tryz.prog.types.size := of_decide_eq_true (by kernel_rfl)

theorem callsK {W : World} {b0 b1 : Nat} {v0 v1 : Value} (h0 : Value.okWide Tryz.prog W .any b0 24 v0) (h1 : Value.okWide Tryz.prog W .any b1 25 v1) :
    Calls Tryz.prog 3 #[v0, v1] W fun e W' => e = .returned (.bool true) ∧ Below W.heap.size W W' := by
  obtain ⟨cs, rfl, hl, hs⟩ := struct_cells Tryz.underlying24 h0
  rw [cells24K] at hl
  have hs1 := scalarK h1
  refine law_true (P := Tryz.prog) Tryz.checked.mixed numK runK (args' := [.agg ⟨cs⟩, v1]) (ρ := fun t => (cs ++ [v1]).getD t v1) (fun φ hφ => .cons (.agg ?_) (.cons (.raw hs1 ?_) .nil)) W
  · rw [← hl]
    refine raws_at hs fun i v hi => ?_
    have hlt := (List.getElem?_eq_some_iff.1 hi).1
    rw [hφ, Nat.zero_add]
    show (cs ++ [v1]).getD i v1 = v
    rw [List.getD_eq_getElem?_getD, List.getElem?_append_left hlt, hi]
    rfl
  · rw [hφ]
    show (cs ++ [v1]).getD 8 v1 = v1
    rw [List.getD_eq_getElem?_getD, List.getElem?_append_right (by omega), hl]
    rfl

theorem liftedK (os : Os) (started : os.Started) (H : Type) (enc : TypeId × Value → H) :
    ReturnsInHanded {} Tryz.checked os 3 .any (fun w args => (Rows.blockNobodySpec.pre enc Tryz.prog Tryz.f3 [] false w args ∧ laidMetH Tryz.prog Rows.blockNobodyRow.laid w) ∧ sizedMet enc Tryz.prog Tryz.f3 (OpenSpec.ofChange Rows.blockNobodySpec) false w args)
      (Rows.blockNobodySpec.post enc Tryz.prog Tryz.f3 false true false false) := by
  refine returnsInHanded_of_change_and (C := Tryz.checked) (X := fun w _ => laidMetH Tryz.prog Rows.blockNobodyRow.laid w) (fun _ _ _ hh h => h.of_heap hh) ownK started (by kernel_rfl) Tryz.func3
    (ChangeSpec.witness_at (enc := enc) (C := Tryz.checked) (os := os) (X := fun w _ => laidMetH Tryz.prog Rows.blockNobodyRow.laid w) false (laidWorldK os) #[.agg #[.int .i64 0, .int .i64 0, .int .i64 0, .int .i64 0, .int .i64 0, .int .i64 0, .int .i64 0, .slice none 0 0], .slice none 0 0] 8 rfl (by kernel_rfl) (by kernel_rfl) (by kernel_rfl) (by kernel_rfl) (by kernel_rfl) (laidMetK os _)) ?_
  intro W base args ds gs before hval0 hW _ _ _ _
  have hval : ∀ (j : Nat) t v, Tryz.f3.params[j]? = some t → args[j]? = some v → Value.okWide Tryz.prog W .any base t v := hval0
  have hW' := hW
  obtain ⟨p, q, hA0, hV0, rfl, _, _⟩ := hW
  have hA : DataW.TrodAll enc Tryz.prog W 0 (fun _ => true) true Tryz.f3.params.toList args.toList ds p := hA0
  have hlt : ∀ x ∈ p, x.block < W.heap.size := hA.lt
  rw [Tryz.params3] at hA hval
  obtain ⟨v0, v1, d0, d1, p0, p1, rfl, rfl, rfl, h0, h1⟩ := trodAll_two hA
  obtain ⟨rfl, rfl⟩ := trodVars_none hV0
  refine (callsK (hval 0 24 v0 rfl rfl) (hval 1 25 v1 rfl rfl)).mono fun e W' ⟨he, hb⟩ => ?_
  refine ⟨_, he, _, _, _, [], p0 ++ p1, [], hW', ?_, ?_, ?_, hb.frame _, fun h => by cases h⟩
  · exact trodAll_mk1 (shut_bool Tryz.underlying4 true)
  · exact trodAll_mk2 (hb.trod laidOutK readable24K types24K h0 fun x hx => hlt x (List.mem_append_left _ hx)) (hb.trod laidOutK readable25K types25K h1 fun x hx => hlt x (List.mem_append_right _ hx))
  · rfl
end Go.Proofs.YtnhfeamcjapmbaaGreatDoor
