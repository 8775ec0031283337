import Derived.Test.YthkoheaklmgonaaGreatDoorNobodyA
namespace Go.Proofs.YthkoheaklmgonaaGreatDoor
open Go Go.Dr Go.RowKit Go.ChangeShapes Go.WideShapes Go.ChangeAt Go.Lib
set_option maxRecDepth 100000

theorem cells30N : Tryz.prog.cellsOf 30 = 5 := by kernel_rfl

theorem arr5N {cs : Array Value} (h : cs.size = 5) : ∃ c0 c1 c2 c3 c4, cs = #[c0, c1, c2, c3, c4] := by
  obtain ⟨l⟩ := cs
  match l, h with
  | [c0, c1, c2, c3, c4], _ => exact ⟨c0, c1, c2, c3, c4, rfl⟩

theorem lifted15N (os : Os) (started : os.Started) (H : Type) (enc : TypeId × Value → H) :
    ReturnsInHanded {} Tryz.checked os 4 .any (fun w args => (Rows.headNobodySpec.pre enc Tryz.prog Tryz.f4 [] false w args ∧ laidMetH Tryz.prog Rows.headNobodyRow.laid w) ∧ sizedMet enc Tryz.prog Tryz.f4 (OpenSpec.ofChange Rows.headNobodySpec) false w args)
      (Rows.headNobodySpec.post enc Tryz.prog Tryz.f4 false true false false) := by
  refine returnsInHanded_of_change_and (C := Tryz.checked) (X := fun w _ => laidMetH Tryz.prog Rows.headNobodyRow.laid w) (fun _ _ _ hh h => h.of_heap hh) own15 started (by kernel_rfl) Tryz.func4
    (ChangeSpec.witness_at (enc := enc) (C := Tryz.checked) (os := os) (X := fun w _ => laidMetH Tryz.prog Rows.headNobodyRow.laid w) false (laidWorld15 os) #[.agg #[.int .i64 0, .slice none 0 0, .slice none 0 0, .int .i64 0, .int .i64 0]] 8 rfl (by kernel_rfl) (by kernel_rfl) (by kernel_rfl) (by kernel_rfl) (by kernel_rfl) (laid_met15 os _)) ?_
  intro W base args ds gs before hval0 hW _ _ hL _
  have hval : ∀ (j : Nat) t v, Tryz.f4.params[j]? = some t → args[j]? = some v → Value.okWide Tryz.prog W .any base t v := hval0
  have hW' := hW
  obtain ⟨p, q, hA0, hV0, rfl, hfz, hnd⟩ := hW
  have hA : DataW.TrodAll enc Tryz.prog W 0 (fun _ => true) true Tryz.f4.params.toList args.toList ds p := hA0
  rw [Tryz.params4] at hA hval
  obtain ⟨v0, d0, rfl, rfl, h0⟩ := trodAll_one hA
  obtain ⟨rfl, rfl⟩ := trodVars_none hV0
  have hlt : ∀ x ∈ p, x.block < W.heap.size := hA.lt
  obtain ⟨cs, rfl, hsz, hcon⟩ := raw_struct Tryz.underlying30 (hval 0 30 v0 rfl rfl)
  have hsz5 : cs.size = 5 := hsz.trans cells30N
  obtain ⟨c0, c1, c2, c3, c4, rfl⟩ := arr5N hsz5
  have hcall := law_true (P := Tryz.prog) Tryz.checked.mixed num15 (run15N c0 c1 c2 c3 c4) (args' := [.agg #[c0, c1, c2, c3, c4]]) (fun φ => .cons (hcon φ) .nil) W
  refine hcall.mono fun e W' ⟨he, hb⟩ => ?_
  refine ⟨_, he, _, _, _, [], p, [], hW', ?_, ?_, ?_, hb.frame _, fun h => by cases h⟩
  · exact trodAll_mk1 (shut_bool Tryz.underlying4 true)
  · exact trodAll_mk1 (hb.trod laidOut15 (by kernel_rfl) (of_decide_eq_true (by kernel_rfl)) h0 hlt)
  · rfl

end Go.Proofs.YthkoheaklmgonaaGreatDoor
