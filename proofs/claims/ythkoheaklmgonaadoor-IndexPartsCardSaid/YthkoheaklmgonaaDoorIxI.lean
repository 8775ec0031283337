import Derived.Test.YthkoheaklmgonaaDoorIxH
import Derived.Test.YthkoheaklmgonaaDoorSort
import Derived.Test.YthkoheaklmgonaaDoorCards
import Derived.Test.YthkoheaklmgonaaDoorTie
import Derived.Lib.LaidIn
import Derived.SevenTiedAt
import Derived.SizedLaws
namespace Go.Proofs.YthkoheaklmgonaaDoor
open Go Go.Dr Go.RowKit Go.ChangeShapes Go.WideShapes Go.ChangeAt Go.Lib
set_option maxRecDepth 100000

theorem ownIx : ownKnob Tryd.prog.godebug = none := by kernel_rfl
theorem laidOutIx : laidOutB Tryd.prog = true := by kernel_rfl
theorem numIx : Tryd.prog.funcs.all (fun f => f.name != "runtime.NumGoroutine") = true := by kernel_rfl

theorem runIx : okTrue (evCall Tryd.prog (fun _ => none) 100000 1000 (.fn 16) [] ⟨Tryd.prog.globals.size, .leaf⟩) = true := by kernel_rfl

theorem bodyIx : Tryd.f92.body.isSome = true := by kernel_rfl

theorem sortIs : SortIs Tryd.prog 92 where
  some := Tryd.slices_Sort_int
  none := Tryd.slices_Sort_int_none
  enter := fun _ w => callFn_run (noNum numIx) Tryd.func92 bodyIx w

theorem sumIx (B : Nat) (w0 : World) : SumOk Tryd.prog B w0 SI := by
  intro f g hs args h v h' he φ w args' ha hG hR
  unfold SI at hs
  split at hs
  · rename_i e
    subst e
    cases hs
    exact sort_ok sortIs he ha hR
  · exact closed_ok Tryd.checked.mixed numIx runIx B w0 f g hs args h v h' he φ w args' ha hG hR

def intsIx (k : IntKind) (l : List Int) : Array Value := (l.map fun z => Value.int k z).toArray

/-- a world that fits: the settled one, the listed variables' cells laid -/
noncomputable def laidWorldIx (os : Os) : World :=
  let w0 := World.holding Tryd.prog os ⟨#[], #[], []⟩
  let put (h : Array Obj) (g : Nat) (cs : Array Value) : Array Obj := h.modify g fun
    | .cells _ t frozen => .cells cs t frozen
    | o => o
  let h := w0.heap
  let h := put h 0 (intsIx .u8 [0, 1, 56, 2, 57, 49, 28, 3, 61, 58, 42, 50, 38, 29, 17, 4, 62, 47, 59, 36, 45, 43, 51, 22, 53, 39, 33, 30, 24, 18, 12, 5, 63, 55, 48, 27, 60, 41, 37, 16, 46, 35, 44, 21, 52, 32, 23, 11, 54, 26, 40, 15, 34, 20, 31, 10, 25, 14, 19, 9, 13, 8, 7, 6])
  { w0 with heap := h }

theorem laidRunIx (os : Os) (args : Array Value) : LaidIn Tryd.prog ((laidWorldIx os).forCall (fun _ _ => 0) ⟨#[], args, []⟩).memory (Rows.indexPartsRow.laid.filter fun x => x.2.handleName?.isNone) [0] :=
  LaidIn.of_run _ 8 (by kernel_rfl) (by kernel_rfl) (by kernel_rfl) (by kernel_rfl)

theorem laidMetIx (os : Os) (args : Array Value) : laidMetH Tryd.prog Rows.indexPartsRow.laid ((laidWorldIx os).forCall (fun _ _ => 0) ⟨#[], args, []⟩).memory :=
  laidMetH_of_parts (laidRunIx os args).met (by kernel_rfl)

theorem cells3 : Tryd.prog.cellsOf 3 = 1 := by kernel_rfl
theorem und3 : Tryd.prog.underlying 3 = some (.int .i64) := by kernel_rfl
theorem und22 : Tryd.prog.underlying 22 = some (.slice 3) := by kernel_rfl
theorem plain22 : plainTy Tryd.prog 5 22 = true := by kernel_rfl
theorem readable22 : Tryd.prog.readableRec 22 = true := by kernel_rfl
theorem types22 : 22 < Tryd.prog.types.size := of_decide_eq_true (by kernel_rfl)

theorem iv_flat : ∀ bs : List Int, (bs.map fun x : Int => [AV.int .i64 x]).flatten = iv bs
  | [] => rfl
  | b :: bs => by rw [List.map_cons, List.flatten_cons, iv_flat bs]; rfl

theorem ints_of {h : AH} {l : List AV} (s : TyV Tryd.prog h 22 l) : ∃ v ps, l = [v] ∧ Sl h 1 ps.length v (iv ps) := by
  obtain ⟨v, n, vs, rfl, _, hs, he⟩ := s.slice_inv und22 cells3
  obtain ⟨ps, h1, h2, _⟩ := elems_of (fun x : Int => [AV.int .i64 x]) (fun _ => True) 1 n vs hs.1 fun i hi => by
    obtain ⟨z, e, _⟩ := (he i hi).int_inv und3
    exact ⟨z, e, trivial⟩
  have h4 : vs = iv ps := by rw [h2, iv_flat]
  subst h4
  exact ⟨v, ps, rfl, by rw [h1]; exact hs⟩

/-- the law IndexParts, run by the machine -/
theorem calls5 {H : Type} {enc : TypeId × Value → H} {held : Bool} {W : World} {base : Nat} {b0 b1 : Nat} {v0 v1 : Value} {d0 d1 : DataW H} {p0 p1 : List MemPlace}
    (hv0 : Value.okWide Tryd.prog W .any b0 22 v0) (hv1 : Value.okWide Tryd.prog W .any b1 22 v1)
    (h0 : DataW.Trod enc Tryd.prog W base (fun _ => true) held 22 v0 d0 p0) (h1 : DataW.Trod enc Tryd.prog W base (fun _ => true) held 22 v1 d1 p1) :
    Calls Tryd.prog 5 #[v0, v1] W fun e W' => e = .returned (.bool true) ∧ Below W.heap.size W W' := by
  obtain ⟨φ1, g1, a0, c0, R1, ro1, le1, f1, t0⟩ := lay_slice (B := W.heap.size) (w0 := W) und22 plain22 hv0 h0 (rel0 W Tryd.prog.globals.size (ρ := fun _ => .pointer none)) (ro0 _ _)
  obtain ⟨φ2, g2, a1, c1, R2, ro2, le2, f2, t1⟩ := lay_slice (B := W.heap.size) (w0 := W) und22 plain22 hv1 h1 R1 ro1
  obtain ⟨u, ps, e1, s1⟩ := ints_of (t0.fr f2)
  obtain ⟨u2, qs, e2, s2⟩ := ints_of t1
  cases e1
  cases e2
  exact law_evS (args' := [v0, v1]) Tryd.checked.mixed numIx (sumIx _ _) (parts5 s1 s2) (.cons (c0.mono le2) (.cons c1 .nil)) (((glob0 Tryd.prog).le le1).le le2) R2

theorem liftedIx (os : Os) (started : os.Started) (H : Type) (enc : TypeId × Value → H) :
    ReturnsInHanded {} Tryd.checked os 5 .any (fun w args => (Rows.indexPartsSpec.pre enc Tryd.prog Tryd.f5 [] false w args ∧ laidMetH Tryd.prog Rows.indexPartsRow.laid w) ∧ sizedMet enc Tryd.prog Tryd.f5 (OpenSpec.ofChange Rows.indexPartsSpec) false w args)
      (Rows.indexPartsSpec.post enc Tryd.prog Tryd.f5 false true false false) := by
  refine returnsInHanded_of_change_and (C := Tryd.checked) (X := fun w _ => laidMetH Tryd.prog Rows.indexPartsRow.laid w) (fun _ _ _ hh h => h.of_heap hh) ownIx started (by kernel_rfl) Tryd.func5
    (ChangeSpec.witness_at (enc := enc) (C := Tryd.checked) (os := os) (X := fun w _ => laidMetH Tryd.prog Rows.indexPartsRow.laid w) false (laidWorldIx os) #[.slice none 0 0, .slice none 0 0] 8 rfl (by kernel_rfl) (by kernel_rfl) (by kernel_rfl) (by kernel_rfl) (by kernel_rfl) (laidMetIx os _)) ?_
  intro W base args ds gs before hval0 hW _ _ _ _
  have hval : ∀ (j : Nat) t v, Tryd.f5.params[j]? = some t → args[j]? = some v → Value.okWide Tryd.prog W .any base t v := hval0
  have hW' := hW
  obtain ⟨p, q, hA0, hV0, rfl, _, _⟩ := hW
  have hA : DataW.TrodAll enc Tryd.prog W 0 (fun _ => true) true Tryd.f5.params.toList args.toList ds p := hA0
  have hlt : ∀ x ∈ p, x.block < W.heap.size := hA.lt
  rw [Tryd.params5] at hA hval
  obtain ⟨v0, v1, d0, d1, p0, p1, rfl, rfl, rfl, h0, h1⟩ := trodAll_two hA
  obtain ⟨rfl, rfl⟩ := trodVars_none hV0
  refine (calls5 (hval 0 22 v0 rfl rfl) (hval 1 22 v1 rfl rfl) h0 h1).mono fun e W' ⟨he, hb⟩ => ?_
  refine ⟨_, he, _, _, _, [], p0 ++ p1, [], hW', ?_, ?_, ?_, hb.frame _, fun h => by cases h⟩
  · exact trodAll_mk1 (shut_bool Tryd.underlying4 true)
  · exact trodAll_mk2 (hb.trod laidOutIx readable22 types22 h0 fun x hx => hlt x (List.mem_append_left _ hx)) (hb.trod laidOutIx readable22 types22 h1 fun x hx => hlt x (List.mem_append_right _ hx))
  · rfl

end Go.Proofs.YthkoheaklmgonaaDoor
