import Derived.Test.YthkoheaklmgonaaDoorBfJ
namespace Go.Proofs.YthkoheaklmgonaaDoor
open Go Go.Dr Go.RowKit Go.ChangeShapes Go.WideShapes Go.ChangeAt Go.Lib
set_option maxRecDepth 100000

theorem cells24 : Tryd.prog.cellsOf 24 = 8 := by kernel_rfl
theorem cells5 : Tryd.prog.cellsOf 5 = 1 := by kernel_rfl
theorem cells3 : Tryd.prog.cellsOf 3 = 1 := by kernel_rfl
theorem cells22 : Tryd.prog.cellsOf 22 = 1 := by kernel_rfl
theorem und3 : Tryd.prog.underlying 3 = some (.int .i64) := by kernel_rfl
theorem und5 : Tryd.prog.underlying 5 = some (.int .u8) := by kernel_rfl
theorem und22 : Tryd.prog.underlying 22 = some (.slice 3) := by kernel_rfl
theorem und25 : Tryd.prog.underlying 25 = some (.slice 5) := by kernel_rfl
theorem struct24 : structOf Tryd.prog 24 = [(3, 0), (3, 1), (3, 2), (3, 3), (3, 4), (3, 5), (3, 6), (22, 7)] := by kernel_rfl
theorem plain24 : plainTy Tryd.prog 5 24 = true := by kernel_rfl
theorem plain25 : plainTy Tryd.prog 5 25 = true := by kernel_rfl
theorem readable24 : Tryd.prog.readableRec 24 = true := by kernel_rfl
theorem readable25 : Tryd.prog.readableRec 25 = true := by kernel_rfl
theorem types24 : 24 < Tryd.prog.types.size := of_decide_eq_true (by kernel_rfl)
theorem types25 : 25 < Tryd.prog.types.size := of_decide_eq_true (by kernel_rfl)

theorem in_i64 {n : Int} (h : (Lit.int .i64 n).wf = true) : inI64 n := by
  simp [Lit.wf, IntKind.min, IntKind.max, IntKind.signed] at h
  unfold inI64
  omega

theorem ints_of {h : AH} {l : List AV} (s : TyV Tryd.prog h 22 l) : ∃ v ps, l = [v] ∧ ps.length ≤ maxLen ∧ Sl h 1 ps.length v (iv ps) ∧ ∀ n ∈ ps, inI64 n := by
  obtain ⟨v, n, vs, rfl, hn, hs, he⟩ := s.slice_inv und22 cells3
  obtain ⟨ps, h1, h2, h3⟩ := elems_of (fun x : Int => [AV.int .i64 x]) inI64 1 n vs hs.1 fun i hi => by
    obtain ⟨z, e, h1⟩ := (he i hi).int_inv und3
    exact ⟨z, e, in_i64 h1⟩
  have h4 : vs = iv ps := by
    rw [h2]
    clear h1 h2 h3
    induction ps with
    | nil => rfl
    | cons b bs ih => simp only [List.map_cons, List.flatten_cons, ih]; rfl
  subst h4
  exact ⟨v, ps, rfl, by rw [h1]; exact hn, by rw [h1]; exact hs, h3⟩

theorem foot_of {h : AH} {l : List AV} (s : TyV Tryd.prog h 24 l) : ∃ (f : Ft) (ps : List Int), l = f.cells ∧ ps.length ≤ maxLen ∧ Sl h 1 ps.length f.par (iv ps) ∧ (∀ n ∈ f.fl, inI64 n) ∧ ∀ n ∈ ps, inI64 n := by
  obtain ⟨hl, hf⟩ := s.struct_inv struct24 (by simp)
  rw [cells24] at hl
  have hi : ∀ o, (3, o) ∈ ([(3, 0), (3, 1), (3, 2), (3, 3), (3, 4), (3, 5), (3, 6), (22, 7)] : List (TypeId × Nat)) → ∃ n, (l.drop o).take 1 = [.int .i64 n] ∧ inI64 n := fun o ho => by
    have := hf 3 o ho
    rw [cells3] at this
    obtain ⟨n, h1, h2⟩ := this.int_inv und3
    exact ⟨n, h1, in_i64 h2⟩
  obtain ⟨n0, a0, b0⟩ := hi 0 (by simp)
  obtain ⟨n1, a1, b1⟩ := hi 1 (by simp)
  obtain ⟨n2, a2, b2⟩ := hi 2 (by simp)
  obtain ⟨n3, a3, b3⟩ := hi 3 (by simp)
  obtain ⟨n4, a4, b4⟩ := hi 4 (by simp)
  obtain ⟨n5, a5, b5⟩ := hi 5 (by simp)
  obtain ⟨n6, a6, b6⟩ := hi 6 (by simp)
  have h7 := hf 22 7 (by simp)
  rw [cells22] at h7
  obtain ⟨p, ps, a7, k1, k2, k3⟩ := ints_of h7
  match l, hl with
  | [c0, c1, c2, c3, c4, c5, c6, c7], _ =>
    simp at a0 a1 a2 a3 a4 a5 a6 a7
    subst a0 a1 a2 a3 a4 a5 a6 a7
    refine ⟨⟨n0, n1, n2, n3, n4, n5, n6, c7⟩, ps, rfl, k1, k2, ?_, k3⟩
    intro x hx
    simp [Ft.fl] at hx
    rcases hx with rfl | rfl | rfl | rfl | rfl | rfl | rfl <;> assumption

theorem bytes_of {h : AH} {l : List AV} (s : TyV Tryd.prog h 25 l) : ∃ v bs, l = [v] ∧ Sl h 1 bs.length v (by8 bs) ∧ ∀ x ∈ bs, x < 256 := by
  obtain ⟨v, n, vs, rfl, _, hs, he⟩ := s.slice_inv und25 cells5
  obtain ⟨bs, h1, h2, h3⟩ := elems_of (fun x : Nat => [AV.int .u8 (x : Int)]) (fun x => x < 256) 1 n vs hs.1 fun i hi => by
    obtain ⟨z, e, h1⟩ := (he i hi).int_inv und5
    simp [Lit.wf, IntKind.min, IntKind.max, IntKind.signed] at h1
    refine ⟨z.toNat, ?_, by omega⟩
    rw [e, Int.toNat_of_nonneg (by omega)]
  have h4 : vs = by8 bs := by
    rw [h2]
    clear h1 h2 h3
    induction bs with
    | nil => rfl
    | cons b bs ih => simp only [List.map_cons, List.flatten_cons, ih]; rfl
  subst h4
  exact ⟨v, bs, rfl, by rw [h1]; exact hs, h3⟩

/-- the law BlockFeet, run by the machine -/
theorem calls3 {H : Type} {enc : TypeId × Value → H} {held : Bool} {W : World} {base : Nat} {b0 b1 : Nat} {v0 v1 : Value} {d0 d1 : DataW H} {p0 p1 : List MemPlace}
    (hv0 : Value.okWide Tryd.prog W .any b0 24 v0) (hv1 : Value.okWide Tryd.prog W .any b1 25 v1)
    (h0 : DataW.Trod enc Tryd.prog W base (fun _ => true) held 24 v0 d0 p0) (h1 : DataW.Trod enc Tryd.prog W base (fun _ => true) held 25 v1 d1 p1) :
    Calls Tryd.prog 3 #[v0, v1] W fun e W' => e = .returned (.bool true) ∧ Below W.heap.size W W' := by
  obtain ⟨φ1, g1, l0, c0, R1, ro1, le1, f1, t0⟩ := lay_struct (B := W.heap.size) (w0 := W) Tryd.underlying24 plain24 hv0 h0 (rel0 W Tryd.prog.globals.size (ρ := fun _ => .pointer none)) (ro0 _ _)
  obtain ⟨φ2, g2, a1, c1, R2, ro2, le2, f2, t1⟩ := lay_slice (B := W.heap.size) (w0 := W) und25 plain25 hv1 h1 R1 ro1
  obtain ⟨f, ps, e1, k1, s1, q1, q2⟩ := foot_of (t0.fr f2)
  obtain ⟨u, bs, e2, s2, q3⟩ := bytes_of t1
  subst e1
  cases e2
  exact law_evS (args' := [v0, v1]) Tryd.checked.mixed numBf (closed_ok Tryd.checked.mixed numBf awake12 _ _) ((law3 s1 k1 q1 q2 s2 q3).mono fun _ _ hh => hh.1) (.cons (c0.mono le2) (.cons c1 .nil)) (((glob0 Tryd.prog).le le1).le le2) R2

theorem liftedBf (os : Os) (started : os.Started) (H : Type) (enc : TypeId × Value → H) :
    ReturnsInHanded {} Tryd.checked os 3 .any (fun w args => (Rows.blockFeetSpec.pre enc Tryd.prog Tryd.f3 [] false w args ∧ laidMetH Tryd.prog Rows.blockFeetRow.laid w) ∧ sizedMet enc Tryd.prog Tryd.f3 (OpenSpec.ofChange Rows.blockFeetSpec) false w args)
      (Rows.blockFeetSpec.post enc Tryd.prog Tryd.f3 false true false false) := by
  refine returnsInHanded_of_change_and (C := Tryd.checked) (X := fun w _ => laidMetH Tryd.prog Rows.blockFeetRow.laid w) (fun _ _ _ hh h => h.of_heap hh) ownBf started (by kernel_rfl) Tryd.func3
    (ChangeSpec.witness_at (enc := enc) (C := Tryd.checked) (os := os) (X := fun w _ => laidMetH Tryd.prog Rows.blockFeetRow.laid w) false (laidWorldBf os) #[.agg #[.int .i64 0, .int .i64 0, .int .i64 0, .int .i64 0, .int .i64 0, .int .i64 0, .int .i64 0, .slice none 0 0], .slice none 0 0] 8 rfl (by kernel_rfl) (by kernel_rfl) (by kernel_rfl) (by kernel_rfl) (by kernel_rfl) (laidMetBf os _)) ?_
  intro W base args ds gs before hval0 hW _ _ _ _
  have hval : ∀ (j : Nat) t v, Tryd.f3.params[j]? = some t → args[j]? = some v → Value.okWide Tryd.prog W .any base t v := hval0
  have hW' := hW
  obtain ⟨p, q, hA0, hV0, rfl, _, _⟩ := hW
  have hA : DataW.TrodAll enc Tryd.prog W 0 (fun _ => true) true Tryd.f3.params.toList args.toList ds p := hA0
  have hlt : ∀ x ∈ p, x.block < W.heap.size := hA.lt
  rw [Tryd.params3] at hA hval
  obtain ⟨v0, v1, d0, d1, p0, p1, rfl, rfl, rfl, h0, h1⟩ := trodAll_two hA
  obtain ⟨rfl, rfl⟩ := trodVars_none hV0
  refine (calls3 (hval 0 24 v0 rfl rfl) (hval 1 25 v1 rfl rfl) h0 h1).mono fun e W' ⟨he, hb⟩ => ?_
  refine ⟨_, he, _, _, _, [], p0 ++ p1, [], hW', ?_, ?_, ?_, hb.frame _, fun h => by cases h⟩
  · exact trodAll_mk1 (shut_bool Tryd.underlying4 true)
  · exact trodAll_mk2 (hb.trod laidOutBf readable24 types24 h0 fun x hx => hlt x (List.mem_append_left _ hx)) (hb.trod laidOutBf readable25 types25 h1 fun x hx => hlt x (List.mem_append_right _ hx))
  · rfl

end Go.Proofs.YthkoheaklmgonaaDoor
