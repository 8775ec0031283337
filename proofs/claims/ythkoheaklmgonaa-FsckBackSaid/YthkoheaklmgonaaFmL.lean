import Derived.Test.YthkoheaklmgonaaFmK
import Derived.Test.YthkoheaklmgonaaRows
import Derived.SevenTiedAt
import Derived.SizedLaws
namespace Go.Proofs.Ythkoheaklmgonaa
open Go Go.Dr Go.RowKit Go.ChangeShapes Go.WideShapes Go.ChangeAt Go.Lib
set_option maxRecDepth 100000

theorem cells37 : Try.prog.cellsOf 37 = 8 := by kernel_rfl
theorem cells5 : Try.prog.cellsOf 5 = 1 := by kernel_rfl
theorem cells3 : Try.prog.cellsOf 3 = 1 := by kernel_rfl
theorem cells35 : Try.prog.cellsOf 35 = 1 := by kernel_rfl
theorem und5 : Try.prog.underlying 5 = some (.int .u8) := by kernel_rfl
theorem und35 : Try.prog.underlying 35 = some (.slice 3) := by kernel_rfl
theorem struct37 : structOf Try.prog 37 = [(3, 0), (3, 1), (3, 2), (3, 3), (3, 4), (3, 5), (3, 6), (35, 7)] := by kernel_rfl
theorem plain22 : plainTy Try.prog 5 22 = true := by kernel_rfl
theorem plain23 : plainTy Try.prog 5 23 = true := by kernel_rfl
theorem numFm : Try.prog.funcs.all (fun f => f.name != "runtime.NumGoroutine") = true := by kernel_rfl
theorem ownFm : ownKnob Try.prog.godebug = none := by kernel_rfl
theorem laidOutFm : laidOutB Try.prog = true := by kernel_rfl

theorem in_i64 {n : Int} (h : (Lit.int .i64 n).wf = true) : inI64 n := by
  simp [Lit.wf, IntKind.min, IntKind.max, IntKind.signed] at h
  unfold inI64
  omega

theorem foot_of {h : AH} {l : List AV} (s : TyV Try.prog h 37 l) : ∃ f : Ft, l = f.cells ∧ f.par.scalar = true ∧ f.fits := by
  obtain ⟨hl, hf⟩ := s.struct_inv struct37 (by simp)
  rw [cells37] at hl
  have hi : ∀ o, (3, o) ∈ ([(3, 0), (3, 1), (3, 2), (3, 3), (3, 4), (3, 5), (3, 6), (35, 7)] : List (TypeId × Nat)) → ∃ n, (l.drop o).take 1 = [.int .i64 n] ∧ inI64 n := fun o ho => by
    have := hf 3 o ho
    rw [cells3] at this
    obtain ⟨n, h1, h2⟩ := this.int_inv und3
    exact ⟨n, h1, in_i64 h2⟩
  obtain ⟨n0, a0, b0⟩ := hi 0 (by simp)
  obtain ⟨n1, a1, b1⟩ := hi 1 (by simp)
  obtain ⟨n2, a2, b2⟩ := hi 2 (by simp)
  obtain ⟨n3, a3, b3⟩ := hi 3 (by simp)
  obtain ⟨n4, a4, b4⟩ := hi 4 (by simp)
  obtain ⟨n5, a5, b5⟩ := hi 5 (by simp)
  obtain ⟨n6, a6, b6⟩ := hi 6 (by simp)
  have h7 := hf 35 7 (by simp)
  rw [cells35] at h7
  obtain ⟨p, n, vs, a7, _, hp, _⟩ := h7.slice_inv und35 cells3
  match l, hl with
  | [c0, c1, c2, c3, c4, c5, c6, c7], _ =>
    simp at a0 a1 a2 a3 a4 a5 a6 a7
    subst a0 a1 a2 a3 a4 a5 a6 a7
    refine ⟨⟨n0, n1, n2, n3, n4, n5, n6, c7⟩, rfl, hp.oneCell.2, ?_⟩
    intro x hx
    simp [Ft.nums] at hx
    rcases hx with rfl | rfl | rfl | rfl | rfl | rfl | rfl <;> assumption

theorem feet_of {h : AH} {l : List AV} (s : TyV Try.prog h 22 l) : ∃ v fs, l = [v] ∧ Sl h 8 fs.length v (feet fs) ∧ (∀ f ∈ fs, f.par.scalar = true) ∧ ∀ f ∈ fs, f.fits := by
  obtain ⟨v, n, vs, rfl, _, hs, he⟩ := s.slice_inv und22 cells37
  obtain ⟨fs, h1, h2, h3⟩ := elems_of Ft.cells (fun f => f.par.scalar = true ∧ f.fits) 8 n vs hs.1 fun i hi => by
    obtain ⟨f, e, h1, h2⟩ := foot_of (he i hi)
    exact ⟨f, e, h1, h2⟩
  subst h2
  exact ⟨v, fs, rfl, by rw [h1]; exact hs, fun f hf => (h3 f hf).1, fun f hf => (h3 f hf).2⟩

theorem bytes_of {h : AH} {l : List AV} (s : TyV Try.prog h 23 l) : ∃ v bs, l = [v] ∧ Sl h 1 bs.length v (by8 bs) ∧ ∀ x ∈ bs, x < 256 := by
  obtain ⟨v, n, vs, rfl, _, hs, he⟩ := s.slice_inv und23 cells5
  obtain ⟨bs, h1, h2, h3⟩ := elems_of (fun x : Nat => [AV.int .u8 (x : Int)]) (fun x => x < 256) 1 n vs hs.1 fun i hi => by
    obtain ⟨z, e, h1⟩ := (he i hi).int_inv und5
    simp [Lit.wf, IntKind.min, IntKind.max, IntKind.signed] at h1
    refine ⟨z.toNat, ?_, by omega⟩
    rw [e, Int.toNat_of_nonneg (by omega)]
  have h4 : vs = by8 bs := by
    rw [h2]
    clear h1 h2 h3
    induction bs with
    | nil => rfl
    | cons b bs ih => simp only [List.map_cons, List.flatten_cons, ih]; rfl
  subst h4
  exact ⟨v, bs, rfl, by rw [h1]; exact hs, h3⟩

/-- the law FsckManifests, run by the machine -/
theorem calls3 {H : Type} {enc : TypeId × Value → H} {held : Bool} {W : World} {base : Nat} {b0 b1 : Nat} {v0 v1 : Value} {d0 d1 : DataW H} {p0 p1 : List MemPlace}
    (hv0 : Value.okWide Try.prog W .any b0 22 v0) (hv1 : Value.okWide Try.prog W .any b1 23 v1)
    (h0 : DataW.Trod enc Try.prog W base (fun _ => true) held 22 v0 d0 p0) (h1 : DataW.Trod enc Try.prog W base (fun _ => true) held 23 v1 d1 p1) :
    Calls Try.prog 3 #[v0, v1] W fun e W' => e = .returned (.bool true) ∧ Below W.heap.size W W' := by
  obtain ⟨φ1, g1, a0, c0, R1, ro1, le1, f1, t0⟩ := lay_slice (B := W.heap.size) (w0 := W) und22 plain22 hv0 h0 (rel0 W Try.prog.globals.size) (ro0 _ _)
  obtain ⟨φ2, g2, a1, c1, R2, ro2, le2, f2, t1⟩ := lay_slice (B := W.heap.size) (w0 := W) und23 plain23 hv1 h1 R1 ro1
  obtain ⟨v, fs, e1, s1, q1, q2⟩ := feet_of (t0.fr f2)
  obtain ⟨u, bs, e2, s2, q3⟩ := bytes_of t1
  cases e1
  cases e2
  exact law_ev (args' := [v0, v1]) Try.checked.mixed numFm ((law3 s1 rfl q1 s2 q3).mono fun _ _ hh => hh.1) (.cons (c0.mono le2) (.cons c1 .nil)) (((glob0 Try.prog).le le1).le le2) R2

/-- the law FsckBack, run by the machine -/
theorem calls4 {H : Type} {enc : TypeId × Value → H} {held : Bool} {W : World} {base : Nat} {b0 : Nat} {v0 : Value} {d0 : DataW H} {p0 : List MemPlace}
    (hv0 : Value.okWide Try.prog W .any b0 22 v0) (h0 : DataW.Trod enc Try.prog W base (fun _ => true) held 22 v0 d0 p0) :
    Calls Try.prog 4 #[v0] W fun e W' => e = .returned (.bool true) ∧ Below W.heap.size W W' := by
  obtain ⟨φ1, g1, a0, c0, R1, ro1, le1, f1, t0⟩ := lay_slice (B := W.heap.size) (w0 := W) und22 plain22 hv0 h0 (rel0 W Try.prog.globals.size) (ro0 _ _)
  obtain ⟨v, fs, e1, s1, q1, q2⟩ := feet_of t0
  cases e1
  exact law_ev (args' := [v0]) Try.checked.mixed numFm ((law4 s1 rfl q1 q2).mono fun _ _ hh => hh.1) (.cons c0 .nil) ((glob0 Try.prog).le le1) R1

end Go.Proofs.Ythkoheaklmgonaa
