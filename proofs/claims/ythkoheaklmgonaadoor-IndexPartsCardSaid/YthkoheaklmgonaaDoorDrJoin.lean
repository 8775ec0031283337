/-
  From an abstract run to a law's statement: arguments that are not read.
-/
import Derived.Test.YthkoheaklmgonaaDoorDrDraw8
import Derived.ProofKit
namespace Go.Dr
open Go.RowKit

variable {P : Program}

/-- where the package-level variables lie -/
def phi0 (n : Nat) (ρ : Nat → Value := fun _ => .pointer none) : Phi := ⟨fun g => if g < n then some ⟨g, 0, 0⟩ else none, ρ⟩

theorem rel0 (W : World) (n : Nat) {ρ : Nat → Value} : Rel W.heap.size W (phi0 n ρ) ⟨n, .leaf⟩ W := by
  refine ⟨fun i p e => ?_, fun i p o _ e => (by cases e), fun i p o _ e => (by cases e), fun i j p q oi oj _ _ _ e => (by cases e), .refl _ _, Nat.le_refl _⟩
  simp only [phi0] at e
  split at e
  · assumption
  · cases e

theorem glob0 (P : Program) {ρ : Nat → Value} : GlobRel P (phi0 P.globals.size ρ) := fun g hg => ⟨0, by simp only [phi0]; rw [if_pos hg]⟩

def okTrue : R (AV × AH) → Bool
  | .ok (.bool b, _) => b
  | _ => false

theorem okTrue_ok {r : R (AV × AH)} (h : okTrue r = true) : ∃ h', r = .ok (.bool true, h') := by
  unfold okTrue at h
  split at h
  · cases h; exact ⟨_, rfl⟩
  · cases h

theorem noNum {P : Program} (h : P.funcs.all (fun f => f.name != "runtime.NumGoroutine") = true) : ∀ (f : Nat) fn, P.funcs[f]? = some fn → fn.body.isSome = true → fn.name ≠ "runtime.NumGoroutine" := by
  intro f fn hf _
  rw [Array.all_eq_true'] at h
  have := h fn (Array.mem_of_getElem? hf)
  simpa using this

/-- a law that comes out true whatever it is given: the call -/
theorem law_true {lf n : Nat} (hM : P.follows .mixedOrders = true) (hnum : P.funcs.all (fun f => f.name != "runtime.NumGoroutine") = true) {f : FuncId} {args : List AV} {args' : List Value}
    (hrun : okTrue (evCall P (fun _ => none) lf n (.fn f) args ⟨P.globals.size, .leaf⟩) = true) {ρ : Nat → Value} (ha : ∀ φ : Phi, φ.raw = ρ → ConL φ args args') (W : World) :
    Calls P f ⟨args'⟩ W fun e W' => e = .returned (.bool true) ∧ Below W.heap.size W W' := by
  obtain ⟨h', he⟩ := okTrue_ok hrun
  refine (calls_of_ev (B := W.heap.size) (w0 := W) hM (noNum hnum) sumOk_none he (ha (phi0 P.globals.size ρ) rfl) (glob0 P) (rel0 W _)).mono fun e W' hh => ?_
  cases e with
  | returned v =>
    obtain ⟨φ', h1, h2, _⟩ := hh
    cases h1
    exact ⟨rfl, h2.below⟩
  | panicked c => exact hh.elim
  | outgrown => exact hh.elim

theorem okWide_scalar {w : World} {r : Reach} {base : Nat} {t : TypeId} {v : Value} (h : Cell.okWide P w r base t v) : scalarV v = true := by
  cases v <;> first | rfl | (unfold Cell.okWide Cell.ok at h; split at h <;> first | contradiction | (split at h <;> first | contradiction | cases h))

/-- so many values that are not read, numbered from k on -/
def rawsFrom (k n : Nat) : List AV := (List.range n).map fun i => .raw (k + i)

theorem raws_at {φ : Phi} {k : Nat} {vs : List Value} (hs : ∀ v ∈ vs, scalarV v = true) (hr : ∀ i v, vs[i]? = some v → φ.raw (k + i) = v) : ConL φ (rawsFrom k vs.length) vs := by
  refine ConL.of_get (by simp [rawsFrom]) fun i x hx => ?_
  have hi : i < vs.length := by have := (List.getElem?_eq_some_iff.1 hx).1; simpa [rawsFrom] using this
  simp only [rawsFrom, List.getElem?_map, List.getElem?_range hi, Option.map_some, Option.some.injEq] at hx
  subst hx
  exact ⟨vs[i], List.getElem?_eq_getElem hi, .raw (hs _ (List.getElem_mem hi)) (hr i _ (List.getElem?_eq_getElem hi))⟩

/-- an argument of a struct type: its cells -/
theorem struct_cells {W : World} {base : Nat} {t : TypeId} {fs : Array Field} {v : Value} (ht : P.underlying t = some (.struct fs)) (h : Value.okWide P W .any base t v) :
    ∃ cs : List Value, v = .agg ⟨cs⟩ ∧ cs.length = P.cellsOf t ∧ ∀ v ∈ cs, scalarV v = true := by
  unfold Value.okWide at h
  rw [ht] at h
  obtain ⟨⟨cs⟩, rfl, hsz, ts, _, _, hall⟩ := h
  refine ⟨cs, rfl, hsz, fun v hv => ?_⟩
  obtain ⟨i, hi⟩ := List.mem_iff_getElem?.1 hv
  obtain ⟨u, _, hu⟩ := hall i v (by simpa using hi)
  exact okWide_scalar hu

end Go.Dr
