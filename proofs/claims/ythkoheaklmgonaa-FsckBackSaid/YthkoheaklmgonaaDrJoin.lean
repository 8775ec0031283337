/-
  From an abstract run to a law's statement: arguments that are not read.
-/
import Derived.Test.YthkoheaklmgonaaDrDraw8
import Derived.ProofKit
namespace Go.Dr
open Go.RowKit

variable {P : Program}

/-- where the package-level variables lie -/
def phi0 (n : Nat) : Phi := fun g => if g < n then some ⟨g, 0, 0⟩ else none

theorem rel0 (W : World) (n : Nat) : Rel W.heap.size W (phi0 n) ⟨n, .leaf⟩ W := by
  refine ⟨fun i p e => ?_, fun i p o _ e => (by cases e), fun i p o _ e => (by cases e), fun i j p q oi oj _ _ _ e => (by cases e), .refl _ _, Nat.le_refl _⟩
  unfold phi0 at e
  split at e
  · assumption
  · cases e

theorem glob0 (P : Program) : GlobRel P (phi0 P.globals.size) := fun g hg => ⟨0, by unfold phi0; rw [if_pos hg]⟩

def okTrue : R (AV × AH) → Bool
  | .ok (.bool b, _) => b
  | _ => false

theorem okTrue_ok {r : R (AV × AH)} (h : okTrue r = true) : ∃ h', r = .ok (.bool true, h') := by
  unfold okTrue at h
  split at h
  · cases h; exact ⟨_, rfl⟩
  · cases h

theorem noNum {P : Program} (h : P.funcs.all (fun f => f.name != "runtime.NumGoroutine") = true) : ∀ (f : Nat) fn, P.funcs[f]? = some fn → fn.body.isSome = true → fn.name ≠ "runtime.NumGoroutine" := by
  intro f fn hf _
  rw [Array.all_eq_true'] at h
  have := h fn (Array.mem_of_getElem? hf)
  simpa using this

/-- a law that comes out true whatever it is given: the call -/
theorem law_true {lf n : Nat} (hM : P.follows .mixedOrders = true) (hnum : P.funcs.all (fun f => f.name != "runtime.NumGoroutine") = true) {f : FuncId} {args : List AV} {args' : List Value}
    (hrun : okTrue (evCall P (fun _ => none) lf n (.fn f) args ⟨P.globals.size, .leaf⟩) = true) (ha : ∀ φ, ConL φ args args') (W : World) :
    Calls P f ⟨args'⟩ W fun e W' => e = .returned (.bool true) ∧ Below W.heap.size W W' := by
  obtain ⟨h', he⟩ := okTrue_ok hrun
  refine (calls_of_ev (B := W.heap.size) (w0 := W) hM (noNum hnum) sumOk_none he (ha _) (glob0 P) (rel0 W _)).mono fun e W' hh => ?_
  cases e with
  | returned v =>
    obtain ⟨φ', h1, h2, _⟩ := hh
    cases h1
    exact ⟨rfl, h2.below⟩
  | panicked c => exact hh.elim
  | outgrown => exact hh.elim

theorem okWide_scalar {w : World} {r : Reach} {base : Nat} {t : TypeId} {v : Value} (h : Cell.okWide P w r base t v) : scalarV v = true := by
  cases v <;> first | rfl | (unfold Cell.okWide Cell.ok at h; split at h <;> first | contradiction | (split at h <;> first | contradiction | cases h))

theorem raws_of {φ : Phi} : ∀ {l : List Value}, (∀ v ∈ l, scalarV v = true) → ConL φ (l.map .raw) l
  | [], _ => .nil
  | v :: l, h => .cons (.raw (h v (by simp))) (raws_of fun x hx => h x (List.mem_cons_of_mem _ hx))

/-- an argument of a struct type: its cells, unread -/
theorem raw_struct {W : World} {base : Nat} {t : TypeId} {fs : Array Field} {v : Value} (ht : P.underlying t = some (.struct fs)) (h : Value.okWide P W .any base t v) :
    ∃ cs : Array Value, v = .agg cs ∧ cs.size = P.cellsOf t ∧ ∀ φ, Con φ (.agg (cs.toList.map .raw)) v := by
  unfold Value.okWide at h
  rw [ht] at h
  obtain ⟨cs, rfl, hsz, ts, _, _, hall⟩ := h
  refine ⟨cs, rfl, hsz, fun φ => ?_⟩
  have : ConL φ (cs.toList.map .raw) cs.toList := raws_of fun v hv => by
    obtain ⟨i, hi⟩ := List.mem_iff_getElem?.1 hv
    rw [Array.getElem?_toList] at hi
    obtain ⟨u, _, hu⟩ := hall i v hi
    exact okWide_scalar hu
  exact .agg this

end Go.Dr
