/-
  A call that reads nothing it is given and comes out true, told by one run.
-/
import Derived.Test.YthkoheaklmgonaaDoorDrArg
namespace Go.Dr
open Go.RowKit

variable {P : Program}

/-- the summary of one closed call -/
def closedS (f : FuncId) : Sums := fun g => if g = f then some (fun args h => match args with | [] => .ok (.bool true, h) | _ => .error "arguments") else none

theorem closed_ok {lf n : Nat} {f : FuncId} (hM : P.follows .mixedOrders = true) (hnum : P.funcs.all (fun f => f.name != "runtime.NumGoroutine") = true)
    (hrun : okTrue (evCall P (fun _ => none) lf n (.fn f) [] ⟨P.globals.size, .leaf⟩) = true) (B : Nat) (w0 : World) : SumOk P B w0 (closedS f) := by
  intro g s hs args h v h' he φ w args' ha hG hR
  unfold closedS at hs
  split at hs
  · rename_i e
    subst e
    cases hs
    cases args with
    | cons a l => cases he
    | nil =>
      cases he
      cases ha
      obtain ⟨hh, hr⟩ := okTrue_ok hrun
      obtain ⟨h1, h2⟩ := (run_ok (B := w.heap.size) (w0 := w) hM (noNum hnum) sumOk_none n).1 _ _ _ _ _ hr (phi0 P.globals.size) w [] .nil (glob0 P) (rel0 w _)
      refine ⟨h1, fun cs => ?_⟩
      obtain ⟨v', w', fr, fn', ⟨φ', hv, hR', _⟩, rest⟩ := h2 cs
      refine ⟨v', w', fr, fn', ⟨φ, ?_, ?_, .refl _ _⟩, rest⟩
      · cases hv; exact .bool true
      · exact hR.world (hR'.below.mono hR.size) fun i p o hi ho => hR'.below.block _ (hR.obj i p o hi ho).lt
  · cases hs

theorem ev_closed (f : FuncId) (h : AH) (K : AV → AH → Prop) : Ev P (closedS f) (.fn f) [] h K = K (.bool true) h :=
  Ev.eq ⟨1, .bool true, h, by simp [cl, evCall, closedS], rfl, rfl⟩ K

/-- a law that comes out true, with what is told of calls -/
theorem law_evS {S : Sums} (hM : P.follows .mixedOrders = true) (hnum : P.funcs.all (fun f => f.name != "runtime.NumGoroutine") = true) {W : World} (hS : SumOk P W.heap.size W S) {f : FuncId} {args : List AV} {args' : List Value} {φ : Phi} {h : AH}
    (he : Ev P S (.fn f) args h fun r _ => r = .bool true) (ha : ConL φ args args') (hG : GlobRel P φ) (hR : Rel W.heap.size W φ h W) :
    Calls P f ⟨args'⟩ W fun e W' => e = .returned (.bool true) ∧ Below W.heap.size W W' := by
  obtain ⟨N, v, h', he, rfl⟩ := he
  refine (calls_of_ev hM (noNum hnum) hS he ha hG hR).mono fun e W' hh => ?_
  cases e with
  | returned v =>
    obtain ⟨φ', h1, h2, _⟩ := hh
    cases h1
    exact ⟨rfl, h2.below⟩
  | panicked c => exact hh.elim
  | outgrown => exact hh.elim

end Go.Dr
