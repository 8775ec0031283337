/-
  Texts joined.
-/
import Derived.Test.YtnapechhagnmaaaGreatDoorT12

namespace Go.Dk
open Go Go.Dr
set_option maxRecDepth 100000
theorem h0A:∀ (l:List (List Lab×List Smp)) (ls:List Lab) (ss:List Smp),(J8 l ls ss).length≤l.length+1
 | [],ls,ss=>by simp [J8]
 | y::l,ls,ss=>by
  have:=h0A l ls ss
  unfold J8
  split
  ·simp only [List.length_cons];omega
  ·split <;> simp
theorem m0H {α:Type} (a b:List α) (x y:α) (q:Nat) (h:a.length=q):(a++[x]++b).set q y=a++[y]++b:=by
 subst h;simp
end Go.Dk
