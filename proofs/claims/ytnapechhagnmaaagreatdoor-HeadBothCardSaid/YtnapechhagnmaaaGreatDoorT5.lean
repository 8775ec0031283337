/-
  Texts joined.
-/
import Derived.Test.YtnapechhagnmaaaGreatDoorT2
import Derived.Test.YtnapechhagnmaaaGreatDoorT4

namespace Go.Dr
abbrev q03:=List Bool
def val (l:q03):Nat:=l.foldl (fun n b=>2*n+b.toNat) 0
@[simp] theorem q0k:val []=0:=rfl
end Go.Dr

namespace Go.Dr
section
variable {P:Program} {h:AH}
theorem Own.snoc2 {B es n bytes:Nat} {v:AV} {l x:List AV} (s:Own B h es n v l) (hB:B≤h.next) (hx:x.length=es) (hs:b9 x=true) (h1:(n+1)*bytes≤2 ^ 40) (h2:n+1≤2 ^ 40) :
  ∃ v' h',M9 es bytes v (.slice h.next 0 1 1 true es) (h.push (.cells x false))=okV v' h'∧Own B h' es (n+1) v' (l++x)∧FrB B h h' ∧
   (∀ i,i<h.next→s7 v≠some i→h'.get i=h.get i)∧(∀ i,s7 v'=some i→s7 v=some i∨h.next<i):=by
 have f0:=Fr.push (.refl h) (.cells x false)
 have sx:=(Own.fresh (B:=0) (h:=h) (es:=es) (n:=1) (l:=x) true (Nat.zero_le _) (by omega)).sl
 obtain ⟨v',h',e,o,f,p,q⟩:=(s.fr f0).append (bytes:=bytes) sx (Nat.le_trans hB (Nat.le_succ _)) hs h1 h2
 refine ⟨v',h',e,o,(f0.b hB).trans f,fun i hi hne=>?_,fun i hi=>?_⟩
 ·rw [p i (Nat.lt_succ_of_lt hi) hne,c9 (by omega)]
 ·rcases q i hi with h | h
  ·exact .inl h
  ·exact .inr h
end
end Go.Dr
