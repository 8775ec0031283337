/-
  Texts joined.
-/
import Derived.Test.YtnapechhagnmaaaGreatDoorT2
import Derived.Test.YtnapechhagnmaaaGreatDoorT4

namespace Go.Dr
abbrev q0z:=List Bool
def val (l:q0z):Nat:=l.foldl (fun n b=>2*n+b.toNat) 0
@[simp] theorem p0S:val []=0:=rfl
end Go.Dr

namespace Go.Dr
section
variable {P:Program} {h:AH}
theorem Own.snoc2 {B es n bytes:Nat} {v:AV} {l x:List AV} (s:Own B h es n v l) (hB:B≤h.next) (hx:x.length=es) (hs:a7 x=true) (h1:(n+1)*bytes≤2 ^ 40) (h2:n+1≤2 ^ 40) :
  ∃ v' h',E5 es bytes v (.slice h.next 0 1 1 true es) (h.push (.cells x false))=okV v' h'∧Own B h' es (n+1) v' (l++x)∧FrB B h h' ∧
   (∀ i,i<h.next→k7 v≠some i→h'.get i=h.get i)∧(∀ i,k7 v'=some i→k7 v=some i∨h.next<i):=by
 have f0:=Fr.push (.refl h) (.cells x false)
 have sx:=(Own.fresh (B:=0) (h:=h) (es:=es) (n:=1) (l:=x) true (Nat.zero_le _) (by omega)).sl
 obtain ⟨v',h',e,o,f,p,q⟩:=(s.fr f0).append (bytes:=bytes) sx (Nat.le_trans hB (Nat.le_succ _)) hs h1 h2
 refine ⟨v',h',e,o,(f0.b hB).trans f,fun i hi hne=>?_,fun i hi=>?_⟩
 ·rw [p i (Nat.lt_succ_of_lt hi) hne,b9 (by omega)]
 ·rcases q i hi with h | h
  ·exact .inl h
  ·exact .inr h
theorem Own.store2 {B es n:Nat} {v:AV} {l:List AV} (s:Own B h es n v l) {k:IntKind} {i:Int} {j c:Nat} (hi:i=j) (hj:j<n) (hc:c<es) {x:AV} (hx:x.scalar=true) :
  ∃ id o h',D3 es v (.int k i)=.ok (.ptr id o)∧u9 h id (o+c) [x]=.ok h'∧Own B h' es n v (l.set (j*es+c) x)∧FrB B h h'∧h'.next=h.next∧(∀ i,k7 v≠some i→h'.get i=h.get i):=by
 subst hi
 rcases s.2 with ⟨rfl,rfl⟩ | ⟨id,off,x',vs,rfl,e2,e3,e4,e5,rfl⟩
 ·omega
 ·have hle:j*es+es≤n*es:=by
   have:=Nat.mul_le_mul_right es (show j+1≤n from hj)
   rw [Nat.add_mul,Nat.one_mul] at this
   exact this
  refine ⟨id,off+j*es,h.set id (.cells (vs.set (off+j*es+c) x) false),by rw [I2 _ _ _ _ _ _ _ _ ⟨by omega,by omega⟩,Int.toNat_natCast],?_,⟨?_,.inr ⟨id,off,x',vs.set (off+j*es+c) x,rfl,e2,e3,j8 _ _,by rw [List.length_set];exact e5,?_⟩⟩,⟨Nat.le_refl _,fun i hi=>c8 (by omega)⟩,rfl,fun i hi=>c8 (by intro e;apply hi;rw [e];rfl)⟩
  ·rw [b0X e4 (by omega) hx,b0Y _ _ _ (by omega)]
  ·rw [List.length_set];exact s.1
  ·rw [List.drop_set,if_neg (by omega),List.take_set,show off+j*es+c - off=j*es+c from by omega]
end
end Go.Dr
