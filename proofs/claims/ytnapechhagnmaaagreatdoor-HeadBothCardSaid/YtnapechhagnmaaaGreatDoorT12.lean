/-
  Texts joined.
-/
import Derived.Test.YtnapechhagnmaaaGreatDoorT11
import Derived.Test.YtnapechhagnmaaaGreatDoorT4
import Derived.Test.YtnapechhagnmaaaGreatDoorT5

namespace Go.Dk
open Go Go.Dr
set_option maxRecDepth 100000
def O1:List Smp→Smp→List Smp
 | [],s=>[s]
 | x::l,s=>if x.1<s.1 then x::O1 l s else if x.1=s.1 then s::l else s::x::l
def e0k (l:List Smp):Prop:=l.Pairwise fun a b=>a.1<b.1
theorem d0c:∀ (l:List Smp) (s:Smp),(O1 l s).length≤l.length+1
 | [],s=>by simp [O1]
 | x::l,s=>by
  have:=d0c l s
  unfold O1
  split
  ·simp only [List.length_cons];omega
  ·split <;> simp
theorem m0k:∀ (l:List Smp) (s:Smp),0<(O1 l s).length
 | [],s=>by simp [O1]
 | x::l,s=>by unfold O1;split <;> (try split) <;> simp
theorem i0o:∀ (l:List Smp) (s y:Smp),y ∈ O1 l s→y ∈ l∨y=s
 | [],s,y,h=>by simp [O1] at h;exact .inr h
 | x::l,s,y,h=>by
  unfold O1 at h
  split at h
  ·rcases List.mem_cons.1 h with h | h
   ·exact .inl (by simp [h])
   ·rcases i0o l s y h with h | h
    ·exact .inl (by simp [h])
    ·exact .inr h
  ·split at h
   ·rcases List.mem_cons.1 h with h | h
    ·exact .inr h
    ·exact .inl (by simp [h])
   ·rcases List.mem_cons.1 h with h | h
    ·exact .inr h
    ·exact .inl h
theorem f0v:∀ (l:List Smp) (s:Smp),e0k l→e0k (O1 l s)
 | [],s,_=>by simp [O1,e0k]
 | x::l,s,h=>by
  obtain ⟨h1,h2⟩:=List.pairwise_cons.1 h
  unfold O1
  split
  ·rename_i c
   refine List.pairwise_cons.2 ⟨fun y hy=>?_,f0v l s h2⟩
   rcases i0o l s y hy with hy | hy
   ·exact h1 y hy
   ·rw [hy];exact c
  ·split
   ·rename_i c
    refine List.pairwise_cons.2 ⟨fun y hy=>?_,h2⟩
    rw [← c];exact h1 y hy
   ·refine List.pairwise_cons.2 ⟨fun y hy=>?_,h⟩
    rcases List.mem_cons.1 hy with rfl | hy
    ·omega
    ·have:=h1 y hy;omega
theorem m0l (s:Smp):I6 12 (.agg (smC s)) (.agg (smC s))=true:=by
 show Bool.and (_) (Bool.and (_) true)=true
 simp [I6,smC]
end Go.Dk

namespace Go.Dk
open Go Go.Dr
set_option maxRecDepth 100000
end Go.Dk

namespace Go.Dk
open Go Go.Dr
set_option maxRecDepth 100000
theorem c0m {es n:Nat} {g g':AH} {v:AV} {l:List AV} (s:Sl g es n v l) (hn:g.next≤g'.next) (p:∀ id,s7 v=some id→g'.get id=g.get id):Sl g' es n v l:=by
 refine ⟨s.1,?_⟩
 rcases s.2 with e | ⟨i,off,cap,x,vs,ro,e1,e2,e3,e4,e5,e6⟩
 ·exact .inl e
 ·exact .inr ⟨i,off,cap,x,vs,ro,e1,Nat.lt_of_lt_of_le e2 hn,e3,by rw [p i (by rw [e1];rfl)];exact e4,e5,e6⟩
abbrev Sj:=(AV×List Lab)×(AV×List Smp)
def sjC (x:Sj):List AV:=[x.1.1,x.2.1]
def plJ (x:Sj):List Lab×List Smp:=(x.1.2,x.2.2)
structure SjOk (h:AH) (x:Sj):Prop where
 lab:Sl h 2 x.1.2.length x.1.1 (x.1.2.flatMap M2)
 smp:Sl h 2 x.2.2.length x.2.1 (x.2.2.flatMap smC)
theorem SjOk.fr {h g:AH} {x:Sj} (s:SjOk h x) (f:Fr h g):SjOk g x:=⟨s.lab.fr f,s.smp.fr f⟩
theorem g0P (xs:List Sj):(xs.flatMap sjC).length=xs.length*2:=L1 xs (fun _ _=>rfl)
theorem l0s {h:AH} {n:Nat} {v:AV} {xs:List Sj} (s:Sl h 2 n v (xs.flatMap sjC)) {j:Nat} {x:Sj} (hx:xs[j]? = some x) :
  ∃ id o,G1 2 v (.int .i64 (j:Int))=.ok (.ptr id o)∧loadN h id o 2=.ok (sjC x)∧load1 h id o=.ok x.1.1∧load1 h id (o+1)=.ok x.2.1∧id<h.next:=by
 obtain ⟨id,o,h1,h2,h3,h4⟩:=s.elem (fun _ _=>rfl) (by omega) (k:=.i64) (i:=(j:Int)) rfl hx
 exact ⟨id,o,h1,h2,h3 0 _ rfl,h3 1 _ rfl,h4⟩
def J8:List (List Lab×List Smp)→List Lab→List Smp→List (List Lab×List Smp)
 | [],ls,ss=>[(ls,ss.foldl O1 [])]
 | y::out,ls,ss=>if t7 y.1 ls<0 then y::J8 out ls ss else if t7 y.1 ls=0 then (y.1,ss.foldl O1 y.2)::out else (ls,ss.foldl O1 [])::y::out
theorem h0G:∀ (l:List (List Lab×List Smp)) (ls:List Lab) (ss:List Smp) (q:Nat),q≤l.length→(∀ y,l[q]? = some y→0<t7 y.1 ls)→(∀ i y,i<q→l[i]? = some y→t7 y.1 ls<0) →
  J8 l ls ss=l.take q++[(ls,ss.foldl O1 [])]++l.drop q
 | [],ls,ss,q,_,_,_=>by simp [J8]
 | a::l,ls,ss,0,_,h,_=>by
  have:=h a rfl
  unfold J8;rw [if_neg (by omega),if_neg (by omega)];rfl
 | a::l,ls,ss,q+1,hq,h,hl=>by
  have:=hl 0 a (by omega) rfl
  unfold J8;rw [if_pos this,h0G l ls ss q (by simpa using hq) (fun y hy=>h y (by simpa using hy)) fun i y hi hy=>hl (i+1) y (by omega) (by simpa using hy)]
  rfl
theorem h0H:∀ (l:List (List Lab×List Smp)) (ls:List Lab) (ss:List Smp) (q:Nat) (y:List Lab×List Smp),l[q]? = some y→t7 y.1 ls=0→(∀ i y,i<q→l[i]? = some y→t7 y.1 ls<0) →
  J8 l ls ss=l.set q (y.1,ss.foldl O1 y.2)
 | [],ls,ss,q,y,h,_,_=>by simp at h
 | a::l,ls,ss,0,y,h,e,_=>by
  simp at h;subst h
  unfold J8;rw [if_neg (by omega),if_pos e];rfl
 | a::l,ls,ss,q+1,y,h,e,hl=>by
  have:=hl 0 a (by omega) rfl
  unfold J8;rw [if_pos this,List.set_cons_succ,h0H l ls ss q y (by simpa using h) e fun i y hi hy=>hl (i+1) y (by omega) (by simpa using hy)]
structure JoinI (B t:Nat) (g:AH) (ov:AV) (ys:List Sj):Prop where
 own:Own B g 2 ys.length ov (ys.flatMap sjC)
 el:∀ y ∈ ys,SjOk g y∧(∀ i,s7 y.1.1=some i→s7 ov≠some i)∧(∀ i,s7 y.2.1=some i→s7 ov≠some i)∧e0k y.2.2∧y.2.2.length≤t∧y.1.2.length≤2 ^ 30
theorem d0s {h:AH}:∀ {l:List Sj},(∀ y ∈ l,SjOk h y)→b9 (l.flatMap sjC)=true
 | [],_=>rfl
 | x::l,hy=>by
  have h1:=hy x (by simp)
  have:=d0s fun y hm=>hy y (List.mem_cons_of_mem _ hm)
  simp [List.flatMap_cons,sjC,h1.lab.oneCell.2,h1.smp.oneCell.2,this]
end Go.Dk

namespace Go.Dk
open Go Go.Dr
set_option maxRecDepth 100000
end Go.Dk
