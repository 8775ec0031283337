/-
  Texts joined.
-/
import Derived.Test.YtkbddcapcjdenaaGreatDoorT6
import Derived.Test.YtkbddcapcjdenaaGreatDoorT4
import Derived.Test.YtkbddcapcjdenaaGreatDoorT5
import Derived.Test.YtkbddcapcjdenaaGreatDoorT13
import Derived.Test.YtkbddcapcjdenaaGreatDoorT14
import Derived.Shelf.SortM.Plain
import Derived.Shelf.SortM.SortNone
import Derived.Shelf.SlSortCmp.WholeK
import Derived.Shelf.SlSortCmp.NoneTotal
import Derived.Shelf.SlicesG.Cmp
import Derived.Ground.SlgmProg
import Derived.Ground.SlsfProg
import Derived.Ground.SlgcProg
import Derived.Test.YtkbddcapcjdenaaGreatDoorProg
import Derived.StillTailTactics
import Derived.Test.YtkbddcapcjdenaaGreatDoorRows
import Derived.Test.YtkbddcapcjdenaaGreatDoorCards
import Derived.Test.YtkbddcapcjdenaaGreatDoorTie
import Derived.Test.YtkbddcapcjdenaaGreatDoorT2
import Derived.Lib.LaidIn
import Derived.SevenTiedAt
import Derived.SizedLaws
import Derived.Lib.LaidTab

namespace Go.Dk
open Go Go.Dr
set_option maxRecDepth 100000
def S1:List Smp→Smp→List Smp
 | [],s=>[s]
 | x::l,s=>if x.1<s.1 then x::S1 l s else if x.1=s.1 then s::l else s::x::l
def n0C (l:List Smp):Prop:=l.Pairwise fun a b=>a.1<b.1
theorem m0g:∀ (l:List Smp) (s:Smp),(S1 l s).length≤l.length+1
 | [],s=>by simp [S1]
 | x::l,s=>by
  have:=m0g l s
  unfold S1
  split
  ·simp only [List.length_cons];omega
  ·split <;> simp
theorem m0h:∀ (l:List Smp) (s y:Smp),y ∈ S1 l s→y ∈ l∨y=s
 | [],s,y,h=>by simp [S1] at h;exact .inr h
 | x::l,s,y,h=>by
  unfold S1 at h
  split at h
  ·rcases List.mem_cons.1 h with h | h
   ·exact .inl (by simp [h])
   ·rcases m0h l s y h with h | h
    ·exact .inl (by simp [h])
    ·exact .inr h
  ·split at h
   ·rcases List.mem_cons.1 h with h | h
    ·exact .inr h
    ·exact .inl (by simp [h])
   ·rcases List.mem_cons.1 h with h | h
    ·exact .inr h
    ·exact .inl h
theorem q04:∀ (l:List Smp) (s:Smp),n0C l→n0C (S1 l s)
 | [],s,_=>by simp [S1,n0C]
 | x::l,s,h=>by
  obtain ⟨h1,h2⟩:=List.pairwise_cons.1 h
  unfold S1
  split
  ·rename_i c
   refine List.pairwise_cons.2 ⟨fun y hy=>?_,q04 l s h2⟩
   rcases m0h l s y hy with hy | hy
   ·exact h1 y hy
   ·rw [hy];exact c
  ·split
   ·rename_i c
    refine List.pairwise_cons.2 ⟨fun y hy=>?_,h2⟩
    rw [← c];exact h1 y hy
   ·refine List.pairwise_cons.2 ⟨fun y hy=>?_,h⟩
    rcases List.mem_cons.1 hy with rfl | hy
    ·omega
    ·have:=h1 y hy;omega
theorem p0C:∀ (l:List Smp) (s x:Smp) (q:Nat),l[q]? = some x→x.1=s.1→(∀ i y,i<q→l[i]? = some y→y.1<s.1)→S1 l s=l.set q s
 | [],s,x,q,h,_,_=>by simp at h
 | a::l,s,x,0,h,e,_=>by
  simp at h;subst h
  unfold S1;rw [if_neg (by omega),if_pos e];rfl
 | a::l,s,x,q+1,h,e,hl=>by
  have:=hl 0 a (by omega) rfl
  unfold S1;rw [if_pos this,List.set_cons_succ,p0C l s x q (by simpa using h) e fun i y hi hy=>hl (i+1) y (by omega) (by simpa using hy)]
theorem q05:∀ (l:List Smp) (s:Smp) (q:Nat),q≤l.length→(∀ y,l[q]? = some y→s.1<y.1)→(∀ i y,i<q→l[i]? = some y→y.1<s.1)→S1 l s=l.take q++[s]++l.drop q
 | [],s,q,_,_,_=>by simp [S1]
 | a::l,s,0,_,h,_=>by
  have:=h a rfl
  unfold S1;rw [if_neg (by omega),if_neg (by omega)];rfl
 | a::l,s,q+1,hq,h,hl=>by
  have:=hl 0 a (by omega) rfl
  unfold S1;rw [if_pos this,q05 l s q (by simpa using hq) (fun y hy=>h y (by simpa using hy)) fun i y hi hy=>hl (i+1) y (by omega) (by simpa using hy)]
  rfl
theorem s09 {l:List Smp} (h:n0C l) {i j:Nat} {x y:Smp} (hi:l[i]? = some x) (hj:l[j]? = some y) (hij:i<j):x.1<y.1:=by
 obtain ⟨h1,e1⟩:=List.getElem?_eq_some_iff.1 hi
 obtain ⟨h2,e2⟩:=List.getElem?_eq_some_iff.1 hj
 have:=List.pairwise_iff_getElem.1 h i j h1 h2 hij
 rw [e1,e2] at this
 exact this
theorem m0i (l:List Smp):d8 (l.flatMap smC)=true:=by
 induction l with
 | nil=>rfl
 | cons x l ih=>simp [List.flatMap_cons,smC,ih]
theorem q06 (s:Smp):R4 12 (.agg (smC s)) (.agg (smC s))=true:=by
 show Bool.and (_) (Bool.and (_) true)=true
 simp [R4,smC]
theorem u0h:∀ (l:List Smp) (q:Nat) (s:Smp),q<l.length→G3 (l.flatMap smC) (q*2) (smC s)=(l.set q s).flatMap smC
 | [],q,s,h=>by simp at h
 | a::l,0,s,_=>by simp [i9,smC]
 | a::l,q+1,s,h=>by
  have ih:=u0h l q s (by simpa using h)
  have e:(q+1)*2=q*2+1+1:=by omega
  rw [i9] at ih ⊢
  rw [List.flatMap_cons,List.set_cons_succ,List.flatMap_cons,← ih,e]
  have e2:q*2+1+1+(smC s).length=q*2+(smC s).length+1+1:=by omega
  rw [e2]
  simp [smC]
def y0W (h:AH) (l:List Smp) (s:Smp) (r:AV) (g:AH):Prop:=Fr h g∧Own h.next g 2 (S1 l s).length r ((S1 l s).flatMap smC)
end Go.Dk

namespace Go.Dk
open Go Go.Dr
set_option maxRecDepth 100000
theorem Own.storeE {h:AH} {B es n:Nat} {v:AV} {l:List AV} (s:Own B h es n v l) {k:IntKind} {i:Int} {j:Nat} (hi:i=j) (hj:j<n) {c:List AV} (hc:c.length=es) (hes:0<es) (hx:d8 c=true) :
  ∃ id o h',E9 es v (.int k i)=.ok (.ptr id o)∧B9 h id o c=.ok h'∧Own B h' es n v (G3 l (j*es) c)∧FrB B h h'∧h'.next=h.next∧(∀ i,j9 v≠some i→h'.get i=h.get i):=by
 subst hi
 rcases s.2 with ⟨rfl,rfl⟩ | ⟨id,off,x',vs,rfl,e2,e3,e4,e5,rfl⟩
 ·omega
 ·have hle:j*es+es≤n*es:=by
   have:=Nat.mul_le_mul_right es (show j+1≤n from hj)
   rw [Nat.add_mul,Nat.one_mul] at this
   exact this
  have hsl:(G3 vs (off+j*es) c).length=vs.length:=Z8 _ _ _ (by omega)
  have hst:B9 h id (off+j*es) c=.ok (h.set id (.cells (G3 vs (off+j*es) c) false)):=by
   have hb:Nat.ble (off+j*es+c.length) vs.length=true:=Nat.ble_eq_true_of_le (by omega)
   cases c with
   | nil=>simp at hc;omega
   | cons a c=>simp only [B9,e4,hb,hx,Bool.and_self,cond_true]
  refine ⟨id,off+j*es,h.set id (.cells (G3 vs (off+j*es) c) false),by rw [N9 _ _ _ _ _ _ _ _ ⟨by omega,by omega⟩,Int.toNat_natCast],hst,⟨?_,.inr ⟨id,off,x',_,rfl,e2,e3,i8 _ _,by rw [hsl];exact e5,?_⟩⟩,⟨Nat.le_refl _,fun i hi=>c8 (by omega)⟩,rfl,fun i hi=>c8 (by intro e;apply hi;rw [e];rfl)⟩
  ·rw [Z8 _ _ _ (by rw [s.1];omega)];exact s.1
  ·simp only [i9,hc]
   generalize j*es=a at *
   generalize n*es=m at *
   have h1:(vs.take (off+a)++(c++vs.drop (off+a+es))).drop off=(vs.drop off).take a++(c++(vs.drop off).drop (a+es)):=by
    rw [List.drop_append,List.drop_take,List.length_take,Nat.min_eq_left (by omega),List.drop_drop,show off - (off+a)=0 from by omega,List.drop_zero,show off+a - off=a from by omega,Nat.add_assoc]
   rw [h1]
   generalize hw:vs.drop off=w at *
   have hwl:m≤w.length:=by rw [← hw,List.length_drop];omega
   rw [List.take_append,List.take_take,List.length_take,Nat.min_eq_right (by omega),Nat.min_eq_left (show a≤w.length from by omega),List.take_append,List.take_of_length_le (show c.length≤m - a from by omega),List.take_take,Nat.min_eq_left (show a≤m from by omega),hc,List.drop_take,show m - a - es=m - (a+es) from by omega]
def GeI (l:List Smp) (s:Smp) (q:Nat):Prop:=∀ i y,q≤i→l[i]? = some y→s.1≤y.1
def LtI (l:List Smp) (s:Smp) (q:Nat):Prop:=∀ i y,i<q→l[i]? = some y→y.1<s.1
theorem u08 {h:AH} {n:Nat} {v:AV} {l:List Smp} {s:Smp} (sl:Sl h 2 n v (l.flatMap smC)) (hr:n0C l) (hn:n≤2 ^ 30) :
  Ev P SI (.fn d0I) [v,.agg (smC s)] h (y0W h l s):=by
 refine k8 s0m rfl rfl ?_
 have hl:=i0r sl
 have fp:=Fr.push (.refl h) (.cells (smC s) false)
 have ge:(h.push (.cells (smC s) false)).get h.next=some (.cells (smC s) false):=b8 _
 simp [k0Y,sl.len]
 generalize hg0:h.push (.cells (smC s) false)=g0 at *
 have gn:g0.next=h.next+1:=by rw [← hg0];rfl
 have s0:=sl.fr fp
 have m0:load1 g0 h.next 0=.ok (.int .i64 s.1):=b7 ge
 have mn:loadN g0 h.next 0 2=.ok (smC s):=A8 ge rfl
 refine D3 (Q:=fun x σ ds g=>x=.exit 0∧ds=[]∧g=g0∧∃ q,q≤n∧σ 0=v∧σ 3=.ptr h.next 0∧σ 5=.int .i64 (q:Int)∧GeI l s q∧LtI l s q) ?_ ?_
 ·refine M5 (fun q σ ds g=>q≤n∧ds=[]∧σ 0=v∧σ 3=.ptr h.next 0∧σ 5=.int .i64 (q:Int)∧g=g0∧GeI l s q) n ⟨Nat.le_refl _,rfl,by simp,by simp,by simp,rfl,fun i y hi hy=>by have:=(List.getElem?_eq_some_iff.1 hy).1;omega⟩ ?_
  rintro q σ ds g ⟨hq,rfl,e0,e3,e5,rfl,hge⟩
  by_cases hq0:q=0
  ·subst hq0
   simp [e0,e3,e5]
   exact ⟨0,Nat.zero_le _,rfl,fun i y _ hy=>hge i y (Nat.zero_le _) hy,fun i y hi=>by omega⟩
  ·obtain ⟨p,rfl⟩:∃ p,q=p+1:=⟨q - 1,by omega⟩
   obtain ⟨y,hy⟩:=j7 (l:=l) (j:=p) (by omega)
   obtain ⟨id,o,x1,_,x2,_⟩:=M3 s0 hy
   have c0:(0:Int)<((p+1:Nat):Int):=by omega
   have w1:b9 .i64 (((p+1:Nat):Int) - 1)=(p:Int):=by rw [wrap_i64 (by omega) (by omega)];omega
   have hp1:p<p+1:=Nat.lt_succ_self _
   generalize hpp:p+1=p1 at *
   have c0':0<p1:=by omega
   by_cases hys:y.1<s.1
   ·have hc:¬ s.1≤y.1:=by omega
    simp [e0,e3,e5,c0',w1,x1,x2,m0,hc]
    refine ⟨p1,hq,rfl,hge,fun i z hi hz=>?_⟩
    by_cases hip:i=p
    ·subst hip;rw [hy] at hz;cases hz;exact hys
    ·have:=s09 hr hz hy (by omega);omega
   ·have hc:s.1≤y.1:=by omega
    simp [e0,e3,e5,c0',w1,x1,x2,m0,hc,l7]
    refine ⟨p,hp1,by omega,rfl,fun i z hi hz=>?_⟩
    by_cases hip:i=p
    ·subst hip;rw [hy] at hz;cases hz;exact hc
    ·exact hge i z (by omega) hz
 rintro x σ ds g ⟨rfl,rfl,rfl,q,hq,e0,e3,e5,hge,hlt⟩
 have hsc:d8 (smC s)=true:=by simp [smC]
 obtain ⟨a,b,v1,g1,v2,g2,v3,g3,f1,f2,f3,f4,f5,f6,f7,F1,F2⟩:=z0H (x:=smC s) (bytes:=16) s0 hq rfl (by rw [show l.flatMap smC++smC s=(l++[s]).flatMap smC from by simp];exact m0i _) (by omega) (by omega) .i64 .i64
 have fin:(∀ i y,i<q→l[i]? = some y→y.1<s.1)→(∀ y,l[q]? = some y→y.1≠s.1)→y0W h l s v3 g3:=by
  intro hlt hne
  have e:=q05 l s q (by omega) (fun y hy=>by have:=hge q y (Nat.le_refl _) hy;have:=hne y hy;omega) hlt
  refine ⟨fp.trans f7,?_⟩
  have hlen:(S1 l s).length=n+1:=by rw [e];simp;omega
  rw [hlen,e]
  have:=f6.base (B':=h.next) (by omega)
  rw [a0R (es:=2) (f:=smC) l (fun _ _=>rfl),c0f (es:=2) (f:=smC) l (fun _ _=>rfl)] at this
  simpa using this
 have o0:=Own.fresh (B:=h.next) (h:=g) (es:=2) (n:=0) (l:=[]) true (by omega) rfl
 obtain ⟨u1,k1,c1,o1,fb1,p1,i1⟩:=o0.append (bytes:=16) (s0.fr (Fr.push (.refl g) _)) (by show h.next≤g.next+1;omega) (m0i _) (by omega) (by omega)
 rw [Nat.zero_add,List.nil_append] at o1
 have n1:g.next+1≤k1.next:=fb1.next
 have fk:Fr g k1:=⟨by omega,fun i hi=>by rw [p1 i (by show i<g.next+1;omega) (by simp [j9];omega),c7 (by omega)]⟩
 have mn1:loadN k1 h.next 0 2=.ok (smC s):=A8 (by rw [fk.get _ (by omega),ge]) rfl
 have same:∀ y,l[q]? = some y→y.1=s.1→(∀ i y,i<q→l[i]? = some y→y.1<s.1)→∃ id o k2,E9 2 u1 (.int .i64 (q:Int))=.ok (.ptr id o)∧B9 k1 id o (smC s)=.ok k2∧y0W h l s u1 k2:=by
  intro y hy e hlt
  have hqn:q<n:=by have:=(List.getElem?_eq_some_iff.1 hy).1;omega
  obtain ⟨id,o,k2,x1,x2,x3,x4,x5,x6⟩:=Own.storeE o1 (k:=.i64) (i:=(q:Int)) rfl hqn (c:=smC s) rfl (by omega) hsc
  rw [u0h l q s (by omega),← p0C l s y q hy e hlt] at x3
  have hlen:(S1 l s).length=n:=by rw [p0C l s y q hy e hlt,List.length_set];exact hl
  refine ⟨id,o,k2,x1,x2,⟨by have:=x4.next;omega,fun i hi=>?_⟩,by rw [hlen];exact x3⟩
  rw [x4.get i hi,fk.get i (by omega),fp.get i hi]
 have agv:R4 12 (.agg (smC s)) (.agg (smC s))=true:=q06 s
 have hsl:(smC s).length=2:=rfl
 have q1:loadN (g.push (.cells [] false)) h.next 0 2=.ok (smC s):=A8 (by rw [c7 (by omega),ge]) rfl
 have q2:loadN ((g.push (.cells [] false)).push (.cells (smC s) false)) h.next 0 2=.ok (smC s):=A8 (by rw [c7 (by show h.next≠g.next+1;omega),c7 (by omega),ge]) rfl
 have q3:loadN g1 h.next 0 2=.ok (smC s):=A8 (by rw [F1.get _ (by omega),ge]) rfl
 by_cases hqn:q<n
 ·obtain ⟨y,hy⟩:=j7 (l:=l) (j:=q) (by omega)
  obtain ⟨id,o,x1,_,x2,_⟩:=M3 s0 hy
  by_cases hys:y.1=s.1
  ·obtain ⟨id2,o2,k2,z1,z2,z3⟩:=same y hy hys hlt
   simp [e0,e3,e5,s0.len,hqn,x1,x2,m0,hys,c1,mn1,z1,a0K,hsl,z2]
   exact z3
  ·have hf:=fin hlt (fun z hz=>by rw [hy] at hz;cases hz;exact hys)
   simp [e0,e3,e5,s0.len,hqn,x1,x2,m0,hys,f1,f2,f3,f4,f5,q1,q2,q3,i9,agv,hsl]
   exact hf
 ·have hf:=fin hlt (fun y hy=>by have:=(List.getElem?_eq_some_iff.1 hy).1;omega)
  simp [e0,e3,e5,s0.len,hqn,f1,f2,f3,f4,f5,q1,q2,q3,i9,agv,hsl]
  exact hf
end Go.Dk

namespace Go.Dk
open Go Go.Dr
set_option maxRecDepth 100000
theorem t0x {es n:Nat} {g g':AH} {v:AV} {l:List AV} (s:Sl g es n v l) (hn:g.next≤g'.next) (p:∀ id,j9 v=some id→g'.get id=g.get id):Sl g' es n v l:=by
 refine ⟨s.1,?_⟩
 rcases s.2 with e | ⟨i,off,cap,x,vs,ro,e1,e2,e3,e4,e5,e6⟩
 ·exact .inl e
 ·exact .inr ⟨i,off,cap,x,vs,ro,e1,Nat.lt_of_lt_of_le e2 hn,e3,by rw [p i (by rw [e1];rfl)];exact e4,e5,e6⟩
abbrev Sj:=(AV×List Lab)×(AV×List Smp)
def sjC (x:Sj):List AV:=[x.1.1,x.2.1]
def plJ (x:Sj):List Lab×List Smp:=(x.1.2,x.2.2)
structure SjOk (h:AH) (x:Sj):Prop where
 lab:Sl h 2 x.1.2.length x.1.1 (x.1.2.flatMap E2)
 smp:Sl h 2 x.2.2.length x.2.1 (x.2.2.flatMap smC)
theorem SjOk.fr {h g:AH} {x:Sj} (s:SjOk h x) (f:Fr h g):SjOk g x:=⟨s.lab.fr f,s.smp.fr f⟩
theorem t0y (xs:List Sj):(xs.flatMap sjC).length=xs.length*2:=S8 xs (fun _ _=>rfl)
theorem r0R {h:AH} {n:Nat} {v:AV} {xs:List Sj} (s:Sl h 2 n v (xs.flatMap sjC)) {j:Nat} {x:Sj} (hx:xs[j]? = some x) :
  ∃ id o,E9 2 v (.int .i64 (j:Int))=.ok (.ptr id o)∧loadN h id o 2=.ok (sjC x)∧load1 h id o=.ok x.1.1∧load1 h id (o+1)=.ok x.2.1∧id<h.next:=by
 obtain ⟨id,o,h1,h2,h3,h4⟩:=s.elem (fun _ _=>rfl) (by omega) (k:=.i64) (i:=(j:Int)) rfl hx
 exact ⟨id,o,h1,h2,h3 0 _ rfl,h3 1 _ rfl,h4⟩
def d0h:List (List Lab×List Smp)→List Lab→List Smp→List (List Lab×List Smp)
 | [],ls,ss=>[(ls,ss.foldl S1 [])]
 | y::out,ls,ss=>if O9 y.1 ls<0 then y::d0h out ls ss else if O9 y.1 ls=0 then (y.1,ss.foldl S1 y.2)::out else (ls,ss.foldl S1 [])::y::out
def k0a (out:List (List Lab×List Smp)) (x:List Lab×List Smp):List (List Lab×List Smp):=if x.2=[] then out else d0h out x.1 x.2
def f0I (l:List (List Lab×List Smp)):List (List Lab×List Smp):=l.foldl k0a []
theorem m00:∀ (l:List (List Lab×List Smp)) (ls:List Lab) (ss:List Smp) (q:Nat),q≤l.length→(∀ y,l[q]? = some y→0<O9 y.1 ls)→(∀ i y,i<q→l[i]? = some y→O9 y.1 ls<0) →
  d0h l ls ss=l.take q++[(ls,ss.foldl S1 [])]++l.drop q
 | [],ls,ss,q,_,_,_=>by simp [d0h]
 | a::l,ls,ss,0,_,h,_=>by
  have:=h a rfl
  unfold d0h;rw [if_neg (by omega),if_neg (by omega)];rfl
 | a::l,ls,ss,q+1,hq,h,hl=>by
  have:=hl 0 a (by omega) rfl
  unfold d0h;rw [if_pos this,m00 l ls ss q (by simpa using hq) (fun y hy=>h y (by simpa using hy)) fun i y hi hy=>hl (i+1) y (by omega) (by simpa using hy)]
  rfl
theorem r0S:∀ (l:List (List Lab×List Smp)) (ls:List Lab) (ss:List Smp) (q:Nat) (y:List Lab×List Smp),l[q]? = some y→O9 y.1 ls=0→(∀ i y,i<q→l[i]? = some y→O9 y.1 ls<0) →
  d0h l ls ss=l.set q (y.1,ss.foldl S1 y.2)
 | [],ls,ss,q,y,h,_,_=>by simp at h
 | a::l,ls,ss,0,y,h,e,_=>by
  simp at h;subst h
  unfold d0h;rw [if_neg (by omega),if_pos e];rfl
 | a::l,ls,ss,q+1,y,h,e,hl=>by
  have:=hl 0 a (by omega) rfl
  unfold d0h;rw [if_pos this,List.set_cons_succ,r0S l ls ss q y (by simpa using h) e fun i y hi hy=>hl (i+1) y (by omega) (by simpa using hy)]
structure JoinI (B t:Nat) (g:AH) (ov:AV) (ys:List Sj):Prop where
 own:Own B g 2 ys.length ov (ys.flatMap sjC)
 el:∀ y ∈ ys,SjOk g y∧(∀ i,j9 y.1.1=some i→j9 ov≠some i)∧(∀ i,j9 y.2.1=some i→j9 ov≠some i)∧n0C y.2.2∧y.2.2.length≤t∧y.1.2.length≤2 ^ 30
theorem JoinI.fr {B t:Nat} {g g':AH} {ov:AV} {ys:List Sj} (a:JoinI B t g ov ys) (f:Fr g g'):JoinI B t g' ov ys :=
 ⟨a.own.fr f,fun y hy=>⟨(a.el y hy).1.fr f,(a.el y hy).2⟩⟩
theorem r0T:∀ (l:List Sj) (q:Nat) (y:Sj) (r:AV) (s:List Smp),l[q]? = some y→(l.flatMap sjC).set (q*2+1) r=(l.set q (y.1,(r,s))).flatMap sjC
 | [],q,y,r,s,h=>by simp at h
 | a::l,0,y,r,s,h=>by simp at h;subst h;rfl
 | a::l,q+1,y,r,s,h=>by
  have ih:=r0T l q y r s (by simpa using h)
  rw [List.set_cons_succ,List.flatMap_cons,List.flatMap_cons,← ih,show (q+1)*2+1=(q*2+1)+2 from by omega]
  rfl
theorem g0Z {h:AH}:∀ {l:List Sj},(∀ y ∈ l,SjOk h y)→d8 (l.flatMap sjC)=true
 | [],_=>rfl
 | x::l,hy=>by
  have h1:=hy x (by simp)
  have:=g0Z fun y hm=>hy y (List.mem_cons_of_mem _ hm)
  simp [List.flatMap_cons,sjC,h1.lab.oneCell.2,h1.smp.oneCell.2,this]
theorem x0C {B t q:Nat} {g g2:AH} {ov r:AV} {ys:List Sj} {y:Sj} {s:Smp} (a:JoinI B t g ov ys) (hy:ys[q]? = some y) (hr:y0W g y.2.2 s r g2) :
  ∃ id o g3,E9 2 ov (.int .i64 (q:Int))=.ok (.ptr id o)∧B9 g2 id (o+1) [r]=.ok g3∧JoinI B (t+1) g3 ov (ys.set q (y.1,(r,S1 y.2.2 s)))∧FrB B g2 g3∧g3.next=g2.next∧∀ i,j9 ov≠some i→g3.get i=g2.get i:=by
 obtain ⟨f,o2⟩:=hr
 have hq:=(List.getElem?_eq_some_iff.1 hy).1
 obtain ⟨id,o,g3,h1,h2,h3,h4,h5,h6⟩:=(a.own.fr f).store2 (k:=.i64) (i:=(q:Int)) (j:=q) (c:=1) rfl hq (by omega) (x:=r) o2.sl.oneCell.2
 rw [r0T ys q y r (S1 y.2.2 s) hy] at h3
 have kp:∀ {es n:Nat} {v:AV} {l:List AV},Sl g2 es n v l→(∀ i,j9 v=some i→j9 ov≠some i)→Sl g3 es n v l:=fun s hn=>t0x s (by omega) (fun k hk=>h6 k (hn k hk))
 have hro:∀ i,j9 r=some i→j9 ov≠some i:=fun i hi e=>by
  have h7:=Sl.idLt a.own.sl e
  exact absurd hi (o2.ne h7)
 refine ⟨id,o,g3,h1,h2,⟨by rw [List.length_set];exact h3,fun z hz=>?_⟩,h4,h5,h6⟩
 obtain ⟨y1,y2,y3,y4,y5,y6⟩:=a.el y (List.mem_of_getElem? hy)
 rcases List.mem_or_eq_of_mem_set hz with hz | hz
 ·obtain ⟨z1,z2,z3,z4,z5,z6⟩:=a.el z hz
  exact ⟨⟨kp (z1.fr f).lab z2,kp (z1.fr f).smp z3⟩,z2,z3,z4,by omega,z6⟩
 ·subst hz
  have:=m0g y.2.2 s
  exact ⟨⟨kp (y1.fr f).lab y2,kp o2.sl hro⟩,y2,hro,q04 _ _ y4,by simp only;omega,y6⟩
end Go.Dk

namespace Go.Dk
open Go Go.Dr
set_option maxRecDepth 100000
theorem r0H {B t q:Nat} {g:AH} {ov:AV} {ys:List Sj} {ls:List Lab} (a:JoinI B t g ov ys) (hq:q≤ys.length) (hB:B≤g.next) (hn:ys.length≤2 ^ 29) (hls:ls.length≤2 ^ 30) :
  ∃ u w v1 g1,E8 2 ov none (some (.int .i64 (q:Int))) none=.ok u∧E8 2 ov (some (.int .i64 (q:Int))) none none=.ok w ∧
   H6 2 48 (.slice g.next 0 0 0 true 2) u (g.push (.cells [] false))=okV v1 g1∧Fr g g1 ∧
   ∀ lv g2,Fr g1 g2→Own g1.next g2 2 ls.length lv (ls.flatMap E2) →
    ∃ v3 g3 v4 g4,H6 2 48 v1 (.slice g2.next 0 1 1 true 2) (g2.push (.cells [lv,.nils] false))=okV v3 g3∧H6 2 48 v3 w g3=okV v4 g4∧Fr g g4 ∧
     JoinI B t g4 v4 (ys.take q++[((lv,ls),(.nils,[]))]++ys.drop q)∧(∀ i,j9 v4=some i→g.next≤i):=by
 have hsc:=g0Z (fun y hy=>(a.el y hy).1)
 have hsct:d8 ((ys.take q).flatMap sjC)=true:=g0Z (fun y hy=>(a.el y (List.mem_of_mem_take hy)).1)
 have hscd:d8 ((ys.drop q).flatMap sjC)=true:=g0Z (fun y hy=>(a.el y (List.mem_of_mem_drop hy)).1)
 obtain ⟨u,eu,su⟩:=a.own.sl.slice (lo:=none) (hi:=some (.int .i64 (q:Int))) (a:=0) (b:=q) (.inl ⟨rfl,rfl⟩) (.inr ⟨.i64,rfl⟩) (Nat.zero_le _) hq
 obtain ⟨w,ew,sw⟩:=a.own.sl.slice (lo:=some (.int .i64 (q:Int))) (hi:=none) (a:=q) (b:=ys.length) (.inr ⟨.i64,rfl⟩) (.inl ⟨rfl,rfl⟩) hq (Nat.le_refl _)
 rw [Nat.zero_mul,List.drop_zero,Nat.sub_zero,a0R (es:=2) (f:=sjC) ys (fun _ _=>rfl)] at su
 rw [c0f (es:=2) (f:=sjC) ys (fun _ _=>rfl),List.take_of_length_le (by rw [t0y,List.length_drop];exact Nat.le_refl _)] at sw
 have f0:=Fr.push (.refl g) (.cells [] false)
 have gn0:(g.push (.cells [] false)).next=g.next+1:=rfl
 have o0:=Own.fresh (B:=g.next) (h:=g) (es:=2) (n:=0) (l:=[]) true (Nat.le_refl _) rfl
 generalize hg0:g.push (.cells [] false)=g0 at *
 obtain ⟨v1,g1,c1,o1,fb1,p1,i1⟩:=o0.append (bytes:=48) (su.fr f0) (by omega) hsct (by omega) (by omega)
 rw [Nat.zero_add,List.nil_append] at o1
 have n1:=fb1.next
 have F1:Fr g g1:=⟨by omega,fun i hi=>by rw [fb1.get i hi,f0.get i hi]⟩
 refine ⟨u,w,v1,g1,eu,ew,c1,F1,fun lv g2 f2 ol=>?_⟩
 have n2:=f2.next
 have hlc:=ol.sl.oneCell
 have hlid:∀ i,j9 lv=some i→g1.next≤i∧i<g2.next:=fun i hi=>⟨by
  by_cases h:i<g1.next
  ·exact absurd hi (ol.ne h)
  ·omega,Sl.idLt ol.sl hi⟩
 have hv1:∀ i,j9 v1=some i→i<g1.next:=fun i hi=>Sl.idLt o1.sl hi
 obtain ⟨v3,g3,c3,o3,fb3,p3,i3⟩:=(o1.fr f2).snoc2 (bytes:=48) (x:=[lv,.nils]) (by omega) rfl (by simp [hlc.2]) (by omega) (by omega)
 have n3:=fb3.next
 have F3:Fr g g3:=⟨by omega,fun i hi=>by rw [fb3.get i hi,f2.get i (by omega),F1.get i hi]⟩
 obtain ⟨v4,g4,c4,o4,fb4,p4,i4⟩:=o3.append (bytes:=48) (sw.fr F3) (by omega) hscd (by omega) (by omega)
 have n4:=fb4.next
 have F4:Fr g g4:=⟨by omega,fun i hi=>by rw [fb4.get i hi,F3.get i hi]⟩
 have hv4:∀ i,j9 v4=some i→g.next≤i:=fun i hi=>by
  by_cases h:i<g.next
  ·exact absurd hi (o4.ne h)
  ·omega
 refine ⟨v3,g3,v4,g4,c3,c4,F4,⟨?_,fun y hy=>?_⟩,hv4⟩
 ·have hl:(ys.take q++[((lv,ls),((AV.nils:AV),([]:List Smp)))]++ys.drop q).length=q+1+(ys.length - q):=by simp;omega
  rw [hl]
  have o5:=o4.base (B':=B) hB
  simpa [sjC] using o5
 ·have old:∀ z ∈ ys,SjOk g4 z∧(∀ i,j9 z.1.1=some i→j9 v4≠some i)∧(∀ i,j9 z.2.1=some i→j9 v4≠some i)∧n0C z.2.2∧z.2.2.length≤t∧z.1.2.length≤2 ^ 30:=fun z hz=>by
   obtain ⟨z1,z2,z3,z4⟩:=a.el z hz
   exact ⟨z1.fr F4,fun i hi e=>by have:=Sl.idLt z1.lab hi;have:=hv4 i e;omega,fun i hi e=>by have:=Sl.idLt z1.smp hi;have:=hv4 i e;omega,z4⟩
  rcases List.mem_append.1 hy with hy | hy
  ·rcases List.mem_append.1 hy with hy | hy
   ·exact old y (List.mem_of_mem_take hy)
   ·simp at hy
    subst hy
    have hne3:∀ i,j9 lv=some i→j9 v3≠some i:=fun i hi e=>by
     have:=hlid i hi
     rcases i3 i e with e | e
     ·have:=hv1 i e;omega
     ·omega
    refine ⟨⟨?_,Sl.nil 2⟩,fun i hi e=>?_,fun i hi=>by simp [j9] at hi,by simp [n0C],by simp,hls⟩
    ·refine t0x ol.sl (by omega) (fun k hk=>?_)
     have:=hlid k hk
     rw [p4 k (by omega) (hne3 k hk),p3 k (by omega) (fun e=>by have:=hv1 k e;omega)]
    ·have h5:=hlid i hi
     rcases i4 i e with e | e
     ·exact hne3 i hi e
     ·omega
  ·exact old y (List.mem_of_mem_drop hy)
theorem m0M {h:AH} {n:Nat} {v:AV} {l:List Lab} (s:Sl h 2 n v (l.flatMap E2)) (hn:n≤2 ^ 30):Ev P SI (.fn f0b) [v] h fun r g=>Fr h g∧Own h.next g 2 l.length r (l.flatMap E2):=by
 refine k8 q0e rfl rfl ?_
 have hl:=X9 s
 have o0:=Own.fresh (B:=h.next) (h:=h) (es:=2) (n:=0) (l:=[]) true (Nat.le_refl _) rfl
 have hsc:d8 (l.flatMap E2)=true:=by
  clear s hl o0
  induction l with
  | nil=>rfl
  | cons x l ih=>simp [List.flatMap_cons,E2,ih]
 obtain ⟨v1,g1,c1,o1,fb1,p1,i1⟩:=o0.append (bytes:=32) (s.fr (Fr.push (.refl h) _)) (Nat.le_succ _) hsc (by omega) (by omega)
 rw [Nat.zero_add,List.nil_append,← hl] at o1
 simp [j0o,c1]
 exact ⟨⟨by have:=fb1.next;have:(h.push (.cells [] false)).next=h.next+1:=rfl;omega,fun i hi=>by rw [fb1.get i hi,c7 (by omega)]⟩,o1⟩
end Go.Dk

namespace Go.Dk
open Go Go.Dr
set_option maxRecDepth 100000
def S6 (l:List (List Lab×List Smp)):Nat:=(l.map (·.2.length)).sum
def C0H (h:AH) (l:List (List Lab×List Smp)) (r:AV) (g:AH):Prop :=
 Fr h g∧∃ ys:List Sj,ys.map plJ=f0I l∧JoinI h.next (S6 l) g r ys
theorem p0f (l:List (List Lab×List Smp)) (j:Nat):S6 (l.take j)≤S6 l:=by
 unfold S6
 conv=>rhs;rw [← List.take_append_drop j l]
 rw [List.map_append,List.sum_append]
 omega
theorem w0q {l:List (List Lab×List Smp)} {j:Nat} {x:List Lab×List Smp} (h:l[j]? = some x):S6 (l.take (j+1))=S6 (l.take j)+x.2.length:=by
 unfold S6
 rw [u9 _ _ _ h,List.map_append,List.sum_append]
 simp
theorem n0r {l:List (List Lab×List Smp)} {j:Nat} {x:List Lab×List Smp} (h:l[j]? = some x):f0I (l.take (j+1))=k0a (f0I (l.take j)) x:=by
 rw [f0I,u9 _ _ _ h,List.foldl_append];rfl
theorem s0y:∀ (l:List (List Lab×List Smp)) (ls:List Lab) (ss:List Smp),(d0h l ls ss).length≤l.length+1
 | [],ls,ss=>by simp [d0h]
 | y::l,ls,ss=>by
  have:=s0y l ls ss
  unfold d0h
  split
  ·simp only [List.length_cons];omega
  ·split <;> simp
theorem y0o (l:List (List Lab×List Smp)) (x:List Lab×List Smp):(k0a l x).length≤l.length+1:=by
 unfold k0a;split
 ·omega
 ·exact s0y _ _ _
theorem p0g (l:List (List Lab×List Smp)) (j:Nat):(f0I (l.take j)).length≤j:=by
 induction j with
 | zero=>simp [f0I]
 | succ j ih =>
  by_cases h:j<l.length
  ·obtain ⟨x,hx⟩:=j7 (l:=l) (j:=j) h
   rw [n0r hx]
   have:=y0o (f0I (l.take j)) x
   omega
  ·rw [List.take_of_length_le (by omega)]
   rw [List.take_of_length_le (by omega)] at ih
   omega
theorem u0Q {α:Type} (a b:List α) (x y:α) (q:Nat) (h:a.length=q):(a++[x]++b).set q y=a++[y]++b:=by
 subst h;simp
def LtJ (ys:List Sj) (ls:List Lab) (q:Nat):Prop:=∀ i y,i<q→ys[i]? = some y→O9 y.1.2 ls<0
def AtI (ys:List Sj) (ls:List Lab) (q:Nat):Prop:=LtJ ys ls q∧∀ y,ys[q]? = some y→0≤O9 y.1.2 ls
noncomputable def s0z:CC :=
 (.loop
 (.seq
  (.ops [
  .row ⟨(some 70),none,.bin .lss a7 false (.t 69) (.t 68)⟩])
  (.seq
  (.cond (.t 70)
   .skip
   (.exit 4))
  (.seq
   (.block 5
   (.seq
    (.ops [
    .row ⟨(some 71),none,.idxV 2 (.t 67) (.t 69)⟩,
    .row ⟨(some 72),none,.loadN 2 (.t 71)⟩,
    .row ⟨(some 8),none,.new [(.int .i64 0),(.int .u64 0)]⟩,
    .row ⟨none,none,.store 2 (.t 8) (.t 72)⟩])
    (.ops [
    .row ⟨(some 73),none,.move (.t 3)⟩,
    .row ⟨(some 74),none,.move (.t 6)⟩,
    .row ⟨(some 75),none,.move (.t 3)⟩,
    .row ⟨(some 76),none,.move (.t 6)⟩,
    .row ⟨(some 77),none,.idxV 2 (.t 75) (.t 76)⟩,
    .row ⟨(some 78),none,.fieldAddr 1 (.t 77)⟩,
    .row ⟨(some 79),none,.load1 (.t 78)⟩,
    .row ⟨(some 80),none,.loadN 2 (.t 8)⟩,
    .stage [⟨(some 80),none,.loadN 2 (.t 8)⟩,⟨(some 79),none,.load1 (.t 78)⟩],
    .row ⟨(some 81),none,.callV (.c (.func (.func d0I) [] [])) [(.t 79),(.t 80)]⟩,
    .row ⟨(some 82),none,.idxV 2 (.t 73) (.t 74)⟩,
    .row ⟨(some 83),none,.fieldAddr 1 (.t 82)⟩,
    .row ⟨none,none,.store 1 (.t 83) (.t 81)⟩])))
   (.ops [
   .row ⟨(some 84),none,.bin .add a7 true (.t 69) (.c (.int .i64 1))⟩,
   .row ⟨(some 69),none,.move (.t 84)⟩])))))
theorem A09 {h g:AH} {Q:G9} {σ:Sg} {n j q t:Nat} {v ov u:AV} {ys:List Sj} {y:Sj} {ss:List Smp} (hu:Sl g 2 ss.length u (ss.flatMap smC)) (e67:σ 67=u) (e68:σ 68=.int .i64 (ss.length:Int)) (e69:σ 69=.int .i64 0) (e3:σ 3=ov) (e6:σ 6=.int .i64 (q:Int))
  (e9:σ 9=v) (e10:σ 10=.int .i64 (n:Int)) (e11:σ 11=.int .i64 (j:Int)) (hI:JoinI h.next t g ov ys) (hF:Fr h g) (hy:ys[q]? = some y) (hss:t+ss.length≤2 ^ 20) (hus:∀ i,j9 u=some i→i<h.next)
  (hQ:∀ σ' g' ys',σ' 3=ov→σ' 9=v→σ' 10=.int .i64 (n:Int)→σ' 11=.int .i64 (j:Int)→Fr h g'→JoinI h.next (t+ss.length) g' ov ys'→ys'.map plJ=(ys.map plJ).set q (y.1.2,ss.foldl S1 y.2.2)→Q (.exit 4) σ' [] g') :
  wpC P SI s0z Q σ [] g:=by
 refine m8 (n:=ss.length) (by rfl) (fun i σ' ds g'=>ds=[]∧σ' 67=u∧σ' 68=.int .i64 (ss.length:Int)∧σ' 3=ov∧σ' 6=.int .i64 (q:Int)∧σ' 9=v∧σ' 10=.int .i64 (n:Int)∧σ' 11=.int .i64 (j:Int)∧Fr h g'∧FrB h.next g g' ∧
  ∃ r,JoinI h.next (t+i) g' ov (ys.set q (y.1,(r,(ss.take i).foldl S1 y.2.2)))) (by omega) e69 ⟨rfl,e67,e68,e3,e6,e9,e10,e11,hF,.refl _ _,y.2.1,by
   have:ys.set q (y.1,(y.2.1,(ss.take 0).foldl S1 y.2.2))=ys:=by
    simp only [List.take_zero,List.foldl_nil]
    obtain ⟨h1,h2⟩:=List.getElem?_eq_some_iff.1 hy
    show ys.set q y=ys
    rw [← h2];exact List.set_getElem_self _
   rw [this];exact hI⟩ (fun j σ ds g hJ=>hJ.2.2.1) ?_ ?_
 ·rintro i σ' ds g' hi hi9 ⟨rfl,e67,e68,e3,e6,e9,e10,e11,F,fb,r,hJ⟩
  obtain ⟨s,hs⟩:=j7 (l:=ss) (j:=i) hi
  have hq:=(List.getElem?_eq_some_iff.1 hy).1
  have hu':=t0x hu fb.next (fun k hk=>fb.get k (hus k hk))
  obtain ⟨i1,o1,b1,b2,_⟩:=M3 hu' hs
  have stn:=l6 (h:=g') (n:=2) (z:=[.int .i64 0,.int .u64 0]) (l:=smC s) rfl rfl rfl
  have fp:=Fr.push (.refl g') (.cells (smC s) false)
  have ge:(g'.push (.cells (smC s) false)).get g'.next=some (.cells (smC s) false):=b8 _
  have gn:(g'.push (.cells (smC s) false)).next=g'.next+1:=rfl
  have hJ1:=hJ.fr fp
  generalize hz:(y.1,(r,(ss.take i).foldl S1 y.2.2))=z at *
  have hyz:(ys.set q z)[q]? = some z:=by simp [hq]
  generalize hg1:g'.push (.cells (smC s) false)=g1 at *
  have mn:loadN g1 g'.next 0 2=.ok (smC s):=A8 ge rfl
  have agv:R4 12 (.agg (smC s)) (.agg (smC s))=true:=q06 s
  obtain ⟨z1,_,_,z4,z5,_⟩:=hJ1.el z (List.mem_of_getElem? hyz)
  obtain ⟨i2,o2,c1,_,_,c2,_⟩:=r0R hJ1.own.sl hyz
  have hrs:=z1.smp.same
  simp [e67,hi9,b1,s7,b2,stn,hg1,e3,e6,c1,c2,mn,agv,hrs]
  refine (u08 z1.smp z4 (by omega)).mono ?_
  intro r' g2 hr
  obtain ⟨i3,o3,g3,d1,d2,d3,d4,d5,d6⟩:=x0C hJ1 hyz hr
  rw [c1] at d1
  cases d1
  have hrc:=hr.2.sl.oneCell
  simp [c1,hrc.1,d2,e67,e68,e3,e6,e9,e10,e11,hi9]
  have fb3:FrB h.next g g3:=fb.trans ((fp.b (by have:=F.next;omega)).trans ((hr.1.b (by have:=F.next;omega)).trans d4))
  refine ⟨⟨by have:=fb3.next;have:=hF.next;omega,fun k hk=>by rw [fb3.get k hk,hF.get k hk]⟩,fb3,r',?_⟩
  have e:S1 z.2.2 s=(ss.take (i+1)).foldl S1 y.2.2:=by rw [u9 _ _ _ hs,List.foldl_append,← hz];rfl
  rw [List.set_set,e,← hz,show t+i+1=t+(i+1) from by omega] at d3
  exact d3
 ·rintro σ' ds g' ⟨rfl,e67,e68,e3,e6,e9,e10,e11,F,fb,r,hJ⟩
  rw [List.take_of_length_le (Nat.le_refl _)] at hJ
  refine hQ _ g' _ (by simp [e3]) (by simp [e9]) (by simp [e10]) (by simp [e11]) F hJ ?_
  rw [List.map_set];rfl
theorem t0U {h:AH} {n:Nat} {v:AV} {xs:List Sj} (s:Sl h 2 n v (xs.flatMap sjC)) (hn:n≤2 ^ 20) (he:∀ x ∈ xs,SjOk h x) (ht:S6 (xs.map plJ)≤2 ^ 20) (hl61:∀ x ∈ xs,x.1.2.length≤2 ^ 30) :
  Ev P SI (.fn f0a) [v] h (C0H h (xs.map plJ)):=by
 refine k8 q0d rfl rfl ?_
 have hl:xs.length=n:=by have:=s.1;rw [t0y] at this;omega
 simp [j0n,s.len]
 refine m8 (n:=n) (by rfl) (fun j σ ds g=>ds=[]∧σ 9=v∧σ 10=.int .i64 (n:Int)∧Fr h g∧∃ ys:List Sj,ys.map plJ=f0I ((xs.map plJ).take j)∧JoinI h.next (S6 ((xs.map plJ).take j)) g (σ 3) ys) (by omega) (by simp)
  ⟨rfl,by simp,by simp,.refl _,[],rfl,by simpa using ⟨by simpa using Own.nil _ _,fun y hy=>by simp at hy⟩⟩ (fun j σ ds g hJ=>by simp [hJ.2.2.1]) ?_ ?_
 ·rintro j σ ds g hj hi ⟨rfl,e9,e10,F,ys,hys,hI⟩
  obtain ⟨x,hx⟩:=j7 (l:=xs) (j:=j) (by omega)
  have hxm:=List.mem_of_getElem? hx
  have hx':(xs.map plJ)[j]? = some (plJ x):=by simp [hx]
  have hok:=he x hxm
  obtain ⟨id,o,a1,a2,_⟩:=r0R (s.fr F) hx
  have hlc:=hok.lab.oneCell
  have hscc:=hok.smp.oneCell
  have stn:=l6 (h:=g) (n:=2) (z:=[.nils,.nils]) (l:=sjC x) rfl rfl (by simp [sjC,d8,hlc.2,hscc.2])
  have fp:=Fr.push (.refl g) (.cells (sjC x) false)
  have ge:(g.push (.cells (sjC x) false)).get g.next=some (.cells (sjC x) false):=b8 _
  have gn:(g.push (.cells (sjC x) false)).next=g.next+1:=rfl
  have hyl:ys.length≤j:=by have h1:=p0g (xs.map plJ) j;rw [← hys] at h1;simpa using h1
  have htj:=p0f (xs.map plJ) j
  have htj1:=p0f (xs.map plJ) (j+1)
  have hts:=w0q hx'
  have hjs:=n0r hx'
  rw [← hys] at hjs
  generalize S6 ((xs.map plJ).take j)=t at *
  obtain ⟨ov,hov⟩:∃ ov,σ 3=ov:=⟨_,rfl⟩
  rw [hov] at hI
  have hovid:∀ i,j9 ov=some i→i<g.next:=fun i e=>Sl.idLt hI.own.sl e
  simp [e9,hi,a1,s7,a2,stn]
  generalize hg1:g.push (.cells (sjC x) false)=g1 at *
  have m1:load1 g1 g.next 1=.ok x.2.1:=b7 ge
  have sj1:(sjC x)[1]? = some x.2.1:=rfl
  have ok1:=(hok.fr F).fr fp
  by_cases h0:x.2.2.length=0
  ·have hx0:k0a (ys.map plJ) (plJ x)=ys.map plJ:=by unfold k0a;exact if_pos (List.length_eq_zero_iff.1 h0)
   rw [hx0] at hjs
   have hxl:(plJ x).2.length=0:=h0
   simp [sj1,ok1.smp.len,h0,e9,e10,hov,hi]
   refine ⟨F.trans fp,ys,hjs.symm,?_⟩
   rw [hts,hxl]
   exact hI.fr fp
  have h0':¬ x.2.2=[]:=fun e=>h0 (by rw [e];rfl)
  have hx0:k0a (ys.map plJ) (plJ x)=d0h (ys.map plJ) x.1.2 x.2.2:=if_neg h0'
  rw [hx0] at hjs
  simp [sj1,ok1.smp.len,h0]
  refine D3 (Q:=fun x' σ' ds g'=>x'=.exit 2∧ds=[]∧g'=g1∧σ' 9=v∧σ' 10=.int .i64 (n:Int)∧σ' 11=.int .i64 (j:Int)∧σ' 5=.ptr g.next 0∧σ' 3=ov∧∃ q:Nat,σ' 6=.int .i64 (q:Int)∧q≤ys.length∧AtI ys x.1.2 q) ?_ ?_
  ·refine M5 (fun r σ' ds g'=>∃ q:Nat,r+q=ys.length∧ds=[]∧g'=g1∧σ' 9=v∧σ' 10=.int .i64 (n:Int)∧σ' 11=.int .i64 (j:Int)∧σ' 5=.ptr g.next 0∧σ' 3=ov∧σ' 6=.int .i64 (q:Int)∧LtJ ys x.1.2 q) ys.length
    ⟨0,by omega,rfl,rfl,by simp [e9],by simp [e10],by simp [hi],by simp,by simp [hov],by simp,fun i y hi=>by omega⟩ ?_
   rintro r σ' ds g' ⟨q,hr,rfl,rfl,e9,e10,e11,e5,e3,e6,hlt⟩
   have m0:load1 g' g.next 0=.ok x.1.1:=b7 ge
   have hxs:=ok1.lab.same
   by_cases hq:q<ys.length
   ·obtain ⟨y,hy⟩:=j7 (l:=ys) (j:=q) hq
    obtain ⟨y1,_,_,_,_,y6⟩:=hI.el y (List.mem_of_getElem? hy)
    have y1:=y1.fr fp
    obtain ⟨i1,o1,b1,_,b2,_⟩:=r0R (hI.own.sl.fr fp) hy
    have hys2:=y1.lab.same
    have cp:=fun K=>b0H y1.lab ok1.lab (by omega) (by have:=hl61 x hxm;omega) K
    have w1:b9 .i64 ((q:Int)+1)=((q+1:Nat):Int):=by rw [wrap_i64 (by omega) (by omega)];omega
    by_cases hc:O9 y.1.2 x.1.2<0
    ·have hcn:=hc
     generalize O9 y.1.2 x.1.2=cm at hc cp
     simp [e3,e6,e5,(hI.own.sl.fr fp).len,hq,b1,b2,m0,hxs,hys2,cp,hc,w1,l7]
     refine ⟨r - 1,by omega,q+1,by omega,e9,e10,e11,by omega,fun i z hi hz=>?_⟩
     by_cases hiq:i=q
     ·subst hiq;rw [hy] at hz;cases hz;exact hcn
     ·exact hlt i z (by omega) hz
    ·have hcn:=hc
     generalize O9 y.1.2 x.1.2=cm at hc cp
     simp [e3,e6,e5,(hI.own.sl.fr fp).len,hq,b1,b2,m0,hxs,hys2,cp,hc]
     exact ⟨e9,e10,e11,q,rfl,by omega,hlt,fun z hz=>by rw [hy] at hz;cases hz;omega⟩
   ·simp [e3,e6,e5,(hI.own.sl.fr fp).len,hq]
    exact ⟨e9,e10,e11,q,rfl,by omega,hlt,fun z hz=>absurd (List.getElem?_eq_some_iff.1 hz).1 hq⟩
  rintro x' σ' ds g' ⟨rfl,rfl,rfl,e9,e10,e11,e5,e3,q,e6,hq,hlt,hge⟩
  have m0:load1 g' g.next 0=.ok x.1.1:=b7 ge
  have hxs:=ok1.lab.same
  have hI1:=hI.fr fp
  have hxid:∀ i,j9 x.2.1=some i→i<h.next:=fun i hi=>Sl.idLt hok.smp hi
  have ltm:∀ i y,i<q→(ys.map plJ)[i]? = some y→O9 y.1 x.1.2<0:=fun i y hi hy=>by
   rw [List.getElem?_map] at hy
   obtain ⟨z,hz,rfl⟩:=Option.map_eq_some_iff.1 hy
   exact hlt i z hi hz
  have hF1:=F.trans fp
  have hxl:(plJ x).2=x.2.2:=rfl
  have fin:∀ (σ2:Sg) (g2:AH) (ov2:AV) (ys2:List Sj) (y:Sj),σ2 67=x.2.1→σ2 68=.int .i64 (x.2.2.length:Int)→σ2 69=.int .i64 0→σ2 3=ov2→σ2 6=.int .i64 (q:Int)→σ2 9=v→σ2 10=.int .i64 (n:Int)→σ2 11=.int .i64 (j:Int)→Fr h g2 →
    JoinI h.next t g2 ov2 ys2→ys2[q]? = some y→(ys2.map plJ).set q (y.1.2,x.2.2.foldl S1 y.2.2)=d0h (ys.map plJ) x.1.2 x.2.2→∀ Q:G9,
    (∀ σ' g' ys',σ' 9=v→σ' 10=.int .i64 (n:Int)→σ' 11=.int .i64 (j:Int)→Fr h g'→ys'.map plJ=f0I ((xs.map plJ).take (j+1))→JoinI h.next (S6 ((xs.map plJ).take (j+1))) g' (σ' 3) ys'→Q (.exit 4) σ' [] g')→wpC P SI s0z Q σ2 [] g2:=by
   intro σ2 g2 ov2 ys2 y k67 k68 k69 k3 k6 k9 k10 k11 F2 hI2 hy hr Q hQ
   refine A09 (h:=h) (hok.smp.fr F2) k67 k68 k69 k3 k6 k9 k10 k11 hI2 F2 hy (by rw [hts] at htj1;rw [hxl] at htj1;omega) hxid ?_
   intro σ' g' ys' p3 p9 p10 p11 F' hI' he'
   refine hQ σ' g' ys' p9 p10 p11 F' (by rw [hjs,he',hr]) ?_
   rw [p3,hts];exact hI'
  by_cases hq1:q<ys.length
  ·obtain ⟨y,hy⟩:=j7 (l:=ys) (j:=q) hq1
   obtain ⟨y1,_,_,_,_,y6⟩:=hI.el y (List.mem_of_getElem? hy)
   have y1:=y1.fr fp
   obtain ⟨i1,o1,b1,_,b2,_⟩:=r0R hI1.own.sl hy
   have hys2:=y1.lab.same
   have cp:=fun K=>b0H y1.lab ok1.lab (by omega) (by have:=hl61 x hxm;omega) K
   have hne:¬ (q:Int)=(ys.length:Int):=by omega
   have hge:=hge y hy
   by_cases hc:O9 y.1.2 x.1.2=0
   ·have hr:d0h (ys.map plJ) x.1.2 x.2.2=(ys.map plJ).set q (y.1.2,x.2.2.foldl S1 y.2.2):=r0S (ys.map plJ) x.1.2 x.2.2 q (plJ y) (by simp [hy]) hc ltm
    generalize O9 y.1.2 x.1.2=cm at hc cp
    simp [e3,e6,e5,hI1.own.sl.len,hne,b1,b2,m0,hxs,hys2,cp,hc,m1,ok1.smp.len]
    refine fin _ g' ov ys y (by simp) (by simp) (by simp) (by simp [e3]) (by simp [e6]) (by simp [e9]) (by simp [e10]) (by simp [e11]) hF1 hI1 hy hr.symm _ ?_
    intro σ' g' ys' p9 p10 p11 F' he' hI'
    simp [p9,p10,p11]
    exact ⟨F',ys',he',hI'⟩
   ·have hcn:=hc
    have hr:d0h (ys.map plJ) x.1.2 x.2.2=_:=m00 (ys.map plJ) x.1.2 x.2.2 q (by simp;omega) (fun z hz=>by
     rw [List.getElem?_map,hy] at hz
     cases hz
     show 0<O9 y.1.2 x.1.2
     omega) ltm
    generalize O9 y.1.2 x.1.2=cm at hc cp
    simp [e3,e6,e5,hI1.own.sl.len,hne,b1,b2,m0,hxs,hys2,cp,hc,m1,ok1.smp.len]
    obtain ⟨u,w,v1,g1',f1,f2,f3,F1,fk⟩:=r0H (ls:=x.1.2) hI1 hq (by have:=hF1.next;omega) (by omega) (hl61 x hxm)
    have q0:load1 (g'.push (.cells [] false)) g.next 0=.ok x.1.1:=b7 ((c7 (show g.next≠g'.next by omega)).trans ge)
    have q1:load1 g1' g.next 0=.ok x.1.1:=b7 ((F1.get g.next (by omega)).trans ge)
    simp [e5,e3,e6,f1,f2,f3,q0,q1,hxs]
    refine (m0M (ok1.lab.fr F1) (hl61 x hxm)).mono ?_
    rintro lv g2 ⟨f5,ol⟩
    obtain ⟨v3,g3,v4,g4,c3,c4,F4,hI4,hid4⟩:=fk lv g2 f5 ol
    have lvc:=ol.sl.oneCell
    have q4:load1 g4 g.next 1=.ok x.2.1:=b7 ((F4.get g.next (by omega)).trans ge)
    simp [e5,i9,lvc.1,c3,c4,q4,(ok1.smp.fr F4).len]
    refine fin _ g4 v4 _ ((lv,x.1.2),(.nils,[])) (by simp) (by simp) (by simp) (by simp) (by simp [e6]) (by simp [e9]) (by simp [e10]) (by simp [e11]) (hF1.trans F4) hI4 ?_ ?_ _ ?_
    ·rw [List.append_assoc,List.getElem?_append_right (by simp;omega)]
     simp [Nat.min_eq_left hq]
    ·rw [hr,List.map_append,List.map_append,List.map_take,List.map_drop]
     exact u0Q _ _ _ _ _ (by simp;omega)
    intro σ' g' ys' p9 p10 p11 F' he' hI'
    simp [p9,p10,p11]
    exact ⟨F',ys',he',hI'⟩
  ·have hqe:q=ys.length:=by omega
   have hr:d0h (ys.map plJ) x.1.2 x.2.2=_:=m00 (ys.map plJ) x.1.2 x.2.2 q (by simp;omega) (fun z hz=>by
    have:=(List.getElem?_eq_some_iff.1 hz).1
    rw [List.length_map] at this
    omega) ltm
   have hee:(q:Int)=(ys.length:Int):=by omega
   simp [e3,e6,e5,hI1.own.sl.len,hee]
   rw [← hee]
   obtain ⟨u,w,v1,g1',f1,f2,f3,F1,fk⟩:=r0H (ls:=x.1.2) hI1 hq (by have:=hF1.next;omega) (by omega) (hl61 x hxm)
   have q0:load1 (g'.push (.cells [] false)) g.next 0=.ok x.1.1:=b7 ((c7 (show g.next≠g'.next by omega)).trans ge)
   have q1:load1 g1' g.next 0=.ok x.1.1:=b7 ((F1.get g.next (by omega)).trans ge)
   simp [e5,e3,e6,f1,f2,f3,q0,q1,hxs]
   refine (m0M (ok1.lab.fr F1) (hl61 x hxm)).mono ?_
   rintro lv g2 ⟨f5,ol⟩
   obtain ⟨v3,g3,v4,g4,c3,c4,F4,hI4,hid4⟩:=fk lv g2 f5 ol
   have lvc:=ol.sl.oneCell
   have q4:load1 g4 g.next 1=.ok x.2.1:=b7 ((F4.get g.next (by omega)).trans ge)
   simp [e5,i9,lvc.1,c3,c4,q4,(ok1.smp.fr F4).len]
   refine fin _ g4 v4 _ ((lv,x.1.2),(.nils,[])) (by simp) (by simp) (by simp) (by simp) (by simp [e6]) (by simp [e9]) (by simp [e10]) (by simp [e11]) (hF1.trans F4) hI4 ?_ ?_ _ ?_
   ·rw [List.append_assoc,List.getElem?_append_right (by simp;omega)]
    simp [Nat.min_eq_left hq]
   ·rw [hr,List.map_append,List.map_append,List.map_take,List.map_drop]
    exact u0Q _ _ _ _ _ (by simp;omega)
   intro σ' g' ys' p9 p10 p11 F' he' hI'
   simp [p9,p10,p11]
   exact ⟨F',ys',he',hI'⟩
 ·rintro σ ds g ⟨rfl,e9,e10,F,ys,hys,hI⟩
  rw [List.take_of_length_le (by simp;omega)] at hys hI
  simp
  exact ⟨F,ys,hys,hI⟩
end Go.Dk

namespace Go.Dk
open Go Go.Dr
set_option maxRecDepth 100000
theorem n08 (s:Txt) (r:List Nat) (h:s.length<256):L7 (txB s++r)=some (s,r):=by
 unfold txB
 rw [Nat.mod_eq_of_lt h]
 exact s0u s r
theorem n09:∀ (l:List Lab) (r:List Nat),(∀ k ∈ l,k.1.length<256∧k.2.length<256)→R0 l.length (l.flatMap e0o++r)=some (l,r)
 | [],r,_=>rfl
 | k::l,r,h=>by
  obtain ⟨h1,h2⟩:=h k List.mem_cons_self
  have e:(k::l).flatMap e0o++r=txB k.1++(txB k.2++(l.flatMap e0o++r)):=by simp [e0o]
  rw [e,List.length_cons,R0,n08 _ _ h1]
  simp only
  rw [n08 _ _ h2]
  simp only
  rw [n09 l r fun y hy=>h y (List.mem_cons_of_mem _ hy)]
theorem w0v {l:List Lab} (hc:R9 l=true) (r:List Nat):f0h (d0u l++r)=.ok (l,r):=by
 obtain ⟨h8,hm⟩:=b0c hc
 unfold d0u
 rw [List.cons_append,Nat.mod_eq_of_lt (by omega)]
 simp only [f0h]
 rw [n09 l r fun k hk=>by have:=hm k hk;omega]
 simp only
 rw [if_pos hc]
theorem s0C {b:List Nat} {l l':List Smp} (hb:∀ x ∈ b,x<256) (hn:b.length≤2 ^ 30) (h:IsS b l) (h':IsS b l'):l'=l:=by
 have s:=(Own.fresh (B:=0) (h:=(⟨0,.leaf⟩:AH)) (es:=1) (n:=b.length) (l:=by8 b) true (Nat.zero_le _) (by simp)).sl
 obtain ⟨_,_,_,_,_,d⟩:=i0I s hb hn
 rcases d with ⟨l1,_,_,u,_⟩ | ⟨hno,_⟩
 ·rw [u l h,u l' h']
 ·exact absurd h (hno l)
theorem t0Y (l:List Smp):∀ x ∈ P0 l,x<256:=by
 intro x hx
 rw [P0] at hx
 rcases List.mem_append.1 hx with h | h
 ·exact k0Q _ _ x h
 ·exact p01 _ x h
theorem u0S {s:List Smp} (hr:SmpR s) (hc:a0S s=true) (hn:(P0 s).length≤2 ^ 30):h0i (P0 s)=some s:=by
 have hi:IsS (P0 s) s:=⟨hr,hc,rfl⟩
 have hex:∃ l,IsS (P0 s) l:=⟨s,hi⟩
 unfold h0i
 rw [dif_pos hex,s0C (t0Y s) hn hi hex.choose_spec]
abbrev Pt:=List Lab×List Smp
structure OkP (p:Pt):Prop where
 lab:R9 p.1=true
 smp:a0S p.2=true
 rng:SmpR p.2
 pos:0<p.2.length
 most:p.2.length≤20
theorem OkP.len {p:Pt} (h:OkP p):(V2 p.1 p.2).length≤933∧(V2 p.1 p.2).length=4+(d0u p.1++P0 p.2).length∧(P0 p.2).length≤400 :=
 ⟨p0a h.lab (fun y hy=>(h.rng y hy).2) h.most,by rw [V2,List.length_append,r8],n0m (fun y hy=>(h.rng y hy).2) h.most⟩
theorem q0q {p:Pt} (h:OkP p) (r:List Nat):G4 (V2 p.1 p.2++r)=some (p.1,p.2,(V2 p.1 p.2).length):=by
 obtain ⟨h1,h2,h3⟩:=h.len
 have hl:4≤(V2 p.1 p.2++r).length:=by rw [List.length_append];omega
 unfold G4
 rw [if_neg (by omega)]
 have e:V2 p.1 p.2++r=be 4 (d0u p.1++P0 p.2).length++((d0u p.1++P0 p.2)++r):=by simp [V2]
 have e1:(V2 p.1 p.2++r).take 4=be 4 (d0u p.1++P0 p.2).length:=by rw [e,List.take_left' (r8 _ _)]
 have e2:(V2 p.1 p.2++r).drop 4=(d0u p.1++P0 p.2)++r:=by rw [e,List.drop_left' (r8 _ _)]
 rw [e1,p04,Nat.mod_eq_of_lt (by omega)]
 unfold d06
 rw [if_neg (by rw [List.length_append];omega),e2,List.take_left' rfl,w0v h.lab]
 simp only
 rw [u0S h.rng h.smp (by omega)]
 simp only
 rw [if_neg (by have:=h.pos;have:=h.most;omega),h2]
def j0v:Nat→List Pt→List Ep
 | _,[]=>[]
 | a,p::ps=>⟨p.1,a,(V2 p.1 p.2).length,mnS p.2,mxS p.2⟩::j0v (a+(V2 p.1 p.2).length) ps
def e0Z (ps:List Pt):List Nat:=ps.flatMap fun p=>V2 p.1 p.2
theorem e0z:∀ (ps:List Pt) (a:Nat),(j0v a ps).length=ps.length
 | [],_=>rfl
 | p::ps,a=>by rw [j0v,List.length_cons,e0z ps,List.length_cons]
theorem q0r:∀ (ps:List Pt) (f a:Nat),(∀ p ∈ ps,OkP p)→ps.length≤f→ents f a (e0Z ps)=(j0v a ps,true)
 | [],f,a,_,_=>by cases f <;> simp [ents,e0Z,j0v]
 | p::ps,f,a,h,hf=>by
  obtain ⟨f,rfl⟩:∃ g,f=g+1:=⟨f - 1,by simp only [List.length_cons] at hf;omega⟩
  have hp:=h p List.mem_cons_self
  have hl:=hp.len
  have ih:=q0r ps f (a+(V2 p.1 p.2).length) (fun q hq=>h q (List.mem_cons_of_mem _ hq)) (by simpa using hf)
  have e:e0Z (p::ps)=V2 p.1 p.2++e0Z ps:=by simp [e0Z]
  have hne:e0Z (p::ps)≠[]:=fun h0=>by
   rw [e] at h0
   have:=congrArg List.length h0
   rw [List.length_append,List.length_nil] at this
   omega
  rw [ents,if_neg hne,e,q0q hp]
  simp only
  rw [List.drop_left' rfl,ih]
  rfl
theorem l0y:∀ (ps:List Pt),(∀ p ∈ ps,OkP p)→ps.length≤(e0Z ps).length∧(e0Z ps).length≤933*ps.length
 | [],_=>by simp [e0Z]
 | p::ps,h=>by
  obtain ⟨h1,h2,_⟩:=(h p List.mem_cons_self).len
  have ih:=l0y ps fun q hq=>h q (List.mem_cons_of_mem _ hq)
  have e:e0Z (p::ps)=V2 p.1 p.2++e0Z ps:=by simp [e0Z]
  rw [e,List.length_append,List.length_cons]
  omega
def w0w:Option Pt→Pt→Prop
 | none,_=>True
 | some p,q=>O9 p.1 q.1<0∨p.1=q.1∧mxS p.2<mnS q.2
def ChainP:Option Pt→List Pt→Prop
 | _,[]=>True
 | pr,q::ps=>OkP q∧w0w pr q∧ChainP (some q) ps
theorem ChainP.ok:∀ {ps:List Pt} {pr:Option Pt},ChainP pr ps→∀ p ∈ ps,OkP p
 | [],_,_,p,hp=>by cases hp
 | q::ps,pr,h,p,hp=>by
  rcases List.mem_cons.1 hp with rfl | hp
  ·exact h.1
  ·exact ChainP.ok h.2.2 p hp
theorem j0w:∀ (l:List Smp),b0g l=true→n0C l
 | [],_=>List.Pairwise.nil
 | [a],_=>List.pairwise_singleton _ _
 | a::b::l,h=>by
  simp only [b0g,Bool.and_eq_true,decide_eq_true_eq] at h
  have ih:=j0w (b::l) h.2
  refine List.pairwise_cons.2 ⟨fun x hx=>?_,ih⟩
  rcases List.mem_cons.1 hx with rfl | hx
  ·exact h.1
  ·have:=(List.pairwise_cons.1 ih).1 x hx;omega
theorem w0x {s:List Smp} (h:n0C s) (h0:0<s.length):mnS s≤mxS s:=by
 obtain ⟨x,hx⟩:=j7 (l:=s) (j:=0) h0
 obtain ⟨y,hy⟩:=j7 (l:=s) (j:=s.length - 1) (by omega)
 have e1:mnS s=x.1:=by unfold mnS;rw [hx]
 have e2:mxS s=y.1:=by unfold mxS;rw [hy]
 rw [e1,e2]
 by_cases h1:s.length - 1=0
 ·rw [h1,hx] at hy;cases hy;omega
 ·have:=s09 h hx hy (by omega);omega
theorem u0T (x:Lab):l0i x x=0:=by simp [l0i,l0h,d0A]
theorem o0a:∀ l:List Lab,O9 l l=0
 | []=>by simp [O9]
 | x::l=>by simp [O9,u0T,o0a l]
def D0f (p:Option Pt) (e:Option Ep):Prop:=match p,e with
 | none,none=>True
 | some p,some e=>e.ls=p.1∧e.mx=mxS p.2
 | _,_=>False
theorem o0b:∀ (ps:List Pt) (a:Nat) (pr:Option Pt) (e:Option Ep),ChainP pr ps→D0f pr e→a+933*ps.length≤2 ^ 40→c0e (a:Int) e (j0v a ps)=true
 | [],_,_,_,_,_,_=>rfl
 | q::ps,a,pr,e,⟨h1,h2,h3⟩,he,ha=>by
  obtain ⟨l1,l2,_⟩:=h1.len
  rw [List.length_cons] at ha
  have hc:=h1.smp
  simp only [a0S,Bool.and_eq_true] at hc
  have hm:=w0x (j0w _ hc.1) h1.pos
  generalize hL:(V2 q.1 q.2).length=L at *
  have w:b9 .i64 ((a:Int)+(L:Int))=((a+L:Nat):Int):=by rw [wrap_i64 (by omega) (by omega)];omega
  have ih:=o0b ps (a+L) (some q) (some ⟨q.1,a,L,mnS q.2,mxS q.2⟩) h3 ⟨rfl,rfl⟩ (by omega)
  have ok:ok1 (a:Int) ⟨q.1,a,L,mnS q.2,mxS q.2⟩=true:=by
   simp only [ok1,h1.lab,hm,decide_true,Bool.true_and,Bool.and_true,Bool.and_eq_true,decide_eq_true_eq]
   omega
  have nx:W8 e ⟨q.1,a,L,mnS q.2,mxS q.2⟩=true:=by
   cases e with
   | none=>rfl
   | some e =>
    cases pr with
    | none=>exact he.elim
    | some p =>
     obtain ⟨e1,e2⟩:=he
     simp only [W8,e1,e2]
     rcases h2 with h2 | ⟨h2,h4⟩
     ·simp;omega
     ·have:O9 p.1 q.1=0:=by rw [h2,o0a]
      simp [this];omega
  rw [j0v,hL,c0e,ok,nx]
  simp only
  rw [w,ih]
  rfl
theorem q0s {ps:List Pt} (h:ChainP none ps) (hl:ps.length≤100):W9 (j0v 0 ps)=true:=by
 unfold W9
 rw [show (0:Int)=((0:Nat):Int) from rfl,o0b ps 0 none none h trivial (by omega),e0z]
 simp;omega
theorem t0Z:∀ (ps:List Pt) (a:Nat),(∀ p ∈ ps,OkP p)→∀ x ∈ j0v a ps,I64 x.mn∧I64 x.mx
 | [],_,_,x,hx=>by cases hx
 | p::ps,a,h,x,hx=>by
  rcases List.mem_cons.1 hx with rfl | hx
  ·have hp:=h p List.mem_cons_self
   obtain ⟨y,hy⟩:=j7 (l:=p.2) (j:=0) hp.pos
   obtain ⟨z,hz⟩:=j7 (l:=p.2) (j:=p.2.length - 1) (by have:=hp.pos;omega)
   have e1:mnS p.2=y.1:=by unfold mnS;rw [hy]
   have e2:mxS p.2=z.1:=by unfold mxS;rw [hz]
   simp only
   rw [e1,e2]
   exact ⟨(hp.rng y (List.mem_of_getElem? hy)).1,(hp.rng z (List.mem_of_getElem? hz)).1⟩
  ·exact t0Z ps _ (fun q hq=>h q (List.mem_cons_of_mem _ hq)) x hx
end Go.Dk

namespace Go.Dk
open Go Go.Dr
set_option maxRecDepth 100000
def w07 (x:Pt):List Pt:=(List.range (nP x)).map fun i=>(x.1,chk x.2 i)
def parts (L:List Pt):List Pt:=L.flatMap w07
theorem t0a (L:List Pt):j0s L=e0Z (parts L):=by
 unfold j0s e0Z parts
 rw [List.flatMap_assoc]
 congr 1
 funext x
 unfold w07 g0G
 rw [List.flatMap_map]
theorem o0B:∀ L:List Pt,20*(parts L).length≤S6 L+19*L.length
 | []=>by simp [parts,S6]
 | x::L=>by
  have ih:=o0B L
  have e:(parts (x::L)).length=nP x+(parts L).length:=by simp [parts,w07]
  have e2:S6 (x::L)=x.2.length+S6 L:=by simp [S6]
  rw [e,e2,List.length_cons]
  unfold nP
  omega
theorem u0i {s:List Smp} {i j:Nat} (hj:j<20):(chk s i)[j]? = s[20*i+j]?:=by
 unfold chk
 rw [List.getElem?_take,if_pos hj,List.getElem?_drop]
theorem u0j {x:Pt} (h:okR x=true) (hr:SmpR x.2) {i:Nat} (hi:i<nP x):OkP (x.1,chk x.2 i):=by
 obtain ⟨h1,h2,h3⟩:=n0n h
 unfold nP at hi
 refine ⟨h1,s0r h3 i,fun y hy=>hr y (List.mem_of_mem_drop (List.mem_of_mem_take hy)),?_,?_⟩
 ·show 0<(chk x.2 i).length
  rw [f0A];omega
 ·show (chk x.2 i).length≤20
  rw [f0A];omega
theorem w08 {x:Pt} (h:okR x=true) {i:Nat} (hi:i+1<nP x):mxS (chk x.2 i)<mnS (chk x.2 (i+1)):=by
 obtain ⟨_,_,h3⟩:=n0n h
 simp only [a0S,Bool.and_eq_true] at h3
 have hp:=j0w _ h3.1
 unfold nP at hi
 have hl:(chk x.2 i).length=20:=by rw [f0A];omega
 obtain ⟨a,ha⟩:=j7 (l:=x.2) (j:=20*i+19) (by omega)
 obtain ⟨b,hb⟩:=j7 (l:=x.2) (j:=20*(i+1)+0) (by omega)
 have e1:mxS (chk x.2 i)=a.1:=by unfold mxS;rw [hl,u0i (by omega),ha]
 have e2:mnS (chk x.2 (i+1))=b.1:=by unfold mnS;rw [u0i (by omega),hb]
 rw [e1,e2]
 exact s09 hp ha hb (by omega)
theorem k0B {x:Pt} (h:okR x=true) (hr:SmpR x.2) {rest:List Pt} (hrest:ChainP (some (x.1,chk x.2 (nP x - 1))) rest):∀ (k i:Nat) (pr:Option Pt),i+(k+1)=nP x→w0w pr (x.1,chk x.2 i) →
  ChainP pr (((List.range' i (k+1)).map fun i=>(x.1,chk x.2 i))++rest)
 | 0,i,pr,hk,hn=>by
  refine ⟨u0j h hr (by omega),hn,?_⟩
  have:i=nP x - 1:=by omega
  rw [this];exact hrest
 | k+1,i,pr,hk,hn=>by
  have ih:=k0B h hr hrest k (i+1) (some (x.1,chk x.2 i)) (by omega) (.inr ⟨rfl,w08 h (by omega)⟩)
  exact ⟨u0j h hr (by omega),hn,ih⟩
theorem k0C:∀ (L:List Pt) (pl:Option (List Lab)) (pr:Option Pt),i0S pl L=true→(∀ x ∈ L,SmpR x.2)→(match pl,pr with | none,none=>True | some l,some p=>p.1=l | _,_=>False)→ChainP pr (parts L)
 | [],_,_,_,_,_=>trivial
 | x::L,pl,pr,hc,hr,he=>by
  simp only [i0S,Bool.and_eq_true] at hc
  obtain ⟨⟨h1,h2⟩,h3⟩:=hc
  have hp:0<nP x:=by have:=(n0n h1).2.1;unfold nP;omega
  obtain ⟨k,hk⟩:∃ k,nP x=k+1:=⟨nP x - 1,by omega⟩
  have ih:=k0C L (some x.1) (some (x.1,chk x.2 (nP x - 1))) h3 (fun y hy=>hr y (List.mem_cons_of_mem _ hy)) rfl
  have hn:w0w pr (x.1,chk x.2 0):=by
   cases pr with
   | none=>trivial
   | some p =>
    cases pl with
    | none=>exact he.elim
    | some l =>
     simp only at he
     subst he
     exact .inl (by simpa [upR] using h2)
  have:=k0B h1 (hr x List.mem_cons_self) ih k 0 pr (by omega) hn
  show ChainP pr ((x::L).flatMap w07)
  rw [List.flatMap_cons]
  unfold w07
  rw [List.range_eq_range',hk]
  exact this
theorem a05:∀ (ss l:List Smp),(ss.foldl S1 l).length≤l.length+ss.length
 | [],l=>by simp
 | s::ss,l=>by
  have h1:=a05 ss (S1 l s)
  have h2:=m0g l s
  rw [List.foldl_cons,List.length_cons];omega
theorem a06:∀ (ss l:List Smp) (y:Smp),y ∈ ss.foldl S1 l→y ∈ l∨y ∈ ss
 | [],l,y,h=>.inl h
 | s::ss,l,y,h=>by
  rcases a06 ss (S1 l s) y h with h | h
  ·rcases m0h l s y h with h | h
   ·exact .inl h
   ·exact .inr (by simp [h])
  ·exact .inr (List.mem_cons_of_mem _ h)
theorem r0c:∀ (l:List Pt) (ls:List Lab) (ss:List Smp),S6 (d0h l ls ss)≤S6 l+ss.length
 | [],ls,ss=>by
  have:=a05 ss []
  simp only [d0h,S6,List.map_cons,List.map_nil,List.sum_cons,List.sum_nil,List.length_nil] at *;omega
 | y::l,ls,ss=>by
  have ih:=r0c l ls ss
  have h1:=a05 ss y.2
  have h2:=a05 ss []
  unfold d0h
  split
  ·simp only [S6,List.map_cons,List.sum_cons] at ih ⊢;omega
  ·split
   ·simp only [S6,List.map_cons,List.sum_cons] at ih ⊢;omega
   ·simp only [S6,List.map_cons,List.sum_cons,List.length_nil] at ih h2 ⊢;omega
theorem w09 (l:List Pt) (x:Pt):S6 (k0a l x)≤S6 l+x.2.length:=by
 unfold k0a;split
 ·omega
 ·exact r0c _ _ _
theorem g0a:∀ (xs l:List Pt),S6 (xs.foldl k0a l)≤S6 l+S6 xs
 | [],l=>by simp
 | x::xs,l=>by
  have h1:=g0a xs (k0a l x)
  have h2:=w09 l x
  have e:S6 (x::xs)=x.2.length+S6 xs:=by simp [S6]
  rw [List.foldl_cons,e];omega
theorem v0v (l:List Pt):S6 (f0I l)≤S6 l:=by
 have:=g0a l []
 simpa [f0I,S6] using this
theorem r0d (P:List Lab→Prop) (Q:Smp→Prop):∀ (l:List Pt) (ls:List Lab) (ss:List Smp),(∀ x ∈ l,P x.1∧∀ y ∈ x.2,Q y)→P ls→(∀ y ∈ ss,Q y)→∀ x ∈ d0h l ls ss,P x.1∧∀ y ∈ x.2,Q y
 | [],ls,ss,_,hp,hq,x,hx=>by
  simp only [d0h,List.mem_singleton] at hx
  subst hx
  exact ⟨hp,fun y hy=>(a06 ss [] y hy).elim (fun h=>by cases h) (hq y)⟩
 | y::l,ls,ss,hl,hp,hq,x,hx=>by
  have hy:=hl y List.mem_cons_self
  have ht:=fun z hz=>hl z (List.mem_cons_of_mem _ hz)
  unfold d0h at hx
  split at hx
  ·rcases List.mem_cons.1 hx with rfl | hx
   ·exact hy
   ·exact r0d P Q l ls ss ht hp hq x hx
  ·split at hx
   ·rcases List.mem_cons.1 hx with rfl | hx
    ·exact ⟨hy.1,fun z hz=>(a06 ss y.2 z hz).elim (hy.2 z) (hq z)⟩
    ·exact ht x hx
   ·rcases List.mem_cons.1 hx with rfl | hx
    ·exact ⟨hp,fun z hz=>(a06 ss [] z hz).elim (fun h=>by cases h) (hq z)⟩
    ·exact hl x hx
theorem v0w (P:List Lab→Prop) (Q:Smp→Prop) (l:List Pt) (h:∀ x ∈ l,P x.1∧∀ y ∈ x.2,Q y):∀ x ∈ f0I l,P x.1∧∀ y ∈ x.2,Q y:=by
 have key:∀ (xs out:List Pt),(∀ x ∈ xs,P x.1∧∀ y ∈ x.2,Q y)→(∀ x ∈ out,P x.1∧∀ y ∈ x.2,Q y)→∀ x ∈ xs.foldl k0a out,P x.1∧∀ y ∈ x.2,Q y:=by
  intro xs
  induction xs with
  | nil=>intro out _ h;exact h
  | cons x xs ih =>
   intro out hx ho
   rw [List.foldl_cons]
   refine ih _ (fun y hy=>hx y (List.mem_cons_of_mem _ hy)) ?_
   unfold k0a
   split
   ·exact ho
   ·exact r0d P Q out x.1 x.2 ho (hx x List.mem_cons_self).1 (hx x List.mem_cons_self).2
 exact key l [] h (fun x hx=>by cases hx)
end Go.Dk

namespace Go.Dk
open Go Go.Dr
set_option maxRecDepth 100000
theorem v0V {l:List (List Lab×List Smp)} (h:i0T l=true) (hv:∀ x ∈ l,x.2.length≤400∧∀ y ∈ x.2,y.2<2 ^ 64) (j:Nat):(j0s (l.take j)).length≤18660*l.length:=by
 have h1:=d0S (fun x=>g0G x (nP x)) 18660 (l.take j) (fun x hx=>by
  have hx:=List.mem_of_mem_take hx
  have h2:=s0t (n0n (k0i l none h x hx)).1 (hv x hx).2 (nP x)
  have h3:nP x≤20:=by have:=(hv x hx).1;unfold nP;omega
  have:=Nat.mul_le_mul_left 933 h3
  omega)
 have h2:(l.take j).length≤l.length:=by rw [List.length_take];omega
 have:=Nat.mul_le_mul_left 18660 h2
 unfold j0s
 omega
def D0y (xs:List Se):Prop:=xs.length≤8∧∀ x ∈ xs,x.2.2.length≤400
theorem n0S {h:AH} {n:Nat} {v:AV} {xs:List Se} (s:Sl h 2 n v (xs.flatMap srC)) (hf:D0y xs) (he:∀ x ∈ xs,SrOk h x) :
  Ev P SI (.fn c0U) [v] h (A05 h (xs.map r7)):=by
 refine k8 n0e rfl rfl ?_
 have hl:xs.length=n:=by have:=s.1;rw [t0j] at this;omega
 have hn6:=hf.1
 simp [g0C]
 refine (v0I s (by omega) he).mono ?_
 rintro r g ⟨rfl,f1⟩
 cases hc:i0T (xs.map r7) with
 | false =>
  simp [A05,hc]
  exact f1
 | true =>
  have hv:∀ x ∈ xs.map r7,x.2.length≤400∧∀ y ∈ x.2,y.2<2 ^ 64:=fun x hx=>by
   obtain ⟨y,hy,rfl⟩:=List.mem_map.1 hx
   exact ⟨hf.2 y hy,(he y hy).v64⟩
  have sg:=s.fr f1
  simp [sg.len]
  refine m8 (n:=n) (by rfl) (fun j σ ds g'=>ds=[]∧σ 15=v∧σ 16=.int .i64 (n:Int)∧Fr g g'∧Own g.next g' 1 (j0s ((xs.map r7).take j)).length (σ 4) (by8 (j0s ((xs.map r7).take j)))) (by omega) (by simp)
   ⟨rfl,by simp,by simp,.refl _,by simpa [j0s,by8] using Own.nil _ _⟩ (fun j σ ds g hJ=>by simp [hJ.2.2.1]) ?_ ?_
  ·rintro j σ ds g' hj hi ⟨rfl,e15,e16,fr,ho⟩
   obtain ⟨x,hx⟩:=j7 (l:=xs) (j:=j) (by omega)
   have hxm:=List.mem_of_getElem? hx
   obtain ⟨hcx,hpx,hsx⟩:=n0n (k0i _ none hc (r7 x) (List.mem_map.2 ⟨x,hxm,rfl⟩))
   have hcx:R9 x.1.2=true:=hcx
   have hsx:a0S x.2.2=true:=hsx
   have hok:=(he x hxm).fr (f1.trans fr)
   have h60:=hf.2 x hxm
   obtain ⟨id,o,a1,a2,_⟩:=r0s (sg.fr fr) hx
   have hpre:=v0V hc hv j
   rw [List.length_map] at hpre
   have hsn:j0s ((xs.map r7).take (j+1))=j0s ((xs.map r7).take j)++g0G (r7 x) (nP (r7 x)):=by
    have hx':(xs.map r7)[j]? = some (r7 x):=by simp [hx]
    rw [u9 _ _ _ hx',j0s,List.flatMap_append];simp [j0s]
   rw [hsn]
   generalize j0s ((xs.map r7).take j)=pre at *
   have hlc:=hok.lab.oneCell
   have hsc:=hok.smp.oneCell
   have stn:=l6 (h:=g') (n:=2) (z:=[.nils,.nils]) (l:=srC x) rfl rfl (by simp [srC,d8,hlc.2,hsc.2])
   have fp:=Fr.push (.refl g') (.cells (srC x) false)
   have ge:(g'.push (.cells (srC x) false)).get g'.next=some (.cells (srC x) false):=b8 _
   have gn:(g'.push (.cells (srC x) false)).next=g'.next+1:=rfl
   obtain ⟨ov,hov⟩:∃ ov,σ 4=ov:=⟨_,rfl⟩
   rw [hov] at ho
   have hne:j9 ov≠some g'.next:=fun e=>by have:=Sl.idLt ho.sl e;omega
   simp [e15,hi,a1,a2,s7,stn]
   generalize hgE:g'.push (.cells (srC x) false)=gE at *
   obtain ⟨N,hN⟩:∃ N,N=nP (r7 x):=⟨_,rfl⟩
   have hN2:N=(x.2.2.length+19)/20:=hN
   refine M5 (fun q σ' ds g2=>∃ i ov',q+i=N∧ds=[]∧σ' 15=v∧σ' 16=.int .i64 (n:Int)∧σ' 17=.int .i64 (j:Int)∧σ' 6=.ptr g'.next 0∧σ' 7=.int .i64 (20*(i:Int))∧σ' 4=ov'∧Fr g g2∧g2.get g'.next=some (.cells (srC x) false)∧gE.next≤g2.next ∧
     Own g.next g2 1 (pre.length+(g0G (r7 x) i).length) ov' (by8 (pre++g0G (r7 x) i))∧j9 ov'≠some g'.next) N
    ⟨0,ov,by omega,rfl,by simp [e15],by simp [e16],by simp [hi],by simp,by simp,by simp [hov],fr.trans fp,ge,Nat.le_refl _,by simpa [g0G] using ho.fr fp,hne⟩ ?_
   rintro q σ' ds g2 ⟨i,ov',hq,rfl,e15,e16,e17,e6,e7,e4,fr2,ge2,hn2,ho2,hne2⟩
   have hok2:=(he x hxm).fr (f1.trans fr2)
   have m0:load1 g2 g'.next 0=.ok x.1.1:=b7 ge2
   have m1:load1 g2 g'.next 1=.ok x.2.1:=b7 ge2
   have hsb:=s0t (x:=r7 x) hcx hok.v64 i
   by_cases hiN:i<N
   case neg =>
    have:i=N:=by omega
    subst this
    have c1:¬ (20*(i:Int)<(x.2.2.length:Int)):=by omega
    simp [e7,e6,m1,hok2.smp.len,c1,e15,e16,e17,e4]
    rw [← hN]
    exact ⟨fr2,by simpa using ho2⟩
   have c1:20*(i:Int)<(x.2.2.length:Int):=by omega
   simp [e7,e6,m0,m1,hok2.smp.len,c1]
   refine (q0m hok2.lab hok2.short).mono ?_
   rintro r g3 ⟨f3,hr⟩
   rw [if_pos hcx] at hr
   obtain ⟨bv,rfl,ob⟩:=hr
   have ge3:g3.get g'.next=some (.cells (srC x) false):=by rw [f3.get _ (by omega),ge2]
   have m13:load1 g3 g'.next 1=.ok x.2.1:=b7 ge3
   have hok3:=hok2.fr f3
   obtain ⟨u,eu,su⟩:=A06 hok3.smp i (by omega)
   have wi:b9 .i64 (20*(i:Int)+20)=20*(i:Int)+20:=wrap_i64 (by omega) (by omega)
   have hmin:min (20*(i:Int)+20) (x.2.2.length:Int)=((min (20*i+20) x.2.2.length:Nat):Int):=by omega
   have h20:((20*i:Nat):Int)=20*(i:Int):=by omega
   rw [h20] at eu
   generalize min (20*i+20) x.2.2.length=mm at *
   simp [e7,e6,m13,hok3.smp.len,wi,hmin,eu]
   refine (i0q su (by rw [f0A];omega) (y0f hok.v64 i)).mono ?_
   rintro r g4 ⟨f4,hr⟩
   rw [if_pos (s0r hsx i)] at hr
   obtain ⟨w,rfl,sw⟩:=hr
   have hel:=s0s hcx
   have hes:=n0m (y0f hok.v64 i) (by rw [f0A];omega)
   have ob4:=ob.fr f4
   have n3:=f3.next
   have n4:=f4.next
   obtain ⟨bv2,g5,c2,ob5,fb5,p5,q5⟩:=ob4.append (bytes:=1) sw (by omega) (C8 _) (by omega) (by omega)
   rw [← M1] at ob5
   have n5:=fb5.next
   have ho5:Own g.next g5 1 (pre.length+(g0G (r7 x) i).length) ov' (by8 (pre++g0G (r7 x) i)):=ho2.fr (A0x (f3.trans f4) fb5 (Nat.le_refl _))
   have hbl:(d0u x.1.2++P0 (chk x.2.2 i)).length≤929:=by rw [List.length_append];omega
   have hbl2:(d0u x.1.2).length+(P0 (chk x.2.2 i)).length=(d0u x.1.2++P0 (chk x.2.2 i)).length:=by rw [List.length_append]
   rw [hbl2] at ob5
   have hpart:V2 (r7 x).1 (chk (r7 x).2 i)=be 4 (d0u x.1.2++P0 (chk x.2.2 i)).length++(d0u x.1.2++P0 (chk x.2.2 i)):=rfl
   have hov2:∀ k,j9 ov'=some k→k<g2.next:=fun k e=>Sl.idLt ho2.sl e
   have hbv2:∀ k,j9 bv2=some k→g2.next≤k:=fun k e=>by
    by_cases hk:k<g2.next
    ·exact absurd e (ob5.ne hk)
    ·omega
   generalize d0u x.1.2++P0 (chk x.2.2 i)=B at *
   obtain ⟨bl,hblr⟩:∃ bl,B.length=bl:=⟨_,rfl⟩
   rw [hblr] at ob5 hpart hbl
   have wu:b9 .u64 (bl:Int)=(bl:Int):=wrap_u64 (by omega) (by omega)
   have rp:=fun K=>g06 bl 4 (by omega) (by omega) g5 K
   obtain ⟨ov3,g6,c3,ho6,fb6,p6,n6,i6⟩:=X8 (bs:=be 4 bl) (k:=4) ho5 (by simp) (by have:=fr2.next;omega) (by omega)
   have sb6:Sl g6 1 bl bv2 (by8 B):=Sl.same_get ob5.sl (by omega) (fun k hk=>p6 k (Sl.idLt ob5.sl hk) (fun e=>by have:=hov2 k e;have:=hbv2 k hk;omega))
   obtain ⟨ov4,g7,c4,ho7,fb7,p7,i7⟩:=ho6.append (bytes:=1) sb6 (by have:=fr2.next;omega) (C8 _) (by omega) (by omega)
   have n7:=fb7.next
   have rp4:∀ K,Ev P SI (.fn S9) [.int .u64 (bl:Int),.int .i64 4] g5 K=K (.slice g5.next 0 4 4 true 1) (g5.push (.cells (by8 (be 4 bl)) false)):=rp
   have w20:b9 .i64 (20*(i:Int)+20)=20*(i:Int)+20:=wi
   have hlen5:=ob5.sl.len
   simp [c2,e4,hlen5,wu,rp4,c3,c4,e7,w20,l7]
   have ge5:g5.get g'.next=some (.cells (srC x) false):=by rw [fb5.get _ (by omega),f4.get _ (by omega),ge3]
   have ge6:g6.get g'.next=some (.cells (srC x) false):=by rw [p6 _ (by omega) hne2,ge5]
   have hne3:j9 ov3≠some g'.next:=fun e=>by
    rcases i6 _ e with e | e
    ·exact hne2 e
    ·omega
   have ge7:g7.get g'.next=some (.cells (srC x) false):=by rw [p7 _ (by omega) hne3,ge6]
   have hne4:j9 ov4≠some g'.next:=fun e=>by
    rcases i7 _ e with e | e
    ·exact hne3 e
    ·omega
   refine ⟨q - 1,by omega,i+1,by omega,e15,e16,e17,e6,by omega,?_,ge7,by omega,?_,hne4⟩
   ·refine ⟨by have:=fr2.next;omega,fun k hk=>?_⟩
    have:=fr2.next
    rw [fb7.get k hk,fb6.get k hk,fb5.get k (by omega),f4.get k (by omega),f3.get k (by omega),fr2.get k hk]
   ·rw [w0l,hpart]
    have e1:pre.length+(g0G (r7 x) i++(be 4 bl++B)).length=pre.length+(g0G (r7 x) i).length+4+bl:=by simp only [List.length_append,r8];omega
    rw [e1]
    have e2:by8 (pre++(g0G (r7 x) i++(be 4 bl++B)))=by8 (pre++g0G (r7 x) i++be 4 bl)++by8 B:=by rw [← M1];simp
    rw [e2]
    exact ho7
  ·rintro σ ds g' ⟨rfl,e15,e16,fr,ho⟩
   rw [List.take_of_length_le (by rw [List.length_map];omega)] at ho
   simp [A05,hc]
   exact ⟨f1.trans fr,ho.sl⟩
end Go.Dk

namespace Go.Dk
open Go Go.Dr
set_option maxRecDepth 100000
structure SjIn (h:AH) (x:Sj):Prop where
 lab:Sl h 2 x.1.2.length x.1.1 (x.1.2.flatMap E2)
 smp:Sl h 2 x.2.2.length x.2.1 (x.2.2.flatMap smC)
 short:X0 x.1.2
 rng:∀ y ∈ x.2.2,(-9223372036854775808≤y.1∧y.1<9223372036854775808)∧y.2<2 ^ 64
structure FewS (k:Nat) (y:Sj):Prop where
 short:X0 y.1.2
 rng:∀ z ∈ y.2.2,(-9223372036854775808≤z.1∧z.1<9223372036854775808)∧z.2<2 ^ 64
 lab:y.1.2.length≤10
 smp:y.2.2.length≤k
def s03 (h:AH) (k:Nat) (ys:List Sj):Prop:=∀ y ∈ ys,SjOk h y∧FewS k y
def w00 (h:AH) (m k:Nat) (r:AV) (g:AH):Prop:=Fr h g∧∃ ys:List Sj,Sl g 2 ys.length r (ys.flatMap sjC)∧ys.length≤m∧s03 g k ys
theorem v0q (mo k:Nat) (hmo:mo≤100) (hk:k≤2 ^ 40) {h:AH} {n:Nat} {v:AV} {xs:List Sj} (s:Sl h 2 n v (xs.flatMap sjC)) (hn:n<2 ^ 62) (he:∀ x ∈ xs,SjIn h x) :
  Ev P SI (.fn d0H) [v,.int .i64 (mo:Int),.int .i64 (k:Int)] h (w00 h mo k):=by
 refine k8 s0l rfl rfl ?_
 have hl:xs.length=n:=by have:=s.1;rw [t0y] at this;omega
 simp [k0X,s.len]
 refine m8 (n:=n) (by rfl) (fun j σ ds g=>ds=[]∧σ 1=.int .i64 (mo:Int)∧σ 2=.int .i64 (k:Int)∧σ 10=v∧σ 11=.int .i64 (n:Int)∧Fr h g∧∃ ys:List Sj,Own h.next g 2 ys.length (σ 7) (ys.flatMap sjC)∧ys.length≤j∧ys.length≤mo∧s03 h k ys) (by omega) (by simp)
  ⟨rfl,by simp,by simp,by simp,by simp,.refl _,[],by simpa using Own.nil _ _,by simp,by simp,fun y hy=>by simp at hy⟩ (fun j σ ds g hJ=>by simp [hJ.2.2.2.2.1]) ?_ ?_
 ·rintro j σ ds g hj hi ⟨rfl,e1,e2,e10,e11,fr,ys,ho,hyj,hy6,hys⟩
  obtain ⟨x,hx⟩:=j7 (l:=xs) (j:=j) (by omega)
  have hok:=he x (List.mem_of_getElem? hx)
  obtain ⟨id,o,a1,a2,_⟩:=r0R (s.fr fr) hx
  have hlc:=hok.lab.oneCell
  have hsc:=hok.smp.oneCell
  have stn:=l6 (h:=g) (n:=2) (z:=[.nils,.nils]) (l:=sjC x) rfl rfl (by simp [sjC,d8,hlc.2,hsc.2])
  have fp:=Fr.push (.refl g) (.cells (sjC x) false)
  have ge:(g.push (.cells (sjC x) false)).get g.next=some (.cells (sjC x) false):=b8 _
  have gn:(g.push (.cells (sjC x) false)).next=g.next+1:=rfl
  obtain ⟨ov,hov⟩:∃ ov,σ 7=ov:=⟨_,rfl⟩
  rw [hov] at ho
  have ho1:=ho.fr fp
  have fr1:=fr.trans fp
  have stop:∃ ys':List Sj,Own h.next (g.push (.cells (sjC x) false)) 2 ys'.length ov (ys'.flatMap sjC)∧ys'.length≤j+1∧ys'.length≤mo∧s03 h k ys':=⟨ys,ho1,by omega,hy6,hys⟩
  generalize hg1:g.push (.cells (sjC x) false)=g1 at *
  have m0:load1 g1 g.next 0=.ok x.1.1:=b7 ge
  have m1:load1 g1 g.next 1=.ok x.2.1:=b7 ge
  have ll:=(hok.lab.fr fr1).len
  have sl:=(hok.smp.fr fr1).len
  by_cases c1:j<mo
  ·have c1':(j:Int)<mo:=by omega
   by_cases c2:x.1.2.length≤10
   ·have c2':(x.1.2.length:Int)≤10:=by omega
    obtain ⟨m,hm⟩:∃ m,min x.2.2.length k=m:=⟨_,rfl⟩
    have hmi:min (x.2.2.length:Int) (k:Int)=(m:Int):=by omega
    obtain ⟨u,eu,su⟩:=hok.smp.slice (lo:=none) (hi:=some (.int .i64 (m:Int))) (a:=0) (b:=m) (.inl ⟨rfl,rfl⟩) (.inr ⟨.i64,rfl⟩) (by omega) (by omega)
    rw [Nat.zero_mul,List.drop_zero,Nat.sub_zero,a0R (es:=2) (f:=smC) x.2.2 (fun _ _=>rfl)] at su
    have hml:(x.2.2.take m).length=m:=by rw [List.length_take];omega
    have huc:=su.oneCell
    have hy:SjOk h (x.1,(u,x.2.2.take m))∧FewS k (x.1,(u,x.2.2.take m)):=⟨⟨hok.lab,by show Sl h 2 (x.2.2.take m).length u _;rw [hml];exact su⟩,hok.short,fun y hy=>hok.rng y (List.mem_of_mem_take hy),by show x.1.2.length≤_;omega,by show (x.2.2.take m).length≤_;omega⟩
    obtain ⟨ov',g2,ap,ho2,fb⟩:=ho1.snoc (bytes:=48) (x:=sjC (x.1,(u,x.2.2.take m))) (by have:=fr1.next;omega) rfl (by simp [sjC,d8,hlc.2,huc.2]) (by omega) (by omega)
    have gep:(g1.push (.cells (sjC (x.1,(u,x.2.2.take m))) false)).get g.next=some (.cells (sjC x) false):=(c7 (show g.next≠g1.next by omega)).trans ge
    have m0p:load1 (g1.push (.cells (sjC (x.1,(u,x.2.2.take m))) false)) g.next 0=.ok x.1.1:=b7 gep
    have m1p:load1 (g1.push (.cells (sjC (x.1,(u,x.2.2.take m))) false)) g.next 1=.ok x.2.1:=b7 gep
    have q1:=hok.lab.same
    have q2:=hok.smp.same
    simp only [sjC] at ap m0p m1p
    simp [e1,e2,e10,e11,hi,a1,s7,a2,stn,hg1,m0,m1,ll,sl,c1',c2',hov,hmi,eu,i9,hlc.1,huc.1,m0p,m1p,q1,q2,ap]
    refine ⟨⟨Nat.le_trans fr1.next fb.next,fun i hi=>by rw [fb.get i hi,fr1.get i hi]⟩,ys++[(x.1,(u,x.2.2.take m))],?_,by simp;omega,by simp;omega,?_⟩
    ·rw [List.length_append,List.flatMap_append]
     simpa using ho2
    ·intro y hy2
     rcases List.mem_append.1 hy2 with hy2 | hy2
     ·exact hys y hy2
     ·simp at hy2
      subst hy2
      exact hy
   ·have c2':¬ (x.1.2.length:Int)≤10:=by omega
    simp [e1,e2,e10,e11,hi,a1,s7,a2,stn,hg1,m0,ll,c1',c2',hov]
    exact ⟨fr1,stop⟩
  ·have c1':¬ (j:Int)<mo:=by omega
   simp [e1,e2,e10,e11,hi,a1,s7,a2,stn,hg1,c1',hov]
   exact ⟨fr1,stop⟩
 ·rintro σ ds g ⟨rfl,e1,e2,e10,e11,fr,ys,ho,hyj,hy6,hys⟩
  have hK:w00 h mo k (σ 7) g:=⟨fr,ys,ho.sl,hy6,fun y hy=>⟨(hys y hy).1.fr fr,(hys y hy).2⟩⟩
  simp
  exact hK
end Go.Dk

namespace Go.Dk
open Go Go.Dr
set_option maxRecDepth 100000
theorem u0c (k:Nat):∀ L:List Pt,(∀ x ∈ L,x.2.length≤k)→S6 L≤k*L.length
 | [],_=>by simp [S6]
 | x::L,h=>by
  have h1:=h x List.mem_cons_self
  have ih:=u0c k L fun y hy=>h y (List.mem_cons_of_mem _ hy)
  have e:S6 (x::L)=x.2.length+S6 L:=by simp [S6]
  rw [e,List.length_cons,Nat.mul_add];omega
theorem p0B {h:AH} {n:Nat} {v:AV} {xs:List Sj} (s:Sl h 2 n v (xs.flatMap sjC)) (hn:n<2 ^ 62) (he:∀ x ∈ xs,SjIn h x) :
  Ev P SI (.fn c0T) [v] h fun r g=>Fr h g∧∃ ps:List Pt,ChainP none ps∧ps.length≤27∧Sl g 1 (e0Z ps).length r (by8 (e0Z ps)):=by
 refine k8 n0d rfl rfl ?_
 have pf:Ev P SI (.fn d0H) [v,.int .i64 8,.int .i64 50] h (w00 h 8 50):=v0q 8 50 (by omega) (by omega) s hn he
 simp [g0B]
 refine pf.mono ?_
 rintro r g ⟨f1,ys,sy,hy8,hy⟩
 have ht:S6 (ys.map plJ)≤400:=by
  have:=u0c 50 (ys.map plJ) fun x hx=>by
   obtain ⟨y,hym,rfl⟩:=List.mem_map.1 hx
   exact (hy y hym).2.smp
  rw [List.length_map] at this;omega
 simp
 refine (t0U sy (by omega) (fun x hx=>(hy x hx).1) (by omega) (fun x hx=>by have:=(hy x hx).2.lab;omega)).mono ?_
 rintro r g2 ⟨f2,zs,hz,hI⟩
 have hzl:zs.length≤8:=by
  have h1:=p0g (ys.map plJ) (ys.map plJ).length
  rw [List.take_of_length_le (Nat.le_refl _),← hz,List.length_map,List.length_map] at h1
  omega
 have hmem:=v0w X0 (fun z=>(-9223372036854775808≤z.1∧z.1<9223372036854775808)∧z.2<2 ^ 64) (ys.map plJ) fun x hx=>by
  obtain ⟨y,hym,rfl⟩:=List.mem_map.1 hx
  exact ⟨(hy y hym).2.short,(hy y hym).2.rng⟩
 rw [← hz] at hmem
 have hso:∀ x ∈ zs,SrOk g2 x∧SmpR x.2.2∧x.2.2.length≤400:=fun x hx=>by
  obtain ⟨h1,_,_,_,h5,h6⟩:=hI.el x hx
  obtain ⟨m1,m2⟩:=hmem (plJ x) (List.mem_map.2 ⟨x,hx,rfl⟩)
  exact ⟨⟨h1.lab,h1.smp,m1,h6,by omega,fun y hy=>(m2 y hy).2⟩,m2,by omega⟩
 have hsl:Sl g2 2 zs.length r (zs.flatMap srC):=hI.own.sl
 simp
 refine (n0S hsl ⟨hzl,fun x hx=>(hso x hx).2.2⟩ (fun x hx=>(hso x hx).1)).mono ?_
 rintro r g3 ⟨f3,hr⟩
 have F:=(f1.trans f2).trans f3
 by_cases hc:i0T (zs.map r7)=true
 ·rw [if_pos hc] at hr
  obtain ⟨w,rfl,sw⟩:=hr
  simp
  have hch:=k0C (zs.map r7) none none hc (fun x hx=>by
   obtain ⟨y,hym,rfl⟩:=List.mem_map.1 hx
   exact (hso y hym).2.1) trivial
  have hpl:=o0B (zs.map r7)
  have htt:S6 (zs.map r7)≤400:=by
   have h1:=v0v (ys.map plJ)
   rw [← hz] at h1
   exact Nat.le_trans h1 ht
  rw [List.length_map] at hpl
  rw [t0a] at sw
  exact ⟨F,parts (zs.map r7),hch,by omega,sw⟩
 ·rw [if_neg hc] at hr
  subst hr
  simp
  exact ⟨F,[],trivial,by simp,by simpa [e0Z,by8] using Sl.nil 1⟩
theorem y0U {l:List Lab}:∀ x ∈ d0u l,x<256:=by
 intro x hx
 unfold d0u at hx
 have ht:∀ s:Txt,∀ x ∈ txB s,x<256:=fun s x hx=>by
  unfold txB at hx
  rcases List.mem_cons.1 hx with rfl | hx
  ·omega
  ·obtain ⟨y,_,rfl⟩:=List.mem_map.1 hx
   exact y.toNat_lt
 rcases List.mem_cons.1 hx with rfl | hx
 ·omega
 ·obtain ⟨k,_,hx⟩:=List.mem_flatMap.1 hx
  rcases List.mem_append.1 hx with hx | hx
  ·exact ht _ x hx
  ·exact ht _ x hx
theorem u0d (ps:List Pt):∀ x ∈ e0Z ps,x<256:=by
 intro x hx
 obtain ⟨p,_,hx⟩:=List.mem_flatMap.1 hx
 unfold V2 at hx
 rcases List.mem_append.1 hx with hx | hx
 ·exact k0Q _ _ x hx
 ·rcases List.mem_append.1 hx with hx | hx
  ·exact y0U x hx
  ·exact t0Y _ x hx
theorem BuildK.pts {h g:AH} {ps:List Pt} {r:AV} (hc:ChainP none ps) (hl:ps.length≤27) (hr:BuildK h (e0Z ps) r g) :
  Fr h g∧∃ (v:AV) (xs:List (AV×Ep)),r=.tuple [v,.int .i64 0]∧xs.map (·.2)=j0v 0 ps∧Sl g 5 xs.length v (xs.flatMap enC)∧xs.length=ps.length∧∀ x ∈ xs,EnOk g x∧X0 x.2.ls∧x.2.ls.length<2 ^ 62:=by
 obtain ⟨f,hr⟩:=hr
 have hb:=l0y ps hc.ok
 rw [q0r ps _ 0 hc.ok hb.1,if_pos ⟨rfl,q0s hc (by omega)⟩] at hr
 obtain ⟨v,xs,h1,h2,h3,_,h5⟩:=hr
 refine ⟨f,v,xs,h1,h2,h3,?_,h5⟩
 have:=congrArg List.length h2
 rw [List.length_map,e0z] at this
 exact this
theorem l0a {h:AH} {n:Nat} {v:AV} {xs:List Sj} (s:Sl h 2 n v (xs.flatMap sjC)) (hn:n<2 ^ 62) (he:∀ x ∈ xs,SjIn h x) (ht:TabIn h) :
  Ev P SI (.fn Y2) [v] h fun r _=>r=.bool true:=by
 refine k8 h0e rfl rfl ?_
 simp only [c0b,Q1]
 simp
 refine (p0B s hn he).mono ?_
 rintro b g1 ⟨f1,ps,hc,hp,sb⟩
 have hb:=l0y ps hc.ok
 have hcE:=q0s hc (by omega)
 simp
 refine (r0L sb (by omega) (u0d ps) (ht.fr f1)).mono ?_
 intro r g2 hr
 obtain ⟨f2,x,xs2,rfl,hx,sx,hxl,hxo⟩:=BuildK.pts hc hp hr
 simp
 refine (q0L (sb.fr f2) (by omega) (u0d ps)).mono ?_
 intro r g3 hr
 obtain ⟨f3,y,ys,rfl,hy,sy,hyl,hyo⟩:=BuildK.pts hc hp hr
 simp
 refine (j0c (sx.fr f3) (by omega) (fun z hz=>⟨(hxo z hz).1.fr f3,(hxo z hz).2⟩)).mono ?_
 intro r g4 hr
 unfold j0b at hr
 rw [hx,if_pos hcE] at hr
 obtain ⟨p,rfl,sp,f4⟩:=hr
 simp
 refine (p09 (sy.fr f4) (by omega) (fun z hz=>⟨(hyo z hz).1.fr f4,(hyo z hz).2⟩)).mono ?_
 intro r g5 hr
 unfold j0b at hr
 rw [hy,if_pos hcE] at hr
 obtain ⟨q,rfl,sq,f5⟩:=hr
 have hBs:=q0k (l:=j0v 0 ps) (by rw [e0z];omega) hcE
 have hrd:=w0m (l:=j0v 0 ps) (by rw [e0z];omega) hcE (t0Z ps 0 hc.ok)
 simp
 refine (p0L (sp.fr f5) hBs (m0V _)).mono ?_
 intro r g6 hr
 rcases hr.cases with ⟨rfl,f6,hno⟩ | ⟨z,zs,rfl,f6,hz,sz,hzl,hzo⟩
 ·exact absurd ⟨hrd,hcE,rfl⟩ (hno _)
 have hzE:zs.map (·.2)=j0v 0 ps:=Option.some.inj (hz.1.symm.trans hrd)
 have hzl2:zs.length=ps.length:=by
  have:=congrArg List.length hzE
  rw [List.length_map,e0z] at this
  exact this
 have f36:=(f4.trans f5).trans f6
 simp
 refine (j0t (n:=xs2.length) (sx.fr (f3.trans f36)) (by rw [hxl,← hyl];exact sy.fr f36) (by omega) (fun w hw=>⟨(hxo w hw).1.fr (f3.trans f36),(hxo w hw).2.2⟩) (fun w hw=>(hyo w hw).1.fr f36) (hx.trans hy.symm)).mono ?_
 rintro r g7 ⟨rfl,f7⟩
 have eb:=r0e ((sp.fr (f5.trans f6)).fr f7) (sq.fr (f6.trans f7)) (by omega)
 simp [eb]
 refine (j0t (n:=zs.length) (sz.fr f7) (by rw [hzl2,← hxl];exact sx.fr ((f3.trans f36).trans f7)) (by omega) (fun w hw=>⟨(hzo w hw).1.fr f7,(hzo w hw).2.2⟩) (fun w hw=>(hxo w hw).1.fr ((f3.trans f36).trans f7)) (hzE.trans hx.symm)).mono ?_
 rintro r g8 ⟨rfl,f8⟩
 simp [x08]
end Go.Dk

namespace Go.Proofs
open Go.Shelf
def Tryz.mSort_ren:Go.Shelf.Ren:=⟨fun | 6=>106 | 8=>137 | 9=>136 | 19=>160 | 20=>161 | 21=>151 | 22=>152 | 23=>153 | 24=>154 | 25=>155 | 26=>156 | 27=>157 | 28=>158 | 29=>159 | 36=>177 | 31=>178 | 32=>179 | 37=>180 | 38=>181 | 39=>117 | 41=>185 | n=>n,fun | 27=>53 | 29=>9 | 3=>3 | 32=>174 | 26=>53 | 0=>0 | 44=>207 | 46=>66 | 4=>4 | 36=>199 | 35=>198 | 41=>204 | 5=>5 | 9=>9 | 53=>221 | 57=>224 | 63=>228 | 64=>229 | n=>n,fun | n=>n⟩
theorem Tryz.mSort:Go.Proofs.SlLaysM.n6 Tryz.prog Tryz.mSort_ren:={
 mixed:=by kernel_rfl
 f6:=⟨Tryz.f106.name,by decide,Tryz.func106.trans (congrArg some (by kernel_rfl))⟩
 f8:=Tryz.func137.trans (congrArg some (by kernel_rfl))
 f9:=⟨Tryz.f136.name,by decide,Tryz.func136.trans (congrArg some (by kernel_rfl))⟩
 f19:=Tryz.func160.trans (congrArg some (by kernel_rfl))
 f20:=Tryz.func161.trans (congrArg some (by kernel_rfl))
 f21:=⟨Tryz.f151.name,by decide,Tryz.func151.trans (congrArg some (by kernel_rfl))⟩
 f22:=⟨Tryz.f152.name,by decide,Tryz.func152.trans (congrArg some (by kernel_rfl))⟩
 f23:=⟨Tryz.f153.name,by decide,Tryz.func153.trans (congrArg some (by kernel_rfl))⟩
 f24:=⟨Tryz.f154.name,by decide,Tryz.func154.trans (congrArg some (by kernel_rfl))⟩
 f25:=⟨Tryz.f155.name,by decide,Tryz.func155.trans (congrArg some (by kernel_rfl))⟩
 f26:=⟨Tryz.f156.name,by decide,Tryz.func156.trans (congrArg some (by kernel_rfl))⟩
 f27:=⟨Tryz.f157.name,by decide,Tryz.func157.trans (congrArg some (by kernel_rfl))⟩
 f28:=⟨Tryz.f158.name,by decide,Tryz.func158.trans (congrArg some (by kernel_rfl))⟩
 f29:=⟨Tryz.f159.name,by decide,Tryz.func159.trans (congrArg some (by kernel_rfl))⟩
 f31:=Tryz.func178.trans (congrArg some (by kernel_rfl))
 f32:=Tryz.func179.trans (congrArg some (by kernel_rfl))
 f36:=⟨Tryz.f177.name,by decide,Tryz.func177.trans (congrArg some (by kernel_rfl))⟩
 f37:=⟨Tryz.f180.name,by decide,Tryz.func180.trans (congrArg some (by kernel_rfl))⟩
 f38:=⟨Tryz.f181.name,by decide,Tryz.func181.trans (congrArg some (by kernel_rfl))⟩
 f39:=⟨Tryz.f117.name,by decide,Tryz.func117.trans (congrArg some (by kernel_rfl))⟩
 f41:=⟨Tryz.f185.name,by decide,Tryz.func185.trans (congrArg some (by kernel_rfl))⟩
 t0:=Tryz.underlying0
 a0:=Tryz.isAgg0
 z0:=Tryz.sizeOf0
 v0:=Tryz.zeroValue0
 t3:=Tryz.underlying3
 a3:=Tryz.isAgg3
 z3:=Tryz.sizeOf3
 v3:=Tryz.zeroValue3
 t4:=Tryz.underlying4
 a4:=Tryz.isAgg4
 z4:=Tryz.sizeOf4
 v4:=Tryz.zeroValue4
 t5:=Tryz.underlying5
 a5:=Tryz.isAgg5
 z5:=Tryz.sizeOf5
 v5:=Tryz.zeroValue5
 t9:=Tryz.underlying9
 a9:=Tryz.isAgg9
 z9:=Tryz.sizeOf9
 v9:=Tryz.zeroValue9
 t26:=Tryz.underlying53
 a26:=Tryz.isAgg53
 z26:=Tryz.sizeOf53
 v26:=Tryz.zeroValue53
 t27:=Tryz.underlying53
 a27:=Tryz.isAgg53
 z27:=Tryz.sizeOf53
 v27:=Tryz.zeroValue53
 t29:=Tryz.underlying9
 a29:=Tryz.isAgg9
 z29:=Tryz.sizeOf9
 v29:=Tryz.zeroValue9
 t32:=Tryz.underlying174
 a32:=Tryz.isAgg174
 z32:=Tryz.sizeOf174
 v32:=Tryz.zeroValue174
 t35:=Tryz.underlying198
 a35:=Tryz.isAgg198
 z35:=Tryz.sizeOf198
 v35:=Tryz.zeroValue198
 t36:=Tryz.underlying199
 a36:=Tryz.isAgg199
 z36:=Tryz.sizeOf199
 v36:=Tryz.zeroValue199
 t41:=Tryz.underlying204
 a41:=Tryz.isAgg204
 z41:=Tryz.sizeOf204
 v41:=Tryz.zeroValue204
 t44:=Tryz.underlying207
 a44:=Tryz.isAgg207
 z44:=Tryz.sizeOf207
 v44:=Tryz.zeroValue207
 t46:=Tryz.underlying66
 a46:=Tryz.isAgg66
 z46:=Tryz.sizeOf66
 v46:=Tryz.zeroValue66
 t53:=Tryz.underlying221
 a53:=Tryz.isAgg221
 z53:=Tryz.sizeOf221
 v53:=Tryz.zeroValue221
 t57:=Tryz.underlying224
 a57:=Tryz.isAgg224
 z57:=Tryz.sizeOf224
 v57:=Tryz.zeroValue224
 t63:=Tryz.underlying228
 a63:=Tryz.isAgg228
 z63:=Tryz.sizeOf228
 v63:=Tryz.zeroValue228
 t64:=Tryz.underlying229
 a64:=Tryz.isAgg229
 z64:=Tryz.sizeOf229
 v64:=Tryz.zeroValue229 }
def Tryz.pSort_ren:Go.Shelf.Ren:=⟨fun | 6=>110 | 15=>137 | 14=>139 | 28=>160 | 29=>161 | 20=>162 | 21=>163 | 22=>164 | 23=>165 | 24=>166 | 25=>167 | 26=>168 | 27=>169 | 46=>182 | 47=>178 | 48=>179 | 49=>183 | 50=>184 | 57=>186 | n=>n,fun | 22=>113 | 24=>108 | 25=>112 | 3=>3 | 39=>174 | 0=>0 | 53=>207 | 55=>66 | 4=>4 | 46=>199 | 45=>198 | 50=>204 | 5=>5 | 9=>9 | 66=>221 | 70=>224 | 76=>228 | 77=>229 | n=>n,fun | n=>n⟩
theorem Tryz.pSort:Go.Proofs.SlLaysF0.n6 Tryz.prog Tryz.pSort_ren:={
 mixed:=by kernel_rfl
 f6:=⟨Tryz.f110.name,by decide,Tryz.func110.trans (congrArg some (by kernel_rfl))⟩
 f14:=⟨Tryz.f139.name,by decide,Tryz.func139.trans (congrArg some (by kernel_rfl))⟩
 f15:=Tryz.func137.trans (congrArg some (by kernel_rfl))
 f20:=⟨Tryz.f162.name,by decide,Tryz.func162.trans (congrArg some (by kernel_rfl))⟩
 f21:=⟨Tryz.f163.name,by decide,Tryz.func163.trans (congrArg some (by kernel_rfl))⟩
 f22:=⟨Tryz.f164.name,by decide,Tryz.func164.trans (congrArg some (by kernel_rfl))⟩
 f23:=⟨Tryz.f165.name,by decide,Tryz.func165.trans (congrArg some (by kernel_rfl))⟩
 f24:=⟨Tryz.f166.name,by decide,Tryz.func166.trans (congrArg some (by kernel_rfl))⟩
 f25:=⟨Tryz.f167.name,by decide,Tryz.func167.trans (congrArg some (by kernel_rfl))⟩
 f26:=⟨Tryz.f168.name,by decide,Tryz.func168.trans (congrArg some (by kernel_rfl))⟩
 f27:=⟨Tryz.f169.name,by decide,Tryz.func169.trans (congrArg some (by kernel_rfl))⟩
 f28:=Tryz.func160.trans (congrArg some (by kernel_rfl))
 f29:=Tryz.func161.trans (congrArg some (by kernel_rfl))
 f46:=⟨Tryz.f182.name,by decide,Tryz.func182.trans (congrArg some (by kernel_rfl))⟩
 f47:=Tryz.func178.trans (congrArg some (by kernel_rfl))
 f48:=Tryz.func179.trans (congrArg some (by kernel_rfl))
 f49:=⟨Tryz.f183.name,by decide,Tryz.func183.trans (congrArg some (by kernel_rfl))⟩
 f50:=⟨Tryz.f184.name,by decide,Tryz.func184.trans (congrArg some (by kernel_rfl))⟩
 f57:=⟨Tryz.f186.name,by decide,Tryz.func186.trans (congrArg some (by kernel_rfl))⟩
 t0:=Tryz.underlying0
 a0:=Tryz.isAgg0
 z0:=Tryz.sizeOf0
 v0:=Tryz.zeroValue0
 t3:=Tryz.underlying3
 a3:=Tryz.isAgg3
 z3:=Tryz.sizeOf3
 v3:=Tryz.zeroValue3
 t4:=Tryz.underlying4
 a4:=Tryz.isAgg4
 z4:=Tryz.sizeOf4
 v4:=Tryz.zeroValue4
 t5:=Tryz.underlying5
 a5:=Tryz.isAgg5
 z5:=Tryz.sizeOf5
 v5:=Tryz.zeroValue5
 t9:=Tryz.underlying9
 a9:=Tryz.isAgg9
 z9:=Tryz.sizeOf9
 v9:=Tryz.zeroValue9
 t22:=Tryz.underlying113
 a22:=Tryz.isAgg113
 z22:=Tryz.sizeOf113
 v22:=Tryz.zeroValue113
 t25:=Tryz.underlying112
 a25:=Tryz.isAgg112
 z25:=Tryz.sizeOf112
 v25:=Tryz.zeroValue112
 t39:=Tryz.underlying174
 a39:=Tryz.isAgg174
 z39:=Tryz.sizeOf174
 v39:=Tryz.zeroValue174
 t45:=Tryz.underlying198
 a45:=Tryz.isAgg198
 z45:=Tryz.sizeOf198
 v45:=Tryz.zeroValue198
 t46:=Tryz.underlying199
 a46:=Tryz.isAgg199
 z46:=Tryz.sizeOf199
 v46:=Tryz.zeroValue199
 t50:=Tryz.underlying204
 a50:=Tryz.isAgg204
 z50:=Tryz.sizeOf204
 v50:=Tryz.zeroValue204
 t53:=Tryz.underlying207
 a53:=Tryz.isAgg207
 z53:=Tryz.sizeOf207
 v53:=Tryz.zeroValue207
 t55:=Tryz.underlying66
 a55:=Tryz.isAgg66
 z55:=Tryz.sizeOf66
 v55:=Tryz.zeroValue66
 t66:=Tryz.underlying221
 a66:=Tryz.isAgg221
 z66:=Tryz.sizeOf221
 v66:=Tryz.zeroValue221
 t70:=Tryz.underlying224
 a70:=Tryz.isAgg224
 z70:=Tryz.sizeOf224
 v70:=Tryz.zeroValue224
 t76:=Tryz.underlying228
 a76:=Tryz.isAgg228
 z76:=Tryz.sizeOf228
 v76:=Tryz.zeroValue228
 t77:=Tryz.underlying229
 a77:=Tryz.isAgg229
 z77:=Tryz.sizeOf229
 v77:=Tryz.zeroValue229 }
def Tryz.cmpInt_ren:Go.Shelf.Ren:=⟨fun | 5=>67 | 7=>108 | n=>n,fun | 22=>3 | 3=>3 | 4=>4 | n=>n,fun | n=>n⟩
theorem Tryz.cmpInt:Go.Proofs.SlLaysC2.n5 Tryz.prog Tryz.cmpInt_ren:={
 mixed:=by kernel_rfl
 f5:=⟨Tryz.f67.name,by decide,Tryz.func67.trans (congrArg some (by kernel_rfl))⟩
 f7:=⟨Tryz.f108.name,by decide,Tryz.func108.trans (congrArg some (by kernel_rfl))⟩
 t3:=Tryz.underlying3
 a3:=Tryz.isAgg3
 z3:=Tryz.sizeOf3
 v3:=Tryz.zeroValue3
 t4:=Tryz.underlying4
 a4:=Tryz.isAgg4
 z4:=Tryz.sizeOf4
 v4:=Tryz.zeroValue4
 t22:=Tryz.underlying3
 a22:=Tryz.isAgg3
 z22:=Tryz.sizeOf3
 v22:=Tryz.zeroValue3 }
end Go.Proofs

namespace Go.Proofs
open Go.Shelf Go.RowKit Go.Lib Go.Sort
set_option maxRecDepth 100000
def orI (x y:Int):Int:=if x=0 then y else x
set_option maxHeartbeats 2000000 in
theorem Tryz.or66 (x y:Int) (b:Nat) (w:World) (h0:w.cell? ⟨b,0,none⟩=some (.int .i64 x)) (h1:w.cell? ⟨b,1,none⟩=some (.int .i64 y)) :
  Calls Tryz.prog 66 #[.slice (some ⟨b,0,none⟩) 2 2] w fun e w'=>e=.returned (.int .i64 (orI x y))∧w'=w:=by
 go_enter Tryz.func66,Tryz.ntmps66
 go_wp2
 refine wp_loop_rounds 3 ?_
 rw [rounds_succ]
 go_wp2
 ·rename_i hx
  go_ret
  refine ⟨?_,rfl⟩
  have:¬ x=0:=by simpa using hx
  simp [orI,this]
 ·rename_i hx
  have hx0:x=0:=by simpa using hx
  rw [rounds_succ]
  go_wp2
  ·rename_i hy
   go_ret
   refine ⟨?_,rfl⟩
   simp [orI,hx0]
  ·rename_i hy
   have hy0:y=0:=by simpa using hy
   rw [rounds_succ]
   go_wp2
   go_ret
   refine ⟨?_,rfl⟩
   simp [orI,hx0,hy0]
set_option maxHeartbeats 2000000 in
theorem Tryz.closure65 (x y:Int×Int) (W:World):Calls Tryz.prog 65 #[.agg #[.int .i64 x.1,.int .i64 x.2],.agg #[.int .i64 y.1,.int .i64 y.2]] W fun e w'=>e=.returned (.int .i64 (orI (Lib.compareInt x.1 y.1) (Lib.compareInt x.2 y.2)))∧∃ q os',w'=grow (W.drewN q) os':=by
 have hcon1:=fun W'=>AnyG.cmp_Compare_int Tryz.cmpInt x.1 y.1 W'
 change ∀ W',Calls Tryz.prog 67 _ _ _ at hcon1
 have hcon2:=fun W'=>AnyG.cmp_Compare_int Tryz.cmpInt x.2 y.2 W'
 change ∀ W',Calls Tryz.prog 67 _ _ _ at hcon2
 generalize Lib.compareInt x.1 y.1=r1 at hcon1 ⊢
 generalize Lib.compareInt x.2 y.2=r2 at hcon2 ⊢
 go_enter Tryz.func65,Tryz.ntmps65
 go_wp2_with fail
 have hs:W.heap.size<(W.alloc (.cells #[.int .i64 x.1,.int .i64 x.2] 108)).heap.size:=by simp
 generalize hW:(W.alloc (.cells #[.int .i64 x.1,.int .i64 x.2] 108)).alloc (.cells #[.int .i64 y.1,.int .i64 y.2] 108)=W2
 have c0:W2.cell? ⟨W.heap.size,0,none⟩=some (.int .i64 x.1):=by rw [← hW];simp
 have c1:W2.cell? ⟨W.heap.size,1,none⟩=some (.int .i64 x.2):=by rw [← hW];simp
 have c2:W2.cell? ⟨W.heap.size+1,0,none⟩=some (.int .i64 y.1):=by rw [← hW];simp
 have c3:W2.cell? ⟨W.heap.size+1,1,none⟩=some (.int .i64 y.2):=by rw [← hW];simp
 refine wp_region_still_tail 10 Tryz.mSort.mixed (by kernel_rfl) ?_
 simp only [List.take_succ_cons,List.take_zero,List.drop_succ_cons,List.drop_zero]
 have hD:({ W2 with drawn:=W2.drawn+1 }:World)=W2.drew:=rfl
 rw [hD]
 have d0:W2.drew.cell? ⟨W.heap.size,0,none⟩=some (.int .i64 x.1):=c0
 have d1:W2.drew.cell? ⟨W.heap.size,1,none⟩=some (.int .i64 x.2):=c1
 have d2:W2.drew.cell? ⟨W.heap.size+1,0,none⟩=some (.int .i64 y.1):=c2
 have d3:W2.drew.cell? ⟨W.heap.size+1,1,none⟩=some (.int .i64 y.2):=c3
 still_step
 still_step
 still_step
 still_step
 still_call (hcon1 _)
 still_step
 still_step
 still_step
 still_step
 still_call (hcon2 _)
 refine wpStill_nil ?_
 have hfin:∃ os0,W2.drew=grow (W.drewN 1) os0:=⟨_,by rw [← hW,alloc_eq_grow,alloc_eq_grow,grow_grow];rfl⟩
 clear hD d0 d1 d2 d3 c0 c1 c2 c3
 generalize W2.drew=W3 at hfin ⊢
 go_wp2_with (go_at_call 66;refine (Tryz.or66 r1 r2 W3.heap.size _ (by simp) (by simp)).mono ?_;rintro e w' ⟨rfl,rfl⟩)
 go_ret
 obtain ⟨os0,hos⟩:=hfin
 exact ⟨rfl,1,_,by rw [hos,alloc_eq_grow,grow_grow]⟩
end Go.Proofs

namespace Go.Dk
open Go Go.Dr Go.RowKit
set_option maxRecDepth 100000
theorem u0U {α:Type} [Inhabited α] (e:α→Value) {w:World} {b o:Nat} {l:List α} (h:Sort.Holds id w b o (l.map e).toArray):Sort.Holds e w b o l.toArray:=by
 intro j hj
 have hj':j<l.length:=by simpa using hj
 obtain ⟨h1,h2⟩:=h j (by simpa using hj)
 refine ⟨?_,h2⟩
 rw [h1]
 simp [getElem!_def,hj']
theorem s0D {α:Type} [Inhabited α] (e:α→Value) (w:World) (b o:Nat) (l:List α):Sort.putRow e w b o l.toArray=Sort.putRow id w b o (l.map e).toArray:=by
 unfold Sort.putRow
 congr 1
 funext c
 unfold Sort.putCells
 congr 1
 funext k x
 by_cases hk:o≤k∧k<o+l.length
 ·have h1:o≤k∧k<o+l.toArray.size:=by simpa using hk
  have h2:o≤k∧k<o+(l.map e).toArray.size:=by simpa using hk
  rw [if_pos h1,if_pos h2]
  have h3:k - o<l.length:=by omega
  simp [getElem!_def,h3]
 ·have h1:¬ (o≤k∧k<o+l.toArray.size):=by simpa using hk
  have h2:¬ (o≤k∧k<o+(l.map e).toArray.size):=by simpa using hk
  rw [if_neg h1,if_neg h2]
theorem z0I (ss:List Txt):(tx ss).map cv=ss.map Go.Proofs.encStr:=by
 unfold tx
 rw [List.map_map]
 rfl
theorem y0A:Go.Proofs.Tryz.f106.body.isSome=true:=by kernel_rfl
theorem y0B:Go.Proofs.Tryz.f110.body.isSome=true:=by kernel_rfl
theorem A0b:Go.Proofs.Tryz.f65.body.isSome=true:=by kernel_rfl
theorem h0B:P.funcs.all (fun f=>f.name != "runtime.NumGoroutine")=true:=by kernel_rfl
theorem y0C:RowSortIs P C0 1 [] x07 where
 some:=by
  rintro A A' len blk off cap rest' φ w ⟨ss,rfl,rfl⟩ hr hl hb hH hblk
  cases hr
  have hsl:ss.length=len:=by simpa [tx] using hl
  subst hsl
  rw [z0I] at hH
  have:=Go.Proofs.AnyM.slices_Sort_string Go.Proofs.Tryz.mSort blk off cap ss w (u0U _ hH) hblk hb
  refine this.mono ?_
  rintro e w' ⟨rfl,n,os,rfl⟩
  refine ⟨rfl,n,os,?_⟩
  rw [s0D,z0I]
  rfl
 none:=by
  intro p cap rest' φ w hr
  cases hr
  exact Go.Proofs.AnyM.slices_Sort_string_none Go.Proofs.Tryz.mSort p cap w
 enter:=fun _ w=>c03 (l0S h0B) Go.Proofs.Tryz.func106 y0A w
 len:=by rintro A A' ⟨ss,rfl,rfl⟩;simp [tx,f0Q]
 isC:=by
  rintro A A' ⟨ss,rfl,rfl⟩
  refine ⟨fun a ha=>?_,fun a ha=>?_⟩ <;> (obtain ⟨s,_,rfl⟩:=List.mem_map.1 ha;rfl)
theorem w0y (blk off size:Nat) (w:World):Go.Proofs.CmpLays P B7 #[] (m0Y .i64 .i64) 2 cfP blk off size w:=fun _ _ _ _ x y=>Go.Proofs.Tryz.closure65 x y _
theorem w0z:RowSortIs P s6 2 [.func (.func B7) [] []] (o0S .i64 .i64 cfP):=by
 refine v0X y0r ?_ ?_ ?_
 ·intro blk off cap d w hH hblk hsz
  exact Go.Proofs.AnyQ.slices_SortFunc Go.Proofs.Tryz.pSort 2 Go.Proofs.Tryz.isAgg108 Go.Proofs.Tryz.sizeOf108 (m0Y .i64 .i64) (fun _=>rfl) (fun x v hv=>by simp [m0Y] at hv;rcases hv with rfl | rfl <;> rfl) cfP y0r B7 #[] blk off cap d w
   (fun _ w=>c03 (l0S h0B) Go.Proofs.Tryz.func65 A0b w) (w0y blk off d.size w) hH hblk hsz
 ·intro p cap w
  exact Go.Proofs.AnyF.slices_SortFunc_none { Go.Proofs.Tryz.pSort with } p cap _ w
 ·exact fun _ w=>c03 (l0S h0B) Go.Proofs.Tryz.func110 y0B w
theorem z0J (B:Nat) (w0:World):f02 P B w0 S0:=by
 intro f g hs args h v h' he φ w args' ha hG hR
 unfold S0 at hs
 split at hs
 ·rename_i e;subst e;cases hs
  exact u0q y0C (by omega) he ha hR
 ·split at hs
  ·rename_i e;subst e;cases hs
   exact u0q w0z (by omega) he ha hR
  ·cases hs
theorem B0L:l0R (E3 P (fun _=>none) 100000 1000 (.fn Y6) [] ⟨P.globals.size,.leaf⟩)=true:=by kernel_rfl
theorem B0M:l0R (E3 P (fun _=>none) 100000 1000 (.fn b0F) [] ⟨P.globals.size,.leaf⟩)=true:=by kernel_rfl
theorem B0N (B:Nat) (w0:World):f02 P B w0 SI:=by
 intro f g hs args h v h' he φ w args' ha hG hR
 unfold SI at hs
 split at hs
 ·rename_i e;subst e;cases hs
  exact u0t Go.Proofs.Tryz.mSort.mixed (l0S h0B) (z0J B w0) he ha hG hR
 ·split at hs
  ·rename_i e;subst e;cases hs
   exact u0t Go.Proofs.Tryz.mSort.mixed (l0S h0B) (z0J B w0) he ha hG hR
  ·split at hs
   ·exact o0y Go.Proofs.Tryz.mSort.mixed h0B B0M B w0 f g hs args h v h' he φ w args' ha hG hR
   ·exact o0y Go.Proofs.Tryz.mSort.mixed h0B B0L B w0 f g hs args h v h' he φ w args' ha hG hR
end Go.Dk

namespace Go.Proofs.YtkbddcapcjdenaaGreatDoor
open Go Go.Dr Go.RowKit Go.ChangeShapes Go.WideShapes Go.ChangeAt Go.Lib
set_option maxRecDepth 100000
theorem B07:ownKnob Tryz.prog.godebug=none:=by kernel_rfl
theorem v0M:laidOutB Tryz.prog=true:=by kernel_rfl
theorem B08:Tryz.prog.funcs.all (fun f=>f.name != "runtime.NumGoroutine")=true:=by kernel_rfl
def A0z (k:IntKind) (l:List Int):Array Value:=(l.map fun z=>Value.int k z).toArray
noncomputable def g0i (os:Os):World :=
 let w0:=World.holding Tryz.prog os ⟨#[],#[],[]⟩
 let put (h:Array Obj) (g:Nat) (cs:Array Value):Array Obj:=h.modify g fun
  | .cells _ t frozen=>.cells cs t frozen
  | o=>o
 let h:=w0.heap
 let h:=put h 0 (A0z .u8 [0,1,56,2,57,49,28,3,61,58,42,50,38,29,17,4,62,47,59,36,45,43,51,22,53,39,33,30,24,18,12,5,63,55,48,27,60,41,37,16,46,35,44,21,52,32,23,11,54,26,40,15,34,20,31,10,25,14,19,9,13,8,7,6])
 { w0 with heap:=h }
theorem v0N (os:Os) (args:Array Value):LaidIn Tryz.prog ((g0i os).forCall (fun _ _=>0) ⟨#[],args,[]⟩).memory (Rows.indexSeriesRow.laid.filter fun x=>x.2.handleName?.isNone) [0] :=
 LaidIn.of_run _ 8 (by kernel_rfl) (by kernel_rfl) (by kernel_rfl) (by kernel_rfl)
theorem v0O (os:Os) (args:Array Value):laidMetH Tryz.prog Rows.indexSeriesRow.laid ((g0i os).forCall (fun _ _=>0) ⟨#[],args,[]⟩).memory :=
 laidMetH_of_parts (v0N os args).met (by kernel_rfl)
end Go.Proofs.YtkbddcapcjdenaaGreatDoor

namespace Go.Dr
open Go.RowKit
variable {P:Program} {H:Type} {enc:TypeId×Value→H} {W:World} {base:Nat} {sp:Nat→Bool} {held:Bool}
theorem f0Y {P:Program} {e:TypeId} {d:DataW H}:∀ {l:List (DataW H)},d ∈ l→∀ n ∈ d.weights P e,n ∈ DataW.weightsAll P e l
 | x::l,hm,n,hn=>by
  simp only [DataW.weightsAll,List.mem_append]
  rcases List.mem_cons.1 hm with rfl | hm
  ·exact .inl hn
  ·exact .inr (f0Y hm n hn)
inductive TyZ (P:Program) (h:AH):TypeId→List AV→Prop
 | bool {t:TypeId} (ht:P.underlying t=some .bool) (b:Bool):TyZ P h t [.bool b]
 | int {t:TypeId} {k:IntKind} {n:Int} (ht:P.underlying t=some (.int k)) (hn:(Lit.int k n).wf=true):TyZ P h t [.int k n]
 | str {t:TypeId} {s:List UInt8} (ht:P.underlying t=some .string) (hs:s.length≤reachBytes):TyZ P h t [.str s]
 | nils {t e:TypeId} (ht:P.underlying t=some (.slice e)):TyZ P h t [.nils]
 | slice {t e:TypeId} {id len cap:Nat} {vs:List AV} (ht:P.underlying t=some (.slice e)) (hi:id<h.next) (hg:h.get id=some (.cells vs true)) (hv:vs.length=len*P.cellsOf e)
   (hl:len≤cap) (hc:cap*P.bytesOf e≤reachBytes) (hel:∀ i,i<len→TyZ P h e ((vs.drop (i*P.cellsOf e)).take (P.cellsOf e))):TyZ P h t [.slice id 0 len cap true (P.cellsOf e)]
 | struct {t:TypeId} {fs:Array Field} {cs:List AV} (ht:P.underlying t=some (.struct fs)) (hl:cs.length=P.cellsOf t)
   (hf:∀ f ∈ fs.toList,TyZ P h f.type ((cs.drop f.offset).take (P.cellsOf f.type))):TyZ P h t cs
theorem TyZ.fr {h h':AH} (f:Fr h h'):∀ {t:TypeId} {cs:List AV},TyZ P h t cs→TyZ P h' t cs:=by
 intro t cs s
 induction s with
 | bool ht b=>exact .bool ht b
 | int ht hn=>exact .int ht hn
 | str ht hs=>exact .str ht hs
 | nils ht=>exact .nils ht
 | slice ht hi hg hv hl hc _ ih=>exact .slice ht (Nat.lt_of_lt_of_le hi f.next) (by rw [f.get _ hi];exact hg) hv hl hc ih
 | struct ht hl _ ih=>exact .struct ht hl ih
theorem k0r {B:Nat} {w0:World} (L:TypeId→List Value→Prop)
  (hL:∀ t cs,L t cs→∀ φ h,Rel B w0 φ h W→RO φ h→∃ φ' h' l,ConL φ' l cs∧Rel B w0 φ' h' W∧RO φ' h'∧φ.le φ'∧Fr h h'∧TyZ P h' t l) (cs:List Value) :
  ∀ (fs:List Field) (acc:Nat),j0z P fs acc cs.length=true→(∀ f ∈ fs,L f.type ((cs.drop f.offset).take (P.cellsOf f.type)))→∀ φ h,Rel B w0 φ h W→RO φ h →
  ∃ φ' h' l,ConL φ' l (cs.drop acc)∧Rel B w0 φ' h' W∧RO φ' h'∧φ.le φ'∧Fr h h'∧(∀ f ∈ fs,acc≤f.offset∧TyZ P h' f.type ((l.drop (f.offset - acc)).take (P.cellsOf f.type)))
 | [],acc,ht,_,φ,h,hR,hro=>by
  have:acc=cs.length:=Nat.eq_of_beq_eq_true ht
  subst this
  exact ⟨φ,h,[],by rw [List.drop_length];exact .nil,hR,hro,.refl _,.refl _,fun f hf=>by cases hf⟩
 | f::fs,acc,ht,hf,φ,h,hR,hro=>by
  simp only [j0z,Bool.and_eq_true] at ht
  have ho:f.offset=acc:=Nat.eq_of_beq_eq_true ht.1
  obtain ⟨φ1,h1,l1,c1,R1,ro1,le1,f1,t1⟩:=hL _ _ (hf f (by simp)) φ h hR hro
  obtain ⟨φ2,h2,l2,c2,R2,ro2,le2,f2,t2⟩:=k0r L hL cs fs (acc+P.cellsOf f.type) ht.2 (fun g hg=>hf g (List.mem_cons_of_mem _ hg)) φ1 h1 R1 ro1
  have hle:acc+P.cellsOf f.type≤cs.length:=by
   have:∀ (fs:List Field) (a:Nat),j0z P fs a cs.length=true→a≤cs.length:=by
    intro fs
    induction fs with
    | nil=>intro a h;exact Nat.le_of_eq (Nat.eq_of_beq_eq_true h)
    | cons g gs ih =>
     intro a h
     simp only [j0z,Bool.and_eq_true] at h
     have:=ih _ h.2
     omega
   exact this _ _ ht.2
  rw [ho] at c1
  have hlen:l1.length=P.cellsOf f.type:=by rw [c1.length,List.length_take,List.length_drop];omega
  refine ⟨φ2,h2,l1++l2,?_,R2,ro2,le1.trans le2,f1.trans f2,fun g hg=>?_⟩
  ·have:=(c1.mono le2).append c2
   rw [← List.drop_drop,List.take_append_drop] at this
   exact this
  ·rcases List.mem_cons.1 hg with rfl | hg
   ·refine ⟨by omega,?_⟩
    rw [ho,Nat.sub_self,List.drop_zero,List.take_append_of_le_length (by omega),List.take_of_length_le (by omega)]
    exact t1.fr f2
   ·obtain ⟨h3,h4⟩:=t2 g hg
    refine ⟨by omega,?_⟩
    rw [show g.offset - acc=l1.length+(g.offset - (acc+P.cellsOf f.type)) from by omega,← List.drop_drop,List.drop_left]
    exact h4
theorem h0J {B:Nat} {w0:World} :
  ∀ (d fuel:Nat) (t:TypeId) (cs:List Value) (x:DataW H×List MemPlace),e01 P d t=true→DataW.trod enc P W base (fun _=>true) held fuel t cs=some x→(∀ n ∈ x.1.weights P t,n≤reachBytes)→t01 W cs →
  ∀ φ h,Rel B w0 φ h W→RO φ h→∃ φ' h' l,ConL φ' l cs∧Rel B w0 φ' h' W∧RO φ' h'∧φ.le φ'∧Fr h h'∧TyZ P h' t l
 | 0,fuel,t,cs,x,hp,_,_,_,_,_,_,_=>by cases hp
 | d+1,fuel,t,cs,x,hp,h,hw0,hz,φ,g,hR,hro=>by
  unfold e01 at hp
  cases ht:P.underlying t with
  | none=>rw [ht] at hp;cases hp
  | some td =>
   rw [ht] at hp
   cases td with
   | bool =>
    obtain ⟨b,rfl,_⟩:=DataW.trod_bool ht h
    exact ⟨φ,g,_,.cons (.bool b) .nil,hR,hro,.refl _,.refl _,.bool ht b⟩
   | int k =>
    obtain ⟨n,rfl,_,hw⟩:=DataW.trod_int ht h
    exact ⟨φ,g,_,.cons (.int k n) .nil,hR,hro,.refl _,.refl _,.int ht hw⟩
   | string =>
    obtain ⟨⟨⟨s⟩⟩,rfl,rfl,_⟩:=DataW.trod_string ht h
    have hs:s.length≤reachBytes:=hw0 _ (by simp [DataW.weights])
    exact ⟨φ,g,_,.cons (.str s) .nil,hR,hro,.refl _,.refl _,.str ht hs⟩
   | struct fs =>
    simp only [Bool.and_eq_true,List.all_eq_true] at hp
    obtain ⟨hp1,hp2⟩:=hp
    obtain ⟨xs,n,_,hx,hl,hlen,hf⟩:=DataW.trod_struct ht h
    subst hx
    simp only [DataW.weights,ht] at hw0
    obtain ⟨φ1,h1,l1,c1,R1,ro1,le1,f1,t1⟩:=k0r (L:=fun t cs=>∃ n x,e01 P d t=true∧DataW.trod enc P W base (fun _=>true) held n t cs=some x∧(∀ n ∈ x.1.weights P t,n≤reachBytes)∧t01 W cs)
     (fun t cs ⟨n,x,h1,h2,h3,h4⟩=>h0J d n t cs x h1 h2 h3 h4) cs fs.toList 0 (by rw [hl];exact hp1) (fun f hfm=>by
      obtain ⟨i,hi⟩:=List.mem_iff_getElem?.1 hfm
      rw [Array.getElem?_toList] at hi
      have hlt:i<xs.length:=by rw [hlen];exact (Array.getElem?_eq_some_iff.1 hi).1
      exact ⟨n,xs[i],hp2 f hfm,by rw [hf i f hi];exact List.getElem?_eq_getElem hlt,fun m hm=>hw0 m (DataW.weights_mem_each (j:=i) (by rw [List.getElem?_map,Array.getElem?_toList,hi];rfl) (by rw [List.getElem?_map,List.getElem?_eq_getElem hlt];rfl) m hm),fun a len hm=>hz a len (List.mem_of_mem_drop (List.mem_of_mem_take hm))⟩) φ g hR hro
    exact ⟨φ1,h1,l1,c1,R1,ro1,le1,f1,.struct ht (by rw [c1.length,List.drop_zero,hl]) fun f hf=>by have:=(t1 f hf).2;rwa [Nat.sub_zero] at this⟩
   | slice e =>
    simp only [Bool.and_eq_true] at hp
    obtain ⟨hp1,hp2⟩:=hp
    have hk:0<P.cellsOf e:=Nat.le_of_ble_eq_true hp1
    rcases DataW.trod_slice ht h with ⟨rfl,_⟩ | ⟨a,len,cap,elems,rest,n,_,rfl,hx,hb,hlc,_,hel,he1,he2,_⟩
    ·exact ⟨φ,g,_,.cons .nils .nil,hR,hro,.refl _,.refl _,.nils ht⟩
    ·obtain ⟨hrl,hr⟩:=he2 rfl
     subst hx
     simp only [DataW.weights,ht,List.length_map,List.mem_cons,List.mem_append] at hw0
     have hcm:cap*P.bytesOf e≤reachBytes:=by
      have:=hw0 _ (.inl rfl)
      rwa [hel,hrl,show len+(cap - len)=cap from by omega] at this
     have each:∀ i,i<cap→∃ cs y,W.cells? base (a.add (i*P.cellsOf e)) (P.cellsOf e)=some cs∧DataW.trod enc P W base (fun _=>true) held n e cs=some y∧∀ n ∈ y.1.weights P e,n≤reachBytes:=by
      intro i hi
      have:∃ y,(W.cells? base (a.add (i*P.cellsOf e)) (P.cellsOf e)).bind (DataW.trod enc P W base (fun _=>true) held n e)=some y∧∀ n ∈ y.1.weights P e,n≤reachBytes:=by
       by_cases hil:i<len
       ·exact ⟨elems[i],by rw [he1 i hil];exact List.getElem?_eq_getElem (by omega),fun m hm=>hw0 m (.inr (.inl (f0Y (List.mem_map_of_mem (List.getElem_mem _)) m hm)))⟩
       ·have hj:i - len<cap - len:=by omega
        refine ⟨rest[i - len],?_,fun m hm=>hw0 m (.inr (.inr (f0Y (List.mem_map_of_mem (List.getElem_mem _)) m hm)))⟩
        have:=hr (i - len) hj
        rw [show len+(i - len)=i from by omega] at this
        rw [this];exact List.getElem?_eq_getElem (by omega)
      obtain ⟨y,hy,hwy⟩:=this
      obtain ⟨cs,h1,h2⟩:=Option.bind_eq_some_iff.1 hy
      exact ⟨cs,y,h1,h2,hwy⟩
     have hblk:∃ (b:Nat) (c:Array Value) (e:TypeId) (f:Nat×Nat),W.heap[b]? = some (.cells c e f):=by
      by_cases hc0:cap=0
      ·subst hc0;exact hz a len (by simp)
      ·obtain ⟨cs,y,q1,_⟩:=each 0 (by omega)
       obtain ⟨q2,q3⟩:=e02 q1
       have:=q3 0 hk
       rw [List.getElem?_eq_getElem (by omega)] at this
       obtain ⟨_,c,et,f,hbk,_⟩:=o0e this
       exact ⟨_,c,et,f,hbk⟩
     have hcs:∃ css:List (List Value),css.length=len∧∀ i c,css[i]? = some c→W.cells? base (a.add (i*P.cellsOf e)) (P.cellsOf e)=some c∧∃ y,DataW.trod enc P W base (fun _=>true) held n e c=some y∧∀ n ∈ y.1.weights P e,n≤reachBytes:=by
      refine ⟨(List.range len).map fun i=>(W.cells? base (a.add (i*P.cellsOf e)) (P.cellsOf e)).getD [],by simp,fun i c hi=>?_⟩
      have hil:i<len:=by have:=(List.getElem?_eq_some_iff.1 hi).1;simpa using this
      obtain ⟨cs,y,h1,h2,h3⟩:=each i (by omega)
      simp only [List.getElem?_map,List.getElem?_range hil,Option.map_some,Option.some.injEq,h1,Option.getD_some] at hi
      subst hi
      exact ⟨h1,y,h2,h3⟩
     obtain ⟨css,hcl,hcs⟩:=hcs
     obtain ⟨φ1,h1,ls,R1,ro1,le1,f1,hll,hls⟩:=q0y (B:=B) (w0:=w0) (w:=W) (fun (h:AH) (_:Unit) l=>TyZ P h e l) (fun h h' _ l f t=>t.fr f) (css.map fun c=>((),c)) (fun x hx φ h hR hro=>by
      obtain ⟨c,hc,rfl⟩:=List.mem_map.1 hx
      obtain ⟨i,hi⟩:=List.mem_iff_getElem?.1 hc
      obtain ⟨_,y,hy,hwy⟩:=hcs i c hi
      exact h0J d n e c y hp2 hy hwy (fun _ _ _=>hblk) φ h hR hro) φ g hR hro
     rw [List.length_map,hcl] at hll
     have hlens:∀ l ∈ ls,l.length=P.cellsOf e:=by
      intro l hl
      obtain ⟨i,hi⟩:=List.mem_iff_getElem?.1 hl
      have hil:i<css.length:=by rw [hcl,← hll];exact (List.getElem?_eq_some_iff.1 hi).1
      obtain ⟨l',h1,h2,_⟩:=hls i ((),css[i]) (by simp [hil])
      rw [hi] at h1
      cases h1
      rw [h2.length]
      exact (e02 (hcs i _ (List.getElem?_eq_getElem hil)).1).1
     obtain ⟨hfl,hfg⟩:=l0B ls (P.cellsOf e) hlens
     by_cases hc0:cap=0
     ·
      obtain ⟨b,c,et,f,hbk⟩:=hblk
      have hl0:len=0:=by omega
      have hv0:ls.flatten=[]:=List.length_eq_zero_iff.1 (by rw [hfl,hll,hl0,Nat.zero_mul])
      obtain ⟨R2,ro2,le2⟩:=w0D R1 ro1 (p:=⟨b,0,0⟩) (vs:=[]) hbk (Nat.le_refl _) (Nat.zero_le _) (fun i x hx=>by simp at hx)
      refine ⟨_,_,[.slice h1.next 0 len cap true (P.cellsOf e)],.cons (.slice (Phi.set_same _ _ _) (fun _=>rfl) (Nat.le_refl _) hlc (.inl hc0)) .nil,R2,ro2,le1.trans le2,f1.push _,?_⟩
      exact .slice ht (by simp) (b8 _) (by rw [hl0,Nat.zero_mul];rfl) hlc hcm fun i hi=>by omega
     ·have hcp:0<cap:=by omega
      have hk0:∀ i j,i<cap→j<P.cellsOf e→∃ v,W.cell? ((a.add (i*P.cellsOf e)).add j)=some v:=by
       intro i j hi hj
       obtain ⟨cs,y,q1,_⟩:=each i hi
       obtain ⟨q2,q3⟩:=e02 q1
       exact ⟨cs[j]'(by omega),by rw [q3 j hj];exact List.getElem?_eq_getElem (by omega)⟩
      obtain ⟨v0,hv0⟩:=hk0 0 0 hcp hk
      have ha0:(a.add (0*P.cellsOf e)).add 0=a:=by simp [Addr.add]
      rw [ha0] at hv0
      obtain ⟨hsp,c,et,f,hbk,_⟩:=o0e hv0
      have hat:∀ i j,(a.add (i*P.cellsOf e)).add j=⟨a.block,a.off+(i*P.cellsOf e+j),none⟩:=by
       intro i j
       rw [add_none hsp,Addr.add_none,Nat.add_assoc]
      have hcell:∀ o,W.cell? ⟨a.block,o,none⟩=c[o]?:=fun o=>g0u hbk
      have hsz:a.off+cap*P.cellsOf e≤c.size:=by
       obtain ⟨v,hv⟩:=hk0 (cap - 1) (P.cellsOf e - 1) (by omega) (by omega)
       rw [hat,hcell] at hv
       have:=(Array.getElem?_eq_some_iff.1 hv).1
       have e1:(cap - 1)*P.cellsOf e+P.cellsOf e=cap*P.cellsOf e:=by
        rw [← Nat.succ_mul,show (cap - 1).succ=cap from by omega]
       omega
      have hle:len*P.cellsOf e≤cap*P.cellsOf e:=Nat.mul_le_mul_right _ hlc
      obtain ⟨R2,ro2,le2⟩:=w0D R1 ro1 (p:=⟨a.block,a.off,cap*P.cellsOf e⟩) (vs:=ls.flatten) hbk (by rw [hfl,hll];exact hle) hsz (fun i x hx=>by
       have hi:i<len*P.cellsOf e:=by rw [← hll,← hfl];exact (List.getElem?_eq_some_iff.1 hx).1
       have hdiv:i/P.cellsOf e<len:=(Nat.div_lt_iff_lt_mul hk).2 hi
       have hmod:i%P.cellsOf e<P.cellsOf e:=Nat.mod_lt _ hk
       have hdm:i/P.cellsOf e*P.cellsOf e+i%P.cellsOf e=i:=by rw [Nat.mul_comm];exact Nat.div_add_mod _ _
       obtain ⟨l,q1,q2⟩:=u0Y ls (P.cellsOf e) hlens (i/P.cellsOf e) (i%P.cellsOf e) (by omega) hmod
       rw [hdm,hx] at q2
       have hcs':(css.map fun c=>((),c))[i/P.cellsOf e]? = some ((),css[i/P.cellsOf e]'(by omega)):=by simp [hcl,hdiv]
       obtain ⟨l',q3,q4,_⟩:=hls _ _ hcs'
       rw [q1] at q3
       cases q3
       obtain ⟨y,q5,q6⟩:=q4.get _ _ q2.symm
       refine ⟨y,?_,q6⟩
       obtain ⟨_,q7⟩:=e02 (hcs _ _ (List.getElem?_eq_getElem (by omega:i/P.cellsOf e<css.length))).1
       have q8:=q7 _ hmod
       rw [hat,hcell,hdm] at q8
       rw [q8]
       exact q5)
      refine ⟨_,_,[.slice h1.next 0 len cap true (P.cellsOf e)],.cons (.slice (p:=⟨a.block,a.off,cap*P.cellsOf e⟩) (Phi.set_same _ _ _) (fun _=>rfl) (Nat.le_refl _) hlc (.inr ⟨Nat.le_of_eq (Nat.zero_add _),?_⟩)) .nil,R2,ro2,le1.trans le2,f1.push _,?_⟩
      ·obtain ⟨b,o,s⟩:=a
       cases hsp
       rfl
      ·refine .slice ht (by simp) (b8 _) (by rw [hfl,hll]) hlc hcm fun i hi=>?_
       have hil:i<css.length:=by omega
       obtain ⟨l,q1,_,q3⟩:=hls i ((),css[i]) (by simp [hil])
       rw [hfg i l q1]
       exact q3.fr ((Fr.refl _).push _)
   | _=>cases hp
theorem s0V {B:Nat} {w0:World} {b0:Nat} {d:Nat} {t e:TypeId} {v:Value} {dd:DataW H} {ps:List MemPlace} (ht:P.underlying t=some (.slice e)) (hp:e01 P d t=true)
  (hval:Value.okWide P W .any b0 t v) (hd:DataW.Trod enc P W base (fun _=>true) held t v dd ps) (hw:∀ n ∈ dd.weights P t,n≤reachBytes) {φ:Phi} {h:AH} (hR:Rel B w0 φ h W) (hro:RO φ h) :
  ∃ φ' h' a,Con φ' a v∧Rel B w0 φ' h' W∧RO φ' h'∧φ.le φ'∧Fr h h'∧TyZ P h' t [a]:=by
 have hc:Cell.okWide P W .any b0 t v:=by
  unfold Value.okWide at hval
  rw [ht] at hval
  exact hval
 have hs:=n0A hc
 have hcells:v.cells.toList=[v]:=by cases v <;> first | rfl | cases hs
 obtain ⟨fuel,hd⟩:=hd
 rw [hcells] at hd
 obtain ⟨φ',h',l,c1,R1,ro1,le1,f1,t1⟩:=h0J d fuel t [v] _ hp hd hw (fun a len hm=>by
  simp only [List.mem_singleton] at hm
  rw [← hm] at hc
  exact s0H hc) φ h hR hro
 cases c1 with
 | cons c1 c2 =>
  cases c2
  exact ⟨φ',h',_,c1,R1,ro1,le1,f1,t1⟩
variable {h:AH}
theorem TyZ.int_inv {t:TypeId} {k:IntKind} {l:List AV} (ht:P.underlying t=some (.int k)) (s:TyZ P h t l):∃ n,l=[.int k n]∧(Lit.int k n).wf=true:=by
 cases s with
 | int ht' hn=>rw [ht] at ht';cases ht';exact ⟨_,rfl,hn⟩
 | bool ht'=>rw [ht] at ht';cases ht'
 | str ht'=>rw [ht] at ht';cases ht'
 | nils ht'=>rw [ht] at ht';cases ht'
 | slice ht'=>rw [ht] at ht';cases ht'
 | struct ht'=>rw [ht] at ht';cases ht'
theorem TyZ.str_inv {t:TypeId} {l:List AV} (ht:P.underlying t=some .string) (s:TyZ P h t l):∃ x,l=[.str x]∧x.length≤reachBytes:=by
 cases s with
 | str ht' hs=>exact ⟨_,rfl,hs⟩
 | int ht'=>rw [ht] at ht';cases ht'
 | bool ht'=>rw [ht] at ht';cases ht'
 | nils ht'=>rw [ht] at ht';cases ht'
 | slice ht'=>rw [ht] at ht';cases ht'
 | struct ht'=>rw [ht] at ht';cases ht'
theorem TyZ.slice_inv {t e:TypeId} {k:Nat} {l:List AV} (ht:P.underlying t=some (.slice e)) (hb:0<P.bytesOf e) (hk:P.cellsOf e=k) (s:TyZ P h t l) :
  ∃ v n vs,l=[v]∧n≤reachBytes∧Sl h k n v vs∧∀ i,i<n→TyZ P h e ((vs.drop (i*k)).take k):=by
 subst hk
 cases s with
 | nils ht'=>exact ⟨_,0,[],rfl,Nat.zero_le _,Sl.nil _,fun i hi=>absurd hi (by omega)⟩
 | @slice _ e' id len cap vs ht' hi hg hv hl hc hel =>
  rw [ht] at ht'
  cases ht'
  exact ⟨_,len,vs,rfl,Nat.le_trans (Nat.le_trans hl (Nat.le_mul_of_pos_right _ hb)) hc,⟨hv,.inr ⟨id,0,cap,true,vs,true,rfl,hi,hl,hg,by omega,by rw [List.drop_zero,List.take_of_length_le (by omega)]⟩⟩,hel⟩
 | int ht'=>rw [ht] at ht';cases ht'
 | bool ht'=>rw [ht] at ht';cases ht'
 | str ht'=>rw [ht] at ht';cases ht'
 | struct ht'=>rw [ht] at ht';cases ht'
theorem TyZ.struct_inv {t:TypeId} {l:List AV} {ts:List (TypeId×Nat)} (ht:f0T P t=ts) (hne:ts≠[]) (s:TyZ P h t l) :
  l.length=P.cellsOf t∧∀ u o,(u,o) ∈ ts→TyZ P h u ((l.drop o).take (P.cellsOf u)):=by
 subst ht
 unfold f0T at hne ⊢
 cases s with
 | struct ht' hl hf =>
  rw [ht']
  refine ⟨hl,fun u o hm=>?_⟩
  simp only [List.mem_map,Prod.mk.injEq] at hm
  obtain ⟨f,hf',rfl,rfl⟩:=hm
  exact hf f hf'
 | int ht'=>rw [ht'] at hne;exact absurd rfl hne
 | bool ht'=>rw [ht'] at hne;exact absurd rfl hne
 | str ht'=>rw [ht'] at hne;exact absurd rfl hne
 | nils ht'=>rw [ht'] at hne;exact absurd rfl hne
 | slice ht'=>rw [ht'] at hne;exact absurd rfl hne
end Go.Dr

namespace Go.Proofs.YtkbddcapcjdenaaGreatDoor
open Go Go.Dr Go.Dk Go.RowKit Go.ChangeShapes Go.WideShapes Go.ChangeAt Go.Lib
set_option maxRecDepth 100000
theorem z0Q:reachBytes<2 ^ 62:=by decide
theorem v0i:0<Tryz.prog.bytesOf 71:=of_decide_eq_true (by kernel_rfl)
theorem v0j:0<Tryz.prog.bytesOf 65:=of_decide_eq_true (by kernel_rfl)
theorem v0k:0<Tryz.prog.bytesOf 68:=of_decide_eq_true (by kernel_rfl)
theorem w0V:Tryz.prog.cellsOf 3=1:=by kernel_rfl
theorem w0W:Tryz.prog.cellsOf 9=1:=by kernel_rfl
theorem v0l:Tryz.prog.cellsOf 66=1:=by kernel_rfl
theorem v0m:Tryz.prog.cellsOf 56=1:=by kernel_rfl
theorem v0n:Tryz.prog.cellsOf 69=1:=by kernel_rfl
theorem o0u:Tryz.prog.cellsOf 71=2:=by kernel_rfl
theorem o0v:Tryz.prog.cellsOf 65=2:=by kernel_rfl
theorem o0w:Tryz.prog.cellsOf 68=2:=by kernel_rfl
theorem A0n:Tryz.prog.underlying 3=some (.int .i64):=by kernel_rfl
theorem A0o:Tryz.prog.underlying 5=some (.int .u8):=by kernel_rfl
theorem w0X:Tryz.prog.cellsOf 5=1:=by kernel_rfl
theorem y0Q:Tryz.prog.underlying 66=some (.int .u64):=by kernel_rfl
theorem w0Y:Tryz.prog.underlying 9=some .string:=by kernel_rfl
theorem u0b:Tryz.prog.underlying 30=some (.slice 71):=by kernel_rfl
theorem y0R:Tryz.prog.underlying 56=some (.slice 65):=by kernel_rfl
theorem y0S:Tryz.prog.underlying 69=some (.slice 68):=by kernel_rfl
theorem s00:f0T Tryz.prog 71=[(56,0),(69,1)]:=by kernel_rfl
theorem s01:f0T Tryz.prog 65=[(9,0),(9,1)]:=by kernel_rfl
theorem s02:f0T Tryz.prog 68=[(3,0),(66,1)]:=by kernel_rfl
theorem v0o:e01 Tryz.prog 8 30=true:=by kernel_rfl
theorem f0f {α:Type} (f:α→List AV):∀ l:List α,(l.map f).flatten=l.flatMap f
 | []=>rfl
 | x::l=>by rw [List.map_cons,List.flatten_cons,List.flatMap_cons,f0f f l]
theorem q0Z {h:AH} {l:List AV} (s:TyZ Tryz.prog h 56 l):∃ v ls,l=[v]∧Sl h 2 ls.length v (ls.flatMap E2)∧X0 ls:=by
 obtain ⟨v,n,vs,rfl,hn,hs,he⟩:=s.slice_inv y0R v0j o0v
 obtain ⟨ls,h1,h2,h3⟩:=i0o E2 (fun x:Lab=>x.1.length<2 ^ 62∧x.2.length<2 ^ 62) 2 n vs hs.1 fun i hi=>by
  obtain ⟨hl,hf⟩:=(he i hi).struct_inv s01 (by simp)
  rw [o0v] at hl
  have f0:=hf 9 0 (by simp)
  have f1:=hf 9 1 (by simp)
  rw [w0W] at f0 f1
  obtain ⟨a,a1,a2⟩:=f0.str_inv w0Y
  obtain ⟨b,b1,b2⟩:=f1.str_inv w0Y
  generalize (vs.drop (i*2)).take 2=w at hl a1 b1
  match w,hl with
  | [c0,c1],_ =>
   simp at a1 b1
   subst a1 b1
   have:=z0Q
   exact ⟨(a,b),rfl,Nat.lt_of_le_of_lt a2 this,Nat.lt_of_le_of_lt b2 this⟩
 rw [f0f] at h2
 subst h2
 exact ⟨v,ls,rfl,by rw [h1];exact hs,h3⟩
theorem p0A {h:AH} {l:List AV} (s:TyZ Tryz.prog h 69 l):∃ (v:AV) (sm:List Smp),l=[v]∧Sl h 2 sm.length v (sm.flatMap smC)∧∀ y ∈ sm,(-9223372036854775808≤y.1∧y.1<9223372036854775808)∧y.2<2 ^ 64:=by
 obtain ⟨v,n,vs,rfl,hn,hs,he⟩:=s.slice_inv y0S v0k o0w
 obtain ⟨ls,h1,h2,h3⟩:=i0o smC (fun x:Smp=>(-9223372036854775808≤x.1∧x.1<9223372036854775808)∧x.2<2 ^ 64) 2 n vs hs.1 fun i hi=>by
  obtain ⟨hl,hf⟩:=(he i hi).struct_inv s02 (by simp)
  rw [o0w] at hl
  have f0:=hf 3 0 (by simp)
  have f1:=hf 66 1 (by simp)
  rw [w0V] at f0
  rw [v0l] at f1
  obtain ⟨a,a1,a2⟩:=f0.int_inv A0n
  obtain ⟨b,b1,b2⟩:=f1.int_inv y0Q
  simp [Lit.wf,IntKind.min,IntKind.max,IntKind.signed] at a2 b2
  generalize (vs.drop (i*2)).take 2=w at hl a1 b1
  match w,hl with
  | [c0,c1],_ =>
   simp at a1 b1
   subst a1 b1
   refine ⟨(a,b.toNat),?_,⟨by show _≤a∧a<_;omega,by show b.toNat<_;omega⟩⟩
   simp only [smC,Int.toNat_of_nonneg b2.1]
 rw [f0f] at h2
 subst h2
 exact ⟨v,ls,rfl,by rw [h1];exact hs,h3⟩
theorem q00 {h:AH} {l:List AV} (s:TyZ Tryz.prog h 30 l):∃ v n,∃ xs:List Sj,l=[v]∧n<2 ^ 62∧Sl h 2 n v (xs.flatMap sjC)∧∀ x ∈ xs,SjIn h x:=by
 obtain ⟨v,n,vs,rfl,hn,hs,he⟩:=s.slice_inv u0b v0i o0u
 obtain ⟨xs,h1,h2,h3⟩:=i0o sjC (fun x:Sj=>SjIn h x) 2 n vs hs.1 fun i hi=>by
  obtain ⟨hl,hf⟩:=(he i hi).struct_inv s00 (by simp)
  rw [o0u] at hl
  have f0:=hf 56 0 (by simp)
  have f1:=hf 69 1 (by simp)
  rw [v0m] at f0
  rw [v0n] at f1
  obtain ⟨lv0,ls,a1,a2,a3⟩:=q0Z f0
  obtain ⟨sv0,sm,b1,b2,b3⟩:=p0A f1
  generalize (vs.drop (i*2)).take 2=w at hl a1 b1
  match w,hl with
  | [y0,y1],_ =>
   simp at a1 b1
   subst a1 b1
   exact ⟨((y0,ls),(y1,sm)),rfl,⟨a2,b2,a3,b3⟩⟩
 rw [f0f] at h2
 subst h2
 have:=z0Q
 exact ⟨v,n,xs,rfl,by omega,hs,h3⟩
def tabZ:List Int:=Lib.deBruijn64tab.map fun n:Nat=>(n:Int)
theorem w0Z:tabZ.length=64:=by decide
theorem q01:Tryz.prog.globalNamed "math/bits.deBruijn64tab"=some 0:=by kernel_rfl
theorem y0T:(Rows.indexSeriesRow.laid:List (String×DataW Unit))=[("math/bits.deBruijn64tab",tabData .u8 tabZ)]:=by kernel_rfl
def v0p (n:Nat) (ρ:Nat→Value):Phi:=⟨fun g=>if g<n then some ⟨g,0,if g=0 then 64 else 0⟩ else none,ρ⟩
def o0x (n:Nat):AH:=AH.set ⟨n,.leaf⟩ 0 (.cells (by8 Lib.deBruijn64tab) true)
theorem e0D {n i:Nat} {o:AObj} (e:(o0x n).get i=some o):i=0∧o=.cells (by8 Lib.deBruijn64tab) true:=by
 by_cases h:i=0
 ·subst h
  have:(o0x n).get 0=some (.cells (by8 Lib.deBruijn64tab) true):=i8 _ _
  rw [this] at e
  exact ⟨rfl,(Option.some.inj e).symm⟩
 ·have:(o0x n).get i=(⟨n,.leaf⟩:AH).get i:=c8 h
  rw [this] at e
  cases e
theorem D0o {W:World} {n:Nat} {ρ:Nat→Value} {c:Array Value} {e:TypeId} {f:Nat×Nat} (hn:0<n) (hW:W.heap[0]? = some (.cells c e f)) (hc:c=(tabZ.map fun z=>Value.int .u8 z).toArray) :
  Rel W.heap.size W (v0p n ρ) (o0x n) W:=by
 refine ⟨fun i p e=>?_,fun i p o e1 e2=>?_,fun i p o _ e2 hw=>?_,fun i j p q oi oj hij _ _ e1 e2=>?_,.refl _ _,Nat.le_refl _⟩
 ·simp only [v0p] at e
  split at e
  ·assumption
  ·cases e
 ·obtain ⟨rfl,rfl⟩:=e0D e2
  simp only [v0p,if_pos hn,if_true,Option.some.injEq] at e1
  subst e1
  refine ⟨c,e,f.1,f.2,hW,?_,?_,?_,fun h=>by cases h⟩
  ·show (by8 Lib.deBruijn64tab).length≤64
   decide
  ·show 0+64≤c.size
   rw [hc]
   simp [w0Z]
  ·intro i x hx
   rw [a0g] at hx
   obtain ⟨y,hy,rfl⟩:=Option.map_eq_some_iff.1 hx
   refine ⟨.int .u8 (y:Int),?_,.int _ _⟩
   rw [hc]
   simp [tabZ,hy]
 ·obtain ⟨rfl,rfl⟩:=e0D e2
  cases hw
 ·obtain ⟨rfl,_⟩:=e0D e1
  obtain ⟨rfl,_⟩:=e0D e2
  exact absurd rfl hij
theorem roT (n:Nat) (ρ:Nat→Value):RO (v0p n ρ) (o0x n):=fun j q o _ e=>by
 obtain ⟨_,rfl⟩:=e0D e
 rfl
theorem globT {ρ:Nat→Value}:GlobRel Tryz.prog (v0p Tryz.prog.globals.size ρ):=fun g hg=>⟨if g=0 then 64 else 0,by simp only [v0p];rw [if_pos hg]⟩
theorem z0R:0<Tryz.prog.globals.size:=of_decide_eq_true (by kernel_rfl)
theorem tyT:(Tryz.prog.globals[0]?).map (·.type)=some 216:=by kernel_rfl
theorem D0p:Tryz.prog.underlying 216=some (.array 64 5):=by kernel_rfl
theorem A0p:Tryz.prog.cellsOf 216=64:=by kernel_rfl
theorem q02 {n:Nat} (hn:0<n):TabIn (o0x n):=⟨hn,i8 _ _⟩
theorem i0G {H:Type} {enc:TypeId×Value→H} {held:Bool} {W:World} {base:Nat} {b0:Nat} {v0:Value} {d0:DataW H} {p0:List MemPlace}
  (hv0:Value.okWide Tryz.prog W .any b0 30 v0) (h0:DataW.Trod enc Tryz.prog W base (fun _=>true) held 30 v0 d0 p0)
  (hw0:∀ n ∈ d0.weights Tryz.prog 30,n≤reachBytes) (hl:laidMetH Tryz.prog Rows.indexSeriesRow.laid W) :
  Calls Tryz.prog 4 #[v0] W fun e W'=>e=.returned (.bool true)∧Below W.heap.size W W':=by
 rw [y0T] at hl
 have hl2:laidMet Tryz.prog [("math/bits.deBruijn64tab",tabData .u8 tabZ)] W:=hl
 have ht:TabIs Tryz.prog W "math/bits.deBruijn64tab" .u8 tabZ:=tabIs_of_head q01 tyT D0p A0o w0X A0p hl2
 have hcell:∃ c e f,W.heap[0]? = some (.cells c e f)∧c=(tabZ.map fun z=>Value.int .u8 z).toArray:=by
  unfold TabIs World.var? at ht
  rw [q01] at ht
  simp only [Option.bind_some] at ht
  split at ht
  ·rename_i cs e f hh
   exact ⟨cs,e,f,hh,Option.some.inj ht⟩
  ·cases ht
 obtain ⟨c,e,f,hW,hc⟩:=hcell
 obtain ⟨φ1,g1,a0,c0,R1,ro1,le1,f1,t0⟩:=s0V (B:=W.heap.size) (w0:=W) u0b v0o hv0 h0 hw0 (D0o (n:=Tryz.prog.globals.size) (ρ:=fun _=>.pointer none) z0R hW hc) (roT _ _)
 obtain ⟨u,n,xs,e1,hn,s1,q1⟩:=q00 t0
 cases e1
 exact y0V (f:=Y2) (args':=[v0]) Tryz.checked.mixed B08 (B0N _ _) (l0a s1 hn q1 ((q02 z0R).fr f1)) (.cons c0 .nil) (globT.le le1) R1
end Go.Proofs.YtkbddcapcjdenaaGreatDoor
