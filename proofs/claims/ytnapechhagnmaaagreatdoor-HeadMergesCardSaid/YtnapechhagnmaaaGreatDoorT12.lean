/-
  Texts joined.
-/
import Derived.Test.YtnapechhagnmaaaGreatDoorT11
import Derived.Test.YtnapechhagnmaaaGreatDoorT4
import Derived.Test.YtnapechhagnmaaaGreatDoorT5

namespace Go.Dk
open Go Go.Dr
set_option maxRecDepth 100000
def B8:List Smp→Smp→List Smp
 | [],s=>[s]
 | x::l,s=>if x.1<s.1 then x::B8 l s else if x.1=s.1 then s::l else s::x::l
def b0H (l:List Smp):Prop:=l.Pairwise fun a b=>a.1<b.1
theorem b0o:∀ (l:List Smp) (s:Smp),(B8 l s).length≤l.length+1
 | [],s=>by simp [B8]
 | x::l,s=>by
  have:=b0o l s
  unfold B8
  split
  ·simp only [List.length_cons];omega
  ·split <;> simp
theorem l0R:∀ (l:List Smp) (s:Smp),0<(B8 l s).length
 | [],s=>by simp [B8]
 | x::l,s=>by unfold B8;split <;> (try split) <;> simp
theorem h0S:∀ (l:List Smp) (s y:Smp),y ∈ B8 l s→y ∈ l∨y=s
 | [],s,y,h=>by simp [B8] at h;exact .inr h
 | x::l,s,y,h=>by
  unfold B8 at h
  split at h
  ·rcases List.mem_cons.1 h with h | h
   ·exact .inl (by simp [h])
   ·rcases h0S l s y h with h | h
    ·exact .inl (by simp [h])
    ·exact .inr h
  ·split at h
   ·rcases List.mem_cons.1 h with h | h
    ·exact .inr h
    ·exact .inl (by simp [h])
   ·rcases List.mem_cons.1 h with h | h
    ·exact .inr h
    ·exact .inl h
theorem c0O:∀ (l:List Smp) (s:Smp),b0H l→b0H (B8 l s)
 | [],s,_=>by simp [B8,b0H]
 | x::l,s,h=>by
  obtain ⟨h1,h2⟩:=List.pairwise_cons.1 h
  unfold B8
  split
  ·rename_i c
   refine List.pairwise_cons.2 ⟨fun y hy=>?_,c0O l s h2⟩
   rcases h0S l s y hy with hy | hy
   ·exact h1 y hy
   ·rw [hy];exact c
  ·split
   ·rename_i c
    refine List.pairwise_cons.2 ⟨fun y hy=>?_,h2⟩
    rw [← c];exact h1 y hy
   ·refine List.pairwise_cons.2 ⟨fun y hy=>?_,h⟩
    rcases List.mem_cons.1 hy with rfl | hy
    ·omega
    ·have:=h1 y hy;omega
theorem g0G:∀ (l:List Smp) (s x:Smp) (q:Nat),l[q]? = some x→x.1=s.1→(∀ i y,i<q→l[i]? = some y→y.1<s.1)→B8 l s=l.set q s
 | [],s,x,q,h,_,_=>by simp at h
 | a::l,s,x,0,h,e,_=>by
  simp at h;subst h
  unfold B8;rw [if_neg (by omega),if_pos e];rfl
 | a::l,s,x,q+1,h,e,hl=>by
  have:=hl 0 a (by omega) rfl
  unfold B8;rw [if_pos this,List.set_cons_succ,g0G l s x q (by simpa using h) e fun i y hi hy=>hl (i+1) y (by omega) (by simpa using hy)]
theorem h0T:∀ (l:List Smp) (s:Smp) (q:Nat),q≤l.length→(∀ y,l[q]? = some y→s.1<y.1)→(∀ i y,i<q→l[i]? = some y→y.1<s.1)→B8 l s=l.take q++[s]++l.drop q
 | [],s,q,_,_,_=>by simp [B8]
 | a::l,s,0,_,h,_=>by
  have:=h a rfl
  unfold B8;rw [if_neg (by omega),if_neg (by omega)];rfl
 | a::l,s,q+1,hq,h,hl=>by
  have:=hl 0 a (by omega) rfl
  unfold B8;rw [if_pos this,h0T l s q (by simpa using hq) (fun y hy=>h y (by simpa using hy)) fun i y hi hy=>hl (i+1) y (by omega) (by simpa using hy)]
  rfl
theorem o0n {l:List Smp} (h:b0H l) {i j:Nat} {x y:Smp} (hi:l[i]? = some x) (hj:l[j]? = some y) (hij:i<j):x.1<y.1:=by
 obtain ⟨h1,e1⟩:=List.getElem?_eq_some_iff.1 hi
 obtain ⟨h2,e2⟩:=List.getElem?_eq_some_iff.1 hj
 have:=List.pairwise_iff_getElem.1 h i j h1 h2 hij
 rw [e1,e2] at this
 exact this
theorem e0Y (l:List Smp):a7 (l.flatMap smC)=true:=by
 induction l with
 | nil=>rfl
 | cons x l ih=>simp [List.flatMap_cons,smC,ih]
theorem e0Z (s:Smp):G5 12 (.agg (smC s)) (.agg (smC s))=true:=by
 show Bool.and (_) (Bool.and (_) true)=true
 simp [G5,smC]
theorem j0h:∀ (l:List Smp) (q:Nat) (s:Smp),q<l.length→o7 (l.flatMap smC) (q*2) (smC s)=(l.set q s).flatMap smC
 | [],q,s,h=>by simp at h
 | a::l,0,s,_=>by simp [u6,smC]
 | a::l,q+1,s,h=>by
  have ih:=j0h l q s (by simpa using h)
  have e:(q+1)*2=q*2+1+1:=by omega
  rw [u6] at ih ⊢
  rw [List.flatMap_cons,List.set_cons_succ,List.flatMap_cons,← ih,e]
  have e2:q*2+1+1+(smC s).length=q*2+(smC s).length+1+1:=by omega
  rw [e2]
  simp [smC]
def m0M (h:AH) (l:List Smp) (s:Smp) (r:AV) (g:AH):Prop:=Fr h g∧Own h.next g 2 (B8 l s).length r ((B8 l s).flatMap smC)
end Go.Dk

namespace Go.Dk
open Go Go.Dr
set_option maxRecDepth 100000
theorem Own.storeE {h:AH} {B es n:Nat} {v:AV} {l:List AV} (s:Own B h es n v l) {k:IntKind} {i:Int} {j:Nat} (hi:i=j) (hj:j<n) {c:List AV} (hc:c.length=es) (hes:0<es) (hx:a7 c=true) :
  ∃ id o h',D3 es v (.int k i)=.ok (.ptr id o)∧u9 h id o c=.ok h'∧Own B h' es n v (o7 l (j*es) c)∧FrB B h h'∧h'.next=h.next∧(∀ i,k7 v≠some i→h'.get i=h.get i):=by
 subst hi
 rcases s.2 with ⟨rfl,rfl⟩ | ⟨id,off,x',vs,rfl,e2,e3,e4,e5,rfl⟩
 ·omega
 ·have hle:j*es+es≤n*es:=by
   have:=Nat.mul_le_mul_right es (show j+1≤n from hj)
   rw [Nat.add_mul,Nat.one_mul] at this
   exact this
  have hsl:(o7 vs (off+j*es) c).length=vs.length:=B0 _ _ _ (by omega)
  have hst:u9 h id (off+j*es) c=.ok (h.set id (.cells (o7 vs (off+j*es) c) false)):=by
   have hb:Nat.ble (off+j*es+c.length) vs.length=true:=Nat.ble_eq_true_of_le (by omega)
   cases c with
   | nil=>simp at hc;omega
   | cons a c=>simp only [u9,e4,hb,hx,Bool.and_self,cond_true]
  refine ⟨id,off+j*es,h.set id (.cells (o7 vs (off+j*es) c) false),by rw [I2 _ _ _ _ _ _ _ _ ⟨by omega,by omega⟩,Int.toNat_natCast],hst,⟨?_,.inr ⟨id,off,x',_,rfl,e2,e3,j8 _ _,by rw [hsl];exact e5,?_⟩⟩,⟨Nat.le_refl _,fun i hi=>c8 (by omega)⟩,rfl,fun i hi=>c8 (by intro e;apply hi;rw [e];rfl)⟩
  ·rw [B0 _ _ _ (by rw [s.1];omega)];exact s.1
  ·simp only [u6,hc]
   generalize j*es=a at *
   generalize n*es=m at *
   have h1:(vs.take (off+a)++(c++vs.drop (off+a+es))).drop off=(vs.drop off).take a++(c++(vs.drop off).drop (a+es)):=by
    rw [List.drop_append,List.drop_take,List.length_take,Nat.min_eq_left (by omega),List.drop_drop,show off - (off+a)=0 from by omega,List.drop_zero,show off+a - off=a from by omega,Nat.add_assoc]
   rw [h1]
   generalize hw:vs.drop off=w at *
   have hwl:m≤w.length:=by rw [← hw,List.length_drop];omega
   rw [List.take_append,List.take_take,List.length_take,Nat.min_eq_right (by omega),Nat.min_eq_left (show a≤w.length from by omega),List.take_append,List.take_of_length_le (show c.length≤m - a from by omega),List.take_take,Nat.min_eq_left (show a≤m from by omega),hc,List.drop_take,show m - a - es=m - (a+es) from by omega]
def GeI (l:List Smp) (s:Smp) (q:Nat):Prop:=∀ i y,q≤i→l[i]? = some y→s.1≤y.1
def LtI (l:List Smp) (s:Smp) (q:Nat):Prop:=∀ i y,i<q→l[i]? = some y→y.1<s.1
theorem j06 {h:AH} {n:Nat} {v:AV} {l:List Smp} {s:Smp} (sl:Sl h 2 n v (l.flatMap smC)) (hr:b0H l) (hn:n≤2 ^ 30) :
  Ev P SI (.fn V6) [v,.agg (smC s)] h (m0M h l s):=by
 refine o9 h0t rfl rfl ?_
 have hl:=i08 sl
 have fp:=Fr.push (.refl h) (.cells (smC s) false)
 have ge:(h.push (.cells (smC s) false)).get h.next=some (.cells (smC s) false):=a8 _
 simp [d0E,sl.len]
 generalize hg0:h.push (.cells (smC s) false)=g0 at *
 have gn:g0.next=h.next+1:=by rw [← hg0];rfl
 have s0:=sl.fr fp
 have m0:load1 g0 h.next 0=.ok (.int .i64 s.1):=c9 ge
 have mn:loadN g0 h.next 0 2=.ok (smC s):=w9 ge rfl
 refine a0z (Q:=fun x σ ds g=>x=.exit 0∧ds=[]∧g=g0∧∃ q,q≤n∧σ 0=v∧σ 3=.ptr h.next 0∧σ 5=.int .i64 (q:Int)∧GeI l s q∧LtI l s q) ?_ ?_
 ·refine d0m (fun q σ ds g=>q≤n∧ds=[]∧σ 0=v∧σ 3=.ptr h.next 0∧σ 5=.int .i64 (q:Int)∧g=g0∧GeI l s q) n ⟨Nat.le_refl _,rfl,by simp,by simp,by simp,rfl,fun i y hi hy=>by have:=(List.getElem?_eq_some_iff.1 hy).1;omega⟩ ?_
  rintro q σ ds g ⟨hq,rfl,e0,e3,e5,rfl,hge⟩
  by_cases hq0:q=0
  ·subst hq0
   simp [e0,e3,e5]
   exact ⟨0,Nat.zero_le _,rfl,fun i y _ hy=>hge i y (Nat.zero_le _) hy,fun i y hi=>by omega⟩
  ·obtain ⟨p,rfl⟩:∃ p,q=p+1:=⟨q - 1,by omega⟩
   obtain ⟨y,hy⟩:=B9 (l:=l) (j:=p) (by omega)
   obtain ⟨id,o,x1,_,x2,_⟩:=f0G s0 hy
   have c0:(0:Int)<((p+1:Nat):Int):=by omega
   have w1:v7 .i64 (((p+1:Nat):Int) - 1)=(p:Int):=by rw [wrap_i64 (by omega) (by omega)];omega
   have hp1:p<p+1:=Nat.lt_succ_self _
   generalize hpp:p+1=p1 at *
   have c0':0<p1:=by omega
   by_cases hys:y.1<s.1
   ·have hc:¬ s.1≤y.1:=by omega
    simp [e0,e3,e5,c0',w1,x1,x2,m0,hc]
    refine ⟨p1,hq,rfl,hge,fun i z hi hz=>?_⟩
    by_cases hip:i=p
    ·subst hip;rw [hy] at hz;cases hz;exact hys
    ·have:=o0n hr hz hy (by omega);omega
   ·have hc:s.1≤y.1:=by omega
    simp [e0,e3,e5,c0',w1,x1,x2,m0,hc,F5]
    refine ⟨p,hp1,by omega,rfl,fun i z hi hz=>?_⟩
    by_cases hip:i=p
    ·subst hip;rw [hy] at hz;cases hz;exact hc
    ·exact hge i z (by omega) hz
 rintro x σ ds g ⟨rfl,rfl,rfl,q,hq,e0,e3,e5,hge,hlt⟩
 have hsc:a7 (smC s)=true:=by simp [smC]
 obtain ⟨a,b,v1,g1,v2,g2,v3,g3,f1,f2,f3,f4,f5,f6,f7,F1,F2⟩:=o0Z (x:=smC s) (bytes:=16) s0 hq rfl (by rw [show l.flatMap smC++smC s=(l++[s]).flatMap smC from by simp];exact e0Y _) (by omega) (by omega) .i64 .i64
 have fin:(∀ i y,i<q→l[i]? = some y→y.1<s.1)→(∀ y,l[q]? = some y→y.1≠s.1)→m0M h l s v3 g3:=by
  intro hlt hne
  have e:=h0T l s q (by omega) (fun y hy=>by have:=hge q y (Nat.le_refl _) hy;have:=hne y hy;omega) hlt
  refine ⟨fp.trans f7,?_⟩
  have hlen:(B8 l s).length=n+1:=by rw [e];simp;omega
  rw [hlen,e]
  have:=f6.base (B':=h.next) (by omega)
  rw [R0 (es:=2) (f:=smC) l (fun _ _=>rfl),Z6 (es:=2) (f:=smC) l (fun _ _=>rfl)] at this
  simpa using this
 have o0:=Own.fresh (B:=h.next) (h:=g) (es:=2) (n:=0) (l:=[]) true (by omega) rfl
 obtain ⟨u1,k1,c1,o1,fb1,p1,i1⟩:=o0.append (bytes:=16) (s0.fr (Fr.push (.refl g) _)) (by show h.next≤g.next+1;omega) (e0Y _) (by omega) (by omega)
 rw [Nat.zero_add,List.nil_append] at o1
 have n1:g.next+1≤k1.next:=fb1.next
 have fk:Fr g k1:=⟨by omega,fun i hi=>by rw [p1 i (by show i<g.next+1;omega) (by simp [k7];omega),b9 (by omega)]⟩
 have mn1:loadN k1 h.next 0 2=.ok (smC s):=w9 (by rw [fk.get _ (by omega),ge]) rfl
 have same:∀ y,l[q]? = some y→y.1=s.1→(∀ i y,i<q→l[i]? = some y→y.1<s.1)→∃ id o k2,D3 2 u1 (.int .i64 (q:Int))=.ok (.ptr id o)∧u9 k1 id o (smC s)=.ok k2∧m0M h l s u1 k2:=by
  intro y hy e hlt
  have hqn:q<n:=by have:=(List.getElem?_eq_some_iff.1 hy).1;omega
  obtain ⟨id,o,k2,x1,x2,x3,x4,x5,x6⟩:=Own.storeE o1 (k:=.i64) (i:=(q:Int)) rfl hqn (c:=smC s) rfl (by omega) hsc
  rw [j0h l q s (by omega),← g0G l s y q hy e hlt] at x3
  have hlen:(B8 l s).length=n:=by rw [g0G l s y q hy e hlt,List.length_set];exact hl
  refine ⟨id,o,k2,x1,x2,⟨by have:=x4.next;omega,fun i hi=>?_⟩,by rw [hlen];exact x3⟩
  rw [x4.get i hi,fk.get i (by omega),fp.get i hi]
 have agv:G5 12 (.agg (smC s)) (.agg (smC s))=true:=e0Z s
 have hsl:(smC s).length=2:=rfl
 have q1:loadN (g.push (.cells [] false)) h.next 0 2=.ok (smC s):=w9 (by rw [b9 (by omega),ge]) rfl
 have q2:loadN ((g.push (.cells [] false)).push (.cells (smC s) false)) h.next 0 2=.ok (smC s):=w9 (by rw [b9 (by show h.next≠g.next+1;omega),b9 (by omega),ge]) rfl
 have q3:loadN g1 h.next 0 2=.ok (smC s):=w9 (by rw [F1.get _ (by omega),ge]) rfl
 by_cases hqn:q<n
 ·obtain ⟨y,hy⟩:=B9 (l:=l) (j:=q) (by omega)
  obtain ⟨id,o,x1,_,x2,_⟩:=f0G s0 hy
  by_cases hys:y.1=s.1
  ·obtain ⟨id2,o2,k2,z1,z2,z3⟩:=same y hy hys hlt
   simp [e0,e3,e5,s0.len,hqn,x1,x2,m0,hys,c1,mn1,z1,O6,hsl,z2]
   exact z3
  ·have hf:=fin hlt (fun z hz=>by rw [hy] at hz;cases hz;exact hys)
   simp [e0,e3,e5,s0.len,hqn,x1,x2,m0,hys,f1,f2,f3,f4,f5,q1,q2,q3,u6,agv,hsl]
   exact hf
 ·have hf:=fin hlt (fun y hy=>by have:=(List.getElem?_eq_some_iff.1 hy).1;omega)
  simp [e0,e3,e5,s0.len,hqn,f1,f2,f3,f4,f5,q1,q2,q3,u6,agv,hsl]
  exact hf
end Go.Dk

namespace Go.Dk
open Go Go.Dr
set_option maxRecDepth 100000
theorem a0d {es n:Nat} {g g':AH} {v:AV} {l:List AV} (s:Sl g es n v l) (hn:g.next≤g'.next) (p:∀ id,k7 v=some id→g'.get id=g.get id):Sl g' es n v l:=by
 refine ⟨s.1,?_⟩
 rcases s.2 with e | ⟨i,off,cap,x,vs,ro,e1,e2,e3,e4,e5,e6⟩
 ·exact .inl e
 ·exact .inr ⟨i,off,cap,x,vs,ro,e1,Nat.lt_of_lt_of_le e2 hn,e3,by rw [p i (by rw [e1];rfl)];exact e4,e5,e6⟩
abbrev Sj:=(AV×List Lab)×(AV×List Smp)
def sjC (x:Sj):List AV:=[x.1.1,x.2.1]
def plJ (x:Sj):List Lab×List Smp:=(x.1.2,x.2.2)
structure SjOk (h:AH) (x:Sj):Prop where
 lab:Sl h 2 x.1.2.length x.1.1 (x.1.2.flatMap H7)
 smp:Sl h 2 x.2.2.length x.2.1 (x.2.2.flatMap smC)
theorem SjOk.fr {h g:AH} {x:Sj} (s:SjOk h x) (f:Fr h g):SjOk g x:=⟨s.lab.fr f,s.smp.fr f⟩
theorem a0e (xs:List Sj):(xs.flatMap sjC).length=xs.length*2:=O3 xs (fun _ _=>rfl)
theorem d0w {h:AH} {n:Nat} {v:AV} {xs:List Sj} (s:Sl h 2 n v (xs.flatMap sjC)) {j:Nat} {x:Sj} (hx:xs[j]? = some x) :
  ∃ id o,D3 2 v (.int .i64 (j:Int))=.ok (.ptr id o)∧loadN h id o 2=.ok (sjC x)∧load1 h id o=.ok x.1.1∧load1 h id (o+1)=.ok x.2.1∧id<h.next:=by
 obtain ⟨id,o,h1,h2,h3,h4⟩:=s.elem (fun _ _=>rfl) (by omega) (k:=.i64) (i:=(j:Int)) rfl hx
 exact ⟨id,o,h1,h2,h3 0 _ rfl,h3 1 _ rfl,h4⟩
def C1:List (List Lab×List Smp)→List Lab→List Smp→List (List Lab×List Smp)
 | [],ls,ss=>[(ls,ss.foldl B8 [])]
 | y::out,ls,ss=>if l8 y.1 ls<0 then y::C1 out ls ss else if l8 y.1 ls=0 then (y.1,ss.foldl B8 y.2)::out else (ls,ss.foldl B8 [])::y::out
def e09 (out:List (List Lab×List Smp)) (x:List Lab×List Smp):List (List Lab×List Smp):=if x.2=[] then out else C1 out x.1 x.2
def b0K (l:List (List Lab×List Smp)):List (List Lab×List Smp):=l.foldl e09 []
theorem c0t:∀ (l:List (List Lab×List Smp)) (ls:List Lab) (ss:List Smp) (q:Nat),q≤l.length→(∀ y,l[q]? = some y→0<l8 y.1 ls)→(∀ i y,i<q→l[i]? = some y→l8 y.1 ls<0) →
  C1 l ls ss=l.take q++[(ls,ss.foldl B8 [])]++l.drop q
 | [],ls,ss,q,_,_,_=>by simp [C1]
 | a::l,ls,ss,0,_,h,_=>by
  have:=h a rfl
  unfold C1;rw [if_neg (by omega),if_neg (by omega)];rfl
 | a::l,ls,ss,q+1,hq,h,hl=>by
  have:=hl 0 a (by omega) rfl
  unfold C1;rw [if_pos this,c0t l ls ss q (by simpa using hq) (fun y hy=>h y (by simpa using hy)) fun i y hi hy=>hl (i+1) y (by omega) (by simpa using hy)]
  rfl
theorem e0t:∀ (l:List (List Lab×List Smp)) (ls:List Lab) (ss:List Smp) (q:Nat) (y:List Lab×List Smp),l[q]? = some y→l8 y.1 ls=0→(∀ i y,i<q→l[i]? = some y→l8 y.1 ls<0) →
  C1 l ls ss=l.set q (y.1,ss.foldl B8 y.2)
 | [],ls,ss,q,y,h,_,_=>by simp at h
 | a::l,ls,ss,0,y,h,e,_=>by
  simp at h;subst h
  unfold C1;rw [if_neg (by omega),if_pos e];rfl
 | a::l,ls,ss,q+1,y,h,e,hl=>by
  have:=hl 0 a (by omega) rfl
  unfold C1;rw [if_pos this,List.set_cons_succ,e0t l ls ss q y (by simpa using h) e fun i y hi hy=>hl (i+1) y (by omega) (by simpa using hy)]
structure JoinI (B t:Nat) (g:AH) (ov:AV) (ys:List Sj):Prop where
 own:Own B g 2 ys.length ov (ys.flatMap sjC)
 el:∀ y ∈ ys,SjOk g y∧(∀ i,k7 y.1.1=some i→k7 ov≠some i)∧(∀ i,k7 y.2.1=some i→k7 ov≠some i)∧b0H y.2.2∧y.2.2.length≤t∧y.1.2.length≤2 ^ 30
theorem JoinI.fr {B t:Nat} {g g':AH} {ov:AV} {ys:List Sj} (a:JoinI B t g ov ys) (f:Fr g g'):JoinI B t g' ov ys :=
 ⟨a.own.fr f,fun y hy=>⟨(a.el y hy).1.fr f,(a.el y hy).2⟩⟩
theorem g08:∀ (l:List Sj) (q:Nat) (y:Sj) (r:AV) (s:List Smp),l[q]? = some y→(l.flatMap sjC).set (q*2+1) r=(l.set q (y.1,(r,s))).flatMap sjC
 | [],q,y,r,s,h=>by simp at h
 | a::l,0,y,r,s,h=>by simp at h;subst h;rfl
 | a::l,q+1,y,r,s,h=>by
  have ih:=g08 l q y r s (by simpa using h)
  rw [List.set_cons_succ,List.flatMap_cons,List.flatMap_cons,← ih,show (q+1)*2+1=(q*2+1)+2 from by omega]
  rfl
theorem K8 {h:AH}:∀ {l:List Sj},(∀ y ∈ l,SjOk h y)→a7 (l.flatMap sjC)=true
 | [],_=>rfl
 | x::l,hy=>by
  have h1:=hy x (by simp)
  have:=K8 fun y hm=>hy y (List.mem_cons_of_mem _ hm)
  simp [List.flatMap_cons,sjC,h1.lab.oneCell.2,h1.smp.oneCell.2,this]
theorem k00 {B t q:Nat} {g g2:AH} {ov r:AV} {ys:List Sj} {y:Sj} {s:Smp} (a:JoinI B t g ov ys) (hy:ys[q]? = some y) (hr:m0M g y.2.2 s r g2) :
  ∃ id o g3,D3 2 ov (.int .i64 (q:Int))=.ok (.ptr id o)∧u9 g2 id (o+1) [r]=.ok g3∧JoinI B (t+1) g3 ov (ys.set q (y.1,(r,B8 y.2.2 s)))∧FrB B g2 g3∧g3.next=g2.next∧∀ i,k7 ov≠some i→g3.get i=g2.get i:=by
 obtain ⟨f,o2⟩:=hr
 have hq:=(List.getElem?_eq_some_iff.1 hy).1
 obtain ⟨id,o,g3,h1,h2,h3,h4,h5,h6⟩:=(a.own.fr f).store2 (k:=.i64) (i:=(q:Int)) (j:=q) (c:=1) rfl hq (by omega) (x:=r) o2.sl.oneCell.2
 rw [g08 ys q y r (B8 y.2.2 s) hy] at h3
 have kp:∀ {es n:Nat} {v:AV} {l:List AV},Sl g2 es n v l→(∀ i,k7 v=some i→k7 ov≠some i)→Sl g3 es n v l:=fun s hn=>a0d s (by omega) (fun k hk=>h6 k (hn k hk))
 have hro:∀ i,k7 r=some i→k7 ov≠some i:=fun i hi e=>by
  have h7:=Sl.idLt a.own.sl e
  exact absurd hi (o2.ne h7)
 refine ⟨id,o,g3,h1,h2,⟨by rw [List.length_set];exact h3,fun z hz=>?_⟩,h4,h5,h6⟩
 obtain ⟨y1,y2,y3,y4,y5,y6⟩:=a.el y (List.mem_of_getElem? hy)
 rcases List.mem_or_eq_of_mem_set hz with hz | hz
 ·obtain ⟨z1,z2,z3,z4,z5,z6⟩:=a.el z hz
  exact ⟨⟨kp (z1.fr f).lab z2,kp (z1.fr f).smp z3⟩,z2,z3,z4,by omega,z6⟩
 ·subst hz
  have:=b0o y.2.2 s
  exact ⟨⟨kp (y1.fr f).lab y2,kp o2.sl hro⟩,y2,hro,c0O _ _ y4,by simp only;omega,y6⟩
end Go.Dk

namespace Go.Dk
open Go Go.Dr
set_option maxRecDepth 100000
theorem h0u {B t q:Nat} {g:AH} {ov:AV} {ys:List Sj} {ls:List Lab} (a:JoinI B t g ov ys) (hq:q≤ys.length) (hB:B≤g.next) (hn:ys.length≤2 ^ 29) (hls:ls.length≤2 ^ 30) :
  ∃ u w v1 g1,i8 2 ov none (some (.int .i64 (q:Int))) none=.ok u∧i8 2 ov (some (.int .i64 (q:Int))) none none=.ok w ∧
   E5 2 48 (.slice g.next 0 0 0 true 2) u (g.push (.cells [] false))=okV v1 g1∧Fr g g1 ∧
   ∀ lv g2,Fr g1 g2→Own g1.next g2 2 ls.length lv (ls.flatMap H7) →
    ∃ v3 g3 v4 g4,E5 2 48 v1 (.slice g2.next 0 1 1 true 2) (g2.push (.cells [lv,.nils] false))=okV v3 g3∧E5 2 48 v3 w g3=okV v4 g4∧Fr g g4 ∧
     JoinI B t g4 v4 (ys.take q++[((lv,ls),(.nils,[]))]++ys.drop q)∧(∀ i,k7 v4=some i→g.next≤i):=by
 have hsc:=K8 (fun y hy=>(a.el y hy).1)
 have hsct:a7 ((ys.take q).flatMap sjC)=true:=K8 (fun y hy=>(a.el y (List.mem_of_mem_take hy)).1)
 have hscd:a7 ((ys.drop q).flatMap sjC)=true:=K8 (fun y hy=>(a.el y (List.mem_of_mem_drop hy)).1)
 obtain ⟨u,eu,su⟩:=a.own.sl.slice (lo:=none) (hi:=some (.int .i64 (q:Int))) (a:=0) (b:=q) (.inl ⟨rfl,rfl⟩) (.inr ⟨.i64,rfl⟩) (Nat.zero_le _) hq
 obtain ⟨w,ew,sw⟩:=a.own.sl.slice (lo:=some (.int .i64 (q:Int))) (hi:=none) (a:=q) (b:=ys.length) (.inr ⟨.i64,rfl⟩) (.inl ⟨rfl,rfl⟩) hq (Nat.le_refl _)
 rw [Nat.zero_mul,List.drop_zero,Nat.sub_zero,R0 (es:=2) (f:=sjC) ys (fun _ _=>rfl)] at su
 rw [Z6 (es:=2) (f:=sjC) ys (fun _ _=>rfl),List.take_of_length_le (by rw [a0e,List.length_drop];exact Nat.le_refl _)] at sw
 have f0:=Fr.push (.refl g) (.cells [] false)
 have gn0:(g.push (.cells [] false)).next=g.next+1:=rfl
 have o0:=Own.fresh (B:=g.next) (h:=g) (es:=2) (n:=0) (l:=[]) true (Nat.le_refl _) rfl
 generalize hg0:g.push (.cells [] false)=g0 at *
 obtain ⟨v1,g1,c1,o1,fb1,p1,i1⟩:=o0.append (bytes:=48) (su.fr f0) (by omega) hsct (by omega) (by omega)
 rw [Nat.zero_add,List.nil_append] at o1
 have n1:=fb1.next
 have F1:Fr g g1:=⟨by omega,fun i hi=>by rw [fb1.get i hi,f0.get i hi]⟩
 refine ⟨u,w,v1,g1,eu,ew,c1,F1,fun lv g2 f2 ol=>?_⟩
 have n2:=f2.next
 have hlc:=ol.sl.oneCell
 have hlid:∀ i,k7 lv=some i→g1.next≤i∧i<g2.next:=fun i hi=>⟨by
  by_cases h:i<g1.next
  ·exact absurd hi (ol.ne h)
  ·omega,Sl.idLt ol.sl hi⟩
 have hv1:∀ i,k7 v1=some i→i<g1.next:=fun i hi=>Sl.idLt o1.sl hi
 obtain ⟨v3,g3,c3,o3,fb3,p3,i3⟩:=(o1.fr f2).snoc2 (bytes:=48) (x:=[lv,.nils]) (by omega) rfl (by simp [hlc.2]) (by omega) (by omega)
 have n3:=fb3.next
 have F3:Fr g g3:=⟨by omega,fun i hi=>by rw [fb3.get i hi,f2.get i (by omega),F1.get i hi]⟩
 obtain ⟨v4,g4,c4,o4,fb4,p4,i4⟩:=o3.append (bytes:=48) (sw.fr F3) (by omega) hscd (by omega) (by omega)
 have n4:=fb4.next
 have F4:Fr g g4:=⟨by omega,fun i hi=>by rw [fb4.get i hi,F3.get i hi]⟩
 have hv4:∀ i,k7 v4=some i→g.next≤i:=fun i hi=>by
  by_cases h:i<g.next
  ·exact absurd hi (o4.ne h)
  ·omega
 refine ⟨v3,g3,v4,g4,c3,c4,F4,⟨?_,fun y hy=>?_⟩,hv4⟩
 ·have hl:(ys.take q++[((lv,ls),((AV.nils:AV),([]:List Smp)))]++ys.drop q).length=q+1+(ys.length - q):=by simp;omega
  rw [hl]
  have o5:=o4.base (B':=B) hB
  simpa [sjC] using o5
 ·have old:∀ z ∈ ys,SjOk g4 z∧(∀ i,k7 z.1.1=some i→k7 v4≠some i)∧(∀ i,k7 z.2.1=some i→k7 v4≠some i)∧b0H z.2.2∧z.2.2.length≤t∧z.1.2.length≤2 ^ 30:=fun z hz=>by
   obtain ⟨z1,z2,z3,z4⟩:=a.el z hz
   exact ⟨z1.fr F4,fun i hi e=>by have:=Sl.idLt z1.lab hi;have:=hv4 i e;omega,fun i hi e=>by have:=Sl.idLt z1.smp hi;have:=hv4 i e;omega,z4⟩
  rcases List.mem_append.1 hy with hy | hy
  ·rcases List.mem_append.1 hy with hy | hy
   ·exact old y (List.mem_of_mem_take hy)
   ·simp at hy
    subst hy
    have hne3:∀ i,k7 lv=some i→k7 v3≠some i:=fun i hi e=>by
     have:=hlid i hi
     rcases i3 i e with e | e
     ·have:=hv1 i e;omega
     ·omega
    refine ⟨⟨?_,Sl.nil 2⟩,fun i hi e=>?_,fun i hi=>by simp [k7] at hi,by simp [b0H],by simp,hls⟩
    ·refine a0d ol.sl (by omega) (fun k hk=>?_)
     have:=hlid k hk
     rw [p4 k (by omega) (hne3 k hk),p3 k (by omega) (fun e=>by have:=hv1 k e;omega)]
    ·have h5:=hlid i hi
     rcases i4 i e with e | e
     ·exact hne3 i hi e
     ·omega
  ·exact old y (List.mem_of_mem_drop hy)
theorem e0D {h:AH} {n:Nat} {v:AV} {l:List Lab} (s:Sl h 2 n v (l.flatMap H7)) (hn:n≤2 ^ 30):Ev P SI (.fn a0j) [v] h fun r g=>Fr h g∧Own h.next g 2 l.length r (l.flatMap H7):=by
 refine o9 g0r rfl rfl ?_
 have hl:=U7 s
 have o0:=Own.fresh (B:=h.next) (h:=h) (es:=2) (n:=0) (l:=[]) true (Nat.le_refl _) rfl
 have hsc:a7 (l.flatMap H7)=true:=by
  clear s hl o0
  induction l with
  | nil=>rfl
  | cons x l ih=>simp [List.flatMap_cons,H7,ih]
 obtain ⟨v1,g1,c1,o1,fb1,p1,i1⟩:=o0.append (bytes:=32) (s.fr (Fr.push (.refl h) _)) (Nat.le_succ _) hsc (by omega) (by omega)
 rw [Nat.zero_add,List.nil_append,← hl] at o1
 simp [c0z,c1]
 exact ⟨⟨by have:=fb1.next;have:(h.push (.cells [] false)).next=h.next+1:=rfl;omega,fun i hi=>by rw [fb1.get i hi,b9 (by omega)]⟩,o1⟩
end Go.Dk
