/-
  Texts joined.
-/
import Derived.Test.YtkbddcapcjdenaaGreatDoorT12

namespace Go.Dk
open Go Go.Dr
set_option maxRecDepth 100000
def tk (k:Nat) (r:List Nat):Option (List Nat×List Nat):=if k≤r.length then some (r.take k,r.drop k) else none
def num (k:Nat) (r:List Nat):Option (Nat×List Nat):=if k≤r.length then some (beV (r.take k),r.drop k) else none
theorem t0V (k:Nat) (r:List Nat):num k r=(tk k r).map fun p=>(beV p.1,p.2):=by
 unfold num tk
 split <;> rfl
theorem y0t (r:List Nat):L7 r=(num 1 r).bind fun p=>(tk p.1 p.2).map fun q=>(Q9 q.1,q.2):=by
 cases r with
 | nil=>rfl
 | cons k t =>
  have h1:num 1 (k::t)=some (k,t):=by simp [num,beV]
  rw [h1,Option.bind_some]
  simp only [L7,tk]
  by_cases hk:k≤t.length
  ·rw [if_pos hk,if_pos hk];rfl
  ·rw [if_neg hk,if_neg hk];rfl
def rdT:Nat→List Nat→Option (List Txt×List Nat)
 | 0,r=>some ([],r)
 | n+1,r=>(L7 r).bind fun p=>(rdT n p.2).map fun q=>(p.1::q.1,q.2)
def d04 (T:List Txt) (a b:Nat):Option Lab:=match T[a]?,T[b]? with
 | some x,some y=>some (x,y)
 | _,_=>none
def rdL (T:List Txt):Nat→List Nat→Option (List Lab×List Nat)
 | 0,r=>some ([],r)
 | n+1,r=>(num 4 r).bind fun a=>(num 4 a.2).bind fun b=>(d04 T a.1 b.1).bind fun x=>(rdL T n b.2).map fun q=>(x::q.1,q.2)
def s64 (n:Nat):Int:=b9 .i64 (n:Int)
def rd1 (T:List Txt) (at':Int) (r:List Nat):Option (Ep×List Nat) :=
 (num 1 r).bind fun k=>(rdL T k.1 k.2).bind fun l=>(num 4 l.2).bind fun sz=>(num 8 sz.2).bind fun mn=>(num 8 mn.2).map fun mx =>
  (⟨l.1,at',s64 sz.1,s64 mn.1,s64 mx.1⟩,mx.2)
def rdE (T:List Txt):Nat→Int→List Nat→Option (List Ep×List Nat)
 | 0,_,r=>some ([],r)
 | n+1,at',r=>(rd1 T at' r).bind fun e=>(rdE T n (b9 .i64 (at'+e.1.sz)) e.2).map fun q=>(e.1::q.1,q.2)
def rdI (b:List Nat):Option (List Ep) :=
 (num 4 b).bind fun n=>(rdT n.1 n.2).bind fun t=>(num 4 t.2).bind fun m=>(rdE t.1 m.1 0 m.2).map (·.1)
theorem B0c {k:Nat} {r:List Nat} {p:List Nat×List Nat} (h:tk k r=some p):p.1.length=k∧p.2.length+k=r.length∧(∀ y ∈ p.2,y ∈ r)∧(∀ y ∈ p.1,y ∈ r):=by
 unfold tk at h
 split at h
 ·cases h
  simp only [List.length_take,List.length_drop]
  exact ⟨by omega,by omega,fun y hy=>List.mem_of_mem_drop hy,fun y hy=>List.mem_of_mem_take hy⟩
 ·cases h
theorem d05 {k:Nat} {r:List Nat} {p:Nat×List Nat} (h:num k r=some p):p.2.length+k=r.length:=by
 rw [t0V] at h
 obtain ⟨q,h1,h2⟩:=Option.map_eq_some_iff.1 h
 cases h2
 exact (B0c h1).2.1
theorem u0R {T:List Txt}:∀ {n:Nat} {r:List Nat} {p:List Lab×List Nat},rdL T n r=some p→p.2.length≤r.length
 | 0,r,p,h=>by cases h;exact Nat.le_refl _
 | n+1,r,p,h=>by
  simp only [rdL] at h
  obtain ⟨a,h1,h⟩:=Option.bind_eq_some_iff.1 h
  obtain ⟨b,h2,h⟩:=Option.bind_eq_some_iff.1 h
  obtain ⟨x,_,h⟩:=Option.bind_eq_some_iff.1 h
  obtain ⟨q,h3,h4⟩:=Option.map_eq_some_iff.1 h
  cases h4
  have:=d05 h1
  have:=d05 h2
  have:=u0R h3
  simp only
  omega
theorem z0D {T:List Txt} {at':Int} {r:List Nat} {p:Ep×List Nat} (h:rd1 T at' r=some p):p.2.length+21≤r.length:=by
 simp only [rd1] at h
 obtain ⟨a,h1,h⟩:=Option.bind_eq_some_iff.1 h
 obtain ⟨b,h2,h⟩:=Option.bind_eq_some_iff.1 h
 obtain ⟨c,h3,h⟩:=Option.bind_eq_some_iff.1 h
 obtain ⟨d,h4,h⟩:=Option.bind_eq_some_iff.1 h
 obtain ⟨e,h5,h6⟩:=Option.map_eq_some_iff.1 h
 cases h6
 have:=d05 h1
 have:=u0R h2
 have:=d05 h3
 have:=d05 h4
 have:=d05 h5
 simp only
 omega
def SrcO (h g:AH) (id:Nat) (st:Option (List Nat)):Prop :=
 ∃ w r bad,g.get id=some (.cells [w,.bool bad] false)∧id<g.next∧h.next≤id∧Fr h g∧Sl h 1 r.length w (by8 r)∧r.length≤2 ^ 20∧(∀ y ∈ r,y<256)∧st=if bad=true then none else some r
theorem SrcO.fr {h g g':AH} {id:Nat} {st:Option (List Nat)} (s:SrcO h g id st) (f:Fr g g'):SrcO h g' id st:=by
 obtain ⟨w,r,bad,h1,h2,h3,h4,h5⟩:=s
 exact ⟨w,r,bad,by rw [f.get _ h2,h1],Nat.lt_of_lt_of_le h2 f.next,h3,h4.trans f,h5⟩
theorem SrcO.frB {B:Nat} {h g g':AH} {id:Nat} {st:Option (List Nat)} (s:SrcO h g id st) (f:FrB B g g') (hid:id<B):SrcO h g' id st:=by
 obtain ⟨w,r,bad,h1,h2,h3,h4,h5⟩:=s
 exact ⟨w,r,bad,by rw [f.get _ hid,h1],Nat.lt_of_lt_of_le h2 f.next,h3,⟨Nat.le_trans h4.next f.next,fun i hi=>by rw [f.get i (by omega),h4.get i hi]⟩,h5⟩
theorem SrcO.set {h g:AH} {id e:Nat} {st:Option (List Nat)} (s:SrcO h g id st) (o:AObj) (he:id<e):SrcO h (g.set e o) id st:=by
 obtain ⟨w,r,bad,h1,h2,h3,h4,h5⟩:=s
 exact ⟨w,r,bad,by rw [c8 (by omega),h1],h2,h3,h4.set _ (by omega),h5⟩
theorem SrcO.frame {h g:AH} {id:Nat} {st:Option (List Nat)} (s:SrcO h g id st):Fr h g:=by
 obtain ⟨w,r,bad,h1,h2,h3,h4,h5⟩:=s
 exact h4
theorem SrcO.lt {h g:AH} {id:Nat} {st:Option (List Nat)} (s:SrcO h g id st):id<g.next:=by
 obtain ⟨w,r,bad,h1,h2,h3,h4,h5⟩:=s
 exact h2
theorem SrcO.bad {h g:AH} {id:Nat} {st:Option (List Nat)} (s:SrcO h g id st):load1 g id 1=.ok (.bool st.isNone):=by
 obtain ⟨w,r,bad,h1,h2,h3,h4,_,_,_,rfl⟩:=s
 rw [b7 h1]
 cases bad <;> rfl
def TakeK (h g:AH) (id k:Nat) (st:Option (List Nat)) (ret:AV) (g':AH):Prop :=
 FrX id g g'∧match st.bind (tk k) with
  | some p=>Sl h 1 k ret (by8 p.1)∧(∀ y ∈ p.1,y<256)∧SrcO h g' id (some p.2)
  | none=>ret=.nils∧SrcO h g' id none
theorem k06 {h g:AH} {id k:Nat} {st:Option (List Nat)} (s:SrcO h g id st):Ev P SI (.fn P9) [.ptr id 0,.int .i64 (k:Int)] g (TakeK h g id k st):=by
 refine k8 g09 rfl rfl ?_
 obtain ⟨w,r,bad,hg,hlt,hid,F,sl,hr,h256,rfl⟩:=s
 have l0:load1 g id 0=.ok w:=b7 hg
 have l1:load1 g id 1=.ok (.bool bad):=b7 hg
 have hwc:=sl.oneCell
 have hwid:∀ i,j9 w=some i→i<h.next:=fun i e=>Sl.idLt sl e
 cases bad with
 | true =>
  have s1:=n8 (v:=.bool true) (off:=1) hg (by simp) rfl
  simp [i9] at s1
  have hg2:(g.set id (.cells [w,.bool true] false)).get id=some (.cells [w,.bool true] false):=i8 _ _
  have l3:load1 (g.set id (.cells [w,.bool true] false)) id 1=.ok (.bool true):=b7 hg2
  simp [P6,l0,l1,s1,l3,TakeK]
  exact ⟨⟨Nat.le_refl _,fun i hi hn=>c8 hn⟩,w,r,true,hg2,hlt,hid,F.set _ hid,sl,hr,h256,by simp⟩
 | false =>
  by_cases hk:k≤r.length
  ·have hk':¬ (r.length:Int)<(k:Int):=by omega
   have s1:=n8 (v:=.bool false) (off:=1) hg (by simp) rfl
   simp [i9] at s1
   have hg2:(g.set id (.cells [w,.bool false] false)).get id=some (.cells [w,.bool false] false):=i8 _ _
   have l3:load1 (g.set id (.cells [w,.bool false] false)) id 1=.ok (.bool false):=b7 hg2
   have l4:load1 (g.set id (.cells [w,.bool false] false)) id 0=.ok w:=b7 hg2
   obtain ⟨u,e1,su⟩:=sl.slice (lo:=none) (hi:=some (.int .i64 (k:Int))) (a:=0) (b:=k) (.inl ⟨rfl,rfl⟩) (.inr ⟨.i64,rfl⟩) (by omega) hk
   obtain ⟨v,e2,sv⟩:=sl.slice (lo:=some (.int .i64 (k:Int))) (hi:=none) (a:=k) (b:=r.length) (.inr ⟨.i64,rfl⟩) (.inl ⟨rfl,rfl⟩) hk (Nat.le_refl _)
   rw [Nat.mul_one,Nat.mul_one,H8,H7,List.take_of_length_le (by simp)] at sv
   have su':Sl h 1 k u (by8 (r.take k)):=by simpa [H7,H8] using su
   have hvc:=sv.oneCell
   have s2:=n8 (v:=v) (off:=0) hg2 (by simp) hvc.2
   simp [i9] at s2
   have hg3:((g.set id (.cells [w,.bool false] false)).set id (.cells [v,.bool false] false)).get id=some (.cells [v,.bool false] false):=i8 _ _
   simp [P6,l0,l1,sl.len,hk',s1,l3,l4,e1,e2,s2,hvc.1,TakeK,tk,hk]
   refine ⟨⟨Nat.le_refl _,fun i hi hn=>by rw [c8 hn]⟩,su',fun y hy=>h256 y (List.mem_of_mem_take hy),v,r.drop k,false,i8 _ _,hlt,hid,F.set _ hid,?_,?_,fun y hy=>h256 y (List.mem_of_mem_drop hy),by simp⟩
   ·rw [List.length_drop];exact sv
   ·rw [List.length_drop];omega
  ·have hk':(r.length:Int)<(k:Int):=by omega
   have s1:=n8 (v:=.bool true) (off:=1) hg (by simp) rfl
   simp [i9] at s1
   have hg2:(g.set id (.cells [w,.bool true] false)).get id=some (.cells [w,.bool true] false):=i8 _ _
   have l3:load1 (g.set id (.cells [w,.bool true] false)) id 1=.ok (.bool true):=b7 hg2
   simp [P6,l0,l1,sl.len,hk',s1,l3,TakeK,tk,hk]
   exact ⟨⟨Nat.le_refl _,fun i hi hn=>c8 hn⟩,w,r,true,hg2,hlt,hid,F.set _ hid,sl,hr,h256,by simp⟩
def NumK (h g:AH) (id k:Nat) (st:Option (List Nat)) (ret:AV) (g':AH):Prop :=
 FrX id g g'∧∃ m,ret=.int .i64 (s64 m)∧m<256 ^ k∧match st.bind (num k) with
  | some p=>m=p.1∧SrcO h g' id (some p.2)
  | none=>SrcO h g' id none
theorem s0B (h:AH) (K:AV→AH→Prop):Ev P SI (.fn c0v) [.nils] h K=K (.tuple [.int .u64 0,.bool false]) h:=by
 refine Ev.eq (k8 o06 rfl rfl ?_) K
 simp [k0g]
theorem H5 {h g:AH} {id k:Nat} {st:Option (List Nat)} (s:SrcO h g id st) (h1:1≤k) (h8:k≤8):Ev P SI (.fn r6) [.ptr id 0,.int .i64 (k:Int)] g (NumK h g id k st):=by
 refine k8 f0L rfl rfl ?_
 simp [b0i]
 refine (k06 s).mono ?_
 rintro r g1 ⟨f1,hr⟩
 cases hst:st.bind (tk k) with
 | none =>
  rw [hst] at hr
  obtain ⟨rfl,s1⟩:=hr
  have hn:st.bind (num k)=none:=by
   cases st with
   | none=>rfl
   | some r=>simp only [Option.bind_some] at hst ⊢;rw [t0V,hst];rfl
  simp [s0B]
  exact ⟨f1,0,by simp [s64,wrap_i64],Nat.pow_pos (by decide),by rw [hn];exact s1⟩
 | some p =>
  rw [hst] at hr
  obtain ⟨s0,h256,s1⟩:=hr
  have hn:st.bind (num k)=some (beV p.1,p.2):=by
   cases st with
   | none=>cases hst
   | some r=>simp only [Option.bind_some] at hst ⊢;rw [t0V,hst];rfl
  have hpl:p.1.length=k:=by have:=s0.1;simpa using this
  have hlt:=h03 p.1 h256
  rw [hpl] at hlt
  simp [q0o (s0.fr s1.frame) h256 h1 h8]
  exact ⟨f1,beV p.1,rfl,hlt,by rw [hn];exact ⟨rfl,s1⟩⟩
end Go.Dk

namespace Go.Dk
open Go Go.Dr
set_option maxRecDepth 100000
def x03 (T:List Txt) (r:List Nat):Option (Lab×List Nat):=(num 4 r).bind fun a=>(num 4 a.2).bind fun b=>(d04 T a.1 b.1).map fun x=>(x,b.2)
end Go.Dk

namespace Go.Dk
open Go Go.Dr
set_option maxRecDepth 100000
theorem NumK.st {h g g':AH} {id k:Nat} {st:Option (List Nat)} {ret:AV} (x:NumK h g id k st ret g') :
  FrX id g g'∧∃ m st',ret=.int .i64 (s64 m)∧m<256 ^ k∧SrcO h g' id st'∧st.bind (num k)=st'.map fun r=>(m,r):=by
 obtain ⟨f,m,e,hm,hh⟩:=x
 refine ⟨f,m,?_⟩
 cases hs:st.bind (num k) with
 | none=>rw [hs] at hh;exact ⟨none,e,hm,hh,rfl⟩
 | some p=>rw [hs] at hh;obtain ⟨rfl,hh⟩:=hh;exact ⟨some p.2,e,hm,hh,rfl⟩
theorem c0C {m:Nat} (h:m<256 ^ 4):s64 m=(m:Int):=wrap_i64 (by omega) (by omega)
theorem y0a {T:List Txt} {st st1 st2:Option (List Nat)} {a b:Nat} (h1:st.bind (num 4)=st1.map fun r=>(a,r)) (h2:st1.bind (num 4)=st2.map fun r=>(b,r)) :
  st.bind (x03 T)=st2.bind fun r=>(d04 T a b).map fun x=>(x,r):=by
 have e:st.bind (x03 T)=(st.bind (num 4)).bind fun p=>(num 4 p.2).bind fun q=>(d04 T p.1 q.1).map fun x=>(x,q.2):=by cases st <;> rfl
 rw [e,h1]
 have e2:((st1.map fun r=>(a,r)).bind fun p=>(num 4 p.2).bind fun q=>(d04 T p.1 q.1).map fun x=>(x,q.2))=(st1.bind (num 4)).bind fun q=>(d04 T a q.1).map fun x=>(x,q.2):=by cases st1 <;> rfl
 rw [e2,h2]
 cases st2 <;> rfl
theorem t0J {T:List Txt} {a b:Nat} (h:T.length≤a∨T.length≤b):d04 T a b=none:=by
 unfold d04
 rcases h with h | h
 ·rw [List.getElem?_eq_none h]
 ·rw [List.getElem?_eq_none h]
  cases T[a]? <;> rfl
theorem store2 {g:AH} {e:Nat} {l2 c:List AV} (hg:g.get e=some (.cells l2 false)) (h2:l2.length=2) (hc:c.length=2) (hs:d8 c=true):J2 2 (.ptr e 0) (.agg c) g=V0 (.ok (g.set e (.cells c false))):=by
 rw [a0K 2 _ _ c hc]
 cases c with
 | nil=>simp at hc
 | cons x l=>rw [c09 hg (by rw [h2];exact hc.symm) hs]
def e0t (lv:AV) (at' sz mn mx:Int):List AV:=[lv,.int .i64 at',.int .i64 sz,.int .i64 mn,.int .i64 mx]
structure InE (h g0 g:AH) (id:Nat) (at' sz mn mx:Int) (st:Option (List Nat)) (lv:AV) (ls:List Lab):Prop where
 src:SrcO h g id st
 fx:FrX id g0 g
 lt:id<g0.next
 up:g0.next<g.next
 cells:g.get g0.next=some (.cells (e0t lv at' sz mn mx) false)
 own:Own (g0.next+1) g 2 ls.length lv (ls.flatMap E2)
 short:∀ x ∈ ls,x.1.length≤2 ^ 20∧x.2.length≤2 ^ 20
theorem InE.start {h g:AH} {id:Nat} {st:Option (List Nat)} (s:SrcO h g id st) (at':Int):InE h g (g.push (.cells (e0t .nils at' 0 0 0) false)) id at' 0 0 0 st .nils [] :=
 ⟨s.fr (Fr.push (.refl g) _),Fr.x (Fr.push (.refl g) _),s.lt,Nat.lt_succ_self _,b8 _,by simpa using Own.nil _ _,fun x hx=>by simp at hx⟩
theorem InE.step {h g0 g g':AH} {id:Nat} {at' sz mn mx:Int} {st st':Option (List Nat)} {lv:AV} {ls:List Lab} (i:InE h g0 g id at' sz mn mx st lv ls) (f:FrX id g g') (s:SrcO h g' id st'):InE h g0 g' id at' sz mn mx st' lv ls:=by
 have h1:=i.up
 have h2:=i.lt
 have h3:=f.next
 exact ⟨s,i.fx.trans f,i.lt,by omega,by rw [f.get _ h1 (by omega),i.cells],Own.frX i.own f (by omega),i.short⟩
theorem InE.put {h g0 g:AH} {id:Nat} {at' sz mn mx:Int} {st:Option (List Nat)} {lv:AV} {ls:List Lab} (i:InE h g0 g id at' sz mn mx st lv ls) (sz' mn' mx':Int):InE h g0 (g.set g0.next (.cells (e0t lv at' sz' mn' mx') false)) id at' sz' mn' mx' st lv ls:=by
 have h1:=i.up
 have h2:=i.lt
 exact ⟨i.src.set _ h2,⟨i.fx.next,fun j hj hn=>by rw [c8 (by omega),i.fx.get j hj hn]⟩,i.lt,i.up,i8 _ _,i.own.set _ (i.own.ne (by omega)),i.short⟩
theorem InE.lab {h g0 g:AH} {id:Nat} {at' sz mn mx:Int} {st:Option (List Nat)} {lv:AV} {ls:List Lab} (i:InE h g0 g id at' sz mn mx st lv ls) {x:Lab} (h1:x.1.length≤2 ^ 20) (h2:x.2.length≤2 ^ 20) (hn:ls.length≤2 ^ 20) :
  ∃ lv' g1,H6 2 32 lv (.slice g.next 0 1 1 true 2) (g.push (.cells (E2 x) false))=okV lv' g1∧lv'.cells=[lv'] ∧
   J2 1 (.ptr g0.next 0) lv' g1=V0 (.ok (g1.set g0.next (.cells (e0t lv' at' sz mn mx) false)))∧InE h g0 (g1.set g0.next (.cells (e0t lv' at' sz mn mx) false)) id at' sz mn mx st lv' (ls++[x]):=by
 have u:=i.up
 have l:=i.lt
 obtain ⟨lv',g1,e,o,f⟩:=i.own.snoc (bytes:=32) (x:=E2 x) (by omega) rfl rfl (by omega) (by omega)
 have hc:=o.sl.oneCell
 have hg1:g1.get g0.next=some (.cells (e0t lv at' sz mn mx) false):=by rw [f.get _ (by omega),i.cells]
 have s1:=n8 (v:=lv') (off:=0) hg1 (by simp [e0t]) hc.2
 simp [i9,e0t] at s1
 have hn1:=f.next
 refine ⟨lv',g1,e,hc.1,by simp [s1,hc.1,e0t],⟨(i.src.frB f (by omega)).set _ l,⟨by show g0.next≤g1.next;omega,fun j hj hn=>by rw [c8 (by omega),f.get j (by omega),i.fx.get j hj hn]⟩,l,by show g0.next<g1.next;omega,i8 _ _,?_,?_⟩⟩
 ·refine Own.set ?_ _ (o.ne (by omega))
  rw [List.length_append,List.flatMap_append]
  simpa using o
 ·intro y hy
  rcases List.mem_append.1 hy with hy | hy
  ·exact i.short y hy
  ·simp at hy
   subst hy
   exact ⟨h1,h2⟩
theorem InE.fin {h g0 g:AH} {id B:Nat} {at' sz mn mx:Int} {st:Option (List Nat)} {lv acc:AV} {ls:List Lab} {xs:List (AV×Ep)} (i:InE h g0 g id at' sz mn mx st lv ls) (ha:AccI B g0 acc xs) (hid:id<B) (hB:B≤g0.next) (hn:xs.length≤2 ^ 21) (hl:ls.length≤2 ^ 20) :
  ∃ acc' g',loadN g g0.next 0 5=.ok (e0t lv at' sz mn mx)∧H6 5 56 acc (.slice g.next 0 1 1 true 5) (g.push (.cells (e0t lv at' sz mn mx) false))=okV acc' g' ∧
   AccI B g' acc' (xs++[(lv,⟨ls,at',sz,mn,mx⟩)])∧SrcO h g' id st∧FrB B g g':=by
 have u:=i.up
 have l:=i.lt
 have ha2:AccI B g acc xs:=ha.frX i.fx hid
 have hlv:∀ j,j9 lv=some j→g0.next<j:=fun j e=>by
  by_cases hj:j<g0.next+1
  ·exact absurd e (i.own.ne hj)
  ·omega
 obtain ⟨acc',g',e,a',f,_,_⟩:=ha2.snoc (by omega) (x:=(lv,⟨ls,at',sz,mn,mx⟩)) i.own.sl (fun j e=>⟨by have:=hlv j e;omega,fun e2=>by have:=Sl.idLt ha.1.sl e2;have:=hlv j e;omega⟩) (fun y hy=>by have:=i.short y hy;omega) (by show ls.length<_;omega) (by omega)
 exact ⟨acc',g',A8 i.cells (n:=5) rfl,e,a',i.src.frB f hid,f⟩
end Go.Dk

namespace Go.Dk
open Go Go.Dr
set_option maxRecDepth 100000
theorem TakeK.st {h g g':AH} {id k:Nat} {st:Option (List Nat)} {ret:AV} (x:TakeK h g id k st ret g') :
  FrX id g g'∧∃ l st',Sl g' 1 l.length ret (by8 l)∧(l.length=k∨l=[])∧SrcO h g' id st'∧st.bind (tk k)=st'.map fun r=>(l,r):=by
 obtain ⟨f,hh⟩:=x
 refine ⟨f,?_⟩
 cases hs:st.bind (tk k) with
 | none=>rw [hs] at hh;obtain ⟨rfl,hh⟩:=hh;exact ⟨[],none,Sl.nil 1,.inr rfl,hh,rfl⟩
 | some p =>
  rw [hs] at hh
  obtain ⟨h1,h2,hh⟩:=hh
  have hl:p.1.length=k:=by have:=h1.1;simpa using this
  exact ⟨p.1,some p.2,by rw [hl];exact h1.fr hh.frame,.inl hl,hh,rfl⟩
theorem SrcO.bads {h g:AH} {id:Nat} {st:Option (List Nat)} (s:SrcO h g id st):∃ w,(∀ c,B9 g id 1 [.bool c]=.ok (g.set id (.cells [w,.bool c] false)))∧SrcO h (g.set id (.cells [w,.bool true] false)) id none ∧
  (∀ r,st=some r→SrcO h (g.set id (.cells [w,.bool false] false)) id st)∧∀ c,FrX id g (g.set id (.cells [w,.bool c] false)):=by
 obtain ⟨w,r,bad,hg,hlt,hid,F,sl,hr,h256,rfl⟩:=s
 refine ⟨w,fun c=>?_,⟨w,r,true,i8 _ _,hlt,hid,F.set _ hid,sl,hr,h256,by simp⟩,fun r' hr'=>?_,fun c=>⟨Nat.le_refl _,fun i hi hn=>c8 hn⟩⟩
 ·have s1:=n8 (v:=.bool c) (off:=1) hg (by simp) rfl
  simpa [i9] using s1
 ·cases bad with
  | true=>cases hr'
  | false=>exact ⟨w,r,false,i8 _ _,hlt,hid,F.set _ hid,sl,hr,h256,by simp⟩
theorem v0S {r:List Nat} {st1 st2:Option (List Nat)} {k:Nat} {x:List Nat} (h1:num 1 r=st1.map fun r=>(k,r)) (h2:st1.bind (tk k)=st2.map fun r=>(x,r)):L7 r=st2.map fun r=>(Q9 x,r):=by
 rw [y0t,h1]
 have e:((st1.map fun r=>(k,r)).bind fun p=>(tk p.1 p.2).map fun q=>(Q9 q.1,q.2))=(st1.bind (tk k)).map fun q=>(Q9 q.1,q.2):=by cases st1 <;> rfl
 rw [e,h2]
 cases st2 <;> rfl
theorem x0x {q:Nat} {r:List Nat} {ts:List Txt} {s:Txt} {st:Option (List Nat)} (h:L7 r=st.map fun r=>(s,r)) :
  ((rdT (q+1) r).map fun p=>(ts++p.1,p.2))=st.bind fun r=>(rdT q r).map fun p=>((ts++[s])++p.1,p.2):=by
 rw [rdT,h]
 cases st with
 | none=>rfl
 | some r =>
  simp only [Option.map_some,Option.bind_some]
  cases rdT q r <;> simp
theorem x0y (T:List Txt) (q:Nat) (r:List Nat):rdL T (q+1) r=(x03 T r).bind fun p=>(rdL T q p.2).map fun z=>(p.1::z.1,z.2):=by
 rw [rdL,x03]
 cases num 4 r with
 | none=>rfl
 | some a =>
  simp only [Option.bind_some]
  cases num 4 a.2 with
  | none=>rfl
  | some b =>
   simp only [Option.bind_some]
   cases d04 T a.1 b.1 <;> rfl
theorem m0U {T:List Txt} {q:Nat} {r:List Nat} {ls:List Lab} {x:Lab} {st:Option (List Nat)} (h:x03 T r=st.map fun r=>(x,r)) :
  ((rdL T (q+1) r).map fun p=>(ls++p.1,p.2))=st.bind fun r=>(rdL T q r).map fun p=>((ls++[x])++p.1,p.2):=by
 rw [x0y,h]
 cases st with
 | none=>rfl
 | some r =>
  simp only [Option.map_some,Option.bind_some]
  cases rdL T q r <;> simp
theorem x0z {T:List Txt} {q:Nat} {at':Int} {r:List Nat} {es:List Ep} {x:Ep} {st:Option (List Nat)} (h:rd1 T at' r=st.map fun r=>(x,r)) :
  ((rdE T (q+1) at' r).map fun p=>(es++p.1,p.2))=st.bind fun r=>(rdE T q (b9 .i64 (at'+x.sz)) r).map fun p=>((es++[x])++p.1,p.2):=by
 rw [rdE,h]
 cases st with
 | none=>rfl
 | some r =>
  simp only [Option.map_some,Option.bind_some]
  cases rdE T q (b9 .i64 (at'+x.sz)) r <;> simp
theorem A0A {T:List Txt} {at':Int} {r:List Nat} {ls:List Lab} {a b c:Nat} {s0 s1 s2 s3:Option (List Nat)} (h0:((num 1 r).bind fun k=>rdL T k.1 k.2)=s0.map fun r=>(ls,r))
  (h1:s0.bind (num 4)=s1.map fun r=>(a,r)) (h2:s1.bind (num 8)=s2.map fun r=>(b,r)) (h3:s2.bind (num 8)=s3.map fun r=>(c,r)) :
  rd1 T at' r=s3.map fun r=>(⟨ls,at',s64 a,s64 b,s64 c⟩,r):=by
 have e:rd1 T at' r=((num 1 r).bind fun k=>rdL T k.1 k.2).bind fun l=>(num 4 l.2).bind fun sz=>(num 8 sz.2).bind fun mn=>(num 8 mn.2).map fun mx=>(⟨l.1,at',s64 sz.1,s64 mn.1,s64 mx.1⟩,mx.2):=by
  rw [rd1]
  cases num 1 r <;> rfl
 rw [e,h0]
 have e1:((s0.map fun r=>(ls,r)).bind fun l=>(num 4 l.2).bind fun sz=>(num 8 sz.2).bind fun mn=>(num 8 mn.2).map fun mx=>((⟨l.1,at',s64 sz.1,s64 mn.1,s64 mx.1⟩:Ep),mx.2)) =
   (s0.bind (num 4)).bind fun sz=>(num 8 sz.2).bind fun mn=>(num 8 mn.2).map fun mx=>(⟨ls,at',s64 sz.1,s64 mn.1,s64 mx.1⟩,mx.2):=by cases s0 <;> rfl
 rw [e1,h1]
 have e2:((s1.map fun r=>(a,r)).bind fun sz=>(num 8 sz.2).bind fun mn=>(num 8 mn.2).map fun mx=>((⟨ls,at',s64 sz.1,s64 mn.1,s64 mx.1⟩:Ep),mx.2)) =
   (s1.bind (num 8)).bind fun mn=>(num 8 mn.2).map fun mx=>(⟨ls,at',s64 a,s64 mn.1,s64 mx.1⟩,mx.2):=by cases s1 <;> rfl
 rw [e2,h2]
 have e3:((s2.map fun r=>(b,r)).bind fun mn=>(num 8 mn.2).map fun mx=>((⟨ls,at',s64 a,s64 mn.1,s64 mx.1⟩:Ep),mx.2))=(s2.bind (num 8)).map fun mx=>(⟨ls,at',s64 a,s64 b,s64 mx.1⟩,mx.2):=by cases s2 <;> rfl
 rw [e3,h3]
 cases s3 <;> rfl
def Left (n k:Nat) (st:Option (List Nat)):Prop:=∀ r,st=some r→k+r.length≤n
theorem Left.map {α:Type} {n k j:Nat} {st:Option (List Nat)} {r:List Nat} {f:List Nat→Option (α×List Nat)} {x:α} (l:k+r.length≤n) (h:f r=st.map fun r=>(x,r)) (hf:∀ p,f r=some p→p.2.length+j≤r.length):Left n (k+j) st:=by
 intro r' e
 subst e
 have:=hf _ h
 simp only at this
 omega
theorem Left.bind {α:Type} {n k j:Nat} {st st':Option (List Nat)} {f:List Nat→Option (α×List Nat)} {x:α} (l:Left n k st) (h:st.bind f=st'.map fun r=>(x,r)) (hf:∀ r p,f r=some p→p.2.length+j≤r.length):Left n (k+j) st':=by
 cases st with
 | none =>
  intro r' e
  subst e
  cases h
 | some r=>exact Left.map (l r rfl) h (hf r)
def DecIK (h:AH) (b:List Nat) (r:AV) (g:AH):Prop :=
 Fr h g∧match rdI b with
  | some l=>if W9 l=true∧R7 l=b then ∃ (v:AV) (xs:List (AV×Ep)),r=.tuple [v,.int .i64 0]∧xs.map (·.2)=l∧Sl g 5 xs.length v (xs.flatMap enC)∧xs.length≤2 ^ 20∧(∀ x ∈ xs,EnOk g x∧X0 x.2.ls∧x.2.ls.length<2 ^ 62) else r=.tuple [.nils,.int .i64 5]
  | none=>r=.tuple [.nils,.int .i64 5]
theorem m0V (l:List Ep):∀ x ∈ R7 l,x<256:=by
 intro x hx
 obtain ⟨it,_,h⟩:=List.mem_flatMap.1 hx
 cases it with
 | t s =>
  simp only [itB,List.mem_cons] at h
  rcases h with rfl | h
  ·omega
  ·simp only [bT,List.mem_map] at h
   obtain ⟨y,_,rfl⟩:=h
   exact y.toNat_lt
 | w n k=>exact k0Q _ _ x h
 | p l =>
  simp only [itB,List.mem_append,List.mem_flatMap] at h
  rcases h with h | ⟨y,_,h⟩
  ·exact k0Q _ _ x h
  ·exact k0Q _ _ x h
theorem A0B (b:List Nat):rdI b=(((num 4 b).bind fun n=>rdT n.1 n.2).bind fun t=>(num 4 t.2).bind fun m=>rdE t.1 m.1 0 m.2).map (·.1):=by
 unfold rdI
 cases num 4 b with
 | none=>rfl
 | some n =>
  simp only [Option.bind_some]
  cases rdT n.1 n.2 with
  | none=>rfl
  | some t =>
   simp only [Option.bind_some]
   cases num 4 t.2 <;> rfl
end Go.Dk

namespace Go.Dk
open Go Go.Dr
set_option maxRecDepth 100000
def TxJ (h g0:AH) (id n:Nat) (b:List Nat) (q:Nat) (tv:AV) (g:AH):Prop :=
 ∃ st ts,SrcO h g id st∧FrX id g0 g∧Own (id+1) g 1 ts.length tv (tx ts)∧(∀ x ∈ ts,x.length≤2 ^ 20) ∧
  ((num 4 b).bind fun n=>rdT n.1 n.2)=(st.bind fun r=>(rdT q r).map fun p=>(ts++p.1,p.2))∧Left n ts.length st
def TxE (h g0:AH) (id n:Nat) (b:List Nat) (tv:AV) (g:AH):Prop :=
 ∃ st ts,SrcO h g id st∧FrX id g0 g∧Own (id+1) g 1 ts.length tv (tx ts)∧(∀ x ∈ ts,x.length≤2 ^ 20) ∧
  ((num 4 b).bind fun n=>rdT n.1 n.2)=st.map (fun r=>(ts,r))∧Left n 0 st
def LbJ (h g0:AH) (id n:Nat) (T:List Txt) (RL:Option (List Lab×List Nat)) (q:Nat) (at':Int) (g:AH):Prop :=
 ∃ st ls lv,InE h g0 g id at' 0 0 0 st lv ls∧RL=(st.bind fun r=>(rdL T q r).map fun p=>(ls++p.1,p.2))∧ls.length+q≤256
def LbE (h g0:AH) (id:Nat) (RL:Option (List Lab×List Nat)) (at':Int) (g:AH):Prop :=
 ∃ st ls lv,InE h g0 g id at' 0 0 0 st lv ls∧RL=(st.map fun r=>(ls,r))∧ls.length≤256
def EnJ (h gT:AH) (id n:Nat) (T:List Txt) (RE:Option (List Ep×List Nat)) (q:Nat) (at':Int) (acc:AV) (g:AH):Prop :=
 ∃ st xs,SrcO h g id st∧FrX id gT g∧AccI gT.next g acc xs∧RE=(st.bind fun r=>(rdE T q at' r).map fun p=>(xs.map (·.2)++p.1,p.2))∧Left n (21*xs.length) st∧21*xs.length≤n+21
def EnE (h gT:AH) (id n:Nat) (RE:Option (List Ep×List Nat)) (acc:AV) (g:AH):Prop :=
 ∃ st xs,SrcO h g id st∧FrX id gT g∧AccI gT.next g acc xs∧RE=(st.map fun r=>(xs.map (·.2),r))∧21*xs.length≤n+21
theorem FrX.b {id:Nat} {g g':AH} {B:Nat} (f:FrB B g g') (g0:AH) (h:g0.next≤B) (hx:FrX id g0 g):FrX id g0 g' :=
 ⟨Nat.le_trans hx.next f.next,fun i hi hn=>by rw [f.get i (by omega),hx.get i hi hn]⟩
theorem p0L {h:AH} {n:Nat} {v:AV} {b:List Nat} (s:Sl h 1 n v (by8 b)) (hn:n≤150000) (hb:∀ x ∈ b,x<256):Ev P SI (.fn c01) [v] h (DecIK h b):=by
 refine k8 l0E rfl rfl ?_
 have hbl:b.length=n:=by have:=s.1;simpa using this
 have hc:=s.oneCell
 have f0:=Fr.push (.refl h) (.cells [v,.bool false] false)
 have s0:SrcO h (h.push (.cells [v,.bool false] false)) h.next (some b):=⟨v,b,false,b8 _,Nat.lt_succ_self _,Nat.le_refl _,f0,by rw [hbl];exact s,by omega,hb,by simp⟩
 obtain ⟨id,hid⟩:∃ id,h.next=id:=⟨_,rfl⟩
 simp [f0V,hc.1,i9]
 generalize hg0:h.push (.cells [v,.bool false] false)=g0 at *
 rw [hid] at s0 ⊢
 refine (H5 (k:=4) s0 (by omega) (by omega)).mono ?_
 intro r g1 hr
 obtain ⟨f1,m0,st1,rfl,hm0,s1,q1⟩:=hr.st
 rw [c0C hm0]
 rw [Option.bind_some] at q1
 have l1:Left n 0 st1:=by
  have:=Left.map (n:=n) (k:=0) (j:=0) (by omega) q1 (fun p hp=>by have:=d05 hp;omega)
  simpa using this
 simp
 refine D3 (Q:=fun x σ ds g=>x=.exit 0∧ds=[]∧σ 0=v∧σ 4=.ptr id 0∧TxE h g0 id n b (σ 5) g) ?_ ?_
 ·refine M5 (fun q σ ds g=>ds=[]∧σ 0=v∧σ 4=.ptr id 0∧σ 6=.int .i64 (q:Int)∧q<256 ^ 4∧TxJ h g0 id n b q (σ 5) g) m0
   ⟨rfl,by simp,by simp,by simp,hm0,st1,[],s1,f1,by simpa [tx] using Own.nil _ _,fun x hx=>by simp at hx,by rw [q1];cases st1 <;> simp,l1⟩ ?_
  rintro q σ ds g ⟨rfl,e0,e4,e6,hq,st,ts,S,F,O,hs,R,L⟩
  have Sb:=S.bad
  by_cases hq0:q=0
  ·subst hq0
   simp [e6,e0,e4]
   exact ⟨st,ts,S,F,O,hs,by rw [R];cases st <;> simp [rdT],fun r e=>by have:=L r e;omega⟩
  have hq0':0<q:=by omega
  cases st with
  | none =>
   simp at Sb
   simp [e6,e0,e4,hq0',Sb]
   exact ⟨none,ts,S,F,O,hs,by rw [R];rfl,fun r e=>by cases e⟩
  | some r =>
   simp at Sb
   generalize h5:σ 5=tv at *
   have L0:=L r rfl
   simp [e6,e4,hq0',Sb,h5]
   refine (H5 (k:=1) S (by omega) (by omega)).mono ?_
   intro r1 g2 hr
   obtain ⟨f2,k,sa,rfl,hk,S2,q2⟩:=hr.st
   rw [c0C (by omega)]
   simp [e4]
   refine (k06 S2).mono ?_
   intro r1 g3 hr
   obtain ⟨f3,x,sb,sx,hx,S3,q3⟩:=hr.st
   have cs:=b0q sx
   have f23:=f2.trans f3
   have hid3:=S3.lt
   have O3:=Own.frX O f23 (by omega)
   obtain ⟨tv',g4,ap,O4,fb⟩:=O3.snoc (bytes:=16) (x:=[.str (Q9 x)]) (by omega) rfl rfl (by omega) (by omega)
   have hp:=v0S q2 q3
   have wq:b9 .i64 ((q:Int) - 1)=((q - 1:Nat):Int):=by rw [wrap_i64 (by omega) (by omega)];omega
   have hqq:q=(q - 1)+1:=by omega
   simp [cs,i9,ap,h5,e6,wq,e0,e4,l7]
   have hg0n:g0.next=id+1:=by rw [← hg0,← hid];rfl
   refine ⟨q - 1,by omega,rfl,by omega,sb,ts++[Q9 x],S3.frB fb (by omega),FrX.b fb g0 (by omega) (F.trans f23),by simpa [tx] using O4,?_,?_,?_⟩
   ·intro y hy
    rcases List.mem_append.1 hy with hy | hy
    ·exact hs y hy
    ·simp at hy
     subst hy
     have:(Q9 x).length=x.length:=by simp [Q9]
     rw [this]
     rcases hx with hx | hx
     ·omega
     ·rw [hx];simp
   ·have h2:=x0x (ts:=ts) (q:=q - 1) hp
    rw [← hqq] at h2
    rw [R,Option.bind_some,h2]
   ·rw [List.length_append]
    exact Left.map L0 hp (fun p hp=>by have:=e0F hp;simp only [List.length_cons,List.length_nil];omega)
 ·rintro x σ ds g ⟨rfl,rfl,e0,e4,st,ts,S,F,O,hs,R,L⟩
  generalize h5:σ 5=tv at *
  simp [e0,e4,h5]
  refine (H5 (k:=4) S (by omega) (by omega)).mono ?_
  intro r gT hr
  obtain ⟨fT,m,stB,rfl,hm,SB,qB⟩:=hr.st
  rw [c0C hm]
  have LB:Left n 0 stB:=by
   have:=Left.bind (j:=0) L qB (fun r p hp=>by have:=d05 hp;omega)
   simpa using this
  have hidT:=SB.lt
  have sT:Sl gT 1 ts.length tv (tx ts):=(Own.frX O fT (by omega)).sl
  have htv:∀ i,j9 tv=some i→id<i:=fun i e=>by
   by_cases hi:i<id+1
   ·exact absurd e (O.ne hi)
   ·omega
  have FT:=F.trans fT
  have R1:(((num 4 b).bind fun n=>rdT n.1 n.2).bind fun t=>(num 4 t.2).bind fun m=>rdE t.1 m.1 0 m.2)=stB.bind fun r=>rdE ts m 0 r:=by
   rw [R]
   have e:((st.map fun r=>(ts,r)).bind fun t=>(num 4 t.2).bind fun m=>rdE t.1 m.1 0 m.2)=(st.bind (num 4)).bind fun m=>rdE ts m.1 0 m.2:=by cases st <;> rfl
   rw [e,qB]
   cases stB <;> rfl
  simp [e0,e4]
  obtain ⟨RE,hRE⟩:∃ RE,RE=(((num 4 b).bind fun n=>rdT n.1 n.2).bind fun t=>(num 4 t.2).bind fun m=>rdE t.1 m.1 0 m.2):=⟨_,rfl⟩
  rw [← hRE] at R1
  refine D3 (Q:=fun x σ ds g=>x=.exit 2∧ds=[]∧σ 0=v∧σ 4=.ptr id 0∧EnE h gT id n RE (σ 7) g) ?_ ?_
  ·refine M5 (fun q σ ds g=>ds=[]∧σ 0=v∧σ 4=.ptr id 0∧σ 5=tv∧σ 9=.int .i64 (q:Int)∧q<256 ^ 4∧∃ at',σ 8=.int .i64 at'∧EnJ h gT id n ts RE q at' (σ 7) g) m
    ⟨rfl,by simp [e0],by simp [e4],by simp [h5],by simp,hm,0,by simp,stB,[],SB,.refl _ _,by simpa using AccI.nil _ _,by rw [R1];cases stB <;> simp,LB,by simp⟩ ?_
   clear R1 LB SB qB hm hr
   rintro q σ ds g ⟨rfl,e0,e4,e5,e9,hq,at',e8,st,xs,S,FX,A,R1,L,hxl⟩
   have Sb:=S.bad
   generalize h7:σ 7=acc at *
   by_cases hq0:q=0
   ·subst hq0
    simp [e9,e0,e4,h7]
    exact ⟨st,xs,S,FX,A,by rw [R1];cases st <;> simp [rdE],hxl⟩
   have hq0':0<q:=by omega
   cases st with
   | none =>
    simp at Sb
    simp [e9,e0,e4,hq0',Sb,h7]
    exact ⟨none,xs,S,FX,A,by rw [R1];rfl,hxl⟩
   | some r =>
    simp at Sb
    have L0:=L r rfl
    have hx1:(xs.length:Int)≤100000:=by omega
    have I0:=InE.start S at'
    simp only [e0t] at I0
    simp [e4,e8,e9,hq0',Sb,h7,A.1.sl.len,hx1,i9]
    generalize hgE:g.push (.cells [.nils,.int .i64 at',.int .i64 0,.int .i64 0,.int .i64 0] false)=gE at *
    refine (H5 (k:=1) I0.src (by omega) (by omega)).mono ?_
    intro r1 g2 hr
    obtain ⟨f2,k,sa,rfl,hk,S2,q2⟩:=hr.st
    rw [c0C (by omega)]
    have I2:=I0.step f2 S2
    rw [Option.bind_some] at q2
    obtain ⟨RL,hRL⟩:∃ RL,RL=((num 1 r).bind fun k=>rdL ts k.1 k.2):=⟨_,rfl⟩
    have RL0:RL=(sa.bind fun r=>(rdL ts k r).map fun p=>(([]:List Lab)++p.1,p.2)):=by rw [hRL,q2];cases sa <;> simp
    simp [e4]
    refine D3 (Q:=fun x σ' ds g'=>x=.exit 4∧ds=[]∧σ' 0=v∧σ' 4=.ptr id 0∧σ' 5=tv∧σ' 7=acc∧σ' 8=.int .i64 at'∧σ' 9=.int .i64 (q:Int)∧σ' 10=.ptr g.next 0∧LbE h g id RL at' g') ?_ ?_
    ·refine M5 (fun q3 σ' ds g'=>ds=[]∧σ' 0=v∧σ' 4=.ptr id 0∧σ' 5=tv∧σ' 7=acc∧σ' 8=.int .i64 at'∧σ' 9=.int .i64 (q:Int)∧σ' 10=.ptr g.next 0∧σ' 11=.int .i64 (q3:Int)∧LbJ h g id n ts RL q3 at' g') k
      ⟨rfl,by simp [e0],by simp [e4],by simp [e5],by simp [h7],by simp [e8],by simp [e9],by simp,by simp,sa,[],.nils,I2,RL0,by simp;omega⟩ ?_
     clear RL0 I2 S2 q2 hk hr f2 I0
     rintro q3 σ' ds g' ⟨rfl,e0,e4,e5,e7,e8,e9,e10,e11,st,ls,lv,I,R3,hl3⟩
     have Sb:=I.src.bad
     by_cases hq0:q3=0
     ·subst hq0
      simp [e0,e4,e5,e7,e8,e9,e10,e11]
      exact ⟨st,ls,lv,I,by rw [R3];cases st <;> simp [rdL],by omega⟩
     have hq0':0<q3:=by omega
     cases st with
     | none =>
      simp at Sb
      simp [e0,e4,e5,e7,e8,e9,e10,e11,hq0',Sb]
      exact ⟨none,ls,lv,I,by rw [R3];rfl,by omega⟩
     | some r3 =>
      simp at Sb
      simp [e4,e11,hq0',Sb]
      refine (H5 (k:=4) I.src (by omega) (by omega)).mono ?_
      intro r1 g3 hr
      obtain ⟨f3,a,sb,rfl,ha,S3,q4⟩:=hr.st
      rw [c0C ha]
      simp [e4]
      refine (H5 (k:=4) S3 (by omega) (by omega)).mono ?_
      intro r1 g4 hr
      obtain ⟨f4,c,sc,rfl,hc,S4,q5⟩:=hr.st
      rw [c0C hc]
      have I4:=(I.step f3 S3).step f4 S4
      have key:=y0a (T:=ts) q4 q5
      rw [Option.bind_some] at key
      have Sb4:=S4.bad
      obtain ⟨w,B1,B2,B3,B4⟩:=S4.bads
      have wq3:b9 .i64 ((q3:Int) - 1)=((q3 - 1:Nat):Int):=by rw [wrap_i64 (by omega) (by omega)];omega
      have hqq:q3=(q3 - 1)+1:=by omega
      cases sc with
      | none =>
       simp at Sb4
       have B2b:=B2.bad
       simp at B2b
       simp [Sb4,B1,e4,B2b,e11,wq3,l7]
       refine ⟨q3 - 1,by omega,e0,e5,e7,e8,e9,e10,rfl,none,ls,lv,I4.step (B4 true) B2,?_,by omega⟩
       have h2:=m0U (st:=none) (x:=([],[])) (ls:=ls) (q:=q3 - 1) (by rw [key];rfl)
       rw [← hqq] at h2
       rw [R3,Option.bind_some,h2]
       rfl
      | some r4 =>
       simp at Sb4
       obtain ⟨mx,hmx⟩:∃ mx,max a c=mx:=⟨_,rfl⟩
       have hmx2:max (a:Int) (c:Int)=(mx:Int):=by omega
       have tl4:Sl g4 1 ts.length tv (tx ts):=Sl.frX sT (FX.trans I4.fx) (fun e=>by have:=htv _ e;omega)
       by_cases hin:ts.length≤mx
       ·have hk:d04 ts a c=none:=t0J (by omega)
        rw [hk] at key
        have B2b:=B2.bad
        simp at B2b
        simp [Sb4,e4,e5,hmx2,tl4.len,hin,B1,B2b,e11,wq3,l7]
        refine ⟨q3 - 1,by omega,e0,e7,e8,e9,e10,rfl,none,ls,lv,I4.step (B4 true) B2,?_,by omega⟩
        have h2:=m0U (st:=none) (x:=([],[])) (ls:=ls) (q:=q3 - 1) (by rw [key];rfl)
        rw [← hqq] at h2
        rw [R3,Option.bind_some,h2]
        rfl
       ·obtain ⟨x,hx⟩:=j7 (l:=ts) (j:=a) (by omega)
        obtain ⟨y,hy⟩:=j7 (l:=ts) (j:=c) (by omega)
        have hk:d04 ts a c=some (x,y):=by simp [d04,hx,hy]
        rw [hk] at key
        have S5:=B3 r4 rfl
        have I5:=I4.step (B4 false) S5
        have tl5:Sl (g4.set id (.cells [w,.bool false] false)) 1 ts.length tv (tx ts):=Sl.frX sT (FX.trans I5.fx) (fun e=>by have:=htv _ e;omega)
        generalize hg5:g4.set id (.cells [w,.bool false] false)=g5 at *
        have S5b:=S5.bad
        simp at S5b
        obtain ⟨i1,o1,a1,a2,a3⟩:=tl5.get1 (k:=.i64) (i:=(a:Int)) rfl (by omega) (x:=.str x) (by simp [tx,hx])
        obtain ⟨i2,o2,b1,b2,b3⟩:=tl5.get1 (k:=.i64) (i:=(c:Int)) rfl (by omega) (x:=.str y) (by simp [tx,hy])
        have f6:=Fr.push (.refl g5) (.cells (E2 (x,y)) false)
        have hxs:=hs x (List.mem_of_getElem? hx)
        have hys:=hs y (List.mem_of_getElem? hy)
        obtain ⟨lv',g6,ap,hlc,stv,I6⟩:=I5.lab (x:=(x,y)) hxs hys (by omega)
        have a4:=a3 _ f6
        have b4:=b3 _ f6
        have lve:load1 g5 g.next 0=.ok lv:=b7 I5.cells
        have lve2:load1 (g5.push (.cells (E2 (x,y)) false)) g.next 0=.ok lv:=by
         have:(g5.push (.cells (E2 (x,y)) false)).get g.next=some (.cells (e0t lv at' 0 0 0) false):=by rw [f6.get _ I5.up,I5.cells]
         exact b7 this
        have hsm:=I5.own.sl.same
        simp only [E2] at a4 b4 lve2 ap
        simp [Sb4,e4,e5,e10,hmx2,tl4.len,hin,B1,hg5,S5b,lve,a1,a2,b1,b2,i9,a4,b4,lve2,hsm,ap,hlc,stv,e11,wq3,l7]
        refine ⟨q3 - 1,by omega,e0,e7,e8,e9,rfl,some r4,ls++[(x,y)],lv',I6,?_,by simp;omega⟩
        have h2:=m0U (st:=some r4) (x:=(x,y)) (ls:=ls) (q:=q3 - 1) (by rw [key];rfl)
        rw [← hqq] at h2
        rw [R3,Option.bind_some,h2]
    ·rintro x σ' ds g' ⟨rfl,rfl,e0,e4,e5,e7,e8,e9,e10,st,ls,lv,I,R3,hl3⟩
     simp [e0,e4,e5,e7,e8,e9,e10]
     refine (H5 (k:=4) I.src (by omega) (by omega)).mono ?_
     intro r1 g3 hr
     obtain ⟨f3,a,sb,rfl,ha,S3,q4⟩:=hr.st
     simp [e0,e4,e5,e7,e8,e9,e10]
     refine (H5 (k:=8) S3 (by omega) (by omega)).mono ?_
     intro r1 g4 hr
     obtain ⟨f4,c,sc,rfl,hc,S4,q5⟩:=hr.st
     simp [e0,e4,e5,e7,e8,e9,e10]
     refine (H5 (k:=8) S4 (by omega) (by omega)).mono ?_
     intro r1 g5 hr
     obtain ⟨f5,d,sd,rfl,hd,S5,q6⟩:=hr.st
     have I5:=((I.step f3 S3).step f4 S4).step f5 S5
     have hR:=A0A (at':=at') (hRL.symm.trans R3) q4 q5 q6
     have I6:=I5.put (s64 a) (s64 c) (s64 d)
     have t1:=n8 (v:=.int .i64 (s64 a)) (off:=2) I5.cells (by simp [e0t]) rfl
     simp [i9,e0t] at t1
     have t2:=n8 (v:=.int .i64 (s64 c)) (off:=3) (I5.put (s64 a) 0 0).cells (by simp [e0t]) rfl
     simp [i9,e0t] at t2
     have t3:=n8 (v:=.int .i64 (s64 d)) (off:=4) (I5.put (s64 a) (s64 c) 0).cells (by simp [e0t]) rfl
     simp [i9,e0t] at t3
     simp only [e0t] at I6
     generalize hg6:g5.set g.next (.cells [lv,.int .i64 at',.int .i64 (s64 a),.int .i64 (s64 c),.int .i64 (s64 d)] false)=g6 at *
     obtain ⟨acc',g7,ld,ap,A',S7,fb⟩:=I6.fin A (by omega) FX.next (by omega) (by omega)
     have ld2:load1 g6 g.next 2=.ok (.int .i64 (s64 a)):=b7 I6.cells
     simp only [e0t] at ld ap
     have wq:b9 .i64 ((q:Int) - 1)=((q - 1:Nat):Int):=by rw [wrap_i64 (by omega) (by omega)];omega
     have hqq:q=(q - 1)+1:=by omega
     simp [e0,e4,e5,e7,e8,e9,e10,t1,t2,t3,hg6,ld2,s7,ld,i9,ap,wq,l7]
     refine ⟨q - 1,by omega,rfl,by omega,sd,xs++[(lv,⟨ls,at',s64 a,s64 c,s64 d⟩)],S7,FrX.b fb gT (Nat.le_refl _) (FX.trans I6.fx),A',?_,?_,by simp;omega⟩
     ·have h2:=x0z (es:=xs.map (·.2)) (q:=q - 1) hR
      rw [← hqq] at h2
      rw [R1,Option.bind_some,h2,List.map_append]
      rfl
     ·rw [List.length_append,List.length_singleton,Nat.mul_add,Nat.mul_one]
      exact Left.map L0 hR fun p hp=>z0D hp
  ·rintro x σ ds g ⟨rfl,rfl,e0,e4,st,xs,S,FX,A,R2,hxl⟩
   have Sb:=S.bad
   generalize h7:σ 7=acc at *
   have hI:rdI b=RE.map (·.1):=by rw [hRE];exact A0B b
   have F1:=S.frame
   cases st with
   | none =>
    have hI2:rdI b=none:=by rw [hI,R2];rfl
    simp at Sb
    simp [e0,e4,h7,Sb,DecIK,hI2]
    exact F1
   | some r =>
    have hI2:rdI b=some (xs.map (·.2)):=by rw [hI,R2];rfl
    simp at Sb
    simp [e0,e4,h7,Sb]
    refine (j0c A.1.sl (by omega) (fun x hx=>⟨(A.2 x hx).1,(A.2 x hx).2.2⟩)).mono ?_
    intro r1 g3 hr
    unfold j0b at hr
    cases hcn:W9 (xs.map (·.2)) with
    | false =>
     rw [if_neg (by rw [hcn];simp)] at hr
     obtain ⟨rfl,f3⟩:=hr
     simp
     refine ⟨F1.trans f3,?_⟩
     rw [hI2]
     simp only
     rw [if_neg (by rw [hcn];simp)]
     trivial
    | true =>
     rw [if_pos hcn] at hr
     obtain ⟨u,rfl,su,f3⟩:=hr
     have F3:=F1.trans f3
     have be:=k05 su (s.fr F3) (m0V _) hb
     by_cases hbe:R7 (xs.map (·.2))=b
     ·simp [be,hbe,h7,e0]
      refine ⟨F3,?_⟩
      rw [hI2]
      simp only
      rw [if_pos ⟨hcn,hbe⟩]
      exact ⟨acc,xs,rfl,rfl,A.1.sl.fr f3,by omega,fun x hx=>⟨EnOk.fr (A.2 x hx).1 f3,(A.2 x hx).2.2⟩⟩
     ·simp [be,hbe,e0]
      refine ⟨F3,?_⟩
      rw [hI2]
      simp only
      rw [if_neg (fun h=>hbe h.2)]
      trivial
end Go.Dk

namespace Go.Dk
open Go Go.Dr
set_option maxRecDepth 100000
end Go.Dk

namespace Go.Dk
open Go Go.Dr
set_option maxRecDepth 100000
theorem DecIK.cases {h g:AH} {b:List Nat} {r:AV} (d:DecIK h b r g) :
  (r=.tuple [.nils,.int .i64 5]∧Fr h g∧∀ l,¬ (rdI b=some l∧W9 l=true∧R7 l=b)) ∨
  ∃ (v:AV) (xs:List (AV×Ep)),r=.tuple [v,.int .i64 0]∧Fr h g∧(rdI b=some (xs.map (·.2))∧W9 (xs.map (·.2))=true∧R7 (xs.map (·.2))=b)∧Sl g 5 xs.length v (xs.flatMap enC)∧xs.length≤2 ^ 20 ∧
   ∀ x ∈ xs,EnOk g x∧X0 x.2.ls∧x.2.ls.length<2 ^ 62:=by
 obtain ⟨f,d⟩:=d
 cases hl:rdI b with
 | none =>
  rw [hl] at d
  exact .inl ⟨d,f,fun l h=>by cases h.1⟩
 | some l =>
  rw [hl] at d
  simp only at d
  by_cases hc:W9 l=true∧R7 l=b
  ·rw [if_pos hc] at d
   obtain ⟨v,xs,e,rfl,sl,hn,ho⟩:=d
   exact .inr ⟨v,xs,e,f,⟨rfl,hc⟩,sl,hn,ho⟩
  ·rw [if_neg hc] at d
   exact .inl ⟨d,f,fun l' h=>by cases h.1;exact hc h.2⟩
end Go.Dk

namespace Go.Dk
open Go Go.Dr
set_option maxRecDepth 100000
theorem g0H {k n:Nat} (r:List Nat) (hn:n<256 ^ k):num k (be k n++r)=some (n,r):=by
 unfold num
 rw [if_pos (by rw [List.length_append,r8];omega),List.take_left' (r8 k n),List.drop_left' (r8 k n),p04,Nat.mod_eq_of_lt hn]
theorem y0h (s:Txt):Q9 (bT s)=s:=by
 induction s with
 | nil=>rfl
 | cons a s ih =>
  show UInt8.ofNat a.toNat::Q9 (bT s)=_
  rw [ih];simp
theorem t0R (s:Txt):(bT s).length=s.length:=by simp [bT]
theorem s0u (s:Txt) (r:List Nat):L7 (s.length::bT s++r)=some (s,r):=by
 rw [List.cons_append]
 simp only [L7]
 rw [if_pos (by rw [List.length_append,t0R];omega),List.take_left' (t0R s),List.drop_left' (t0R s),y0h]
theorem u0L:∀ (T:List Txt) (r:List Nat),rdT T.length ((T.flatMap fun s=>s.length::bT s)++r)=some (T,r)
 | [],r=>rfl
 | s::T,r=>by
  rw [List.flatMap_cons,List.append_assoc,List.length_cons,rdT,s0u,Option.bind_some,u0L T r]
  rfl
theorem y0i {T:List Txt} {k:Lab} (h1:k.1 ∈ T) (h2:k.2 ∈ T):d04 T (pl T k.1) (pl T k.2)=some k:=by
 unfold d04
 rw [f05 h1,f05 h2]
theorem u0M {T:List Txt} (hT:T.length≤2 ^ 32):∀ (ls:List Lab) (r:List Nat),(∀ k ∈ ls,k.1 ∈ T∧k.2 ∈ T)→rdL T ls.length (c04 T ls++r)=some (ls,r)
 | [],r,_=>rfl
 | k::ls,r,h=>by
  obtain ⟨h1,h2⟩:=h k List.mem_cons_self
  have l1:=f04 h1
  have l2:=f04 h2
  have ih:=u0M hT ls r fun y hy=>h y (List.mem_cons_of_mem _ hy)
  have e:c04 T (k::ls)++r=be 4 (pl T k.1)++(be 4 (pl T k.2)++(c04 T ls++r)):=by simp [c04]
  rw [e,List.length_cons,rdL,g0H _ (by omega),Option.bind_some]
  simp only
  rw [g0H _ (by omega),Option.bind_some]
  simp only
  rw [y0i h1 h2,Option.bind_some,ih]
  rfl
def I64 (z:Int):Prop:=-9223372036854775808≤z∧z<9223372036854775808
theorem q0j {z:Int} (h:I64 z):s64 (n64 z)=z:=by
 unfold s64 n64
 obtain ⟨h1,h2⟩:=h
 by_cases h0:0≤z
 ·rw [Int.toNat_of_nonneg (by omega),Int.emod_eq_of_lt h0 (by omega)]
  exact wrap_i64 (by omega) (by omega)
 ·rw [Int.toNat_of_nonneg (by omega)]
  have:z%18446744073709551616=z+18446744073709551616:=by omega
  rw [this]
  rw [N8,IntKind.wrap_i64]
  omega
theorem z0A {T:List Txt} (hT:T.length≤2 ^ 32) {x:Ep} (hl:R9 x.ls=true) (h1:1≤x.sz) (h2:x.sz≤2147483647) (h3:I64 x.mn) (h4:I64 x.mx) (hm:∀ k ∈ x.ls,k.1 ∈ T∧k.2 ∈ T) (r:List Nat):rd1 T x.pl (c05 T (y9 x)++r)=some (x,r):=by
 have h8:=(b0c hl).1
 have e:c05 T (y9 x)++r=be 1 x.ls.length++(c04 T x.ls++(be 4 (n64 x.sz)++(be 8 (n64 x.mn)++(be 8 (n64 x.mx)++r)))):=by
  have:be 1 x.ls.length=[x.ls.length]:=by
   simp only [be,List.nil_append,List.cons.injEq,and_true]
   omega
  rw [this]
  simp [c05,y9]
 have hs:n64 x.sz<2 ^ 31:=by unfold n64;omega
 rw [rd1,e,g0H _ (by omega),Option.bind_some]
 simp only
 rw [u0M hT _ _ hm,Option.bind_some]
 simp only
 rw [g0H _ (by omega),Option.bind_some]
 simp only
 rw [g0H _ (by have:=l0G x.mn;omega),Option.bind_some]
 simp only
 rw [g0H _ (by have:=l0G x.mx;omega),Option.map_some]
 simp only
 rw [q0j h3,q0j h4,q0j ⟨by omega,by omega⟩]
theorem u0N {T:List Txt} (hT:T.length≤2 ^ 32):∀ (l:List Ep) (pos:Int) (prev:Option Ep) (r:List Nat),c0e pos prev l=true→(∀ x ∈ l,I64 x.mn∧I64 x.mx∧∀ k ∈ x.ls,k.1 ∈ T∧k.2 ∈ T) →
  rdE T l.length pos ((l.map y9).flatMap (c05 T)++r)=some (l,r)
 | [],_,_,_,_,_=>rfl
 | x::l,pos,prev,r,hc,h=>by
  simp only [c0e,ok1,Bool.and_eq_true,decide_eq_true_eq] at hc
  obtain ⟨⟨⟨⟨⟨⟨c1,c2⟩,c3⟩,c4⟩,c5⟩,_⟩,c6⟩:=hc
  obtain ⟨h1,h2,h3⟩:=h x List.mem_cons_self
  rw [List.map_cons,List.flatMap_cons,List.append_assoc,List.length_cons,rdE,← c5,z0A hT c1 c3 c4 h1 h2 h3,Option.bind_some]
  simp only
  rw [c5,u0N hT l _ (some x) r c6 fun y hy=>h y (List.mem_cons_of_mem _ hy)]
  rfl
theorem w0m {l:List Ep} (hn:l.length≤10000) (hc:W9 l=true) (hr:∀ x ∈ l,I64 x.mn∧I64 x.mx):rdI (R7 l)=some l:=by
 have h8:=d0l hc
 have hTl:=l0q l h8
 have hmem:∀ x ∈ l,∀ k ∈ x.ls,k.1 ∈ Tof l∧k.2 ∈ Tof l:=fun x hx k hk =>
  ⟨(a01 l _).2 ⟨x.ls,List.mem_map.2 ⟨x,hx,rfl⟩,k,hk,.inl rfl⟩,(a01 l _).2 ⟨x.ls,List.mem_map.2 ⟨x,hx,rfl⟩,k,hk,.inr rfl⟩⟩
 rw [s0e hn hc (q0a l)]
 have e:v0s (Tof l) (l.map y9)=be 4 (Tof l).length++(((Tof l).flatMap fun s=>s.length::bT s)++(be 4 l.length++((l.map y9).flatMap (c05 (Tof l))++e0k (Tof l) (l.map y9)))):=by
  simp only [v0s,u0f,List.append_assoc,List.length_map]
 rw [e,rdI,g0H _ (by omega),Option.bind_some]
 simp only
 rw [u0L,Option.bind_some]
 simp only
 rw [g0H _ (by omega),Option.bind_some]
 simp only
 simp only [W9,Bool.and_eq_true] at hc
 rw [u0N (by omega) l 0 none _ hc.1 fun x hx=>⟨(hr x hx).1,(hr x hx).2,hmem x hx⟩]
 rfl
theorem y0j {l:List Ep} (hc:W9 l=true) (p:Nat×Nat):(atK (c02 l) p).length≤l.length:=by
 have hmem:∀ x ∈ l,∀ k ∈ x.ls,k.1 ∈ Tof l∧k.2 ∈ Tof l:=fun x hx k hk =>
  ⟨(a01 l _).2 ⟨x.ls,List.mem_map.2 ⟨x,hx,rfl⟩,k,hk,.inl rfl⟩,(a01 l _).2 ⟨x.ls,List.mem_map.2 ⟨x,hx,rfl⟩,k,hk,.inr rfl⟩⟩
 have hmm:c02 l=L6 (L5 (Tof l) (l.map y9)):=by rw [y0b];rfl
 by_cases h0:atK (c02 l) p=[]
 ·rw [h0];exact Nat.zero_le _
 rw [hmm,l0r] at h0 ⊢
 obtain ⟨i,hi⟩:=List.exists_mem_of_ne_nil _ h0
 obtain ⟨e,he,_⟩:=List.mem_map.1 hi
 obtain ⟨he1,he2⟩:=List.mem_filter.1 he
 have he2:e.1=p:=by simpa using he2
 unfold L5 at he1
 obtain ⟨j,_,hj⟩:=List.mem_flatMap.1 he1
 cases hx:(l.map y9)[j]? with
 | none=>rw [hx] at hj;cases hj
 | some x =>
  rw [hx] at hj
  obtain ⟨k,hk,rfl⟩:=List.mem_map.1 hj
  obtain ⟨y,hy,rfl⟩:=List.mem_map.1 (List.mem_of_getElem? hx)
  subst he2
  have hT:∀ x ∈ l.map y9,∀ y ∈ x.ls,y.1 ∈ Tof l∧y.2 ∈ Tof l:=fun x hx=>by
   obtain ⟨y,hy,rfl⟩:=List.mem_map.1 hx
   exact hmem y hy
  have hp:∀ x ∈ l.map y9,b0Y x.ls:=fun x hx=>by
   obtain ⟨y,hy,rfl⟩:=List.mem_map.1 hx
   exact g0y (d0k hc y hy).1
  have hm:=hmem y hy k hk
  rw [w03 (k:=k) hm.1 hm.2 hp hT]
  unfold plc
  refine Nat.le_trans (List.length_filter_le _ _) ?_
  simp
theorem q0k {l:List Ep} (hn:l.length≤30) (hc:W9 l=true):(R7 l).length≤150000:=by
 have h8:=d0l hc
 have h1:=l0q l h8
 have h2:=g00 (itE (Tof l)) 20 l (fun x hx=>u0x _ x (h8 x hx))
 have h4:=u0w l h8
 have hw:∀ (n:Int) (k:Nat),k≤8→(itB (.w n k)).length≤41:=fun n k hk=>by simp only [itB,r8];omega
 have k1:∀ it ∈ [It.w ((Tof l).length:Int) 4]++(Tof l).map It.t++[.w (l.length:Int) 4]++l.flatMap (itE (Tof l)),(itB it).length≤41:=by
  intro it hit
  simp only [List.mem_append,List.mem_singleton,List.mem_map,List.mem_flatMap] at hit
  rcases hit with ((rfl | ⟨s,hs,rfl⟩) | rfl) | ⟨x,hx,hit⟩
  ·exact hw _ _ (by omega)
  ·obtain ⟨y,hy,k,hk,hsk⟩:=(a01 l s).1 hs
   obtain ⟨x,hx,rfl⟩:=List.mem_map.1 hy
   obtain ⟨a,b,_⟩:=(b0c (d0k hc x hx).1).2 k hk
   have:s.length≤40:=by rcases hsk with rfl | rfl <;> omega
   simp only [itB,bT,List.length_cons,List.length_map];omega
  ·exact hw _ _ (by omega)
  ·simp only [itE,List.cons_append,List.mem_cons,List.mem_append,List.mem_flatMap,List.not_mem_nil,or_false] at hit
   rcases hit with rfl | ⟨k,_,rfl | rfl⟩ | rfl | rfl | rfl <;> exact hw _ _ (by omega)
 have k2:=g00 itB 41 _ k1
 have k3:=g00 (fun p=>([It.w (p.1:Int) 4,.w (p.2:Int) 4,.p (atK (c02 l) p)]:List It).flatMap itB) 140 (i0D ((c02 l).map (·.1))) (fun p _=>by
  have:=y0j hc p
  simp only [List.flatMap_cons,List.flatMap_nil,List.append_nil,List.length_append,itB,r8,a0C]
  omega)
 rw [q0W] at k3
 have e:R7 l=([It.w ((Tof l).length:Int) 4]++(Tof l).map It.t++[It.w (l.length:Int) 4]++l.flatMap (itE (Tof l))).flatMap itB++(i0D ((c02 l).map (·.1))).flatMap fun p=>([It.w (p.1:Int) 4,.w (p.2:Int) 4,.p (atK (c02 l) p)]:List It).flatMap itB:=by
  unfold R7 a02 itP
  rw [List.flatMap_append,List.flatMap_assoc]
 rw [e,List.length_append]
 simp only [List.length_append,List.length_map,List.length_singleton] at k2 k3 h4
 omega
end Go.Dk
