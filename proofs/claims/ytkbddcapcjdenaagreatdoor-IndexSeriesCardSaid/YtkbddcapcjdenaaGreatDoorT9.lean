/-
  Texts joined.
-/
import Derived.Test.YtkbddcapcjdenaaGreatDoorT8
import Derived.Test.YtkbddcapcjdenaaGreatDoorT6
import Derived.Test.YtkbddcapcjdenaaGreatDoorT5

namespace Go.Dk
open Go Go.Dr
set_option maxRecDepth 100000
structure Ep where
 ls:List Lab
 pl:Int
 sz:Int
 mn:Int
 mx:Int
def enC (x:AV×Ep):List AV:=[x.1,.int .i64 x.2.pl,.int .i64 x.2.sz,.int .i64 x.2.mn,.int .i64 x.2.mx]
def EnOk (h:AH) (x:AV×Ep):Prop:=Sl h 2 x.2.ls.length x.1 (x.2.ls.flatMap E2)
theorem EnOk.fr {h g:AH} {x:AV×Ep} (e:EnOk h x) (f:Fr h g):EnOk g x:=Sl.fr e f
def mnS (s:List Smp):Int:=match s[0]? with | some x=>x.1 | none=>0
def mxS (s:List Smp):Int:=match s[s.length - 1]? with | some x=>x.1 | none=>0
noncomputable def ents:Nat→Nat→List Nat→List Ep×Bool
 | 0,_,_=>([],true)
 | f+1,a,b=>if b=[] then ([],true) else match G4 b with
  | none=>([],false)
  | some (l,s,n)=>(⟨l,a,n,mnS s,mxS s⟩::(ents f (a+n) (b.drop n)).1,(ents f (a+n) (b.drop n)).2)
theorem h0T {b:List Nat} {l:List Lab} {s:List Smp} {n:Nat} (e:G4 b=some (l,s,n)):4≤n∧n≤b.length∧s.length≠0∧X0 l∨b.length ≥ 2 ^ 61:=by
 unfold G4 at e
 split at e
 ·cases e
 ·unfold d06 at e
  split at e
  ·cases e
  ·split at e
   ·cases e
   ·rename_i l' rest hd
    split at e
    ·cases e
    ·split at e
     ·cases e
     ·cases e
      by_cases hbig:b.length ≥ 2 ^ 61
      ·exact .inr hbig
      ·refine .inl ⟨by omega,by omega,by omega,?_⟩
       obtain ⟨_,_,h3⟩:=p0m hd
       intro x hx
       have:=h3 x hx
       simp only [List.length_take,List.length_drop] at this
       omega
structure CurO (h:AH) (id:Nat) (v:AV) (n:Nat) (b:List Nat) (at':Nat) (bad:Bool):Prop where
 cells:h.get id=some (.cells [.bool true,v,.int .i64 (at':Int),.bool bad] false)
 lt:id<h.next
 sl:Sl h 1 n v (by8 b)
 lo:∀ i,j9 v=some i→i<id
theorem CurO.ne {h:AH} {id:Nat} {v:AV} {n:Nat} {b:List Nat} {at':Nat} {bad:Bool} (u:CurO h id v n b at' bad):j9 v≠some id:=fun e=>by have:=u.lo _ e;omega
theorem CurO.fr {h g:AH} {id:Nat} {v:AV} {n:Nat} {b:List Nat} {at':Nat} {bad:Bool} (u:CurO h id v n b at' bad) (f:Fr h g):CurO g id v n b at' bad :=
 ⟨by rw [f.get _ u.lt,u.cells],Nat.lt_of_lt_of_le u.lt f.next,u.sl.fr f,u.lo⟩
theorem A0u {h:AH} {v:AV} {l:List Nat} {n:Nat} (hv:Sl h 1 n v (by8 l)) (hn:n≤2 ^ 36):Ev P SI (.fn O8) [v] h fun r g=>Sl g 1 n r (by8 l)∧Fr h g:=by
 refine k8 e0v rfl rfl ?_
 obtain ⟨b,hb,hb2⟩:=hv.isNil i0B true
 cases b with
 | true =>
  obtain ⟨rfl,rfl,hl⟩:=hb2 rfl
  simp [P4]
  exact ⟨hv,.refl _⟩
 | false =>
  have o0:Own h.next (h.push (.cells [] false)) 1 0 (.slice h.next 0 0 0 true 1) []:=⟨by simp,.inr ⟨h.next,0,true,[],rfl,Nat.le_refl _,by simp,b8 _,by simp,by simp⟩⟩
  have f0:=Fr.push (.refl h) (.cells [] false)
  obtain ⟨v1,g1,e1,o1,fb,_⟩:=o0.append (bytes:=1) (hv.fr f0) (by simp) (C8 _) (by omega) (by omega)
  simp [P4,hb,e1]
  rw [Nat.zero_add,List.nil_append] at o1
  exact ⟨o1.sl,⟨Nat.le_trans f0.next fb.next,fun i hi=>(fb.get i hi).trans (f0.get i hi)⟩⟩
theorem t0k {h:AH} {v:AV} {b:List Nat} {n:Nat} (hv:Sl h 1 n v (by8 b)) (hn:n≤2 ^ 30):Ev P SI (.fn f0c) [v,.int .i64 0] h fun r g=>∃ id u,r=.ptr id 0∧h.next≤id∧CurO g id u n b 0 false∧Fr h g:=by
 refine k8 q0f rfl rfl ?_
 simp [j0p]
 refine (A0u hv (by omega)).mono ?_
 rintro u g ⟨su,f⟩
 have hc:=su.oneCell
 have f1:=f.push (.cells [.bool true,u,.int .i64 0,.bool false] false)
 simp [hc.1,i9,show min (0:Int) 2147483647=0 from rfl]
 exact ⟨f.next,⟨u,b8 _,Nat.lt_succ_self _,su.fr (Fr.push (.refl g) _),fun i e=>Sl.idLt su e⟩,f1⟩
theorem v0J {h:AH} {id:Nat} {v:AV} {n:Nat} {b:List Nat} {at':Nat} {bad:Bool} (u:CurO h id v n b at' bad) (K:AV→AH→Prop):Ev P SI (.fn a0o) [.ptr id 0] h K=K (.int .i64 (if bad=true then 5 else 0)) h:=by
 refine Ev.eq (k8 i0e rfl rfl ?_) K
 have l0:load1 h id 0=.ok (.bool true):=b7 u.cells
 have l3:load1 h id 3=.ok (.bool bad):=b7 u.cells
 cases bad <;> simp [d0s,l0,l3]
def r0t (h:AH) (id:Nat) (n:Nat) (b:List Nat) (at':Nat) (r:AV) (g:AH):Prop :=
 FrX id h g∧if b=[] then r=.tuple [.agg [.nils,.int .i64 0,.int .i64 0,.int .i64 0,.int .i64 0],.nils,.bool false]∧∃ v,CurO g id v n b at' false else
  match G4 b with
  | none=>r=.tuple [.agg [.nils,.int .i64 0,.int .i64 0,.int .i64 0,.int .i64 0],.nils,.bool false]∧∃ v,CurO g id v n b at' true
  | some (l,s,m)=>∃ lv sv v,r=.tuple [.agg (enC (lv,⟨l,at',m,mnS s,mxS s⟩)),sv,.bool true]∧EnOk g (lv,⟨l,at',m,mnS s,mxS s⟩)∧(∀ i,j9 lv=some i→h.next≤i)∧CurO g id v (n - m) (b.drop m) (at'+m) false
theorem u0l {g:AH} {n j:Nat} {lv:AV} {l:List Lab} {vs vs':List AV} {ro ro':Bool} (s:Sl g 2 n lv (l.flatMap E2)) (hg:g.get j=some (.cells vs ro)) (hvs:∀ t,.str t ∉ vs) (hl:vs'.length=vs.length) :
  Sl (g.set j (.cells vs' ro')) 2 n lv (l.flatMap E2):=by
 refine ⟨s.1,?_⟩
 rcases s.2 with e | ⟨i,off,cap,x,ws,rw',e1,e2,e3,e4,e5,e6⟩
 ·exact .inl e
 ·by_cases hij:i=j
  ·subst hij
   rw [hg] at e4
   cases e4
   cases l with
   | nil =>
    have hn:n=0:=by have:=s.1;simp at this;omega
    subst hn
    exact .inr ⟨i,off,cap,x,vs',ro',e1,e2,e3,i8 _ _,by omega,by simp⟩
   | cons y l =>
    exfalso
    have:AV.str y.1 ∈ (vs.drop off).take (n*2):=by rw [e6];simp [E2]
    exact hvs _ (List.mem_of_mem_drop (List.mem_of_mem_take this))
  ·exact .inr ⟨i,off,cap,x,ws,rw',e1,e2,e3,by rw [c8 hij];exact e4,e5,e6⟩
theorem m0A {es:Nat} {v v':AV} {lo hi mx:Option AV} (e:E8 es v lo hi mx=.ok v') {i:Nat} (h:j9 v'=some i):j9 v=some i:=by
 unfold E8 at e
 split at e
 ·split at e
  ·cases e;cases h
  ·cases e
 ·split at e
  ·split at e
   ·cases e;exact h
   ·cases e
  ·cases e
 ·cases e
theorem m0B {h:AH} {id:Nat} {v:AV} {n:Nat} {b:List Nat} {at':Nat} (u:CurO h id v n b at' false) (hn:n≤2 ^ 30) (ha:at'≤2 ^ 40) (hb:∀ x ∈ b,x<256) (ht:TabIn h) :
  Ev P SI (.fn P8) [.ptr id 0] h (r0t h id n b at'):=by
 refine k8 h0f rfl rfl ?_
 have hbl:b.length=n:=by have:=u.sl.1;simpa using this
 have fp:=Fr.push (.refl h) (.cells [.nils,.int .i64 0,.int .i64 0,.int .i64 0,.int .i64 0] false)
 have gz:(h.push (.cells [.nils,.int .i64 0,.int .i64 0,.int .i64 0,.int .i64 0] false)).get h.next=some (.cells [.nils,.int .i64 0,.int .i64 0,.int .i64 0,.int .i64 0] false):=b8 _
 have gn:(h.push (.cells [.nils,.int .i64 0,.int .i64 0,.int .i64 0,.int .i64 0] false)).next=h.next+1:=rfl
 generalize hg0:h.push (.cells [.nils,.int .i64 0,.int .i64 0,.int .i64 0,.int .i64 0] false)=g0 at *
 have u0:=u.fr fp
 have l0:load1 g0 id 0=.ok (.bool true):=b7 u0.cells
 have l1:load1 g0 id 1=.ok v:=b7 u0.cells
 have l3:load1 g0 id 3=.ok (.bool false):=b7 u0.cells
 have hlt:=u.lt
 have hvn:j9 v≠some h.next:=fun e=>by have:=Sl.idLt u.sl e;omega
 have stz:∀ {g:AH},g.get h.next=some (.cells [.nils,.int .i64 0,.int .i64 0,.int .i64 0,.int .i64 0] false)→∀ {l:List AV},l.length=5→d8 l=true→J2 5 (.ptr h.next 0) (.agg l) g=V0 (.ok (g.set h.next (.cells l false))):=by
  intro g hg l hl hs
  rw [a0K 5 _ _ l hl]
  cases l with
  | nil=>simp at hl
  | cons x l=>rw [c09 hg (by simpa using hl.symm) hs]
 by_cases hn0:n=0
 ·have hb0:b=[]:=List.length_eq_zero_iff.1 (by omega)
  have st:=stz gz (l:=[.nils,.int .i64 0,.int .i64 0,.int .i64 0,.int .i64 0]) rfl rfl
  have gx:(g0.set h.next (.cells [.nils,.int .i64 0,.int .i64 0,.int .i64 0,.int .i64 0] false)).get h.next=some (.cells [.nils,.int .i64 0,.int .i64 0,.int .i64 0,.int .i64 0] false):=i8 _ _
  simp [Y4,hg0,l0,l1,l3,u0.sl.len,hn0,st]
  have ldx:=A8 gx (n:=5) rfl
  rw [e0B (id:=h.next) (off:=0) (v:=[.nils,.int .i64 0,.int .i64 0,.int .i64 0,.int .i64 0]) _ (by simp) ldx]
  simp [r0t,hb0]
  refine ⟨⟨Nat.le_trans fp.next (Nat.le_refl _),fun i hi hn=>by rw [c8 (by omega),fp.get i hi]⟩,v,?_,u0.lt,?_,u.lo⟩
  ·rw [c8 (by omega)];exact u0.cells
  ·have s0:=u0.sl
   rw [hn0,hb0] at s0
   exact Sl.setX s0 _ hvn
 have hbn:b≠[]:=fun e=>hn0 (by rw [← hbl,e];rfl)
 simp [Y4,hg0,l0,l1,l3,u0.sl.len,hn0]
 refine (q0E u0.sl hn hb (ht.fr fp)).mono ?_
 rintro r g1 ⟨f1,hr⟩
 have u1:=u0.fr f1
 have gz1:=f1.get h.next (by omega)
 rw [gz] at gz1
 have hn1:=f1.next
 cases hc:G4 b with
 | none =>
  rw [hc] at hr
  simp only at hr
  subst hr
  have s1:=n8 (v:=.bool true) (off:=3) u1.cells (by simp) rfl
  simp [i9] at s1
  have gz2:(g1.set id (.cells [.bool true,v,.int .i64 (at':Int),.bool true] false)).get h.next=some (.cells [.nils,.int .i64 0,.int .i64 0,.int .i64 0,.int .i64 0] false):=by rw [c8 (by omega),gz1]
  have st:=stz gz2 (l:=[.nils,.int .i64 0,.int .i64 0,.int .i64 0,.int .i64 0]) rfl rfl
  have gx:((g1.set id (.cells [.bool true,v,.int .i64 (at':Int),.bool true] false)).set h.next (.cells [.nils,.int .i64 0,.int .i64 0,.int .i64 0,.int .i64 0] false)).get h.next=some (.cells [.nils,.int .i64 0,.int .i64 0,.int .i64 0,.int .i64 0] false):=i8 _ _
  simp [s1,st]
  have ldx:=A8 gx (n:=5) rfl
  rw [e0B (id:=h.next) (off:=0) (v:=[.nils,.int .i64 0,.int .i64 0,.int .i64 0,.int .i64 0]) _ (by simp) ldx]
  simp [r0t,hbn,hc]
  refine ⟨⟨Nat.le_trans fp.next f1.next,fun i hi hn=>by rw [c8 (by omega),c8 hn,f1.get i (by omega),fp.get i hi]⟩,v,?_,u1.lt,?_,u.lo⟩
  ·rw [c8 (by omega)];exact i8 _ _
  ·exact Sl.setX (Sl.setX u1.sl _ u.ne) _ hvn
 | some p =>
  obtain ⟨l,s,m⟩:=p
  rw [hc] at hr
  simp only at hr
  obtain ⟨lv,sv,rfl,sl,ss⟩:=hr
  obtain ⟨m4,mle,s0,_⟩ | hbig:=h0T hc
  rotate_left
  ·omega
  have fz:=Fr.push (.refl g1) (.cells [.nils,.int .i64 0,.int .i64 0,.int .i64 0,.int .i64 0] false)
  obtain ⟨x0,hx0⟩:=j7 (l:=s) (j:=0) (by omega)
  obtain ⟨x1,hx1⟩:=j7 (l:=s) (j:=s.length - 1) (by omega)
  obtain ⟨i0,o0,p0,_,p1,_⟩:=M3 ss hx0
  obtain ⟨i1,o1,q0,_,q1,_⟩:=M3 ss hx1
  obtain ⟨i0',o0',p0',_,p1',_⟩:=M3 (ss.fr fz) hx0
  obtain ⟨i1',o1',q0',_,q1',_⟩:=M3 (ss.fr fz) hx1
  rw [p0] at p0'
  cases p0'
  rw [q0] at q0'
  cases q0'
  have hmn:mnS s=x0.1:=by simp only [mnS,hx0]
  have hmx:mxS s=x1.1:=by simp only [mxS,hx1]
  have hsl:s.length≤2 ^ 62:=by
   unfold G4 at hc
   split at hc
   ·cases hc
   ·unfold d06 at hc
    split at hc
    ·cases hc
    ·split at hc
     ·cases hc
     ·split at hc
      ·cases hc
      ·split at hc
       ·cases hc
       ·cases hc
        omega
  have wl:b9 .i64 ((s.length:Int) - 1)=((s.length - 1:Nat):Int):=by rw [wrap_i64 (by omega) (by omega)];omega
  have wa:b9 .i64 ((at':Int)+(m:Int))=((at'+m:Nat):Int):=by rw [wrap_i64 (by omega) (by omega)];omega
  have p0'':E9 2 sv (.int .i64 0)=.ok (.ptr i0 o0):=p0
  generalize x0.1=mn at *
  generalize x1.1=mx at *
  have hlvf:∀ i,j9 lv=some i→h.next≤i:=by
   intro i e
   have h1:¬ i<g0.next:=fun hi=>sl.ne hi e
   omega
  have hlc:=sl.sl.oneCell
  have lz1:load1 (g1.push (.cells [.nils,.int .i64 0,.int .i64 0,.int .i64 0,.int .i64 0] false)) id 2=.ok (.int .i64 (at':Int)):=b7 (u1.fr fz).cells
  have la:load1 g1 id 2=.ok (.int .i64 (at':Int)):=b7 u1.cells
  have m0:¬ m=0:=by omega
  have stn:=l6 (h:=g1) (n:=5) (z:=[.nils,.int .i64 0,.int .i64 0,.int .i64 0,.int .i64 0]) (l:=[lv,.int .i64 (at':Int),.int .i64 (m:Int),.int .i64 mn,.int .i64 mx]) rfl rfl (by simp [d8,hlc.2])
  have f2:=Fr.push (.refl g1) (.cells [lv,.int .i64 (at':Int),.int .i64 (m:Int),.int .i64 mn,.int .i64 mx] false)
  have ge:(g1.push (.cells [lv,.int .i64 (at':Int),.int .i64 (m:Int),.int .i64 mn,.int .i64 mx] false)).get g1.next=some (.cells [lv,.int .i64 (at':Int),.int .i64 (m:Int),.int .i64 mn,.int .i64 mx] false):=b8 _
  have ge0:(g1.push (.cells [lv,.int .i64 (at':Int),.int .i64 (m:Int),.int .i64 mn,.int .i64 mx] false)).next=g1.next+1:=rfl
  have u2:=u1.fr f2
  have sl2:=sl.sl.fr f2
  have gz2:=f2.get h.next (by omega)
  rw [gz1] at gz2
  generalize hg2:g1.push (.cells [lv,.int .i64 (at':Int),.int .i64 (m:Int),.int .i64 mn,.int .i64 mx] false)=g2 at *
  have l21:load1 g2 id 1=.ok v:=b7 u2.cells
  have l22:load1 g2 id 2=.ok (.int .i64 (at':Int)):=b7 u2.cells
  obtain ⟨v',ev',sv'⟩:=u2.sl.slice (lo:=some (.int .i64 (m:Int))) (hi:=none) (a:=m) (b:=n) (.inr ⟨.i64,rfl⟩) (.inl ⟨rfl,rfl⟩) (by omega) (Nat.le_refl _)
  rw [Nat.mul_one,Nat.mul_one,H8,H7,List.take_of_length_le (by simp;omega)] at sv'
  have hvc:=sv'.oneCell
  obtain ⟨am,ham⟩:∃ am,am=at'+m:=⟨_,rfl⟩
  rw [← ham] at wa
  have s1:=n8 (v:=v') (off:=1) u2.cells (by simp) hvc.2
  simp [i9] at s1
  have gy1:(g2.set id (.cells [.bool true,v',.int .i64 (at':Int),.bool false] false)).get id=some (.cells [.bool true,v',.int .i64 (at':Int),.bool false] false):=i8 _ _
  have s2:=n8 (v:=.int .i64 (am:Int)) (off:=2) gy1 (by simp) rfl
  simp [i9] at s2
  have hne1:id≠g1.next:=by omega
  have hne2:id≠h.next:=by omega
  have ge3:(g2.set id (.cells [.bool true,v',.int .i64 (am:Int),.bool false] false)).get g1.next=some (.cells [lv,.int .i64 (at':Int),.int .i64 (m:Int),.int .i64 mn,.int .i64 mx] false):=by rw [c8 (by omega),ge]
  have gz3:(g2.set id (.cells [.bool true,v',.int .i64 (am:Int),.bool false] false)).get h.next=some (.cells [.nils,.int .i64 0,.int .i64 0,.int .i64 0,.int .i64 0] false):=by rw [c8 (by omega),gz2]
  have ld3:=A8 ge3 (n:=5) rfl
  have hsc:d8 [lv,.int .i64 (at':Int),.int .i64 (m:Int),.int .i64 mn,.int .i64 mx]=true:=by simp [d8,hlc.2]
  have st:=stz gz3 (l:=[lv,.int .i64 (at':Int),.int .i64 (m:Int),.int .i64 mn,.int .i64 mx]) rfl hsc
  have gx:((g2.set id (.cells [.bool true,v',.int .i64 (am:Int),.bool false] false)).set h.next (.cells [lv,.int .i64 (at':Int),.int .i64 (m:Int),.int .i64 mn,.int .i64 mx] false)).get h.next=some (.cells [lv,.int .i64 (at':Int),.int .i64 (m:Int),.int .i64 mn,.int .i64 mx] false):=i8 _ _
  have ldx:=A8 gx (n:=5) rfl
  have hsame:=u2.sl.same
  generalize hs1:s.length - 1=sl1 at *
  simp [m0,la,p0'',p1,ss.len,wl,q0,q1,i9,hlc.1,lz1,p1',q1',stn,hg2,l21,ev',l22,wa,hsame,hvc.1,s1,s2,s7,ld3,st]
  rw [e0B (id:=h.next) (off:=0) (v:=[lv,.int .i64 (at':Int),.int .i64 (m:Int),.int .i64 mn,.int .i64 mx]) _ (by simp) ldx]
  simp [r0t,hbn,hc]
  have hvid:j9 v'≠some id:=by
   exact fun e=>u2.ne (m0A ev' e)
  have hvhn:j9 v'≠some h.next:=fun e=>hvn (m0A ev' e)
  have sl3:=u0l (vs':=[.bool true,v',.int .i64 (am:Int),.bool false]) (ro':=false) sl2 u2.cells (fun t h=>by
   rcases u2.sl.2 with ⟨rfl,_⟩ | ⟨i2,off2,cap2,x2,vs2,ro2,rfl,_⟩ <;> simp at h) rfl
  have sl4:=u0l (vs':=[lv,.int .i64 (at':Int),.int .i64 (m:Int),.int .i64 mn,.int .i64 mx]) (ro':=false) sl3 gz3 (fun t h=>by simp at h) rfl
  rw [ham]
  rw [ham] at sl4
  refine ⟨⟨Nat.le_trans fp.next (Nat.le_trans f1.next f2.next),fun i hi hn=>by rw [c8 (by omega),c8 hn,f2.get i (by omega),f1.get i (by omega),fp.get i hi]⟩,lv,by rw [hmn,hmx];rfl,sl4,hlvf,v',?_,u2.lt,?_,fun i e=>u2.lo i (m0A ev' e)⟩
  ·rw [c8 (by omega)];exact i8 _ _
  ·exact Sl.setX (Sl.setX sv' _ hvid) _ hvhn
end Go.Dk

namespace Go.Dk
open Go Go.Dr
set_option maxRecDepth 100000
def W8:Option Ep→Ep→Bool
 | none,_=>true
 | some p,x=>!decide (0<O9 p.ls x.ls)&&!(decide (O9 p.ls x.ls=0)&&decide (x.mn≤p.mx))
def ok1 (pos:Int) (x:Ep):Bool:=R9 x.ls&&decide (x.mn≤x.mx)&&decide (1≤x.sz)&&decide (x.sz≤2147483647)&&decide (x.pl=pos)
def c0e (pos:Int) (prev:Option Ep):List Ep→Bool
 | []=>true
 | x::l=>ok1 pos x&&W8 prev x&&c0e (b9 .i64 (pos+x.sz)) (some x) l
def W9 (l:List Ep):Bool:=c0e 0 none l&&decide (l.length≤100000)
theorem b04 (xs:List (AV×Ep)):(xs.flatMap enC).length=xs.length*5:=S8 xs (fun _ _=>rfl)
theorem f0K {h:AH} {n:Nat} {v:AV} {xs:List (AV×Ep)} (s:Sl h 5 n v (xs.flatMap enC)) {j:Nat} {x:AV×Ep} (hx:xs[j]? = some x) :
  ∃ id o,E9 5 v (.int .i64 (j:Int))=.ok (.ptr id o)∧loadN h id o 5=.ok (enC x)∧load1 h id o=.ok x.1∧load1 h id (o+3)=.ok (.int .i64 x.2.mn)∧load1 h id (o+4)=.ok (.int .i64 x.2.mx)∧id<h.next:=by
 obtain ⟨id,o,h1,h2,h3,h4⟩:=s.elem (fun _ _=>rfl) (by omega) (k:=.i64) (i:=(j:Int)) rfl hx
 exact ⟨id,o,h1,h2,h3 0 _ rfl,h3 3 _ rfl,h3 4 _ rfl,h4⟩
def e0y (xs:List (AV×Ep)) (j:Nat):Option Ep:=if j=0 then none else (xs[j - 1]?).map (·.2)
def CanJ (xs:List (AV×Ep)) (j:Nat) (pos:Int):Prop:=c0e 0 none (xs.map (·.2))=c0e pos (e0y xs j) ((xs.drop j).map (·.2))
theorem CanJ.step {xs:List (AV×Ep)} {j:Nat} {pos:Int} {x:AV×Ep} (c:CanJ xs j pos) (hx:xs[j]? = some x) :
  c0e 0 none (xs.map (·.2))=(ok1 pos x.2&&W8 (e0y xs j) x.2&&c0e (b9 .i64 (pos+x.2.sz)) (some x.2) ((xs.drop (j+1)).map (·.2))):=by
 rw [c,i0n hx,List.map_cons,c0e]
theorem CanJ.next {xs:List (AV×Ep)} {j:Nat} {pos:Int} {x:AV×Ep} (c:CanJ xs j pos) (hx:xs[j]? = some x) (h1:ok1 pos x.2=true) (h2:W8 (e0y xs j) x.2=true):CanJ xs (j+1) (b9 .i64 (pos+x.2.sz)):=by
 have:=c.step hx
 rw [h1,h2] at this
 unfold CanJ
 rw [this]
 simp [e0y,hx]
theorem l0w {l:List Ep} (h:c0e 0 none l=false):W9 l=false:=by simp [W9,h]
theorem p0h {h:AH} {n:Nat} {v:AV} {xs:List (AV×Ep)} (s:Sl h 5 n v (xs.flatMap enC)) (hn:n≤2 ^ 40) (he:∀ x ∈ xs,EnOk h x∧X0 x.2.ls∧x.2.ls.length<2 ^ 62) :
  Ev P SI (.fn d0E) [v] h fun r g=>r=.bool (W9 (xs.map (·.2)))∧Fr h g:=by
 refine k8 q07 rfl rfl ?_
 have hl:xs.length=n:=by have:=s.1;rw [b04] at this;omega
 simp [k0y,s.len]
 refine m8 (n:=n) (by rfl) (fun j σ ds g=>ds=[]∧σ 0=v∧σ 8=v∧σ 9=.int .i64 (n:Int)∧Fr h g∧∃ pos,σ 3=.int .i64 pos∧CanJ xs j pos) (by omega) (by simp)
  ⟨rfl,by simp,by simp,by simp,.refl _,0,by simp,rfl⟩ (fun j σ ds g hJ=>by simp [hJ.2.2.2.1]) ?_ ?_
 ·rintro j σ ds g hj hi ⟨rfl,e0,e8,e9,fr,pos,e3,hJ⟩
  obtain ⟨x,hx⟩:=j7 (l:=xs) (j:=j) (by omega)
  obtain ⟨hok,hsh,hll⟩:=he x (List.mem_of_getElem? hx)
  obtain ⟨id,o,a1,a2,_⟩:=f0K (s.fr fr) hx
  have okg:=hok.fr fr
  have hlc:=Sl.oneCell okg
  have stn:=l6 (h:=g) (n:=5) (z:=[.nils,.int .i64 0,.int .i64 0,.int .i64 0,.int .i64 0]) (l:=enC x) rfl rfl (by simp [enC,d8,hlc.2])
  have fp:=Fr.push (.refl g) (.cells (enC x) false)
  have ge:(g.push (.cells (enC x) false)).get g.next=some (.cells (enC x) false):=b8 _
  have gn:(g.push (.cells (enC x) false)).next=g.next+1:=rfl
  generalize hg1:g.push (.cells (enC x) false)=g1 at *
  have ok1':=okg.fr fp
  have m0:load1 g1 g.next 0=.ok x.1:=b7 ge
  have hstep:=hJ.step hx
  simp [e8,hi,a1,s7,a2,stn,m0]
  refine (i0g ok1' hsh).mono ?_
  rintro r g2 ⟨rfl,f2⟩
  have ge2:=f2.get g.next (by omega)
  rw [ge] at ge2
  have F2:=(fr.trans fp).trans f2
  have m0:load1 g2 g.next 0=.ok x.1:=b7 ge2
  have m1:load1 g2 g.next 1=.ok (.int .i64 x.2.pl):=b7 ge2
  have m2:load1 g2 g.next 2=.ok (.int .i64 x.2.sz):=b7 ge2
  have m3:load1 g2 g.next 3=.ok (.int .i64 x.2.mn):=b7 ge2
  have m4:load1 g2 g.next 4=.ok (.int .i64 x.2.mx):=b7 ge2
  have no:ok1 pos x.2=false→W9 (xs.map (·.2))=false:=fun h=>l0w (by rw [hstep,h];rfl)
  cases c1:R9 x.2.ls with
  | false =>
   have:=no (by simp [ok1,c1])
   simp [this]
   exact F2
  | true =>
  by_cases c2:x.2.mn≤x.2.mx
  case neg =>
   have:=no (by simp [ok1,c2])
   have c2':x.2.mx<x.2.mn:=by omega
   simp [m3,m4,c2',this]
   exact F2
  have c2':¬ x.2.mx<x.2.mn:=by omega
  by_cases c3:1≤x.2.sz
  case neg =>
   have:=no (by simp [ok1,c3])
   have c3':x.2.sz<1:=by omega
   simp [m2,m3,m4,c2',c3',this]
   exact F2
  have c3':¬ x.2.sz<1:=by omega
  by_cases c4:x.2.sz≤2147483647
  case neg =>
   have:=no (by simp [ok1,c4])
   have c4':2147483647<x.2.sz:=by omega
   simp [m2,m3,m4,c2',c3',c4',this]
   exact F2
  have c4':¬ 2147483647<x.2.sz:=by omega
  by_cases c5:x.2.pl=pos
  case neg =>
   have:=no (by simp [ok1,c5])
   simp [m1,m2,m3,m4,e3,c2',c3',c4',c5,this]
   exact F2
  have hok1:ok1 pos x.2=true:=by simp [ok1,c1,c2,c3,c4,c5]
  by_cases hj0:j=0
  ·subst hj0
   have hnx:=hJ.next hx hok1 (by simp [e0y,W8])
   simp [m1,m2,m3,m4,e3,c2',c3',c4',c5,e0,e8,e9,hi]
   exact ⟨F2,hnx⟩
  obtain ⟨i,rfl⟩:∃ i,j=i+1:=⟨j - 1,by omega⟩
  obtain ⟨y,hy⟩:=j7 (l:=xs) (j:=i) (by omega)
  obtain ⟨hoky,_,hlly⟩:=he y (List.mem_of_getElem? hy)
  have hpv:e0y xs (i+1)=some y.2:=by simp [e0y,hy]
  rw [hpv] at hstep
  obtain ⟨idy,oy,b1,b2,_⟩:=f0K (s.fr F2) hy
  have okgy:=hoky.fr F2
  have hlcy:=Sl.oneCell okgy
  have stn2:=l6 (h:=g2) (n:=5) (z:=[.nils,.int .i64 0,.int .i64 0,.int .i64 0,.int .i64 0]) (l:=enC y) rfl rfl (by simp [enC,d8,hlcy.2])
  have fp2:=Fr.push (.refl g2) (.cells (enC y) false)
  have gy:(g2.push (.cells (enC y) false)).get g2.next=some (.cells (enC y) false):=b8 _
  have gyn:(g2.push (.cells (enC y) false)).next=g2.next+1:=rfl
  generalize hg3:g2.push (.cells (enC y) false)=g3 at *
  have hnn:=f2.next
  have ge3:=fp2.get g.next (by omega)
  rw [ge2] at ge3
  have m03:load1 g3 g.next 0=.ok x.1:=b7 ge3
  have q0:load1 g3 g2.next 0=.ok y.1:=b7 gy
  have hpos:(0:Int)<((i+1:Nat):Int):=by omega
  have w1:b9 .i64 (((i+1:Nat):Int) - 1)=(i:Int):=by rw [wrap_i64 (by omega) (by omega)];omega
  have w1':b9 .i64 (i:Int)=(i:Int):=wrap_i64 (by omega) (by omega)
  have hip:0<i+1:=by omega
  generalize hjj:((i+1:Nat):Int)=j1 at *
  simp [m1,m2,m3,m4,e3,c2',c3',c4',c5,e0,hi,hpos,w1,w1',b1,s7,b2,stn2,hg3,m03,q0]
  refine (g0g ((okgy).fr fp2) (((okg.fr fp).fr f2).fr fp2) hlly hll).mono ?_
  rintro r g4 ⟨rfl,f4⟩
  have F4:=(F2.trans fp2).trans f4
  have ge4:=f4.get g.next (by omega)
  rw [ge3] at ge4
  have gy4:=f4.get g2.next (by omega)
  rw [gy] at gy4
  have n3:load1 g4 g.next 3=.ok (.int .i64 x.2.mn):=b7 ge4
  have n4:load1 g4 g2.next 4=.ok (.int .i64 y.2.mx):=b7 gy4
  have no2:W8 (some y.2) x.2=false→W9 (xs.map (·.2))=false:=fun h=>l0w (by rw [hstep,h];simp)
  generalize hcm:O9 y.2.ls x.2.ls=cm at *
  by_cases d1:0<cm
  ·have:=no2 (by simp [W8,hcm,d1])
   simp [d1,this]
   exact F4
  ·by_cases d2:cm=0
   ·by_cases d3:x.2.mn≤y.2.mx
    ·have:=no2 (by simp [W8,hcm,d2,d3])
     simp [d2,n3,n4,d3,this]
     exact F4
    ·have hnx:=hJ.next hx hok1 (by rw [hpv];simp [W8,hcm,d2,d3])
     simp [d2,n3,n4,d3,e0,e8,e9,hi]
     exact ⟨F4,hnx⟩
   ·have hnx:=hJ.next hx hok1 (by rw [hpv];simp [W8,hcm,d1,d2])
    simp [d1,d2,e0,e8,e9,hi]
    exact ⟨F4,hnx⟩
 ·rintro σ ds g ⟨rfl,e0,e8,e9,fr,pos,e3,hJ⟩
  have:c0e 0 none (xs.map (·.2))=true:=by rw [hJ,List.drop_of_length_le (by omega)];rfl
  have hc:W9 (xs.map (·.2))=decide ((n:Int)≤100000):=by
   simp only [W9,this,Bool.true_and,List.length_map,hl]
   congr 1
   simp only [eq_iff_iff]
   omega
  simp [e0,s.len,hc]
  exact fr
end Go.Dk

namespace Go.Dr
open Go.RowKit
def mk0:Nat→List (AV×AV)→List AEntry
 | _,[]=>[]
 | i,x::l=>⟨x.1,x.2,i⟩::mk0 (i+1) l
theorem h0M:∀ (l:List (AV×AV)) (i:Nat),(mk0 i l).length=l.length
 | [],_=>rfl
 | x::l,i=>by simp [mk0,h0M l]
theorem h0N:∀ (l r:List (AV×AV)) (i:Nat),mk0 i (l++r)=mk0 i l++mk0 (i+l.length) r
 | [],r,i=>by simp [mk0]
 | x::l,r,i=>by
  simp only [List.cons_append,mk0,h0N l r,List.length_cons]
  rw [show i+1+l.length=i+(l.length+1) by omega]
theorem u0a:∀ (l:List (AV×AV)) (i n:Nat) (x:AV×AV),l[n]? = some x→(mk0 i l)[n]? = some ⟨x.1,x.2,i+n⟩
 | [],_,_,_,h=>by simp at h
 | y::l,i,0,x,h=>by simp at h;subst h;rfl
 | y::l,i,n+1,x,h=>by
  simp only [mk0,List.getElem?_cons_succ] at h ⊢
  rw [u0a l (i+1) n x h,show i+1+n=i+(n+1) by omega]
theorem l0Z:∀ (l:List (AV×AV)) (i:Nat),(mk0 i l).map AEntry.key=l.map (·.1)
 | [],_=>rfl
 | x::l,i=>by simp [mk0,l0Z l]
theorem l00:∀ (l:List (AV×AV)) (i:Nat),(mk0 i l).map AEntry.born=List.range' i l.length
 | [],_=>rfl
 | x::l,i=>by simp only [mk0,List.map_cons,l00 l,List.length_cons,List.range'_succ]
theorem w0Q {l:List (AV×AV)} {i:Nat}:∀ e ∈ mk0 i l,e.born<i+l.length:=by
 intro e he
 have:e.born ∈ (mk0 i l).map AEntry.born:=List.mem_map.2 ⟨e,he,rfl⟩
 rw [l00] at this
 have:=List.mem_range'_1.1 this
 omega
theorem o0k (l:List (AV×AV)) (i:Nat):((mk0 i l).map AEntry.born).Nodup:=by rw [l00];exact List.nodup_range'
section
variable {P:Program} {α:Type} {h:AH}
structure KeyIs (P:Program) (kt:TypeId) (κ:α→AV) [DecidableEq α]:Prop where
 eq:∀ a b,b01 P 20 kt (κ a) (κ b)=.ok (decide (a=b))
 ok:∀ a,d0V P 10 kt (κ a)=true
 same:∀ a,m0P (κ a) (κ a)=true
variable [DecidableEq α] {kt:TypeId} {κ:α→AV}
def kvA (κ:α→AV) (l:List (α×AV)):List (AV×AV):=l.map fun x=>(κ x.1,x.2)
omit [DecidableEq α] in
theorem a0p (l:List (α×AV)):(kvA κ l).length=l.length:=by simp [kvA]
omit [DecidableEq α] in
theorem l01 (l r:List (α×AV)):kvA κ (l++r)=kvA κ l++kvA κ r:=by simp [kvA]
theorem j0H (hk:KeyIs P kt κ) (a:α):∀ (l:List (α×AV)) (i j:Nat),a ∉ l.map (·.1)→b09 P kt (κ a) (mk0 i (kvA κ l)) j=.ok none
 | [],_,_,_=>rfl
 | x::l,i,j,h=>by
  simp only [List.map_cons,List.mem_cons,not_or] at h
  simp only [kvA,List.map_cons,mk0,b09,hk.eq,h.1,decide_false]
  exact j0H hk a l (i+1) (j+1) h.2
theorem g0M (hk:KeyIs P kt κ) (a:α) (v:AV):∀ (l:List (α×AV)) (i j n:Nat),l[n]? = some (a,v)→(l.map (·.1)).Nodup→b09 P kt (κ a) (mk0 i (kvA κ l)) j=.ok (some (j+n,v))
 | [],_,_,_,h,_=>by simp at h
 | x::l,i,j,0,h,_=>by
  simp at h;subst h
  simp only [kvA,List.map_cons,mk0,b09,hk.eq,decide_true];rfl
 | x::l,i,j,n+1,h,hn=>by
  simp only [List.map_cons,List.nodup_cons] at hn
  simp only [List.getElem?_cons_succ] at h
  have hne:a≠x.1:=fun e=>hn.1 (by rw [← e];exact List.mem_map.2 ⟨(a,v),List.mem_of_getElem? h,rfl⟩)
  simp only [kvA,List.map_cons,mk0,b09,hk.eq,hne,decide_false]
  rw [show j+(n+1)=j+1+n by omega]
  exact g0M hk a v l (i+1) (j+1) n h hn.2
theorem l02 (hk:KeyIs P kt κ) (a:α) (v:AV):∀ (l:List (α×AV)) (i n:Nat),l[n]? = some (a,v)→i0Z (κ a) n (mk0 i (kvA κ l))=true
 | [],_,_,h=>by simp at h
 | x::l,i,0,h=>by simp at h;subst h;simp only [kvA,List.map_cons,mk0,i0Z,hk.same]
 | x::l,i,n+1,h=>by
  simp only [List.getElem?_cons_succ] at h
  simp only [kvA,List.map_cons,mk0,i0Z]
  exact l02 hk a v l (i+1) n h
omit [DecidableEq α] in
theorem o0l (a:α) (v:AV):∀ (l:List (α×AV)) (i n:Nat),l[n]? = some (a,v)→setKey (κ a) n (mk0 i (kvA κ l))=mk0 i (kvA κ l)
 | [],_,_,h=>by simp at h
 | x::l,i,0,h=>by simp at h;subst h;rfl
 | x::l,i,n+1,h=>by
  simp only [List.getElem?_cons_succ] at h
  simp only [kvA,List.map_cons,mk0,setKey]
  have:=o0l a v l (i+1) n h
  simp only [kvA] at this
  rw [this]
omit [DecidableEq α] in
theorem o0m (a:α) (v u:AV):∀ (l:List (α×AV)) (i n:Nat),l[n]? = some (a,v)→setVal (κ a) u n (mk0 i (kvA κ l))=mk0 i (kvA κ (l.set n (a,u)))
 | [],_,_,h=>by simp at h
 | x::l,i,0,h=>by simp at h;subst h;rfl
 | x::l,i,n+1,h=>by
  simp only [List.getElem?_cons_succ] at h
  simp only [kvA,List.map_cons,mk0,setVal,List.set_cons_succ]
  have:=o0m a v u l (i+1) n h
  simp only [kvA] at this
  rw [this]
omit [DecidableEq α] in
theorem k0u (a:α) (v u:AV):∀ (l:List (α×AV)) (i n:Nat),l[n]? = some (a,v)→d0f u n (mk0 i (kvA κ l))=mk0 i (kvA κ (l.set n (a,u)))
 | [],_,_,h=>by simp at h
 | x::l,i,0,h=>by simp at h;subst h;rfl
 | x::l,i,n+1,h=>by
  simp only [List.getElem?_cons_succ] at h
  simp only [kvA,List.map_cons,mk0,d0f,List.set_cons_succ]
  have:=k0u a v u l (i+1) n h
  simp only [kvA] at this
  rw [this]
theorem k0v:∀ (l:List (AV×AV)) (i j n:Nat),n<l.length→d0e ((i+n:Nat):Int) (mk0 i l) j=some (j+n)
 | [],_,_,_,h=>by simp at h
 | x::l,i,j,0,h=>by simp [mk0,d0e]
 | x::l,i,j,n+1,h=>by
  have hne:(((i:Nat):Int) == ((i+(n+1):Nat):Int))=false:=by simp;omega
  simp only [mk0,d0e,hne,cond_false]
  rw [show i+(n+1)=i+1+n by omega,show j+(n+1)=j+1+n by omega]
  exact k0v l (i+1) (j+1) n (by simpa using h)
def MapO (κ:α→AV) (h:AH) (m:Nat) (l:List (α×AV)):Prop:=h.get m=some (.map (mk0 0 (kvA κ l)) l.length)
theorem MapO.lookup_some (hk:KeyIs P kt κ) {m n:Nat} {l:List (α×AV)} {a:α} {v z:AV} (hm:MapO κ h m l) (ha:l[n]? = some (a,v)) (hn:(l.map (·.1)).Nodup):d0d P kt z false h (.map m) (κ a)=.ok v:=by
 simp only [d0d,j02,show h.get m=_ from hm,hk.ok,if_true,g0M hk a v l 0 0 n ha hn,h0Z]
theorem MapO.upd_new (hk:KeyIs P kt κ) {m:Nat} {l:List (α×AV)} {a:α} {v:AV} (hm:MapO κ h m l) (ha:a ∉ l.map (·.1)) :
  h0u P kt h (.map m) (κ a) v=.ok (h.set m (.map (mk0 0 (kvA κ (l++[(a,v)]))) (l++[(a,v)]).length)):=by
 simp only [h0u,show h.get m=_ from hm,hk.ok,if_true,j0H hk a l 0 0 ha]
 rw [l01,h0N,a0p,Nat.zero_add,List.length_append]
 rfl
theorem MapO.upd_old (hk:KeyIs P kt κ) {m n:Nat} {l:List (α×AV)} {a:α} {v u:AV} (hm:MapO κ h m l) (ha:l[n]? = some (a,u)) (hn:(l.map (·.1)).Nodup) :
  h0u P kt h (.map m) (κ a) v=.ok (h.set m (.map (mk0 0 (kvA κ (l.set n (a,v)))) (l.set n (a,v)).length)):=by
 simp only [h0u,show h.get m=_ from hm,hk.ok,if_true,g0M hk a u l 0 0 n ha hn,Nat.zero_add,l02 hk a u l 0 n ha,o0m a u v l 0 n ha,List.length_set]
theorem MapO.entry_new (hk:KeyIs P kt κ) {m:Nat} {l:List (α×AV)} {a:α} {z:AV} (hm:MapO κ h m l) (ha:a ∉ l.map (·.1)) :
  L9 P kt z h (.map m) (κ a)=okV (.tuple [z,.int .i64 (l.length:Nat)]) (h.set m (.map (mk0 0 (kvA κ (l++[(a,z)]))) (l++[(a,z)]).length)):=by
 simp only [L9,show h.get m=_ from hm,hk.ok,if_true,j0H hk a l 0 0 ha]
 rw [l01,h0N,a0p,Nat.zero_add,List.length_append]
 rfl
theorem MapO.entry_old (hk:KeyIs P kt κ) {m n:Nat} {l:List (α×AV)} {a:α} {z u:AV} (hm:MapO κ h m l) (ha:l[n]? = some (a,u)) (hn:(l.map (·.1)).Nodup) :
  L9 P kt z h (.map m) (κ a)=okV (.tuple [u,.int .i64 (n:Nat)]) (h.set m (.map (mk0 0 (kvA κ l)) l.length)):=by
 have hg:(mk0 0 (kvA κ l))[n]? = some ⟨κ a,u,0+n⟩:=u0a _ 0 n (κ a,u) (by simp only [kvA,List.getElem?_map,ha];rfl)
 simp only [L9,show h.get m=_ from hm,hk.ok,if_true,g0M hk a u l 0 0 n ha hn,Nat.zero_add,hg,l02 hk a u l 0 n ha,o0l a u l 0 n ha]
omit [DecidableEq α] in
theorem MapO.store {m n:Nat} {l:List (α×AV)} {a:α} {u v:AV} (hm:MapO κ h m l) (ha:l[n]? = some (a,u)) :
  N7 h (.map m) (.int .i64 (n:Nat)) v=.ok (h.set m (.map (mk0 0 (kvA κ (l.set n (a,v)))) (l.set n (a,v)).length)):=by
 have hn:n<l.length:=(List.getElem?_eq_some_iff.1 ha).1
 have hf:=k0v (kvA κ l) 0 0 n (by rw [a0p];exact hn)
 simp only [Nat.zero_add] at hf
 simp only [N7,show h.get m=_ from hm,hf,k0u a u v l 0 n ha,List.length_set]
end
end Go.Dr
