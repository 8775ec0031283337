/-
  Texts joined.
-/
import Derived.Test.YtkbddcapcjdenaaGreatDoorT13
import Derived.Test.YtkbddcapcjdenaaGreatDoorT7
import Derived.Test.YtkbddcapcjdenaaGreatDoorT12

namespace Go.Dk
open Go Go.Dr
set_option maxRecDepth 100000
def txB (s:Txt):List Nat:=(s.length%256)::bT s
def e0o (x:Lab):List Nat:=txB x.1++txB x.2
def d0u (l:List Lab):List Nat:=(l.length%256)::l.flatMap e0o
theorem h0U (s:Txt):(txB s).length=s.length+1:=by simp [txB,bT]
theorem r0v (x:Lab):(e0o x).length=x.1.length+x.2.length+2:=by simp only [e0o,List.length_append,h0U];omega
theorem d0S {α:Type} (f:α→List Nat) (c:Nat):∀ l:List α,(∀ x ∈ l,(f x).length≤c)→(l.flatMap f).length≤c*l.length
 | [],_=>by simp
 | x::l,h=>by
  have h1:=h x (by simp)
  have h2:=d0S f c l (fun y hy=>h y (List.mem_cons_of_mem _ hy))
  rw [List.flatMap_cons,List.length_append,List.length_cons,Nat.mul_add]
  omega
theorem r0w {l:List Lab} (hc:R9 l=true) (j:Nat):((l.take j).flatMap e0o).length≤66*8:=by
 obtain ⟨h8,hm⟩:=b0c hc
 have h1:=d0S e0o 66 (l.take j) (fun x hx=>by
  have:=hm x (List.mem_of_mem_take hx)
  rw [r0v];omega)
 have h2:(l.take j).length≤8:=by rw [List.length_take];omega
 have:=Nat.mul_le_mul_left 66 h2
 omega
def x0k (h:AH) (l:List Lab) (r:AV) (g:AH):Prop :=
 Fr h g∧if R9 l=true then ∃ v,r=.tuple [v,.int .i64 0]∧Own h.next g 1 (d0u l).length v (by8 (d0u l)) else r=.tuple [.nils,.int .i64 1]
theorem j0W (n:Nat):b9 .u8 (n:Int)=((n%256:Nat):Int):=by rw [u0G];omega
theorem u0m {B n:Nat} {g:AH} {v:AV} {l:List Nat} {s:Txt} (o:Own B g 1 n v (by8 l)) (hB:B≤g.next) (hs:s.length≤2 ^ 30) (hn:n≤2 ^ 30) :
  ∃ v3 g3 v4 g4,H6 1 1 v (.slice g.next 0 1 1 true 1) (g.push (.cells [.int .u8 ((s.length%256:Nat):Int)] false))=okV v3 g3∧H6 1 1 v3 (.str s) g3=okV v4 g4 ∧
   Own B g4 1 (n+(txB s).length) v4 (by8 (l++txB s))∧FrB B g g4∧(∀ i,i<g.next→j9 v≠some i→g3.get i=g.get i∧g4.get i=g.get i)∧(∀ i,j9 v4=some i→j9 v=some i∨g.next≤i):=by
 obtain ⟨v3,g3,c1,o3,fb3,p3,n3,i3⟩:=X8 (bs:=[s.length%256]) (k:=1) o rfl hB (by omega)
 obtain ⟨v4,g4,c2,o4,fb4,p4,q4⟩:=o3.append_src (bytes:=1) (p0z s) (by simp) (by omega) (C8 _) (by omega) (by omega)
 refine ⟨v3,g3,v4,g4,c1,c2,?_,fb3.trans fb4,fun i hi hne=>?_,fun i hi=>?_⟩
 ·rw [h0U,show n+(s.length+1)=n+1+s.length from by omega]
  have e2:by8 (l++txB s)=by8 (l++[s.length%256])++by8 (s.map UInt8.toNat):=by
   rw [← M1];simp [txB,bT]
  rw [e2]
  exact o4
 ·have h3:=p3 i hi hne
  refine ⟨h3,?_⟩
  rw [p4 i (by omega) (fun e=>by
   rcases i3 i e with e | e
   ·exact hne e
   ·omega),h3]
 ·rcases q4 i hi with e | e
  ·rcases i3 i e with e | e
   ·exact .inl e
   ·exact .inr (by omega)
  ·exact .inr (by omega)
theorem A0x {h g g':AH} {B:Nat} (f:Fr h g) (b:FrB B g g') (hB:h.next≤B):Fr h g':=⟨Nat.le_trans f.next b.next,fun i hi=>(b.get i (by omega)).trans (f.get i hi)⟩
end Go.Dk

namespace Go.Dk
open Go Go.Dr
set_option maxRecDepth 100000
theorem q0m {h:AH} {n:Nat} {v:AV} {ls:List Lab} (s:Sl h 2 n v (ls.flatMap E2)) (hs:X0 ls):Ev P SI (.fn c0V) [v] h (x0k h ls):=by
 refine k8 n0f rfl rfl ?_
 have hl:=X9 s
 simp [g0D]
 refine (g07 s hs).mono ?_
 rintro r g ⟨rfl,f1⟩
 cases hc:R9 ls with
 | false =>
  simp [x0k,hc]
  exact f1
 | true =>
  obtain ⟨h8,hm⟩:=b0c hc
  have sg:=s.fr f1
  have fp:=Fr.push (.refl g) (.cells [.int .u8 ((n%256:Nat):Int)] false)
  have o1:=Own.fresh (B:=g.next) (h:=g) (es:=1) (n:=1) (l:=[.int .u8 ((n%256:Nat):Int)]) true (Nat.le_refl _) rfl
  have hn:n≤8:=by omega
  simp [sg.len,j0W,(sg.fr fp).len,i9]
  refine m8 (n:=n) (by rfl) (fun j σ ds g'=>ds=[]∧σ 14=v∧σ 15=.int .i64 (n:Int)∧Fr g g'∧Own g.next g' 1 (1+((ls.take j).flatMap e0o).length) (σ 4) (by8 (n%256::(ls.take j).flatMap e0o))) (by omega) (by simp)
   ⟨rfl,by simp,by simp,fp,by simpa [by8] using o1⟩ (fun j σ ds g hJ=>by simp [hJ.2.2.1]) ?_ ?_
  ·rintro j σ ds g' hj hi ⟨rfl,e14,e15,fr,ho⟩
   obtain ⟨x,hx⟩:=j7 (l:=ls) (j:=j) (by omega)
   have hxs:=hm x (List.mem_of_getElem? hx)
   obtain ⟨id,o,a1,a2,_⟩:=a0z (sg.fr fr) (k:=.i64) (i:=(j:Int)) rfl hx
   have hpre:=r0w hc j
   have hsn:(ls.take (j+1)).flatMap e0o=(ls.take j).flatMap e0o++e0o x:=by
    rw [u9 _ _ _ hx,List.flatMap_append];simp
   rw [hsn]
   generalize (ls.take j).flatMap e0o=pre at *
   have stn:=l6 (h:=g') (n:=2) (z:=[.str [],.str []]) (l:=[.str x.1,.str x.2]) rfl rfl rfl
   have f2:=Fr.push (.refl g') (.cells [.str x.1,.str x.2] false)
   have ge:(g'.push (.cells [.str x.1,.str x.2] false)).get g'.next=some (.cells [.str x.1,.str x.2] false):=b8 _
   have gn:(g'.push (.cells [.str x.1,.str x.2] false)).next=g'.next+1:=rfl
   obtain ⟨bv,hbv⟩:∃ bv,σ 4=bv:=⟨_,rfl⟩
   rw [hbv] at ho
   have hne:j9 bv≠some g'.next:=fun e=>by have:=Sl.idLt ho.sl e;omega
   have ho2:=ho.fr f2
   have fr2:=fr.trans f2
   generalize hgE:g'.push (.cells [.str x.1,.str x.2] false)=gE at *
   obtain ⟨v3,g3,v4,g4,c1,c2,o4,fb4,p4,q4⟩:=u0m (s:=x.1) ho2 fr2.next (by omega) (by omega)
   obtain ⟨ge3,ge4⟩:=p4 g'.next (by omega) hne
   rw [ge] at ge3 ge4
   have fr4:Fr g g4:=A0x fr2 fb4 (Nat.le_refl _)
   have hne4:j9 v4≠some g'.next:=fun e=>by
    rcases q4 _ e with e | e
    ·exact hne e
    ·omega
   obtain ⟨v5,g5,v6,g6,c3,c4,o6,fb6,p6,q6⟩:=u0m (s:=x.2) o4 fr4.next (by omega) (by have:=h0U x.1;omega)
   have hn4:=fb4.next
   obtain ⟨ge5,ge6⟩:=p6 g'.next (by omega) hne4
   rw [ge4] at ge5 ge6
   have w8:=j0W x.1.length
   have w9:=j0W x.2.length
   obtain ⟨q,hq⟩:∃ q,x.1.length%256=q:=⟨_,rfl⟩
   obtain ⟨q',hq'⟩:∃ q,x.2.length%256=q:=⟨_,rfl⟩
   rw [hq] at w8 c1
   rw [hq'] at w9 c3
   have y0:load1 gE g'.next 0=.ok (.str x.1):=b7 ge
   have y0p:load1 (gE.push (.cells [.int .u8 (q:Int)] false)) g'.next 0=.ok (.str x.1):=b7 ((c7 (show g'.next≠gE.next by omega)).trans ge)
   have y03:load1 g3 g'.next 0=.ok (.str x.1):=b7 ge3
   have y1:load1 g4 g'.next 1=.ok (.str x.2):=b7 ge4
   have y1p:load1 (g4.push (.cells [.int .u8 (q':Int)] false)) g'.next 1=.ok (.str x.2):=b7 ((c7 (show g'.next≠g4.next by omega)).trans ge4)
   have y15:load1 g5 g'.next 1=.ok (.str x.2):=b7 ge5
   simp [e14,hi,a1,a2,hbv,s7,stn,hgE,y0,y0p,y03,y1,y1p,y15,i9,w8,w9,c1,c2,c3,c4,e15,-List.length_flatMap]
   refine ⟨A0x fr4 fb6 (Nat.le_refl _),?_⟩
   have e1:1+(pre++e0o x).length=1+pre.length+(txB x.1).length+(txB x.2).length:=by simp only [e0o,List.length_append];omega
   have e2:n%256::(pre++e0o x)=n%256::pre++txB x.1++txB x.2:=by simp [e0o]
   simp only [List.length_append] at e1
   rw [e1]
   exact e2 ▸ o6
  ·rintro σ ds g' ⟨rfl,e14,e15,fr,ho⟩
   rw [List.take_of_length_le (by omega)] at ho
   simp [x0k,hc]
   refine ⟨f1.trans fr,?_⟩
   rw [d0u,hl]
   have e:(n%256::ls.flatMap e0o).length=1+(ls.flatMap e0o).length:=by rw [List.length_cons];omega
   rw [e]
   exact ho.base f1.next
end Go.Dk

namespace Go.Dk
open Go Go.Dr
set_option maxRecDepth 100000
abbrev Se:=(AV×List Lab)×(AV×List Smp)
def srC (x:Se):List AV:=[x.1.1,x.2.1]
def r7 (x:Se):List Lab×List Smp:=(x.1.2,x.2.2)
structure SrOk (h:AH) (x:Se):Prop where
 lab:Sl h 2 x.1.2.length x.1.1 (x.1.2.flatMap E2)
 smp:Sl h 2 x.2.2.length x.2.1 (x.2.2.flatMap smC)
 short:X0 x.1.2
 len1:x.1.2.length≤2 ^ 30
 len2:x.2.2.length≤2 ^ 30
 v64:∀ y ∈ x.2.2,y.2<2 ^ 64
theorem SrOk.fr {h g:AH} {x:Se} (s:SrOk h x) (f:Fr h g):SrOk g x:=⟨s.lab.fr f,s.smp.fr f,s.short,s.len1,s.len2,s.v64⟩
theorem t0j (xs:List Se):(xs.flatMap srC).length=xs.length*2:=S8 xs (fun _ _=>rfl)
theorem r0s {h:AH} {n:Nat} {v:AV} {xs:List Se} (s:Sl h 2 n v (xs.flatMap srC)) {j:Nat} {x:Se} (hx:xs[j]? = some x) :
  ∃ id o,E9 2 v (.int .i64 (j:Int))=.ok (.ptr id o)∧loadN h id o 2=.ok (srC x)∧load1 h id o=.ok x.1.1∧load1 h id (o+1)=.ok x.2.1∧id<h.next:=by
 obtain ⟨id,o,h1,h2,h3,h4⟩:=s.elem (fun _ _=>rfl) (by omega) (k:=.i64) (i:=(j:Int)) rfl hx
 exact ⟨id,o,h1,h2,h3 0 _ rfl,h3 1 _ rfl,h4⟩
def upR:Option (List Lab)→List Lab→Bool
 | none,_=>true
 | some p,l=>decide (O9 p l<0)
def okR (x:List Lab×List Smp):Bool:=R9 x.1&&!decide (x.2.length=0)&&a0S x.2
def i0S (p:Option (List Lab)):List (List Lab×List Smp)→Bool
 | []=>true
 | x::l=>okR x&&upR p x.1&&i0S (some x.1) l
def i0T (l:List (List Lab×List Smp)):Bool:=i0S none l
def h0s (xs:List Se) (j:Nat):Option (List Lab):=if j=0 then none else (xs[j - 1]?).map (·.1.2)
def CanRJ (xs:List Se) (j:Nat):Prop:=i0T (xs.map r7)=i0S (h0s xs j) ((xs.drop j).map r7)
theorem CanRJ.step {xs:List Se} {j:Nat} {x:Se} (c:CanRJ xs j) (hx:xs[j]? = some x) :
  i0T (xs.map r7)=(okR (r7 x)&&upR (h0s xs j) x.1.2&&i0S (some x.1.2) ((xs.drop (j+1)).map r7)):=by
 rw [c,i0n hx,List.map_cons,i0S]
 rfl
theorem CanRJ.next {xs:List Se} {j:Nat} {x:Se} (c:CanRJ xs j) (hx:xs[j]? = some x) (h1:okR (r7 x)=true) (h2:upR (h0s xs j) x.1.2=true):CanRJ xs (j+1):=by
 have:=c.step hx
 rw [h1,h2] at this
 unfold CanRJ
 rw [this]
 simp [h0s,hx]
theorem B0h {h:AH} {n:Nat} {v:AV} {xs:List Se} (s:Sl h 2 n v (xs.flatMap srC)) (hn:n≤2 ^ 40) (he:∀ x ∈ xs,SrOk h x) :
  Ev P SI (.fn k0t) [v] h fun r g=>r=.bool (i0T (xs.map r7))∧Fr h g:=by
 refine k8 q0C rfl rfl ?_
 have hl:xs.length=n:=by have:=s.1;rw [t0j] at this;omega
 simp [k0o,s.len]
 refine m8 (n:=n) (by rfl) (fun j σ ds g=>ds=[]∧σ 0=v∧σ 5=v∧σ 6=.int .i64 (n:Int)∧Fr h g∧CanRJ xs j) (by omega) (by simp)
  ⟨rfl,by simp,by simp,by simp,.refl _,rfl⟩ (fun j σ ds g hJ=>by simp [hJ.2.2.2.1]) ?_ ?_
 ·rintro j σ ds g hj hi ⟨rfl,e0,e5,e6,fr,hJ⟩
  obtain ⟨x,hx⟩:=j7 (l:=xs) (j:=j) (by omega)
  have hok:=(he x (List.mem_of_getElem? hx)).fr fr
  obtain ⟨id,o,a1,a2,_⟩:=r0s (s.fr fr) hx
  have hlc:=hok.lab.oneCell
  have hsc:=hok.smp.oneCell
  have stn:=l6 (h:=g) (n:=2) (z:=[.nils,.nils]) (l:=srC x) rfl rfl (by simp [srC,d8,hlc.2,hsc.2])
  have fp:=Fr.push (.refl g) (.cells (srC x) false)
  have ge:(g.push (.cells (srC x) false)).get g.next=some (.cells (srC x) false):=b8 _
  have gn:(g.push (.cells (srC x) false)).next=g.next+1:=rfl
  generalize hg1:g.push (.cells (srC x) false)=g1 at *
  have ok1':=hok.fr fp
  have m0:load1 g1 g.next 0=.ok x.1.1:=b7 ge
  have hstep:=hJ.step hx
  simp [e5,hi,a1,s7,a2,stn,m0]
  refine (i0g ok1'.lab hok.short).mono ?_
  rintro r g2 ⟨rfl,f2⟩
  have ge2:=f2.get g.next (by omega)
  rw [ge] at ge2
  have F2:=(fr.trans fp).trans f2
  have ok2:=ok1'.fr f2
  have m0:load1 g2 g.next 0=.ok x.1.1:=b7 ge2
  have m1:load1 g2 g.next 1=.ok x.2.1:=b7 ge2
  have no:okR (r7 x)=false→i0T (xs.map r7)=false:=fun h=>by rw [hstep,h];rfl
  cases c1:R9 x.1.2 with
  | false =>
   have:=no (by simp [okR,r7,c1])
   simp [this]
   exact F2
  | true =>
  by_cases c2:x.2.2.length=0
  ·have:=no (by simp [okR,r7,c2])
   simp [m1,ok2.smp.len,c2,this]
   exact F2
  have cc:=j0A ok2.smp (by have:=hok.len2;omega)
  cases c3:a0S x.2.2 with
  | false =>
   have:=no (by simp [okR,r7,c3])
   simp [m1,ok2.smp.len,c2,cc,c3,this]
   exact F2
  | true =>
  have hok1:okR (r7 x)=true:=by simp [okR,r7,c1,c2,c3]
  by_cases hj0:j=0
  ·subst hj0
   have hnx:=hJ.next hx hok1 (by simp [h0s,upR])
   simp [m1,ok2.smp.len,c2,cc,c3,e0,e5,e6,hi]
   exact ⟨F2,hnx⟩
  obtain ⟨i,rfl⟩:∃ i,j=i+1:=⟨j - 1,by omega⟩
  obtain ⟨y,hy⟩:=j7 (l:=xs) (j:=i) (by omega)
  have hoky:=(he y (List.mem_of_getElem? hy)).fr F2
  have hpv:h0s xs (i+1)=some y.1.2:=by simp [h0s,hy]
  rw [hpv] at hstep
  obtain ⟨idy,oy,b1,_,b2,_⟩:=r0s (s.fr F2) hy
  have hlcy:=hoky.lab.same
  have hlcx:=hok.lab.same
  have hpos:(0:Int)<((i+1:Nat):Int):=by omega
  have w1:b9 .i64 (((i+1:Nat):Int) - 1)=(i:Int):=by rw [wrap_i64 (by omega) (by omega)];omega
  have w1':b9 .i64 (i:Int)=(i:Int):=wrap_i64 (by omega) (by omega)
  generalize hjj:((i+1:Nat):Int)=j1 at *
  simp [m1,ok2.smp.len,c2,cc,c3,e0,hi,hpos,w1,w1',b1,b2,m0,hlcy,hlcx]
  refine (g0g hoky.lab ok2.lab (by have:=hoky.len1;omega) (by have:=hok.len1;omega)).mono ?_
  rintro r g4 ⟨rfl,f4⟩
  have F4:=F2.trans f4
  have no2:upR (some y.1.2) x.1.2=false→i0T (xs.map r7)=false:=fun h=>by rw [hstep,h];simp
  generalize hcm:O9 y.1.2 x.1.2=cm at *
  by_cases d1:cm<0
  ·have hnx:=hJ.next hx hok1 (by rw [hpv];simp [upR,hcm,d1])
   have d1':¬ 0≤cm:=by omega
   simp [d1',e0,e5,e6,hi]
   exact ⟨F4,hnx⟩
  ·have:=no2 (by simp [upR,hcm,d1])
   have d1':0≤cm:=by omega
   simp [d1',this]
   exact F4
 ·rintro σ ds g ⟨rfl,e0,e5,e6,fr,hJ⟩
  have:i0T (xs.map r7)=true:=by rw [hJ,List.drop_of_length_le (by omega)];rfl
  simp [this]
  exact fr
theorem v0I {h:AH} {n:Nat} {v:AV} {xs:List Se} (s:Sl h 2 n v (xs.flatMap srC)) (hn:n≤2 ^ 40) (he:∀ x ∈ xs,SrOk h x) :
  Ev P SI (.fn f0Z) [v] h fun r g=>r=.bool (i0T (xs.map r7))∧Fr h g:=by
 refine k8 s0n rfl rfl ?_
 have hl:xs.length=n:=by have:=s.1;rw [t0j] at this;omega
 simp [k0Z,s.len]
 refine m8 (n:=n) (by rfl) (fun j σ ds g=>ds=[]∧σ 0=v∧σ 5=v∧σ 6=.int .i64 (n:Int)∧Fr h g∧CanRJ xs j) (by omega) (by simp)
  ⟨rfl,by simp,by simp,by simp,.refl _,rfl⟩ (fun j σ ds g hJ=>by simp [hJ.2.2.2.1]) ?_ ?_
 ·rintro j σ ds g hj hi ⟨rfl,e0,e5,e6,fr,hJ⟩
  obtain ⟨x,hx⟩:=j7 (l:=xs) (j:=j) (by omega)
  have hok:=(he x (List.mem_of_getElem? hx)).fr fr
  obtain ⟨id,o,a1,a2,_⟩:=r0s (s.fr fr) hx
  have hlc:=hok.lab.oneCell
  have hsc:=hok.smp.oneCell
  have stn:=l6 (h:=g) (n:=2) (z:=[.nils,.nils]) (l:=srC x) rfl rfl (by simp [srC,d8,hlc.2,hsc.2])
  have fp:=Fr.push (.refl g) (.cells (srC x) false)
  have ge:(g.push (.cells (srC x) false)).get g.next=some (.cells (srC x) false):=b8 _
  have gn:(g.push (.cells (srC x) false)).next=g.next+1:=rfl
  generalize hg1:g.push (.cells (srC x) false)=g1 at *
  have ok1':=hok.fr fp
  have m0:load1 g1 g.next 0=.ok x.1.1:=b7 ge
  have hstep:=hJ.step hx
  have hlcx:=hok.lab.same
  have hscx:=hok.smp.same
  simp [e5,hi,a1,s7,a2,stn,m0,hlcx]
  refine (g07 ok1'.lab hok.short).mono ?_
  rintro r g2 ⟨rfl,f2⟩
  have ge2:=f2.get g.next (by omega)
  rw [ge] at ge2
  have F2:=(fr.trans fp).trans f2
  have ok2:=ok1'.fr f2
  have m0:load1 g2 g.next 0=.ok x.1.1:=b7 ge2
  have m1:load1 g2 g.next 1=.ok x.2.1:=b7 ge2
  have no:okR (r7 x)=false→i0T (xs.map r7)=false:=fun h=>by rw [hstep,h];rfl
  cases c1:R9 x.1.2 with
  | false =>
   have:=no (by simp [okR,r7,c1])
   simp [this]
   exact F2
  | true =>
  by_cases c2:x.2.2.length=0
  ·have:=no (by simp [okR,r7,c2])
   simp [m1,ok2.smp.len,c2,this,hscx]
   exact F2
  have cc:=j0B ok2.smp (by have:=hok.len2;omega)
  cases c3:a0S x.2.2 with
  | false =>
   have:=no (by simp [okR,r7,c3])
   simp [m1,ok2.smp.len,c2,cc,c3,this,hscx]
   exact F2
  | true =>
  have hok1:okR (r7 x)=true:=by simp [okR,r7,c1,c2,c3]
  by_cases hj0:j=0
  ·subst hj0
   have hnx:=hJ.next hx hok1 (by simp [h0s,upR])
   simp [m1,ok2.smp.len,c2,cc,c3,e0,e5,e6,hi,hscx]
   exact ⟨F2,hnx⟩
  obtain ⟨i,rfl⟩:∃ i,j=i+1:=⟨j - 1,by omega⟩
  obtain ⟨y,hy⟩:=j7 (l:=xs) (j:=i) (by omega)
  have hoky:=(he y (List.mem_of_getElem? hy)).fr F2
  have hpv:h0s xs (i+1)=some y.1.2:=by simp [h0s,hy]
  rw [hpv] at hstep
  obtain ⟨idy,oy,b1,_,b2,_⟩:=r0s (s.fr F2) hy
  have hlcy:=hoky.lab.same
  have hpos:(0:Int)<((i+1:Nat):Int):=by omega
  have w1:b9 .i64 (((i+1:Nat):Int) - 1)=(i:Int):=by rw [wrap_i64 (by omega) (by omega)];omega
  have w1':b9 .i64 (i:Int)=(i:Int):=wrap_i64 (by omega) (by omega)
  have rc:=b0H hoky.lab ok2.lab (by have:=hoky.len1;omega) (by have:=hok.len1;omega)
  have no2:upR (some y.1.2) x.1.2=false→i0T (xs.map r7)=false:=fun h=>by rw [hstep,h];simp
  have hi1:i+1<n:=hj
  generalize hjj:((i+1:Nat):Int)=j1 at *
  generalize hcm:O9 y.1.2 x.1.2=cm at *
  by_cases d1:cm<0
  ·have hnx:=hJ.next hx hok1 (by rw [hpv];simp [upR,hcm,d1])
   have d1':¬ 0≤cm:=by omega
   simp [m1,ok2.smp.len,c2,cc,c3,e0,hi,hpos,w1,w1',b1,b2,m0,hlcy,hlcx,hscx,rc,d1',e5,e6]
   exact ⟨F2,hnx⟩
  ·have:=no2 (by simp [upR,hcm,d1])
   have d1':0≤cm:=by omega
   simp [m1,ok2.smp.len,c2,cc,c3,e0,hi,hpos,w1,w1',b1,b2,m0,hlcy,hlcx,hscx,rc,d1',this]
   exact F2
 ·rintro σ ds g ⟨rfl,e0,e5,e6,fr,hJ⟩
  have:i0T (xs.map r7)=true:=by rw [hJ,List.drop_of_length_le (by omega)];rfl
  simp [this]
  exact fr
end Go.Dk

namespace Go.Dk
open Go Go.Dr
set_option maxRecDepth 100000
def V2 (l:List Lab) (s:List Smp):List Nat:=be 4 (d0u l++P0 s).length++(d0u l++P0 s)
def chk (s:List Smp) (i:Nat):List Smp:=(s.drop (20*i)).take 20
def g0G (x:List Lab×List Smp) (i:Nat):List Nat:=(List.range i).flatMap fun i=>V2 x.1 (chk x.2 i)
def nP (x:List Lab×List Smp):Nat:=(x.2.length+19)/20
def j0s (l:List (List Lab×List Smp)):List Nat:=l.flatMap fun x=>g0G x (nP x)
theorem w0l (x:List Lab×List Smp) (i:Nat):g0G x (i+1)=g0G x i++V2 x.1 (chk x.2 i):=by
 simp [g0G,List.range_succ]
theorem o07 {a:Smp} {l:List Smp} (h:b0g (a::l)=true):b0g l=true:=by
 cases l with
 | nil=>rfl
 | cons b l=>simp only [b0g,Bool.and_eq_true] at h;exact h.2
theorem o08:∀ (l:List Smp) (j:Nat),b0g l=true→b0g (l.drop j)=true
 | l,0,h=>by simpa using h
 | [],j+1,_=>by simp [b0g]
 | a::l,j+1,h=>by rw [List.drop_succ_cons];exact o08 l j (o07 h)
theorem o09:∀ (l:List Smp) (j:Nat),b0g l=true→b0g (l.take j)=true
 | l,0,h=>by simp [b0g]
 | [],j+1,_=>by simp [b0g]
 | [a],j+1,_=>by simp [b0g]
 | a::b::l,1,_=>by simp [b0g]
 | a::b::l,j+2,h=>by
  have h2:=o09 (b::l) (j+1) (o07 h)
  simp only [b0g,Bool.and_eq_true] at h
  rw [List.take_succ_cons,List.take_succ_cons,b0g,h.1,Bool.true_and]
  rw [List.take_succ_cons] at h2
  exact h2
theorem s0r {s:List Smp} (h:a0S s=true) (i:Nat):a0S (chk s i)=true:=by
 simp only [a0S,Bool.and_eq_true,decide_eq_true_eq] at h ⊢
 exact ⟨o09 _ _ (o08 _ _ h.1),by simp only [chk,List.length_take];omega⟩
theorem s0s {l:List Lab} (hc:R9 l=true):(d0u l).length≤529:=by
 have:=r0w hc l.length
 rw [List.take_length] at this
 rw [d0u,List.length_cons]
 omega
theorem n0m {s:List Smp} (hv:∀ y ∈ s,y.2<2 ^ 64) (hn:s.length≤20):(P0 s).length≤400:=by
 have:=j0Z s hv
 simp only [P0,List.length_append,r8,d00]
 omega
theorem p0a {l:List Lab} {s:List Smp} (hc:R9 l=true) (hv:∀ y ∈ s,y.2<2 ^ 64) (hn:s.length≤20):(V2 l s).length≤933:=by
 have:=s0s hc
 have:=n0m hv hn
 simp only [V2,List.length_append,r8]
 omega
theorem y0f {s:List Smp} (hv:∀ y ∈ s,y.2<2 ^ 64) (i:Nat):∀ y ∈ chk s i,y.2<2 ^ 64:=fun y hy=>hv y (List.mem_of_mem_drop (List.mem_of_mem_take hy))
theorem f0A (s:List Smp) (i:Nat):(chk s i).length=min 20 (s.length - 20*i):=by simp [chk]
theorem s0t {x:List Lab×List Smp} (hc:R9 x.1=true) (hv:∀ y ∈ x.2,y.2<2 ^ 64) (i:Nat):(g0G x i).length≤933*i:=by
 have:=d0S (fun i=>V2 x.1 (chk x.2 i)) 933 (List.range i) (fun j _=>p0a hc (y0f hv j) (by rw [f0A];omega))
 rw [List.length_range] at this
 exact this
theorem k0i:∀ (l:List (List Lab×List Smp)) (p:Option (List Lab)),i0S p l=true→∀ x ∈ l,okR x=true
 | [],_,_,x,hx=>by cases hx
 | y::l,p,h,x,hx=>by
  simp only [i0S,Bool.and_eq_true] at h
  rcases List.mem_cons.1 hx with rfl | hx
  ·exact h.1.1
  ·exact k0i l _ h.2 x hx
theorem n0n {x:List Lab×List Smp} (h:okR x=true):R9 x.1=true∧0<x.2.length∧a0S x.2=true:=by
 simp only [okR,Bool.and_eq_true,Bool.not_eq_true',decide_eq_false_iff_not] at h
 exact ⟨h.1.1,by omega,h.2⟩
def A05 (h:AH) (l:List (List Lab×List Smp)) (r:AV) (g:AH):Prop :=
 Fr h g∧if i0T l=true then ∃ v,r=.tuple [v,.int .i64 0]∧Sl g 1 (j0s l).length v (by8 (j0s l)) else r=.tuple [.nils,.int .i64 1]
theorem A06 {h:AH} {v:AV} {s:List Smp} (sl:Sl h 2 s.length v (s.flatMap smC)) (i:Nat) (hi:20*i<s.length) :
  ∃ u,E8 2 v (some (.int .i64 ((20*i:Nat):Int))) (some (.int .i64 ((min (20*i+20) s.length:Nat):Int))) none=.ok u∧Sl h 2 (chk s i).length u ((chk s i).flatMap smC):=by
 obtain ⟨u,e,su⟩:=sl.slice (lo:=some (.int .i64 ((20*i:Nat):Int))) (hi:=some (.int .i64 ((min (20*i+20) s.length:Nat):Int))) (a:=20*i) (b:=min (20*i+20) s.length) (.inr ⟨.i64,rfl⟩) (.inr ⟨.i64,rfl⟩) (by omega) (by omega)
 refine ⟨u,e,?_⟩
 rw [c0f (es:=2) (f:=smC) s (fun _ _=>rfl),a0R (es:=2) (f:=smC) (s.drop (20*i)) (fun _ _=>rfl)] at su
 have hl:(chk s i).length=min (20*i+20) s.length - 20*i:=by rw [f0A];omega
 have hc:(s.drop (20*i)).take (min (20*i+20) s.length - 20*i)=chk s i:=by
  by_cases h:20*i+20≤s.length
  ·rw [Nat.min_eq_left h,show 20*i+20 - 20*i=20 from by omega];rfl
  ·rw [Nat.min_eq_right (by omega),chk,List.take_of_length_le (by simp),List.take_of_length_le (by rw [List.length_drop];omega)]
 rw [hc] at su
 rw [hl]
 exact su
end Go.Dk
