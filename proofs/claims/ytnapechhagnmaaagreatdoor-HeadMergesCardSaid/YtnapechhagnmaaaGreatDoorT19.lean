/-
  Texts joined.
-/
import Derived.Test.YtnapechhagnmaaaGreatDoorT18
import Derived.Test.YtnapechhagnmaaaGreatDoorRows
import Derived.Test.YtnapechhagnmaaaGreatDoorCards
import Derived.Test.YtnapechhagnmaaaGreatDoorTie
import Derived.Test.YtnapechhagnmaaaGreatDoorT2
import Derived.Lib.LaidIn
import Derived.SevenTiedAt
import Derived.SizedLaws
import Derived.Test.YtnapechhagnmaaaGreatDoorT4
import Derived.Test.YtnapechhagnmaaaGreatDoorT8

namespace Go.Dk
open Go Go.Dr
set_option maxRecDepth 100000
theorem j0p:P.eqGuardType P.depth O7=false:=by kernel_rfl
theorem n0y (a b c d:Txt):Q5 P 20 O7 (.agg [.str a,.str b]) (.agg [.str c,.str d]) =
  (match (.ok (a == c):R Bool) with | .ok true=>(match (.ok (b == d):R Bool) with | .ok true=>.ok true | .ok false=>.ok false | .error e=>.error e) | .ok false=>.ok false | .error e=>.error e):=by kernel_rfl
theorem m0c (a b:Txt) (lit:Bool):q9 P .neq O7 lit (.agg [.str a,.str b]) (.agg [.str a,.str b])=.ok (.bool false):=by
 have h:=n0y a b a b
 simp at h
 simp [q9,a0r,j0p,h,Y2]
theorem k0N (a b:Txt):G5 12 (.agg [.str a,.str b]) (.agg [.str a,.str b])=true:=by
 show Bool.and (decide (a=a)) (Bool.and (decide (b=b)) true)=true
 simp
theorem g0a {h:AH} {n:Nat} {va vb:AV} {l:List Lab} (sa:Sl h 2 n va (l.flatMap H7)) (sb:Sl h 2 n vb (l.flatMap H7)) (hn:n<2 ^ 62) (K:AV→AH→Prop) :
  Ev P SI (.fn s5) [va,vb] h K=K (.bool true) h:=by
 refine Ev.eq (o9 J7 rfl rfl ?_) K
 have hl:=U7 sa
 simp [B6,sa.len,sb.len]
 refine F6 (n:=n) (by rfl) (fun j σ ds g=>ds=[]∧σ 0=va∧σ 1=vb∧σ 12=.int .i64 (n:Int)∧g=h) (by omega) (by simp) (by simp) (fun j σ ds g hJ=>by simp [hJ.2.2.2.1]) ?_ ?_
 ·rintro j σ ds g hj hi ⟨rfl,e0,e1,e12,rfl⟩
  obtain ⟨⟨nm,vl⟩,hx⟩:=B9 (l:=l) (j:=j) (by omega)
  obtain ⟨i1,o1,a1,a2,_⟩:=c0W sa (k:=.i64) (i:=(j:Int)) rfl hx
  obtain ⟨i2,o2,b1,b2,_⟩:=c0W sb (k:=.i64) (i:=(j:Int)) rfl hx
  simp only at a2 b2
  simp [e0,e1,e12,hi,a1,a2,b1,b2,w8,m0c,k0N]
 ·rintro σ ds g ⟨rfl,e0,e1,e12,rfl⟩
  simp
theorem j0q:P.eqGuardType P.depth R8=false:=by kernel_rfl
theorem n0z (a b c d:Int):Q5 P 20 R8 (.agg [.int .i64 a,.int .u64 b]) (.agg [.int .i64 c,.int .u64 d]) =
  (match (.ok (a == c):R Bool) with | .ok true=>(match (.ok (b == d):R Bool) with | .ok true=>.ok true | .ok false=>.ok false | .error e=>.error e) | .ok false=>.ok false | .error e=>.error e):=by kernel_rfl
theorem m0d (s:Smp) (lit:Bool):q9 P .neq R8 lit (.agg (smC s)) (.agg (smC s))=.ok (.bool false):=by
 have h:=n0z s.1 s.2 s.1 s.2
 simp at h
 simp [smC,q9,a0r,j0q,h,Y2]
theorem e06 {h:AH} {n:Nat} {va vb:AV} {l:List Smp} (sa:Sl h 2 n va (l.flatMap smC)) (sb:Sl h 2 n vb (l.flatMap smC)) (hn:n<2 ^ 62) (K:AV→AH→Prop) :
  Ev P SI (.fn n9) [va,vb] h K=K (.bool true) h:=by
 refine Ev.eq (o9 I3 rfl rfl ?_) K
 have hl:=i08 sa
 simp [A0,sa.len,sb.len]
 refine F6 (n:=n) (by rfl) (fun j σ ds g=>ds=[]∧σ 0=va∧σ 1=vb∧σ 12=.int .i64 (n:Int)∧g=h) (by omega) (by simp) (by simp) (fun j σ ds g hJ=>by simp [hJ.2.2.2.1]) ?_ ?_
 ·rintro j σ ds g hj hi ⟨rfl,e0,e1,e12,rfl⟩
  obtain ⟨s,hx⟩:=B9 (l:=l) (j:=j) (by omega)
  obtain ⟨i1,o1,a1,a2,_⟩:=f0G sa hx
  obtain ⟨i2,o2,b1,b2,_⟩:=f0G sb hx
  have q:=e0Z s
  have nq:=m0d s
  simp [e0,e1,e12,hi,a1,a2,b1,b2,w8,nq,q]
 ·rintro σ ds g ⟨rfl,e0,e1,e12,rfl⟩
  simp
theorem n0A {h:AH} {x y:Sj} (hx:SjOk h x) (hy:SjOk h y) (e:plJ x=plJ y) (hl:x.1.2.length<2 ^ 62) (hs:x.2.2.length<2 ^ 62):Ev P SI (.fn C6) [.agg (sjC x),.agg (sjC y)] h fun r g=>r=.bool true∧Fr h g:=by
 obtain ⟨⟨a,la⟩,u,ua⟩:=x
 obtain ⟨⟨b,lb⟩,w,wa⟩:=y
 simp only [plJ,Prod.mk.injEq] at e hl hs
 obtain ⟨rfl,rfl⟩:=e
 refine o9 a07 rfl rfl ?_
 have f1:=Fr.push (.refl h) (.cells [a,u] false)
 have f2:=f1.push (.cells [b,w] false)
 have gx:((h.push (.cells [a,u] false)).push (.cells [b,w] false)).get h.next=some (.cells [a,u] false):=by
  rw [b9 (Nat.ne_of_lt (Nat.lt_succ_self _)),a8]
 have gy:((h.push (.cells [a,u] false)).push (.cells [b,w] false)).get (h.next+1)=some (.cells [b,w] false):=a8 _
 obtain ⟨g1,hg1⟩:∃ g1,g1=h.push (.cells [a,u] false):=⟨_,rfl⟩
 have n1:g1.next=h.next+1:=by rw [hg1];rfl
 obtain ⟨g,hg⟩:∃ g,g=g1.push (.cells [b,w] false):=⟨_,rfl⟩
 rw [← hg1] at f1 f2 gx gy
 rw [← hg] at f2 gx gy
 have x0:load1 g h.next 0=.ok a:=c9 gx
 have x1:load1 g h.next 1=.ok u:=c9 gx
 have y0:load1 g (h.next+1) 0=.ok b:=c9 gy
 have y1:load1 g (h.next+1) 1=.ok w:=c9 gy
 have el:=g0a (hx.lab.fr f2) (hy.lab.fr f2) hl
 have es:=e06 (hx.smp.fr f2) (hy.smp.fr f2) hs
 simp [P2,sjC,P6,← hg1,n1,← hg,x0,x1,y0,y1,el,es]
 exact f2
theorem g0W {h:AH} {n:Nat} {va vb:AV} {xs ys:List Sj} (sa:Sl h 2 n va (xs.flatMap sjC)) (sb:Sl h 2 n vb (ys.flatMap sjC)) (hn:n<2 ^ 62)
  (hx:∀ x ∈ xs,SjOk h x∧x.1.2.length<2 ^ 62∧x.2.2.length<2 ^ 62) (hy:∀ x ∈ ys,SjOk h x) (he:xs.map plJ=ys.map plJ) :
  Ev P SI (.fn J4) [va,vb] h fun r g=>r=.bool true∧Fr h g:=by
 refine o9 b06 rfl rfl ?_
 simp [U1]
 refine o9 t8 rfl rfl ?_
 have hl:xs.length=n:=by have:=sa.1;rw [a0e] at this;omega
 have hl2:ys.length=n:=by have:=sb.1;rw [a0e] at this;omega
 simp [j7,sa.len,sb.len]
 refine F6 (n:=n) (by rfl) (fun j σ ds g=>ds=[]∧σ 0=va∧σ 15=va∧σ 1=vb∧σ 2=.func (.func C6) [] []∧σ 16=.int .i64 (n:Int)∧Fr h g) (by omega) (by simp) ⟨rfl,by simp,by simp,by simp,by simp,by simp,.refl _⟩ (fun j σ ds g hJ=>by simp [hJ.2.2.2.2.2.1]) ?_ ?_
 ·rintro j σ ds g hj hi ⟨rfl,e0,e15,e1,e2,e16,F⟩
  obtain ⟨x,hxj⟩:=B9 (l:=xs) (j:=j) (by omega)
  obtain ⟨y,hyj⟩:=B9 (l:=ys) (j:=j) (by omega)
  obtain ⟨hx1,hx2,hx3⟩:=hx x (List.mem_of_getElem? hxj)
  have hy1:=hy y (List.mem_of_getElem? hyj)
  have hxy:plJ x=plJ y:=by
   have h1:(xs.map plJ)[j]? = some (plJ x):=by rw [List.getElem?_map,hxj];rfl
   have h2:(ys.map plJ)[j]? = some (plJ y):=by rw [List.getElem?_map,hyj];rfl
   rw [he,h2] at h1
   exact (Option.some.inj h1).symm
  obtain ⟨i1,o1,a1,a2,_⟩:=d0w (sa.fr F) hxj
  have hcx:=(hx1.fr F)
  have hcy:=(hy1.fr F)
  have st1:=A7 (h:=g) (n:=2) (z:=[.nils,.nils]) (l:=sjC x) rfl rfl (by simp [sjC,a7,hcx.lab.oneCell.2,hcx.smp.oneCell.2])
  obtain ⟨g1,hg1⟩:∃ g1,g1=g.push (.cells (sjC x) false):=⟨_,rfl⟩
  have f1:Fr g g1:=by rw [hg1];exact Fr.push (.refl g) _
  obtain ⟨i2,o2,b1,b2,_⟩:=d0w ((sb.fr F).fr f1) hyj
  have st2:=A7 (h:=g1) (n:=2) (z:=[.nils,.nils]) (l:=sjC y) rfl rfl (by simp [sjC,a7,hcy.lab.oneCell.2,hcy.smp.oneCell.2])
  obtain ⟨g2,hg2⟩:∃ g2,g2=g1.push (.cells (sjC y) false):=⟨_,rfl⟩
  have f2:Fr g1 g2:=by rw [hg2];exact Fr.push (.refl g1) _
  have n1:g1.next=g.next+1:=by rw [hg1];rfl
  rw [← hg1] at st1
  rw [← hg2] at st2
  have lx:loadN g2 g.next 0 2=.ok (sjC x):=w9 (vs:=sjC x) (ro:=false) (by rw [f2.get _ (by omega),hg1];exact a8 _) rfl
  have ly:loadN g2 g1.next 0 2=.ok (sjC y):=w9 (vs:=sjC y) (ro:=false) (by rw [hg2];exact a8 _) rfl
  simp [e0,e15,e1,e2,e16,hi,a1,a2,b1,b2,w8,st1,st2,lx,ly]
  refine (n0A ((hx1.fr F).fr (f1.trans f2)) ((hy1.fr F).fr (f1.trans f2)) hxy hx2 hx3).mono ?_
  rintro r g3 ⟨rfl,f3⟩
  simp [e0,e15,e1,e2,e16,hi]
  exact F.trans (f1.trans (f2.trans f3))
 ·rintro σ ds g ⟨rfl,e0,e15,e1,e2,e16,F⟩
  simp
  exact F
theorem g0X {h:AH} {na nb:Nat} {va vb:AV} {ma mb:List Sj} (sa:Sl h 2 na va (ma.flatMap sjC)) (sb:Sl h 2 nb vb (mb.flatMap sjC)) (hx:∀ x ∈ ma++mb,MgIn h x) (ht:(G9 ((ma++mb).map plJ)).length≤2 ^ 18) (hn:(ma++mb).length≤2 ^ 18) :
  Ev P SI (.fn W2) [va,vb] h (k0Y h ((G9 ((ma++mb).map plJ)).foldl a08 [])):=by
 refine o9 f0g rfl rfl ?_
 obtain ⟨al,hal⟩:∃ al,al=ma++mb:=⟨_,rfl⟩
 rw [← hal] at ht hn ⊢
 have hx':∀ x ∈ al,MgIn h x:=by rw [hal];exact hx
 have hla:ma.length=na:=by have:=sa.1;rw [a0e] at this;omega
 have hlb:mb.length=nb:=by have:=sb.1;rw [a0e] at this;omega
 have hall:al.length=na+nb:=by rw [hal,List.length_append];omega
 have s0:=Own.fresh (B:=h.next) (h:=h) (es:=2) (n:=0) (l:=[]) true (Nat.le_refl _) rfl
 have f0:=Fr.push (.refl h) (.cells [] false)
 have sca:a7 (ma.flatMap sjC)=true:=K8 fun y hy=>(hx y (List.mem_append_left _ hy)).ok
 have scb:a7 (mb.flatMap sjC)=true:=K8 fun y hy=>(hx y (List.mem_append_right _ hy)).ok
 obtain ⟨v1,g1,c1,o1,fb1,_⟩:=s0.append (bytes:=48) (sa.fr f0) (Nat.le_succ _) sca (by omega) (by omega)
 have f1:Fr h g1:=⟨Nat.le_trans (Nat.le_succ _) fb1.next,fun i hi=>by rw [fb1.get i hi,f0.get i hi]⟩
 obtain ⟨v2,g2,c2,o2,fb2,_⟩:=o1.append (bytes:=48) (sb.fr f1) f1.next scb (by omega) (by omega)
 have f2:Fr h g2:=⟨Nat.le_trans f1.next fb2.next,fun i hi=>by rw [fb2.get i hi,f1.get i hi]⟩
 rw [List.nil_append,← List.flatMap_append,← hal,Nat.zero_add] at o2
 have hf:c01 (al.map plJ)=(G9 (al.map plJ)).length:=by
  unfold c01 G9
  rw [List.length_flatMap]
  congr 1
  refine List.map_congr_left fun x _=>?_
  rw [List.length_map]
 simp [b0O,c1,c2]
 refine (i0d o2.sl (by omega) (fun x hxm=>(hx' x hxm).ok.fr f2) (by omega) fun x hxm=>by have:=(hx' x hxm).lab;omega).mono ?_
 rintro r g3 ⟨f3,ys,hyc,hJ⟩
 simp
 exact ⟨f2.trans f3,ys,hJ.own.sl,by rw [hyc,i0t],fun y hy=>(hJ.el y hy).1⟩
end Go.Dk

namespace Go.Dk
open Go Go.Dr
set_option maxRecDepth 100000
theorem j0a:∀ {L:List Pt2} {ls:List Lab} {s:Smp} {k:Nat},(∀ x ∈ L,x.2.length≤k)→∀ x ∈ C1 L ls [s],x.2.length≤k+1
 | [],ls,s,k,_,x,hx=>by
  simp only [C1,List.foldl_cons,List.foldl_nil,List.mem_singleton] at hx
  subst hx
  have:=b0o [] s
  simp at this ⊢;omega
 | y::L,ls,s,k,h,x,hx=>by
  have h0:=b0o [] s
  have h1:=b0o y.2 s
  have h2:=h y List.mem_cons_self
  have h3:=fun z hz=>h z (List.mem_cons_of_mem y hz)
  simp at h0
  simp only [C1,List.foldl_cons,List.foldl_nil] at hx
  split at hx
  ·rcases List.mem_cons.1 hx with rfl | hx
   ·omega
   ·exact j0a h3 x hx
  ·split at hx
   ·rcases List.mem_cons.1 hx with rfl | hx
    ·simp only;omega
    ·have:=h3 x hx;omega
   ·rcases List.mem_cons.1 hx with rfl | hx
    ·simp only;omega
    ·have:=h x hx;omega
theorem e0M:∀ (rs:List Rw) {L:List Pt2} {k m:Nat},(∀ x ∈ L,x.2.length≤k∧x.1.length≤m)→(∀ r ∈ rs,r.1.length≤m)→∀ x ∈ rs.foldl a08 L,x.2.length≤k+rs.length∧x.1.length≤m
 | [],L,k,m,h,_,x,hx=>h x hx
 | r::rs,L,k,m,h,hr,x,hx=>by
  have:=e0M rs (L:=a08 L r) (k:=k+1) (m:=m) (fun y hy=>⟨j0a (fun z hz=>(h z hz).1) y hy,by
   rcases d0b hy with e | e
   ·rw [e];exact hr r List.mem_cons_self
   ·exact (h y e).2⟩) (fun z hz=>hr z (List.mem_cons_of_mem _ hz)) x hx
  simp only [List.length_cons]
  exact ⟨by omega,this.2⟩
theorem h0x:∀ (rs:List Rw) (L:List Pt2),(rs.foldl a08 L).length≤L.length+rs.length
 | [],L=>Nat.le_refl _
 | r::rs,L=>by
  have h1:=h0x rs (a08 L r)
  have h2:=e0j L r.1 [r.2]
  have h3:(a08 L r).length=(C1 L r.1 [r.2]).length:=rfl
  rw [List.foldl_cons,List.length_cons]
  omega
theorem e0N {k:Nat}:∀ {l:List Pt2},(∀ x ∈ l,x.2.length≤k)→(G9 l).length≤l.length*k
 | [],_=>by simp [G9]
 | x::l,h=>by
  have h1:=h x List.mem_cons_self
  have h2:=e0N (l:=l) fun y hy=>h y (List.mem_cons_of_mem _ hy)
  unfold G9 at *
  rw [List.flatMap_cons,List.length_append,List.length_map,List.length_cons,Nat.add_mul]
  omega
theorem l0l {l:List Pt2} {m:Nat} (h:∀ x ∈ l,x.1.length≤m):∀ r ∈ G9 l,r.1.length≤m:=fun r hr=>by
 unfold G9 at hr
 obtain ⟨x,hx,hr⟩:=List.mem_flatMap.1 hr
 obtain ⟨s,_,rfl⟩:=List.mem_map.1 hr
 exact h x hx
theorem i0w {h:AH} {na nb:Nat} {va vb:AV} {xa xb:List Sj} (sa:Sl h 2 na va (xa.flatMap sjC)) (sb:Sl h 2 nb vb (xb.flatMap sjC)) (hna:na<2 ^ 62) (hnb:nb<2 ^ 62) (ha:∀ x ∈ xa,SjIn h x) (hb:∀ x ∈ xb,SjIn h x) :
  Ev P SI (.fn J3) [va,vb] h fun r _=>r=.bool true:=by
 refine o9 b02 rfl rfl ?_
 simp [T7]
 refine (f0W 8 20 (by omega) (by omega) sa hna ha).mono ?_
 rintro r1 g1 ⟨f1,ya,s1,l1,o1⟩
 simp
 refine (f0W 8 20 (by omega) (by omega) (sb.fr f1) hnb fun x hx=>⟨(hb x hx).lab.fr f1,(hb x hx).smp.fr f1,(hb x hx).short,(hb x hx).rng⟩).mono ?_
 rintro r2 g2 ⟨f2,yb,s2,l2,o2⟩
 have s1':=s1.fr f2
 have hin:∀ x ∈ ya++yb,MgIn g2 x∧x.1.2.length≤10∧x.2.2.length≤20:=fun x hx=>by
  rcases List.mem_append.1 hx with hx | hx
  ·obtain ⟨k1,k2⟩:=o1 x hx
   exact ⟨⟨k1.fr f2,by have:=k2.lab;omega,fun s hs=>by have:=(k2.rng s hs).1;omega⟩,k2.lab,k2.smp⟩
  ·obtain ⟨k1,k2⟩:=o2 x hx
   exact ⟨⟨k1,by have:=k2.lab;omega,fun s hs=>by have:=(k2.rng s hs).1;omega⟩,k2.lab,k2.smp⟩
 have hlen:(ya++yb).length≤16:=by rw [List.length_append];omega
 have hb2:∀ x ∈ (ya++yb).map plJ,x.2.length≤20:=fun x hx=>by
  obtain ⟨y,hy,rfl⟩:=List.mem_map.1 hx
  exact (hin y hy).2.2
 have hb1:∀ x ∈ (ya++yb).map plJ,x.1.length≤10:=fun x hx=>by
  obtain ⟨y,hy,rfl⟩:=List.mem_map.1 hx
  exact (hin y hy).2.1
 have hft:(G9 ((ya++yb).map plJ)).length≤320:=by
  have:=e0N hb2
  rw [List.length_map] at this
  have h3:=Nat.mul_le_mul_right 20 hlen
  omega
 have hbd:=e0M (G9 ((ya++yb).map plJ)) (L:=[]) (k:=0) (m:=10) (fun x hx=>by cases hx) (l0l hb1)
 have hm1:=i0j s1' s2 (fun x hx=>(hin x hx).1) (by omega) (by omega)
 have hm2:=fun (g:AH) (f:Fr g2 g)=>g0X (s1'.fr f) (s2.fr f) (fun x hx=>⟨(hin x hx).1.ok.fr f,(hin x hx).1.lab,(hin x hx).1.rg⟩) (by omega) (by omega)
 obtain ⟨L,hL⟩:∃ L,L=(G9 ((ya++yb).map plJ)).foldl a08 []:=⟨_,rfl⟩
 rw [← hL] at hm1 hm2 hbd
 simp
 refine hm1.mono ?_
 rintro r3 g3 ⟨f3,za,s3,c3,k3⟩
 simp
 refine (hm2 g3 f3).mono ?_
 rintro r4 g4 ⟨f4,zb,s4,c4,k4⟩
 have hzl:za.length=zb.length:=by
  have h1:=congrArg List.length c3
  have h2:=congrArg List.length c4
  rw [List.length_map] at h1 h2
  omega
 rw [← hzl] at s4
 simp
 refine (g0W (s3.fr f4) s4 (by
  have h1:=congrArg List.length c3
  rw [List.length_map] at h1
  rw [h1,hL]
  have:=h0x (G9 ((ya++yb).map plJ)) []
  simp only [List.length_nil] at this
  omega) (fun x hx=>?_) k4 (by rw [c3,c4])).mono ?_
 ·have hxl:plJ x ∈ L:=by rw [← c3];exact List.mem_map.2 ⟨x,hx,rfl⟩
  have:=hbd _ hxl
  refine ⟨(k3 x hx).fr f4,?_,?_⟩
  ·show (plJ x).1.length<2 ^ 62;omega
  ·show (plJ x).2.length<2 ^ 62;omega
 ·rintro r5 g5 ⟨rfl,_⟩
  simp [l0T]
end Go.Dk

namespace Go.Proofs.YtnapechhagnmaaaGreatDoor
open Go Go.Dr Go.RowKit Go.ChangeShapes Go.WideShapes Go.ChangeAt Go.Lib
set_option maxRecDepth 100000
theorem p0P:ownKnob Tryz.prog.godebug=none:=by kernel_rfl
theorem f0Z:laidOutB Tryz.prog=true:=by kernel_rfl
theorem p0Q:Tryz.prog.funcs.all (fun f=>f.name != "runtime.NumGoroutine")=true:=by kernel_rfl
def g0L:List Int:=List.replicate 128 240++(List.replicate 66 241++(List.replicate 30 2++([19]++(List.replicate 12 3++([35,3,3,52,4,4,4,68]++List.replicate 11 241)))))
def l0X (k:IntKind) (l:List Int):Array Value:=(l.map fun z=>Value.int k z).toArray
noncomputable def b0r (os:Os):World :=
 let w0:=World.holding Tryz.prog os ⟨#[],#[],[]⟩
 let put (h:Array Obj) (g:Nat) (cs:Array Value):Array Obj:=h.modify g fun
  | .cells _ t frozen=>.cells cs t frozen
  | o=>o
 let h:=w0.heap
 let h:=put h 2 (l0X .u8 [128,191,160,191,128,159,144,191,128,143,0,0,0,0,0,0,0,0,0,0,0,0,0,0,0,0,0,0,0,0,0,0])
 let h:=put h 1 (l0X .u8 g0L)
 { w0 with heap:=h }
theorem k0j (os:Os) (args:Array Value):LaidIn Tryz.prog ((b0r os).forCall (fun _ _=>0) ⟨#[],args,[]⟩).memory (Rows.headMergesRow.laid.filter fun x=>x.2.handleName?.isNone) [2,1] :=
 LaidIn.of_run _ 8 (by kernel_rfl) (by kernel_rfl) (by kernel_rfl) (by kernel_rfl)
theorem k0k (os:Os) (args:Array Value):laidMetH Tryz.prog Rows.headMergesRow.laid ((b0r os).forCall (fun _ _=>0) ⟨#[],args,[]⟩).memory :=
 laidMetH_of_parts (k0j os args).met (by kernel_rfl)
end Go.Proofs.YtnapechhagnmaaaGreatDoor

namespace Go.Dr
open Go.RowKit
variable {P:Program} {H:Type} {enc:TypeId×Value→H} {W:World} {base:Nat} {sp:Nat→Bool} {held:Bool}
theorem a0S {P:Program} {e:TypeId} {d:DataW H}:∀ {l:List (DataW H)},d ∈ l→∀ n ∈ d.weights P e,n ∈ DataW.weightsAll P e l
 | x::l,hm,n,hn=>by
  simp only [DataW.weightsAll,List.mem_append]
  rcases List.mem_cons.1 hm with rfl | hm
  ·exact .inl hn
  ·exact .inr (a0S hm n hn)
inductive TyZ (P:Program) (h:AH):TypeId→List AV→Prop
 | bool {t:TypeId} (ht:P.underlying t=some .bool) (b:Bool):TyZ P h t [.bool b]
 | int {t:TypeId} {k:IntKind} {n:Int} (ht:P.underlying t=some (.int k)) (hn:(Lit.int k n).wf=true):TyZ P h t [.int k n]
 | str {t:TypeId} {s:List UInt8} (ht:P.underlying t=some .string) (hs:s.length≤reachBytes):TyZ P h t [.str s]
 | nils {t e:TypeId} (ht:P.underlying t=some (.slice e)):TyZ P h t [.nils]
 | slice {t e:TypeId} {id len cap:Nat} {vs:List AV} (ht:P.underlying t=some (.slice e)) (hi:id<h.next) (hg:h.get id=some (.cells vs true)) (hv:vs.length=len*P.cellsOf e)
   (hl:len≤cap) (hc:cap*P.bytesOf e≤reachBytes) (hel:∀ i,i<len→TyZ P h e ((vs.drop (i*P.cellsOf e)).take (P.cellsOf e))):TyZ P h t [.slice id 0 len cap true (P.cellsOf e)]
 | struct {t:TypeId} {fs:Array Field} {cs:List AV} (ht:P.underlying t=some (.struct fs)) (hl:cs.length=P.cellsOf t)
   (hf:∀ f ∈ fs.toList,TyZ P h f.type ((cs.drop f.offset).take (P.cellsOf f.type))):TyZ P h t cs
theorem TyZ.fr {h h':AH} (f:Fr h h'):∀ {t:TypeId} {cs:List AV},TyZ P h t cs→TyZ P h' t cs:=by
 intro t cs s
 induction s with
 | bool ht b=>exact .bool ht b
 | int ht hn=>exact .int ht hn
 | str ht hs=>exact .str ht hs
 | nils ht=>exact .nils ht
 | slice ht hi hg hv hl hc _ ih=>exact .slice ht (Nat.lt_of_lt_of_le hi f.next) (by rw [f.get _ hi];exact hg) hv hl hc ih
 | struct ht hl _ ih=>exact .struct ht hl ih
theorem d0u {B:Nat} {w0:World} (L:TypeId→List Value→Prop)
  (hL:∀ t cs,L t cs→∀ φ h,Rel B w0 φ h W→RO φ h→∃ φ' h' l,ConL φ' l cs∧Rel B w0 φ' h' W∧RO φ' h'∧φ.le φ'∧Fr h h'∧TyZ P h' t l) (cs:List Value) :
  ∀ (fs:List Field) (acc:Nat),c0X P fs acc cs.length=true→(∀ f ∈ fs,L f.type ((cs.drop f.offset).take (P.cellsOf f.type)))→∀ φ h,Rel B w0 φ h W→RO φ h →
  ∃ φ' h' l,ConL φ' l (cs.drop acc)∧Rel B w0 φ' h' W∧RO φ' h'∧φ.le φ'∧Fr h h'∧(∀ f ∈ fs,acc≤f.offset∧TyZ P h' f.type ((l.drop (f.offset - acc)).take (P.cellsOf f.type)))
 | [],acc,ht,_,φ,h,hR,hro=>by
  have:acc=cs.length:=Nat.eq_of_beq_eq_true ht
  subst this
  exact ⟨φ,h,[],by rw [List.drop_length];exact .nil,hR,hro,.refl _,.refl _,fun f hf=>by cases hf⟩
 | f::fs,acc,ht,hf,φ,h,hR,hro=>by
  simp only [c0X,Bool.and_eq_true] at ht
  have ho:f.offset=acc:=Nat.eq_of_beq_eq_true ht.1
  obtain ⟨φ1,h1,l1,c1,R1,ro1,le1,f1,t1⟩:=hL _ _ (hf f (by simp)) φ h hR hro
  obtain ⟨φ2,h2,l2,c2,R2,ro2,le2,f2,t2⟩:=d0u L hL cs fs (acc+P.cellsOf f.type) ht.2 (fun g hg=>hf g (List.mem_cons_of_mem _ hg)) φ1 h1 R1 ro1
  have hle:acc+P.cellsOf f.type≤cs.length:=by
   have:∀ (fs:List Field) (a:Nat),c0X P fs a cs.length=true→a≤cs.length:=by
    intro fs
    induction fs with
    | nil=>intro a h;exact Nat.le_of_eq (Nat.eq_of_beq_eq_true h)
    | cons g gs ih =>
     intro a h
     simp only [c0X,Bool.and_eq_true] at h
     have:=ih _ h.2
     omega
   exact this _ _ ht.2
  rw [ho] at c1
  have hlen:l1.length=P.cellsOf f.type:=by rw [c1.length,List.length_take,List.length_drop];omega
  refine ⟨φ2,h2,l1++l2,?_,R2,ro2,le1.trans le2,f1.trans f2,fun g hg=>?_⟩
  ·have:=(c1.mono le2).append c2
   rw [← List.drop_drop,List.take_append_drop] at this
   exact this
  ·rcases List.mem_cons.1 hg with rfl | hg
   ·refine ⟨by omega,?_⟩
    rw [ho,Nat.sub_self,List.drop_zero,List.take_append_of_le_length (by omega),List.take_of_length_le (by omega)]
    exact t1.fr f2
   ·obtain ⟨h3,h4⟩:=t2 g hg
    refine ⟨by omega,?_⟩
    rw [show g.offset - acc=l1.length+(g.offset - (acc+P.cellsOf f.type)) from by omega,← List.drop_drop,List.drop_left]
    exact h4
theorem b0U {B:Nat} {w0:World} :
  ∀ (d fuel:Nat) (t:TypeId) (cs:List Value) (x:DataW H×List MemPlace),Z2 P d t=true→DataW.trod enc P W base (fun _=>true) held fuel t cs=some x→(∀ n ∈ x.1.weights P t,n≤reachBytes)→i0Y W cs →
  ∀ φ h,Rel B w0 φ h W→RO φ h→∃ φ' h' l,ConL φ' l cs∧Rel B w0 φ' h' W∧RO φ' h'∧φ.le φ'∧Fr h h'∧TyZ P h' t l
 | 0,fuel,t,cs,x,hp,_,_,_,_,_,_,_=>by cases hp
 | d+1,fuel,t,cs,x,hp,h,hw0,hz,φ,g,hR,hro=>by
  unfold Z2 at hp
  cases ht:P.underlying t with
  | none=>rw [ht] at hp;cases hp
  | some td =>
   rw [ht] at hp
   cases td with
   | bool =>
    obtain ⟨b,rfl,_⟩:=DataW.trod_bool ht h
    exact ⟨φ,g,_,.cons (.bool b) .nil,hR,hro,.refl _,.refl _,.bool ht b⟩
   | int k =>
    obtain ⟨n,rfl,_,hw⟩:=DataW.trod_int ht h
    exact ⟨φ,g,_,.cons (.int k n) .nil,hR,hro,.refl _,.refl _,.int ht hw⟩
   | string =>
    obtain ⟨⟨⟨s⟩⟩,rfl,rfl,_⟩:=DataW.trod_string ht h
    have hs:s.length≤reachBytes:=hw0 _ (by simp [DataW.weights])
    exact ⟨φ,g,_,.cons (.str s) .nil,hR,hro,.refl _,.refl _,.str ht hs⟩
   | struct fs =>
    simp only [Bool.and_eq_true,List.all_eq_true] at hp
    obtain ⟨hp1,hp2⟩:=hp
    obtain ⟨xs,n,_,hx,hl,hlen,hf⟩:=DataW.trod_struct ht h
    subst hx
    simp only [DataW.weights,ht] at hw0
    obtain ⟨φ1,h1,l1,c1,R1,ro1,le1,f1,t1⟩:=d0u (L:=fun t cs=>∃ n x,Z2 P d t=true∧DataW.trod enc P W base (fun _=>true) held n t cs=some x∧(∀ n ∈ x.1.weights P t,n≤reachBytes)∧i0Y W cs)
     (fun t cs ⟨n,x,h1,h2,h3,h4⟩=>b0U d n t cs x h1 h2 h3 h4) cs fs.toList 0 (by rw [hl];exact hp1) (fun f hfm=>by
      obtain ⟨i,hi⟩:=List.mem_iff_getElem?.1 hfm
      rw [Array.getElem?_toList] at hi
      have hlt:i<xs.length:=by rw [hlen];exact (Array.getElem?_eq_some_iff.1 hi).1
      exact ⟨n,xs[i],hp2 f hfm,by rw [hf i f hi];exact List.getElem?_eq_getElem hlt,fun m hm=>hw0 m (DataW.weights_mem_each (j:=i) (by rw [List.getElem?_map,Array.getElem?_toList,hi];rfl) (by rw [List.getElem?_map,List.getElem?_eq_getElem hlt];rfl) m hm),fun a len hm=>hz a len (List.mem_of_mem_drop (List.mem_of_mem_take hm))⟩) φ g hR hro
    exact ⟨φ1,h1,l1,c1,R1,ro1,le1,f1,.struct ht (by rw [c1.length,List.drop_zero,hl]) fun f hf=>by have:=(t1 f hf).2;rwa [Nat.sub_zero] at this⟩
   | slice e =>
    simp only [Bool.and_eq_true] at hp
    obtain ⟨hp1,hp2⟩:=hp
    have hk:0<P.cellsOf e:=Nat.le_of_ble_eq_true hp1
    rcases DataW.trod_slice ht h with ⟨rfl,_⟩ | ⟨a,len,cap,elems,rest,n,_,rfl,hx,hb,hlc,_,hel,he1,he2,_⟩
    ·exact ⟨φ,g,_,.cons .nils .nil,hR,hro,.refl _,.refl _,.nils ht⟩
    ·obtain ⟨hrl,hr⟩:=he2 rfl
     subst hx
     simp only [DataW.weights,ht,List.length_map,List.mem_cons,List.mem_append] at hw0
     have hcm:cap*P.bytesOf e≤reachBytes:=by
      have:=hw0 _ (.inl rfl)
      rwa [hel,hrl,show len+(cap - len)=cap from by omega] at this
     have each:∀ i,i<cap→∃ cs y,W.cells? base (a.add (i*P.cellsOf e)) (P.cellsOf e)=some cs∧DataW.trod enc P W base (fun _=>true) held n e cs=some y∧∀ n ∈ y.1.weights P e,n≤reachBytes:=by
      intro i hi
      have:∃ y,(W.cells? base (a.add (i*P.cellsOf e)) (P.cellsOf e)).bind (DataW.trod enc P W base (fun _=>true) held n e)=some y∧∀ n ∈ y.1.weights P e,n≤reachBytes:=by
       by_cases hil:i<len
       ·exact ⟨elems[i],by rw [he1 i hil];exact List.getElem?_eq_getElem (by omega),fun m hm=>hw0 m (.inr (.inl (a0S (List.mem_map_of_mem (List.getElem_mem _)) m hm)))⟩
       ·have hj:i - len<cap - len:=by omega
        refine ⟨rest[i - len],?_,fun m hm=>hw0 m (.inr (.inr (a0S (List.mem_map_of_mem (List.getElem_mem _)) m hm)))⟩
        have:=hr (i - len) hj
        rw [show len+(i - len)=i from by omega] at this
        rw [this];exact List.getElem?_eq_getElem (by omega)
      obtain ⟨y,hy,hwy⟩:=this
      obtain ⟨cs,h1,h2⟩:=Option.bind_eq_some_iff.1 hy
      exact ⟨cs,y,h1,h2,hwy⟩
     have hblk:∃ (b:Nat) (c:Array Value) (e:TypeId) (f:Nat×Nat),W.heap[b]? = some (.cells c e f):=by
      by_cases hc0:cap=0
      ·subst hc0;exact hz a len (by simp)
      ·obtain ⟨cs,y,q1,_⟩:=each 0 (by omega)
       obtain ⟨q2,q3⟩:=Z3 q1
       have:=q3 0 hk
       rw [List.getElem?_eq_getElem (by omega)] at this
       obtain ⟨_,c,et,f,hbk,_⟩:=f0t this
       exact ⟨_,c,et,f,hbk⟩
     have hcs:∃ css:List (List Value),css.length=len∧∀ i c,css[i]? = some c→W.cells? base (a.add (i*P.cellsOf e)) (P.cellsOf e)=some c∧∃ y,DataW.trod enc P W base (fun _=>true) held n e c=some y∧∀ n ∈ y.1.weights P e,n≤reachBytes:=by
      refine ⟨(List.range len).map fun i=>(W.cells? base (a.add (i*P.cellsOf e)) (P.cellsOf e)).getD [],by simp,fun i c hi=>?_⟩
      have hil:i<len:=by have:=(List.getElem?_eq_some_iff.1 hi).1;simpa using this
      obtain ⟨cs,y,h1,h2,h3⟩:=each i (by omega)
      simp only [List.getElem?_map,List.getElem?_range hil,Option.map_some,Option.some.injEq,h1,Option.getD_some] at hi
      subst hi
      exact ⟨h1,y,h2,h3⟩
     obtain ⟨css,hcl,hcs⟩:=hcs
     obtain ⟨φ1,h1,ls,R1,ro1,le1,f1,hll,hls⟩:=g0U (B:=B) (w0:=w0) (w:=W) (fun (h:AH) (_:Unit) l=>TyZ P h e l) (fun h h' _ l f t=>t.fr f) (css.map fun c=>((),c)) (fun x hx φ h hR hro=>by
      obtain ⟨c,hc,rfl⟩:=List.mem_map.1 hx
      obtain ⟨i,hi⟩:=List.mem_iff_getElem?.1 hc
      obtain ⟨_,y,hy,hwy⟩:=hcs i c hi
      exact b0U d n e c y hp2 hy hwy (fun _ _ _=>hblk) φ h hR hro) φ g hR hro
     rw [List.length_map,hcl] at hll
     have hlens:∀ l ∈ ls,l.length=P.cellsOf e:=by
      intro l hl
      obtain ⟨i,hi⟩:=List.mem_iff_getElem?.1 hl
      have hil:i<css.length:=by rw [hcl,← hll];exact (List.getElem?_eq_some_iff.1 hi).1
      obtain ⟨l',h1,h2,_⟩:=hls i ((),css[i]) (by simp [hil])
      rw [hi] at h1
      cases h1
      rw [h2.length]
      exact (Z3 (hcs i _ (List.getElem?_eq_getElem hil)).1).1
     obtain ⟨hfl,hfg⟩:=d06 ls (P.cellsOf e) hlens
     by_cases hc0:cap=0
     ·
      obtain ⟨b,c,et,f,hbk⟩:=hblk
      have hl0:len=0:=by omega
      have hv0:ls.flatten=[]:=List.length_eq_zero_iff.1 (by rw [hfl,hll,hl0,Nat.zero_mul])
      obtain ⟨R2,ro2,le2⟩:=k0K R1 ro1 (p:=⟨b,0,0⟩) (vs:=[]) hbk (Nat.le_refl _) (Nat.zero_le _) (fun i x hx=>by simp at hx)
      refine ⟨_,_,[.slice h1.next 0 len cap true (P.cellsOf e)],.cons (.slice (Phi.set_same _ _ _) (fun _=>rfl) (Nat.le_refl _) hlc (.inl hc0)) .nil,R2,ro2,le1.trans le2,f1.push _,?_⟩
      exact .slice ht (by simp) (a8 _) (by rw [hl0,Nat.zero_mul];rfl) hlc hcm fun i hi=>by omega
     ·have hcp:0<cap:=by omega
      have hk0:∀ i j,i<cap→j<P.cellsOf e→∃ v,W.cell? ((a.add (i*P.cellsOf e)).add j)=some v:=by
       intro i j hi hj
       obtain ⟨cs,y,q1,_⟩:=each i hi
       obtain ⟨q2,q3⟩:=Z3 q1
       exact ⟨cs[j]'(by omega),by rw [q3 j hj];exact List.getElem?_eq_getElem (by omega)⟩
      obtain ⟨v0,hv0⟩:=hk0 0 0 hcp hk
      have ha0:(a.add (0*P.cellsOf e)).add 0=a:=by simp [Addr.add]
      rw [ha0] at hv0
      obtain ⟨hsp,c,et,f,hbk,_⟩:=f0t hv0
      have hat:∀ i j,(a.add (i*P.cellsOf e)).add j=⟨a.block,a.off+(i*P.cellsOf e+j),none⟩:=by
       intro i j
       rw [add_none hsp,Addr.add_none,Nat.add_assoc]
      have hcell:∀ o,W.cell? ⟨a.block,o,none⟩=c[o]?:=fun o=>P8 hbk
      have hsz:a.off+cap*P.cellsOf e≤c.size:=by
       obtain ⟨v,hv⟩:=hk0 (cap - 1) (P.cellsOf e - 1) (by omega) (by omega)
       rw [hat,hcell] at hv
       have:=(Array.getElem?_eq_some_iff.1 hv).1
       have e1:(cap - 1)*P.cellsOf e+P.cellsOf e=cap*P.cellsOf e:=by
        rw [← Nat.succ_mul,show (cap - 1).succ=cap from by omega]
       omega
      have hle:len*P.cellsOf e≤cap*P.cellsOf e:=Nat.mul_le_mul_right _ hlc
      obtain ⟨R2,ro2,le2⟩:=k0K R1 ro1 (p:=⟨a.block,a.off,cap*P.cellsOf e⟩) (vs:=ls.flatten) hbk (by rw [hfl,hll];exact hle) hsz (fun i x hx=>by
       have hi:i<len*P.cellsOf e:=by rw [← hll,← hfl];exact (List.getElem?_eq_some_iff.1 hx).1
       have hdiv:i/P.cellsOf e<len:=(Nat.div_lt_iff_lt_mul hk).2 hi
       have hmod:i%P.cellsOf e<P.cellsOf e:=Nat.mod_lt _ hk
       have hdm:i/P.cellsOf e*P.cellsOf e+i%P.cellsOf e=i:=by rw [Nat.mul_comm];exact Nat.div_add_mod _ _
       obtain ⟨l,q1,q2⟩:=j0n ls (P.cellsOf e) hlens (i/P.cellsOf e) (i%P.cellsOf e) (by omega) hmod
       rw [hdm,hx] at q2
       have hcs':(css.map fun c=>((),c))[i/P.cellsOf e]? = some ((),css[i/P.cellsOf e]'(by omega)):=by simp [hcl,hdiv]
       obtain ⟨l',q3,q4,_⟩:=hls _ _ hcs'
       rw [q1] at q3
       cases q3
       obtain ⟨y,q5,q6⟩:=q4.get _ _ q2.symm
       refine ⟨y,?_,q6⟩
       obtain ⟨_,q7⟩:=Z3 (hcs _ _ (List.getElem?_eq_getElem (by omega:i/P.cellsOf e<css.length))).1
       have q8:=q7 _ hmod
       rw [hat,hcell,hdm] at q8
       rw [q8]
       exact q5)
      refine ⟨_,_,[.slice h1.next 0 len cap true (P.cellsOf e)],.cons (.slice (p:=⟨a.block,a.off,cap*P.cellsOf e⟩) (Phi.set_same _ _ _) (fun _=>rfl) (Nat.le_refl _) hlc (.inr ⟨Nat.le_of_eq (Nat.zero_add _),?_⟩)) .nil,R2,ro2,le1.trans le2,f1.push _,?_⟩
      ·obtain ⟨b,o,s⟩:=a
       cases hsp
       rfl
      ·refine .slice ht (by simp) (a8 _) (by rw [hfl,hll]) hlc hcm fun i hi=>?_
       have hil:i<css.length:=by omega
       obtain ⟨l,q1,_,q3⟩:=hls i ((),css[i]) (by simp [hil])
       rw [hfg i l q1]
       exact q3.fr ((Fr.refl _).push _)
   | _=>cases hp
theorem e0o {B:Nat} {w0:World} {b0:Nat} {d:Nat} {t e:TypeId} {v:Value} {dd:DataW H} {ps:List MemPlace} (ht:P.underlying t=some (.slice e)) (hp:Z2 P d t=true)
  (hval:Value.okWide P W .any b0 t v) (hd:DataW.Trod enc P W base (fun _=>true) held t v dd ps) (hw:∀ n ∈ dd.weights P t,n≤reachBytes) {φ:Phi} {h:AH} (hR:Rel B w0 φ h W) (hro:RO φ h) :
  ∃ φ' h' a,Con φ' a v∧Rel B w0 φ' h' W∧RO φ' h'∧φ.le φ'∧Fr h h'∧TyZ P h' t [a]:=by
 have hc:Cell.okWide P W .any b0 t v:=by
  unfold Value.okWide at hval
  rw [ht] at hval
  exact hval
 have hs:=e07 hc
 have hcells:v.cells.toList=[v]:=by cases v <;> first | rfl | cases hs
 obtain ⟨fuel,hd⟩:=hd
 rw [hcells] at hd
 obtain ⟨φ',h',l,c1,R1,ro1,le1,f1,t1⟩:=b0U d fuel t [v] _ hp hd hw (fun a len hm=>by
  simp only [List.mem_singleton] at hm
  rw [← hm] at hc
  exact h07 hc) φ h hR hro
 cases c1 with
 | cons c1 c2 =>
  cases c2
  exact ⟨φ',h',_,c1,R1,ro1,le1,f1,t1⟩
variable {h:AH}
theorem TyZ.int_inv {t:TypeId} {k:IntKind} {l:List AV} (ht:P.underlying t=some (.int k)) (s:TyZ P h t l):∃ n,l=[.int k n]∧(Lit.int k n).wf=true:=by
 cases s with
 | int ht' hn=>rw [ht] at ht';cases ht';exact ⟨_,rfl,hn⟩
 | bool ht'=>rw [ht] at ht';cases ht'
 | str ht'=>rw [ht] at ht';cases ht'
 | nils ht'=>rw [ht] at ht';cases ht'
 | slice ht'=>rw [ht] at ht';cases ht'
 | struct ht'=>rw [ht] at ht';cases ht'
theorem TyZ.str_inv {t:TypeId} {l:List AV} (ht:P.underlying t=some .string) (s:TyZ P h t l):∃ x,l=[.str x]∧x.length≤reachBytes:=by
 cases s with
 | str ht' hs=>exact ⟨_,rfl,hs⟩
 | int ht'=>rw [ht] at ht';cases ht'
 | bool ht'=>rw [ht] at ht';cases ht'
 | nils ht'=>rw [ht] at ht';cases ht'
 | slice ht'=>rw [ht] at ht';cases ht'
 | struct ht'=>rw [ht] at ht';cases ht'
theorem TyZ.slice_inv {t e:TypeId} {k:Nat} {l:List AV} (ht:P.underlying t=some (.slice e)) (hb:0<P.bytesOf e) (hk:P.cellsOf e=k) (s:TyZ P h t l) :
  ∃ v n vs,l=[v]∧n≤reachBytes∧Sl h k n v vs∧∀ i,i<n→TyZ P h e ((vs.drop (i*k)).take k):=by
 subst hk
 cases s with
 | nils ht'=>exact ⟨_,0,[],rfl,Nat.zero_le _,Sl.nil _,fun i hi=>absurd hi (by omega)⟩
 | @slice _ e' id len cap vs ht' hi hg hv hl hc hel =>
  rw [ht] at ht'
  cases ht'
  exact ⟨_,len,vs,rfl,Nat.le_trans (Nat.le_trans hl (Nat.le_mul_of_pos_right _ hb)) hc,⟨hv,.inr ⟨id,0,cap,true,vs,true,rfl,hi,hl,hg,by omega,by rw [List.drop_zero,List.take_of_length_le (by omega)]⟩⟩,hel⟩
 | int ht'=>rw [ht] at ht';cases ht'
 | bool ht'=>rw [ht] at ht';cases ht'
 | str ht'=>rw [ht] at ht';cases ht'
 | struct ht'=>rw [ht] at ht';cases ht'
theorem TyZ.struct_inv {t:TypeId} {l:List AV} {ts:List (TypeId×Nat)} (ht:a0P P t=ts) (hne:ts≠[]) (s:TyZ P h t l) :
  l.length=P.cellsOf t∧∀ u o,(u,o) ∈ ts→TyZ P h u ((l.drop o).take (P.cellsOf u)):=by
 subst ht
 unfold a0P at hne ⊢
 cases s with
 | struct ht' hl hf =>
  rw [ht']
  refine ⟨hl,fun u o hm=>?_⟩
  simp only [List.mem_map,Prod.mk.injEq] at hm
  obtain ⟨f,hf',rfl,rfl⟩:=hm
  exact hf f hf'
 | int ht'=>rw [ht'] at hne;exact absurd rfl hne
 | bool ht'=>rw [ht'] at hne;exact absurd rfl hne
 | str ht'=>rw [ht'] at hne;exact absurd rfl hne
 | nils ht'=>rw [ht'] at hne;exact absurd rfl hne
 | slice ht'=>rw [ht'] at hne;exact absurd rfl hne
end Go.Dr

namespace Go.Proofs.YtnapechhagnmaaaGreatDoor
open Go Go.Dr Go.Dk Go.RowKit Go.ChangeShapes Go.WideShapes Go.ChangeAt Go.Lib
set_option maxRecDepth 100000
theorem n0t:reachBytes<2 ^ 62:=by decide
theorem k0m:0<Tryz.prog.bytesOf 48:=of_decide_eq_true (by kernel_rfl)
theorem k0n:0<Tryz.prog.bytesOf 56:=of_decide_eq_true (by kernel_rfl)
theorem k0o:0<Tryz.prog.bytesOf 51:=of_decide_eq_true (by kernel_rfl)
theorem l0Z:Tryz.prog.cellsOf 3=1:=by kernel_rfl
theorem l00:Tryz.prog.cellsOf 9=1:=by kernel_rfl
theorem k0p:Tryz.prog.cellsOf 49=1:=by kernel_rfl
theorem k0q:Tryz.prog.cellsOf 45=1:=by kernel_rfl
theorem k0r:Tryz.prog.cellsOf 46=1:=by kernel_rfl
theorem f02:Tryz.prog.cellsOf 48=2:=by kernel_rfl
theorem f03:Tryz.prog.cellsOf 56=2:=by kernel_rfl
theorem f04:Tryz.prog.cellsOf 51=2:=by kernel_rfl
theorem o0q:Tryz.prog.underlying 3=some (.int .i64):=by kernel_rfl
theorem m0T:Tryz.prog.underlying 49=some (.int .u64):=by kernel_rfl
theorem l01:Tryz.prog.underlying 9=some .string:=by kernel_rfl
theorem g0M:Tryz.prog.underlying 22=some (.slice 48):=by kernel_rfl
theorem m0U:Tryz.prog.underlying 45=some (.slice 56):=by kernel_rfl
theorem m0V:Tryz.prog.underlying 46=some (.slice 51):=by kernel_rfl
theorem i0S:a0P Tryz.prog 48=[(45,0),(46,1)]:=by kernel_rfl
theorem i0T:a0P Tryz.prog 56=[(9,0),(9,1)]:=by kernel_rfl
theorem i0U:a0P Tryz.prog 51=[(3,0),(49,1)]:=by kernel_rfl
theorem f05:Z2 Tryz.prog 8 22=true:=by kernel_rfl
theorem a0D {α:Type} (f:α→List AV):∀ l:List α,(l.map f).flatten=l.flatMap f
 | []=>rfl
 | x::l=>by rw [List.map_cons,List.flatten_cons,List.flatMap_cons,a0D f l]
theorem h03 {h:AH} {l:List AV} (s:TyZ Tryz.prog h 45 l):∃ v ls,l=[v]∧Sl h 2 ls.length v (ls.flatMap H7)∧k0J ls:=by
 obtain ⟨v,n,vs,rfl,hn,hs,he⟩:=s.slice_inv m0U k0n f03
 obtain ⟨ls,h1,h2,h3⟩:=c0h H7 (fun x:Lab=>x.1.length<2 ^ 62∧x.2.length<2 ^ 62) 2 n vs hs.1 fun i hi=>by
  obtain ⟨hl,hf⟩:=(he i hi).struct_inv i0T (by simp)
  rw [f03] at hl
  have f0:=hf 9 0 (by simp)
  have f1:=hf 9 1 (by simp)
  rw [l00] at f0 f1
  obtain ⟨a,a1,a2⟩:=f0.str_inv l01
  obtain ⟨b,b1,b2⟩:=f1.str_inv l01
  generalize (vs.drop (i*2)).take 2=w at hl a1 b1
  match w,hl with
  | [c0,c1],_ =>
   simp at a1 b1
   subst a1 b1
   have:=n0t
   exact ⟨(a,b),rfl,Nat.lt_of_le_of_lt a2 this,Nat.lt_of_le_of_lt b2 this⟩
 rw [a0D] at h2
 subst h2
 exact ⟨v,ls,rfl,by rw [h1];exact hs,h3⟩
theorem g0N {h:AH} {l:List AV} (s:TyZ Tryz.prog h 46 l):∃ (v:AV) (sm:List Smp),l=[v]∧Sl h 2 sm.length v (sm.flatMap smC)∧∀ y ∈ sm,(-9223372036854775808≤y.1∧y.1<9223372036854775808)∧y.2<2 ^ 64:=by
 obtain ⟨v,n,vs,rfl,hn,hs,he⟩:=s.slice_inv m0V k0o f04
 obtain ⟨ls,h1,h2,h3⟩:=c0h smC (fun x:Smp=>(-9223372036854775808≤x.1∧x.1<9223372036854775808)∧x.2<2 ^ 64) 2 n vs hs.1 fun i hi=>by
  obtain ⟨hl,hf⟩:=(he i hi).struct_inv i0U (by simp)
  rw [f04] at hl
  have f0:=hf 3 0 (by simp)
  have f1:=hf 49 1 (by simp)
  rw [l0Z] at f0
  rw [k0p] at f1
  obtain ⟨a,a1,a2⟩:=f0.int_inv o0q
  obtain ⟨b,b1,b2⟩:=f1.int_inv m0T
  simp [Lit.wf,IntKind.min,IntKind.max,IntKind.signed] at a2 b2
  generalize (vs.drop (i*2)).take 2=w at hl a1 b1
  match w,hl with
  | [c0,c1],_ =>
   simp at a1 b1
   subst a1 b1
   refine ⟨(a,b.toNat),?_,⟨by show _≤a∧a<_;omega,by show b.toNat<_;omega⟩⟩
   simp only [smC,Int.toNat_of_nonneg b2.1]
 rw [a0D] at h2
 subst h2
 exact ⟨v,ls,rfl,by rw [h1];exact hs,h3⟩
theorem d0O {h:AH} {l:List AV} (s:TyZ Tryz.prog h 22 l):∃ v n,∃ xs:List Sj,l=[v]∧n<2 ^ 62∧Sl h 2 n v (xs.flatMap sjC)∧∀ x ∈ xs,SjIn h x:=by
 obtain ⟨v,n,vs,rfl,hn,hs,he⟩:=s.slice_inv g0M k0m f02
 obtain ⟨xs,h1,h2,h3⟩:=c0h sjC (fun x:Sj=>SjIn h x) 2 n vs hs.1 fun i hi=>by
  obtain ⟨hl,hf⟩:=(he i hi).struct_inv i0S (by simp)
  rw [f02] at hl
  have f0:=hf 45 0 (by simp)
  have f1:=hf 46 1 (by simp)
  rw [k0q] at f0
  rw [k0r] at f1
  obtain ⟨lv0,ls,a1,a2,a3⟩:=h03 f0
  obtain ⟨sv0,sm,b1,b2,b3⟩:=g0N f1
  generalize (vs.drop (i*2)).take 2=w at hl a1 b1
  match w,hl with
  | [y0,y1],_ =>
   simp at a1 b1
   subst a1 b1
   exact ⟨((y0,ls),(y1,sm)),rfl,⟨a2,b2,a3,b3⟩⟩
 rw [a0D] at h2
 subst h2
 have:=n0t
 exact ⟨v,n,xs,rfl,by omega,hs,h3⟩
theorem d0p {H:Type} {enc:TypeId×Value→H} {held:Bool} {W:World} {base:Nat} {b0 b1:Nat} {v0 v1:Value} {d0 d1:DataW H} {p0 p1:List MemPlace}
  (hv0:Value.okWide Tryz.prog W .any b0 22 v0) (hv1:Value.okWide Tryz.prog W .any b1 22 v1)
  (h0:DataW.Trod enc Tryz.prog W base (fun _=>true) held 22 v0 d0 p0) (h1:DataW.Trod enc Tryz.prog W base (fun _=>true) held 22 v1 d1 p1)
  (hw0:∀ n ∈ d0.weights Tryz.prog 22,n≤reachBytes) (hw1:∀ n ∈ d1.weights Tryz.prog 22,n≤reachBytes) :
  Calls Tryz.prog 3 #[v0,v1] W fun e W'=>e=.returned (.bool true)∧Below W.heap.size W W':=by
 obtain ⟨φ1,g1,a0,c0,R1,ro1,le1,f1,t0⟩:=e0o (B:=W.heap.size) (w0:=W) g0M f05 hv0 h0 hw0 (o08 W Tryz.prog.globals.size (ρ:=fun _=>.pointer none)) (ro0 _ _)
 obtain ⟨φ2,g2,a1,c1,R2,ro2,le2,f2,t1⟩:=e0o (B:=W.heap.size) (w0:=W) g0M f05 hv1 h1 hw1 R1 ro1
 obtain ⟨u,n,xs,e1,hn,s1,q1⟩:=d0O t0
 obtain ⟨u2,n2,ys,e2,hn2,s2,q2⟩:=d0O t1
 cases e1
 cases e2
 exact m0k (f:=J3) (args':=[v0,v1]) Tryz.checked.mixed p0Q (p0h _ _) (i0w (s1.fr f2) s2 hn hn2 (fun x hx=>⟨(q1 x hx).lab.fr f2,(q1 x hx).smp.fr f2,(q1 x hx).short,(q1 x hx).rng⟩) q2) (.cons (c0.mono le2) (.cons c1 .nil)) (((m04 Tryz.prog).le le1).le le2) R2
end Go.Proofs.YtnapechhagnmaaaGreatDoor
