/-
  Texts joined.
-/
import Derived.Test.YtnapechhagnmaaaGreatDoorT18

namespace Go.Dk
open Go Go.Dr
set_option maxRecDepth 100000
theorem j0V:P.eqGuardType P.depth Q2=false:=by kernel_rfl
theorem n01 (a b c d:Txt):S2 P 20 Q2 (.agg [.str a,.str b]) (.agg [.str c,.str d]) =
  (match (.ok (a == c):R Bool) with | .ok true=>(match (.ok (b == d):R Bool) with | .ok true=>.ok true | .ok false=>.ok false | .error e=>.error e) | .ok false=>.ok false | .error e=>.error e):=by kernel_rfl
theorem m0C (a b:Txt) (lit:Bool):m9 P .neq Q2 lit (.agg [.str a,.str b]) (.agg [.str a,.str b])=.ok (.bool false):=by
 have h:=n01 a b a b
 simp at h
 simp [m9,a0X,j0V,h,a0q]
theorem l0d (a b:Txt):I6 12 (.agg [.str a,.str b]) (.agg [.str a,.str b])=true:=by
 show Bool.and (decide (a=a)) (Bool.and (decide (b=b)) true)=true
 simp
theorem g0E {h:AH} {n:Nat} {va vb:AV} {l:List Lab} (sa:Sl h 2 n va (l.flatMap M2)) (sb:Sl h 2 n vb (l.flatMap M2)) (hn:n<2 ^ 62) (K:AV→AH→Prop) :
  Ev P SI (.fn p8) [va,vb] h K=K (.bool true) h:=by
 refine Ev.eq (m6 K2 rfl rfl ?_) K
 have hl:=b0Q sa
 simp [B2,sa.len,sb.len]
 refine E8 (n:=n) (by rfl) (fun j σ ds g=>ds=[]∧σ 0=va∧σ 1=vb∧σ 12=.int .i64 (n:Int)∧g=h) (by omega) (by simp) (by simp) (fun j σ ds g hJ=>by simp [hJ.2.2.2.1]) ?_ ?_
 ·rintro j σ ds g hj hi ⟨rfl,e0,e1,e12,rfl⟩
  obtain ⟨⟨nm,vl⟩,hx⟩:=J4 (l:=l) (j:=j) (by omega)
  obtain ⟨i1,o1,a1,a2,_⟩:=e0t sa (k:=.i64) (i:=(j:Int)) rfl hx
  obtain ⟨i2,o2,b1,b2,_⟩:=e0t sb (k:=.i64) (i:=(j:Int)) rfl hx
  simp only at a2 b2
  simp [e0,e1,e12,hi,a1,a2,b1,b2,B4,m0C,l0d]
 ·rintro σ ds g ⟨rfl,e0,e1,e12,rfl⟩
  simp
theorem j0W:P.eqGuardType P.depth T3=false:=by kernel_rfl
theorem n02 (a b c d:Int):S2 P 20 T3 (.agg [.int .i64 a,.int .u64 b]) (.agg [.int .i64 c,.int .u64 d]) =
  (match (.ok (a == c):R Bool) with | .ok true=>(match (.ok (b == d):R Bool) with | .ok true=>.ok true | .ok false=>.ok false | .error e=>.error e) | .ok false=>.ok false | .error e=>.error e):=by kernel_rfl
theorem m0D (s:Smp) (lit:Bool):m9 P .neq T3 lit (.agg (smC s)) (.agg (smC s))=.ok (.bool false):=by
 have h:=n02 s.1 s.2 s.1 s.2
 simp at h
 simp [smC,m9,a0X,j0W,h,a0q]
theorem f0C {h:AH} {n:Nat} {va vb:AV} {l:List Smp} (sa:Sl h 2 n va (l.flatMap smC)) (sb:Sl h 2 n vb (l.flatMap smC)) (hn:n<2 ^ 62) (K:AV→AH→Prop) :
  Ev P SI (.fn o7) [va,vb] h K=K (.bool true) h:=by
 refine Ev.eq (m6 I1 rfl rfl ?_) K
 have hl:=m0R sa
 simp [y9,sa.len,sb.len]
 refine E8 (n:=n) (by rfl) (fun j σ ds g=>ds=[]∧σ 0=va∧σ 1=vb∧σ 12=.int .i64 (n:Int)∧g=h) (by omega) (by simp) (by simp) (fun j σ ds g hJ=>by simp [hJ.2.2.2.1]) ?_ ?_
 ·rintro j σ ds g hj hi ⟨rfl,e0,e1,e12,rfl⟩
  obtain ⟨s,hx⟩:=J4 (l:=l) (j:=j) (by omega)
  obtain ⟨i1,o1,a1,a2,_⟩:=l0I sa hx
  obtain ⟨i2,o2,b1,b2,_⟩:=l0I sb hx
  have q:=m0l s
  have nq:=m0D s
  simp [e0,e1,e12,hi,a1,a2,b1,b2,B4,nq,q]
 ·rintro σ ds g ⟨rfl,e0,e1,e12,rfl⟩
  simp
theorem n03 {h:AH} {x y:Sj} (hx:SjOk h x) (hy:SjOk h y) (e:plJ x=plJ y) (hl:x.1.2.length<2 ^ 62) (hs:x.2.2.length<2 ^ 62):Ev P SI (.fn C3) [.agg (sjC x),.agg (sjC y)] h fun r g=>r=.bool true∧Fr h g:=by
 obtain ⟨⟨a,la⟩,u,ua⟩:=x
 obtain ⟨⟨b,lb⟩,w,wa⟩:=y
 simp only [plJ,Prod.mk.injEq] at e hl hs
 obtain ⟨rfl,rfl⟩:=e
 refine m6 b0A rfl rfl ?_
 have f1:=Fr.push (.refl h) (.cells [a,u] false)
 have f2:=f1.push (.cells [b,w] false)
 have gx:((h.push (.cells [a,u] false)).push (.cells [b,w] false)).get h.next=some (.cells [a,u] false):=by
  rw [c9 (Nat.ne_of_lt (Nat.lt_succ_self _)),a7]
 have gy:((h.push (.cells [a,u] false)).push (.cells [b,w] false)).get (h.next+1)=some (.cells [b,w] false):=a7 _
 obtain ⟨g1,hg1⟩:∃ g1,g1=h.push (.cells [a,u] false):=⟨_,rfl⟩
 have n1:g1.next=h.next+1:=by rw [hg1];rfl
 obtain ⟨g,hg⟩:∃ g,g=g1.push (.cells [b,w] false):=⟨_,rfl⟩
 rw [← hg1] at f1 f2 gx gy
 rw [← hg] at f2 gx gy
 have x0:load1 g h.next 0=.ok a:=d6 gx
 have x1:load1 g h.next 1=.ok u:=d6 gx
 have y0:load1 g (h.next+1) 0=.ok b:=d6 gy
 have y1:load1 g (h.next+1) 1=.ok w:=d6 gy
 have el:=g0E (hx.lab.fr f2) (hy.lab.fr f2) hl
 have es:=f0C (hx.smp.fr f2) (hy.smp.fr f2) hs
 simp [Q7,sjC,O3,← hg1,n1,← hg,x0,x1,y0,y1,el,es]
 exact f2
theorem h0t {h:AH} {n:Nat} {va vb:AV} {xs ys:List Sj} (sa:Sl h 2 n va (xs.flatMap sjC)) (sb:Sl h 2 n vb (ys.flatMap sjC)) (hn:n<2 ^ 62)
  (hx:∀ x ∈ xs,SjOk h x∧x.1.2.length<2 ^ 62∧x.2.2.length<2 ^ 62) (hy:∀ x ∈ ys,SjOk h x) (he:xs.map plJ=ys.map plJ) :
  Ev P SI (.fn J9) [va,vb] h fun r g=>r=.bool true∧Fr h g:=by
 refine m6 c0s rfl rfl ?_
 simp [W0]
 refine m6 u0 rfl rfl ?_
 have hl:xs.length=n:=by have:=sa.1;rw [g0P] at this;omega
 have hl2:ys.length=n:=by have:=sb.1;rw [g0P] at this;omega
 simp [j9,sa.len,sb.len]
 refine E8 (n:=n) (by rfl) (fun j σ ds g=>ds=[]∧σ 0=va∧σ 15=va∧σ 1=vb∧σ 2=.func (.func C3) [] []∧σ 16=.int .i64 (n:Int)∧Fr h g) (by omega) (by simp) ⟨rfl,by simp,by simp,by simp,by simp,by simp,.refl _⟩ (fun j σ ds g hJ=>by simp [hJ.2.2.2.2.2.1]) ?_ ?_
 ·rintro j σ ds g hj hi ⟨rfl,e0,e15,e1,e2,e16,F⟩
  obtain ⟨x,hxj⟩:=J4 (l:=xs) (j:=j) (by omega)
  obtain ⟨y,hyj⟩:=J4 (l:=ys) (j:=j) (by omega)
  obtain ⟨hx1,hx2,hx3⟩:=hx x (List.mem_of_getElem? hxj)
  have hy1:=hy y (List.mem_of_getElem? hyj)
  have hxy:plJ x=plJ y:=by
   have h1:(xs.map plJ)[j]? = some (plJ x):=by rw [List.getElem?_map,hxj];rfl
   have h2:(ys.map plJ)[j]? = some (plJ y):=by rw [List.getElem?_map,hyj];rfl
   rw [he,h2] at h1
   exact (Option.some.inj h1).symm
  obtain ⟨i1,o1,a1,a2,_⟩:=l0s (sa.fr F) hxj
  have hcx:=(hx1.fr F)
  have hcy:=(hy1.fr F)
  have st1:=E0 (h:=g) (n:=2) (z:=[.nils,.nils]) (l:=sjC x) rfl rfl (by simp [sjC,b9,hcx.lab.oneCell.2,hcx.smp.oneCell.2])
  obtain ⟨g1,hg1⟩:∃ g1,g1=g.push (.cells (sjC x) false):=⟨_,rfl⟩
  have f1:Fr g g1:=by rw [hg1];exact Fr.push (.refl g) _
  obtain ⟨i2,o2,b1,b2,_⟩:=l0s ((sb.fr F).fr f1) hyj
  have st2:=E0 (h:=g1) (n:=2) (z:=[.nils,.nils]) (l:=sjC y) rfl rfl (by simp [sjC,b9,hcy.lab.oneCell.2,hcy.smp.oneCell.2])
  obtain ⟨g2,hg2⟩:∃ g2,g2=g1.push (.cells (sjC y) false):=⟨_,rfl⟩
  have f2:Fr g1 g2:=by rw [hg2];exact Fr.push (.refl g1) _
  have n1:g1.next=g.next+1:=by rw [hg1];rfl
  rw [← hg1] at st1
  rw [← hg2] at st2
  have lx:loadN g2 g.next 0 2=.ok (sjC x):=G6 (vs:=sjC x) (ro:=false) (by rw [f2.get _ (by omega),hg1];exact a7 _) rfl
  have ly:loadN g2 g1.next 0 2=.ok (sjC y):=G6 (vs:=sjC y) (ro:=false) (by rw [hg2];exact a7 _) rfl
  simp [e0,e15,e1,e2,e16,hi,a1,a2,b1,b2,B4,st1,st2,lx,ly]
  refine (n03 ((hx1.fr F).fr (f1.trans f2)) ((hy1.fr F).fr (f1.trans f2)) hxy hx2 hx3).mono ?_
  rintro r g3 ⟨rfl,f3⟩
  simp [e0,e15,e1,e2,e16,hi]
  exact F.trans (f1.trans (f2.trans f3))
 ·rintro σ ds g ⟨rfl,e0,e15,e1,e2,e16,F⟩
  simp
  exact F
end Go.Dk

namespace Go.Dk
open Go Go.Dr
set_option maxRecDepth 100000
theorem j0G:∀ {L:List Pt2} {ls:List Lab} {s:Smp} {k:Nat},(∀ x ∈ L,x.2.length≤k)→∀ x ∈ J8 L ls [s],x.2.length≤k+1
 | [],ls,s,k,_,x,hx=>by
  simp only [J8,List.foldl_cons,List.foldl_nil,List.mem_singleton] at hx
  subst hx
  have:=d0c [] s
  simp at this ⊢;omega
 | y::L,ls,s,k,h,x,hx=>by
  have h0:=d0c [] s
  have h1:=d0c y.2 s
  have h2:=h y List.mem_cons_self
  have h3:=fun z hz=>h z (List.mem_cons_of_mem y hz)
  simp at h0
  simp only [J8,List.foldl_cons,List.foldl_nil] at hx
  split at hx
  ·rcases List.mem_cons.1 hx with rfl | hx
   ·omega
   ·exact j0G h3 x hx
  ·split at hx
   ·rcases List.mem_cons.1 hx with rfl | hx
    ·simp only;omega
    ·have:=h3 x hx;omega
   ·rcases List.mem_cons.1 hx with rfl | hx
    ·simp only;omega
    ·have:=h x hx;omega
theorem a0U:∀ (rs:List Rw) {L:List Pt2} {k m:Nat},(∀ x ∈ L,x.2.length≤k∧x.1.length≤m)→(∀ r ∈ rs,r.1.length≤m)→∀ x ∈ rs.foldl F9 L,x.2.length≤k+rs.length∧x.1.length≤m
 | [],L,k,m,h,_,x,hx=>h x hx
 | r::rs,L,k,m,h,hr,x,hx=>by
  have:=a0U rs (L:=F9 L r) (k:=k+1) (m:=m) (fun y hy=>⟨j0G (fun z hz=>(h z hz).1) y hy,by
   rcases d0z hy with e | e
   ·rw [e];exact hr r List.mem_cons_self
   ·exact (h y e).2⟩) (fun z hz=>hr z (List.mem_cons_of_mem _ hz)) x hx
  simp only [List.length_cons]
  exact ⟨by omega,this.2⟩
theorem c0Y:∀ (rs:List Rw) (L:List Pt2),(rs.foldl F9 L).length≤L.length+rs.length
 | [],L=>Nat.le_refl _
 | r::rs,L=>by
  have h1:=c0Y rs (F9 L r)
  have h2:=h0A L r.1 [r.2]
  have h3:(F9 L r).length=(J8 L r.1 [r.2]).length:=rfl
  rw [List.foldl_cons,List.length_cons]
  omega
theorem f0e {k:Nat}:∀ {l:List Pt2},(∀ x ∈ l,x.2.length≤k)→(I5 l).length≤l.length*k
 | [],_=>by simp [I5]
 | x::l,h=>by
  have h1:=h x List.mem_cons_self
  have h2:=f0e (l:=l) fun y hy=>h y (List.mem_cons_of_mem _ hy)
  unfold I5 at *
  rw [List.flatMap_cons,List.length_append,List.length_map,List.length_cons,Nat.add_mul]
  omega
end Go.Dk
