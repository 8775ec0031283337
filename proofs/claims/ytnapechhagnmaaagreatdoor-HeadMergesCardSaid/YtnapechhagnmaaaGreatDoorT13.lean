/-
  Texts joined.
-/
import Derived.Test.YtnapechhagnmaaaGreatDoorT12

namespace Go.Dk
open Go Go.Dr
set_option maxRecDepth 100000
def c01 (l:List (List Lab×List Smp)):Nat:=(l.map (·.2.length)).sum
def o09 (h:AH) (l:List (List Lab×List Smp)) (r:AV) (g:AH):Prop :=
 Fr h g∧∃ ys:List Sj,ys.map plJ=b0K l∧JoinI h.next (c01 l) g r ys
theorem f0y (l:List (List Lab×List Smp)) (j:Nat):c01 (l.take j)≤c01 l:=by
 unfold c01
 conv=>rhs;rw [← List.take_append_drop j l]
 rw [List.map_append,List.sum_append]
 omega
theorem j0y {l:List (List Lab×List Smp)} {j:Nat} {x:List Lab×List Smp} (h:l[j]? = some x):c01 (l.take (j+1))=c01 (l.take j)+x.2.length:=by
 unfold c01
 rw [S3 _ _ _ h,List.map_append,List.sum_append]
 simp
theorem e0i {l:List (List Lab×List Smp)} {j:Nat} {x:List Lab×List Smp} (h:l[j]? = some x):b0K (l.take (j+1))=e09 (b0K (l.take j)) x:=by
 rw [b0K,S3 _ _ _ h,List.foldl_append];rfl
theorem e0j:∀ (l:List (List Lab×List Smp)) (ls:List Lab) (ss:List Smp),(C1 l ls ss).length≤l.length+1
 | [],ls,ss=>by simp [C1]
 | y::l,ls,ss=>by
  have:=e0j l ls ss
  unfold C1
  split
  ·simp only [List.length_cons];omega
  ·split <;> simp
theorem k0S (l:List (List Lab×List Smp)) (x:List Lab×List Smp):(e09 l x).length≤l.length+1:=by
 unfold e09;split
 ·omega
 ·exact e0j _ _ _
theorem j0z (l:List (List Lab×List Smp)) (j:Nat):(b0K (l.take j)).length≤j:=by
 induction j with
 | zero=>simp [b0K]
 | succ j ih =>
  by_cases h:j<l.length
  ·obtain ⟨x,hx⟩:=B9 (l:=l) (j:=j) h
   rw [e0i hx]
   have:=k0S (b0K (l.take j)) x
   omega
  ·rw [List.take_of_length_le (by omega)]
   rw [List.take_of_length_le (by omega)] at ih
   omega
theorem g0d {α:Type} (a b:List α) (x y:α) (q:Nat) (h:a.length=q):(a++[x]++b).set q y=a++[y]++b:=by
 subst h;simp
def LtJ (ys:List Sj) (ls:List Lab) (q:Nat):Prop:=∀ i y,i<q→ys[i]? = some y→l8 y.1.2 ls<0
def AtI (ys:List Sj) (ls:List Lab) (q:Nat):Prop:=LtJ ys ls q∧∀ y,ys[q]? = some y→0≤l8 y.1.2 ls
noncomputable def g04:CC :=
 (.loop
 (.seq
  (.ops [
  .row ⟨(some 70),none,.bin .lss d8 false (.t 69) (.t 68)⟩])
  (.seq
  (.cond (.t 70)
   .skip
   (.exit 4))
  (.seq
   (.block 5
   (.seq
    (.ops [
    .row ⟨(some 71),none,.idxV 2 (.t 67) (.t 69)⟩,
    .row ⟨(some 72),none,.loadN 2 (.t 71)⟩,
    .row ⟨(some 8),none,.new [(.int .i64 0),(.int .u64 0)]⟩,
    .row ⟨none,none,.store 2 (.t 8) (.t 72)⟩])
    (.ops [
    .row ⟨(some 73),none,.move (.t 3)⟩,
    .row ⟨(some 74),none,.move (.t 6)⟩,
    .row ⟨(some 75),none,.move (.t 3)⟩,
    .row ⟨(some 76),none,.move (.t 6)⟩,
    .row ⟨(some 77),none,.idxV 2 (.t 75) (.t 76)⟩,
    .row ⟨(some 78),none,.fieldAddr 1 (.t 77)⟩,
    .row ⟨(some 79),none,.load1 (.t 78)⟩,
    .row ⟨(some 80),none,.loadN 2 (.t 8)⟩,
    .stage [⟨(some 80),none,.loadN 2 (.t 8)⟩,⟨(some 79),none,.load1 (.t 78)⟩],
    .row ⟨(some 81),none,.callV (.c (.func (.func V6) [] [])) [(.t 79),(.t 80)]⟩,
    .row ⟨(some 82),none,.idxV 2 (.t 73) (.t 74)⟩,
    .row ⟨(some 83),none,.fieldAddr 1 (.t 82)⟩,
    .row ⟨none,none,.store 1 (.t 83) (.t 81)⟩])))
   (.ops [
   .row ⟨(some 84),none,.bin .add d8 true (.t 69) (.c (.int .i64 1))⟩,
   .row ⟨(some 69),none,.move (.t 84)⟩])))))
theorem n0D {h g:AH} {Q:C0} {σ:Sg} {n j q t:Nat} {v ov u:AV} {ys:List Sj} {y:Sj} {ss:List Smp} (hu:Sl g 2 ss.length u (ss.flatMap smC)) (e67:σ 67=u) (e68:σ 68=.int .i64 (ss.length:Int)) (e69:σ 69=.int .i64 0) (e3:σ 3=ov) (e6:σ 6=.int .i64 (q:Int))
  (e9:σ 9=v) (e10:σ 10=.int .i64 (n:Int)) (e11:σ 11=.int .i64 (j:Int)) (hI:JoinI h.next t g ov ys) (hF:Fr h g) (hy:ys[q]? = some y) (hss:t+ss.length≤2 ^ 20) (hus:∀ i,k7 u=some i→i<h.next)
  (hQ:∀ σ' g' ys',σ' 3=ov→σ' 9=v→σ' 10=.int .i64 (n:Int)→σ' 11=.int .i64 (j:Int)→Fr h g'→JoinI h.next (t+ss.length) g' ov ys'→ys'.map plJ=(ys.map plJ).set q (y.1.2,ss.foldl B8 y.2.2)→Q (.exit 4) σ' [] g') :
  wpC P SI g04 Q σ [] g:=by
 refine F6 (n:=ss.length) (by rfl) (fun i σ' ds g'=>ds=[]∧σ' 67=u∧σ' 68=.int .i64 (ss.length:Int)∧σ' 3=ov∧σ' 6=.int .i64 (q:Int)∧σ' 9=v∧σ' 10=.int .i64 (n:Int)∧σ' 11=.int .i64 (j:Int)∧Fr h g'∧FrB h.next g g' ∧
  ∃ r,JoinI h.next (t+i) g' ov (ys.set q (y.1,(r,(ss.take i).foldl B8 y.2.2)))) (by omega) e69 ⟨rfl,e67,e68,e3,e6,e9,e10,e11,hF,.refl _ _,y.2.1,by
   have:ys.set q (y.1,(y.2.1,(ss.take 0).foldl B8 y.2.2))=ys:=by
    simp only [List.take_zero,List.foldl_nil]
    obtain ⟨h1,h2⟩:=List.getElem?_eq_some_iff.1 hy
    show ys.set q y=ys
    rw [← h2];exact List.set_getElem_self _
   rw [this];exact hI⟩ (fun j σ ds g hJ=>hJ.2.2.1) ?_ ?_
 ·rintro i σ' ds g' hi hi9 ⟨rfl,e67,e68,e3,e6,e9,e10,e11,F,fb,r,hJ⟩
  obtain ⟨s,hs⟩:=B9 (l:=ss) (j:=i) hi
  have hq:=(List.getElem?_eq_some_iff.1 hy).1
  have hu':=a0d hu fb.next (fun k hk=>fb.get k (hus k hk))
  obtain ⟨i1,o1,b1,b2,_⟩:=f0G hu' hs
  have stn:=A7 (h:=g') (n:=2) (z:=[.int .i64 0,.int .u64 0]) (l:=smC s) rfl rfl rfl
  have fp:=Fr.push (.refl g') (.cells (smC s) false)
  have ge:(g'.push (.cells (smC s) false)).get g'.next=some (.cells (smC s) false):=a8 _
  have gn:(g'.push (.cells (smC s) false)).next=g'.next+1:=rfl
  have hJ1:=hJ.fr fp
  generalize hz:(y.1,(r,(ss.take i).foldl B8 y.2.2))=z at *
  have hyz:(ys.set q z)[q]? = some z:=by simp [hq]
  generalize hg1:g'.push (.cells (smC s) false)=g1 at *
  have mn:loadN g1 g'.next 0 2=.ok (smC s):=w9 ge rfl
  have agv:G5 12 (.agg (smC s)) (.agg (smC s))=true:=e0Z s
  obtain ⟨z1,_,_,z4,z5,_⟩:=hJ1.el z (List.mem_of_getElem? hyz)
  obtain ⟨i2,o2,c1,_,_,c2,_⟩:=d0w hJ1.own.sl hyz
  have hrs:=z1.smp.same
  simp [e67,hi9,b1,w8,b2,stn,hg1,e3,e6,c1,c2,mn,agv,hrs]
  refine (j06 z1.smp z4 (by omega)).mono ?_
  intro r' g2 hr
  obtain ⟨i3,o3,g3,d1,d2,d3,d4,d5,d6⟩:=k00 hJ1 hyz hr
  rw [c1] at d1
  cases d1
  have hrc:=hr.2.sl.oneCell
  simp [c1,hrc.1,d2,e67,e68,e3,e6,e9,e10,e11,hi9]
  have fb3:FrB h.next g g3:=fb.trans ((fp.b (by have:=F.next;omega)).trans ((hr.1.b (by have:=F.next;omega)).trans d4))
  refine ⟨⟨by have:=fb3.next;have:=hF.next;omega,fun k hk=>by rw [fb3.get k hk,hF.get k hk]⟩,fb3,r',?_⟩
  have e:B8 z.2.2 s=(ss.take (i+1)).foldl B8 y.2.2:=by rw [S3 _ _ _ hs,List.foldl_append,← hz];rfl
  rw [List.set_set,e,← hz,show t+i+1=t+(i+1) from by omega] at d3
  exact d3
 ·rintro σ' ds g' ⟨rfl,e67,e68,e3,e6,e9,e10,e11,F,fb,r,hJ⟩
  rw [List.take_of_length_le (Nat.le_refl _)] at hJ
  refine hQ _ g' _ (by simp [e3]) (by simp [e9]) (by simp [e10]) (by simp [e11]) F hJ ?_
  rw [List.map_set];rfl
theorem i0d {h:AH} {n:Nat} {v:AV} {xs:List Sj} (s:Sl h 2 n v (xs.flatMap sjC)) (hn:n≤2 ^ 20) (he:∀ x ∈ xs,SjOk h x) (ht:c01 (xs.map plJ)≤2 ^ 20) (hl61:∀ x ∈ xs,x.1.2.length≤2 ^ 30) :
  Ev P SI (.fn a0i) [v] h (o09 h (xs.map plJ)):=by
 refine o9 g0q rfl rfl ?_
 have hl:xs.length=n:=by have:=s.1;rw [a0e] at this;omega
 simp [c0y,s.len]
 refine F6 (n:=n) (by rfl) (fun j σ ds g=>ds=[]∧σ 9=v∧σ 10=.int .i64 (n:Int)∧Fr h g∧∃ ys:List Sj,ys.map plJ=b0K ((xs.map plJ).take j)∧JoinI h.next (c01 ((xs.map plJ).take j)) g (σ 3) ys) (by omega) (by simp)
  ⟨rfl,by simp,by simp,.refl _,[],rfl,by simpa using ⟨by simpa using Own.nil _ _,fun y hy=>by simp at hy⟩⟩ (fun j σ ds g hJ=>by simp [hJ.2.2.1]) ?_ ?_
 ·rintro j σ ds g hj hi ⟨rfl,e9,e10,F,ys,hys,hI⟩
  obtain ⟨x,hx⟩:=B9 (l:=xs) (j:=j) (by omega)
  have hxm:=List.mem_of_getElem? hx
  have hx':(xs.map plJ)[j]? = some (plJ x):=by simp [hx]
  have hok:=he x hxm
  obtain ⟨id,o,a1,a2,_⟩:=d0w (s.fr F) hx
  have hlc:=hok.lab.oneCell
  have hscc:=hok.smp.oneCell
  have stn:=A7 (h:=g) (n:=2) (z:=[.nils,.nils]) (l:=sjC x) rfl rfl (by simp [sjC,a7,hlc.2,hscc.2])
  have fp:=Fr.push (.refl g) (.cells (sjC x) false)
  have ge:(g.push (.cells (sjC x) false)).get g.next=some (.cells (sjC x) false):=a8 _
  have gn:(g.push (.cells (sjC x) false)).next=g.next+1:=rfl
  have hyl:ys.length≤j:=by have h1:=j0z (xs.map plJ) j;rw [← hys] at h1;simpa using h1
  have htj:=f0y (xs.map plJ) j
  have htj1:=f0y (xs.map plJ) (j+1)
  have hts:=j0y hx'
  have hjs:=e0i hx'
  rw [← hys] at hjs
  generalize c01 ((xs.map plJ).take j)=t at *
  obtain ⟨ov,hov⟩:∃ ov,σ 3=ov:=⟨_,rfl⟩
  rw [hov] at hI
  have hovid:∀ i,k7 ov=some i→i<g.next:=fun i e=>Sl.idLt hI.own.sl e
  simp [e9,hi,a1,w8,a2,stn]
  generalize hg1:g.push (.cells (sjC x) false)=g1 at *
  have m1:load1 g1 g.next 1=.ok x.2.1:=c9 ge
  have sj1:(sjC x)[1]? = some x.2.1:=rfl
  have ok1:=(hok.fr F).fr fp
  by_cases h0:x.2.2.length=0
  ·have hx0:e09 (ys.map plJ) (plJ x)=ys.map plJ:=by unfold e09;exact if_pos (List.length_eq_zero_iff.1 h0)
   rw [hx0] at hjs
   have hxl:(plJ x).2.length=0:=h0
   simp [sj1,ok1.smp.len,h0,e9,e10,hov,hi]
   refine ⟨F.trans fp,ys,hjs.symm,?_⟩
   rw [hts,hxl]
   exact hI.fr fp
  have h0':¬ x.2.2=[]:=fun e=>h0 (by rw [e];rfl)
  have hx0:e09 (ys.map plJ) (plJ x)=C1 (ys.map plJ) x.1.2 x.2.2:=if_neg h0'
  rw [hx0] at hjs
  simp [sj1,ok1.smp.len,h0]
  refine a0z (Q:=fun x' σ' ds g'=>x'=.exit 2∧ds=[]∧g'=g1∧σ' 9=v∧σ' 10=.int .i64 (n:Int)∧σ' 11=.int .i64 (j:Int)∧σ' 5=.ptr g.next 0∧σ' 3=ov∧∃ q:Nat,σ' 6=.int .i64 (q:Int)∧q≤ys.length∧AtI ys x.1.2 q) ?_ ?_
  ·refine d0m (fun r σ' ds g'=>∃ q:Nat,r+q=ys.length∧ds=[]∧g'=g1∧σ' 9=v∧σ' 10=.int .i64 (n:Int)∧σ' 11=.int .i64 (j:Int)∧σ' 5=.ptr g.next 0∧σ' 3=ov∧σ' 6=.int .i64 (q:Int)∧LtJ ys x.1.2 q) ys.length
    ⟨0,by omega,rfl,rfl,by simp [e9],by simp [e10],by simp [hi],by simp,by simp [hov],by simp,fun i y hi=>by omega⟩ ?_
   rintro r σ' ds g' ⟨q,hr,rfl,rfl,e9,e10,e11,e5,e3,e6,hlt⟩
   have m0:load1 g' g.next 0=.ok x.1.1:=c9 ge
   have hxs:=ok1.lab.same
   by_cases hq:q<ys.length
   ·obtain ⟨y,hy⟩:=B9 (l:=ys) (j:=q) hq
    obtain ⟨y1,_,_,_,_,y6⟩:=hI.el y (List.mem_of_getElem? hy)
    have y1:=y1.fr fp
    obtain ⟨i1,o1,b1,_,b2,_⟩:=d0w (hI.own.sl.fr fp) hy
    have hys2:=y1.lab.same
    have cp:=fun K=>b0M y1.lab ok1.lab (by omega) (by have:=hl61 x hxm;omega) K
    have w1:v7 .i64 ((q:Int)+1)=((q+1:Nat):Int):=by rw [wrap_i64 (by omega) (by omega)];omega
    by_cases hc:l8 y.1.2 x.1.2<0
    ·have hcn:=hc
     generalize l8 y.1.2 x.1.2=cm at hc cp
     simp [e3,e6,e5,(hI.own.sl.fr fp).len,hq,b1,b2,m0,hxs,hys2,cp,hc,w1,F5]
     refine ⟨r - 1,by omega,q+1,by omega,e9,e10,e11,by omega,fun i z hi hz=>?_⟩
     by_cases hiq:i=q
     ·subst hiq;rw [hy] at hz;cases hz;exact hcn
     ·exact hlt i z (by omega) hz
    ·have hcn:=hc
     generalize l8 y.1.2 x.1.2=cm at hc cp
     simp [e3,e6,e5,(hI.own.sl.fr fp).len,hq,b1,b2,m0,hxs,hys2,cp,hc]
     exact ⟨e9,e10,e11,q,rfl,by omega,hlt,fun z hz=>by rw [hy] at hz;cases hz;omega⟩
   ·simp [e3,e6,e5,(hI.own.sl.fr fp).len,hq]
    exact ⟨e9,e10,e11,q,rfl,by omega,hlt,fun z hz=>absurd (List.getElem?_eq_some_iff.1 hz).1 hq⟩
  rintro x' σ' ds g' ⟨rfl,rfl,rfl,e9,e10,e11,e5,e3,q,e6,hq,hlt,hge⟩
  have m0:load1 g' g.next 0=.ok x.1.1:=c9 ge
  have hxs:=ok1.lab.same
  have hI1:=hI.fr fp
  have hxid:∀ i,k7 x.2.1=some i→i<h.next:=fun i hi=>Sl.idLt hok.smp hi
  have ltm:∀ i y,i<q→(ys.map plJ)[i]? = some y→l8 y.1 x.1.2<0:=fun i y hi hy=>by
   rw [List.getElem?_map] at hy
   obtain ⟨z,hz,rfl⟩:=Option.map_eq_some_iff.1 hy
   exact hlt i z hi hz
  have hF1:=F.trans fp
  have hxl:(plJ x).2=x.2.2:=rfl
  have fin:∀ (σ2:Sg) (g2:AH) (ov2:AV) (ys2:List Sj) (y:Sj),σ2 67=x.2.1→σ2 68=.int .i64 (x.2.2.length:Int)→σ2 69=.int .i64 0→σ2 3=ov2→σ2 6=.int .i64 (q:Int)→σ2 9=v→σ2 10=.int .i64 (n:Int)→σ2 11=.int .i64 (j:Int)→Fr h g2 →
    JoinI h.next t g2 ov2 ys2→ys2[q]? = some y→(ys2.map plJ).set q (y.1.2,x.2.2.foldl B8 y.2.2)=C1 (ys.map plJ) x.1.2 x.2.2→∀ Q:C0,
    (∀ σ' g' ys',σ' 9=v→σ' 10=.int .i64 (n:Int)→σ' 11=.int .i64 (j:Int)→Fr h g'→ys'.map plJ=b0K ((xs.map plJ).take (j+1))→JoinI h.next (c01 ((xs.map plJ).take (j+1))) g' (σ' 3) ys'→Q (.exit 4) σ' [] g')→wpC P SI g04 Q σ2 [] g2:=by
   intro σ2 g2 ov2 ys2 y k67 k68 k69 k3 k6 k9 k10 k11 F2 hI2 hy hr Q hQ
   refine n0D (h:=h) (hok.smp.fr F2) k67 k68 k69 k3 k6 k9 k10 k11 hI2 F2 hy (by rw [hts] at htj1;rw [hxl] at htj1;omega) hxid ?_
   intro σ' g' ys' p3 p9 p10 p11 F' hI' he'
   refine hQ σ' g' ys' p9 p10 p11 F' (by rw [hjs,he',hr]) ?_
   rw [p3,hts];exact hI'
  by_cases hq1:q<ys.length
  ·obtain ⟨y,hy⟩:=B9 (l:=ys) (j:=q) hq1
   obtain ⟨y1,_,_,_,_,y6⟩:=hI.el y (List.mem_of_getElem? hy)
   have y1:=y1.fr fp
   obtain ⟨i1,o1,b1,_,b2,_⟩:=d0w hI1.own.sl hy
   have hys2:=y1.lab.same
   have cp:=fun K=>b0M y1.lab ok1.lab (by omega) (by have:=hl61 x hxm;omega) K
   have hne:¬ (q:Int)=(ys.length:Int):=by omega
   have hge:=hge y hy
   by_cases hc:l8 y.1.2 x.1.2=0
   ·have hr:C1 (ys.map plJ) x.1.2 x.2.2=(ys.map plJ).set q (y.1.2,x.2.2.foldl B8 y.2.2):=e0t (ys.map plJ) x.1.2 x.2.2 q (plJ y) (by simp [hy]) hc ltm
    generalize l8 y.1.2 x.1.2=cm at hc cp
    simp [e3,e6,e5,hI1.own.sl.len,hne,b1,b2,m0,hxs,hys2,cp,hc,m1,ok1.smp.len]
    refine fin _ g' ov ys y (by simp) (by simp) (by simp) (by simp [e3]) (by simp [e6]) (by simp [e9]) (by simp [e10]) (by simp [e11]) hF1 hI1 hy hr.symm _ ?_
    intro σ' g' ys' p9 p10 p11 F' he' hI'
    simp [p9,p10,p11]
    exact ⟨F',ys',he',hI'⟩
   ·have hcn:=hc
    have hr:C1 (ys.map plJ) x.1.2 x.2.2=_:=c0t (ys.map plJ) x.1.2 x.2.2 q (by simp;omega) (fun z hz=>by
     rw [List.getElem?_map,hy] at hz
     cases hz
     show 0<l8 y.1.2 x.1.2
     omega) ltm
    generalize l8 y.1.2 x.1.2=cm at hc cp
    simp [e3,e6,e5,hI1.own.sl.len,hne,b1,b2,m0,hxs,hys2,cp,hc,m1,ok1.smp.len]
    obtain ⟨u,w,v1,g1',f1,f2,f3,F1,fk⟩:=h0u (ls:=x.1.2) hI1 hq (by have:=hF1.next;omega) (by omega) (hl61 x hxm)
    have q0:load1 (g'.push (.cells [] false)) g.next 0=.ok x.1.1:=c9 ((b9 (show g.next≠g'.next by omega)).trans ge)
    have q1:load1 g1' g.next 0=.ok x.1.1:=c9 ((F1.get g.next (by omega)).trans ge)
    simp [e5,e3,e6,f1,f2,f3,q0,q1,hxs]
    refine (e0D (ok1.lab.fr F1) (hl61 x hxm)).mono ?_
    rintro lv g2 ⟨f5,ol⟩
    obtain ⟨v3,g3,v4,g4,c3,c4,F4,hI4,hid4⟩:=fk lv g2 f5 ol
    have lvc:=ol.sl.oneCell
    have q4:load1 g4 g.next 1=.ok x.2.1:=c9 ((F4.get g.next (by omega)).trans ge)
    simp [e5,u6,lvc.1,c3,c4,q4,(ok1.smp.fr F4).len]
    refine fin _ g4 v4 _ ((lv,x.1.2),(.nils,[])) (by simp) (by simp) (by simp) (by simp) (by simp [e6]) (by simp [e9]) (by simp [e10]) (by simp [e11]) (hF1.trans F4) hI4 ?_ ?_ _ ?_
    ·rw [List.append_assoc,List.getElem?_append_right (by simp;omega)]
     simp [Nat.min_eq_left hq]
    ·rw [hr,List.map_append,List.map_append,List.map_take,List.map_drop]
     exact g0d _ _ _ _ _ (by simp;omega)
    intro σ' g' ys' p9 p10 p11 F' he' hI'
    simp [p9,p10,p11]
    exact ⟨F',ys',he',hI'⟩
  ·have hqe:q=ys.length:=by omega
   have hr:C1 (ys.map plJ) x.1.2 x.2.2=_:=c0t (ys.map plJ) x.1.2 x.2.2 q (by simp;omega) (fun z hz=>by
    have:=(List.getElem?_eq_some_iff.1 hz).1
    rw [List.length_map] at this
    omega) ltm
   have hee:(q:Int)=(ys.length:Int):=by omega
   simp [e3,e6,e5,hI1.own.sl.len,hee]
   rw [← hee]
   obtain ⟨u,w,v1,g1',f1,f2,f3,F1,fk⟩:=h0u (ls:=x.1.2) hI1 hq (by have:=hF1.next;omega) (by omega) (hl61 x hxm)
   have q0:load1 (g'.push (.cells [] false)) g.next 0=.ok x.1.1:=c9 ((b9 (show g.next≠g'.next by omega)).trans ge)
   have q1:load1 g1' g.next 0=.ok x.1.1:=c9 ((F1.get g.next (by omega)).trans ge)
   simp [e5,e3,e6,f1,f2,f3,q0,q1,hxs]
   refine (e0D (ok1.lab.fr F1) (hl61 x hxm)).mono ?_
   rintro lv g2 ⟨f5,ol⟩
   obtain ⟨v3,g3,v4,g4,c3,c4,F4,hI4,hid4⟩:=fk lv g2 f5 ol
   have lvc:=ol.sl.oneCell
   have q4:load1 g4 g.next 1=.ok x.2.1:=c9 ((F4.get g.next (by omega)).trans ge)
   simp [e5,u6,lvc.1,c3,c4,q4,(ok1.smp.fr F4).len]
   refine fin _ g4 v4 _ ((lv,x.1.2),(.nils,[])) (by simp) (by simp) (by simp) (by simp) (by simp [e6]) (by simp [e9]) (by simp [e10]) (by simp [e11]) (hF1.trans F4) hI4 ?_ ?_ _ ?_
   ·rw [List.append_assoc,List.getElem?_append_right (by simp;omega)]
    simp [Nat.min_eq_left hq]
   ·rw [hr,List.map_append,List.map_append,List.map_take,List.map_drop]
    exact g0d _ _ _ _ _ (by simp;omega)
   intro σ' g' ys' p9 p10 p11 F' he' hI'
   simp [p9,p10,p11]
   exact ⟨F',ys',he',hI'⟩
 ·rintro σ ds g ⟨rfl,e9,e10,F,ys,hys,hI⟩
  rw [List.take_of_length_le (by simp;omega)] at hys hI
  simp
  exact ⟨F,ys,hys,hI⟩
end Go.Dk
