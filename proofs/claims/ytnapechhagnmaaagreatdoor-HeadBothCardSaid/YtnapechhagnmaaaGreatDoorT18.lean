/-
  Texts joined.
-/
import Derived.Test.YtnapechhagnmaaaGreatDoorT17

namespace Go.Dk
open Go Go.Dr
set_option maxRecDepth 100000
theorem h0D {h:AH} (K:AV→AH→Prop):Ev P SI (.fn O5) [] h K=K (.ptr h.next 0) (h.push (.cells [.bool true,.nils] false)):=by
 refine Ev.eq (m6 i0Y rfl rfl ?_) K
 simp [e06,O3,L5]
theorem g0M (h:AH):HeadOk h.next 0 (h.push (.cells [.bool true,.nils] false)) h.next .nils [] :=
 ⟨Nat.lt_succ_self _,a7 _,.inl ⟨rfl,rfl⟩,fun x hx=>(by cases hx),fun x hx=>(by cases hx),List.nodup_nil,List.Pairwise.nil,Nat.le_refl _⟩
theorem j08 {l:List Pt2} {j:Nat} {x:Pt2} (h:l[j]? = some x):I5 (l.take (j+1))=I5 (l.take j)++x.2.map fun s=>(x.1,s):=by
 unfold I5
 rw [b0R _ _ _ h,List.flatMap_append];simp
theorem m0K (l:List Pt2) (j:Nat):(I5 (l.take j)).length≤(I5 l).length:=by
 have:I5 (l.take j) <+: I5 l:=by
  unfold I5
  conv=>rhs;rw [← List.take_append_drop j l]
  rw [List.flatMap_append]
  exact List.prefix_append _ _
 exact this.length_le
def MI (h g:AH) (n:Nat) (r:AV) (al:List Sj) (L:List Pt2) (t:Nat):Prop :=
 ∃ lv xs,HeadOk h.next t g h.next lv xs∧xs.map M1=L∧Fr h g∧Sl g 2 n r (al.flatMap sjC)∧∀ i,s7 r=some i→a0c h.next lv xs i
def o0a (h:AH) (L:List Pt2) (r:AV) (g:AH):Prop:=Fr h g∧∃ ys:List Sj,Sl g 2 ys.length r (ys.flatMap sjC)∧ys.map plJ=L∧∀ y ∈ ys,SjOk g y
structure MgIn (h:AH) (x:Sj):Prop where
 ok:SjOk h x
 lab:x.1.2.length≤2 ^ 20
 rg:∀ s ∈ x.2.2,-9223372036854775808≤s.1∧s.1≤9223372036854775807
theorem i0N {h:AH} {na nb:Nat} {va vb:AV} {ma mb:List Sj} (sa:Sl h 2 na va (ma.flatMap sjC)) (sb:Sl h 2 nb vb (mb.flatMap sjC)) (hx:∀ x ∈ ma++mb,MgIn h x) (ht:(I5 ((ma++mb).map plJ)).length≤2 ^ 18) (hn:(ma++mb).length≤2 ^ 18) :
  Ev P SI (.fn a0L) [va,vb] h (o0a h ((I5 ((ma++mb).map plJ)).foldl F9 [])):=by
 refine m6 g0W rfl rfl ?_
 obtain ⟨al,hal⟩:∃ al,al=ma++mb:=⟨_,rfl⟩
 rw [← hal] at ht hn ⊢
 have hx':∀ x ∈ al,MgIn h x:=by rw [hal];exact hx
 obtain ⟨L,hL⟩:∃ L,L=(I5 (al.map plJ)).foldl F9 []:=⟨_,rfl⟩
 rw [← hL]
 obtain ⟨n,hnn⟩:∃ n,n=al.length:=⟨_,rfl⟩
 obtain ⟨g0,hg0⟩:∃ g0,g0=h.push (.cells [.bool true,.nils] false):=⟨_,rfl⟩
 have f0:Fr h g0:=by rw [hg0];exact Fr.push (.refl h) _
 obtain ⟨g1,hg1⟩:∃ g1,g1=g0.push (.cells [va,vb] false):=⟨_,rfl⟩
 have f1:Fr g0 g1:=by rw [hg1];exact Fr.push (.refl g0) _
 have n0:g0.next=h.next+1:=by rw [hg0];rfl
 have n1:g1.next=g0.next+1:=by rw [hg1];rfl
 have H1:HeadOk h.next 0 g1 h.next .nils []:=by rw [hg1];rw [hg0];exact (g0M h).fr (Fr.push (.refl _) _)
 have c1:g1.get g0.next=some (.cells [va,vb] false):=by rw [hg1];exact a7 _
 have hla:ma.length=na:=by have:=sa.1;rw [g0P] at this;omega
 have hlb:mb.length=nb:=by have:=sb.1;rw [g0P] at this;omega
 have f01:=f0.trans f1
 have hca:=sa.oneCell.1
 have hcb:=sb.oneCell.1
 simp [c0U,h0D,← hg0,← hg1,L5,hca,hcb]
 refine (m0V (s:=g0.next) (n:=2) (ps:=[(va,ma),(vb,mb)]) c1 (by omega) rfl ?_ (by rw [show ([(va,ma),(vb,mb)]:List (AV×List Sj)).flatMap (·.2)=al from by simp [hal]];omega) (by omega)).mono ?_
 ·intro p hp
  simp at hp
  rcases hp with rfl | rfl
  ·exact ⟨by show Sl g1 2 ma.length va _;rw [hla];exact sa.fr f01,d0s fun y hy=>(hx y (List.mem_append_left _ hy)).ok⟩
  ·exact ⟨by show Sl g1 2 mb.length vb _;rw [hlb];exact sb.fr f01,d0s fun y hy=>(hx y (List.mem_append_right _ hy)).ok⟩
 ·rintro r g ⟨sr,f2,hrid⟩
  have e:([(va,ma),(vb,mb)]:List (AV×List Sj)).flatMap (·.2)=ma++mb:=by simp
  rw [e,← hal,← hnn] at sr
  rw [← hnn] at hn
  simp [sr.len]
  have f:=f01.trans f2
  have hr0:∀ i,s7 r=some i→a0c h.next .nils [] i:=fun i e=>by
   have:=hrid i e
   exact ⟨by omega,fun e'=>(by cases e'),fun x hx=>(by cases hx)⟩
  refine E8 (n:=n) (by rfl) (fun j σ ds g'=>ds=[]∧σ 5=.ptr h.next 0∧σ 14=r∧σ 15=.int .i64 (n:Int)∧MI h g' n r al ((I5 ((al.map plJ).take j)).foldl F9 []) (2*(I5 ((al.map plJ).take j)).length)) (by omega) (by simp)
   ⟨rfl,by simp,by simp,by simp,.nils,[],H1.fr f2,rfl,f,sr,hr0⟩ (fun j σ ds g hJ=>by simp [hJ.2.2.2.1]) ?_ ?_
  ·rintro j σ ds g' hj hi ⟨rfl,e5,e14,e15,lv,xs,H,hc,f',sr',hro⟩
   obtain ⟨x,hxj⟩:=J4 (l:=al) (j:=j) (by omega)
   have hxi:=hx' x (List.mem_of_getElem? hxj)
   obtain ⟨id,o,q1,q2,_⟩:=l0s sr' hxj
   have hok:=hxi.ok.fr f'
   have hlc:=hok.lab.oneCell
   have hsc:=hok.smp.oneCell
   have stn:=E0 (h:=g') (n:=2) (z:=[.nils,.nils]) (l:=sjC x) rfl rfl (by simp [sjC,b9,hlc.2,hsc.2])
   obtain ⟨g2,hg2⟩:∃ g2,g2=g'.push (.cells (sjC x) false):=⟨_,rfl⟩
   have fp:Fr g' g2:=by rw [hg2];exact Fr.push (.refl g') _
   have c2:g2.get g'.next=some (.cells (sjC x) false):=by rw [hg2];exact a7 _
   have n2:g2.next=g'.next+1:=by rw [hg2];rfl
   rw [← hg2] at stn
   have l1:load1 g2 g'.next 1=.ok x.2.1:=by rw [d6 c2];rfl
   simp [e5,e14,e15,hi,q1,q2,B4,stn,l1,hok.smp.len]
   have hL0:(I5 ((al.map plJ).take (j+1)))=I5 ((al.map plJ).take j)++x.2.2.map fun s=>(x.1.2,s):=j08 (x:=plJ x) (by rw [List.getElem?_map,hxj];rfl)
   have hle:=m0K (al.map plJ) (j+1)
   obtain ⟨F,hF⟩:∃ F,F=I5 ((al.map plJ).take j):=⟨_,rfl⟩
   rw [← hF] at hL0 hc H
   have hFl:F.length+x.2.2.length≤2 ^ 18:=by rw [hL0,List.length_append,List.length_map] at hle;omega
   have hown:∀ i,g'.next≤i→a0c h.next lv xs i:=fun i hi=>by
    refine ⟨by have:=H.hlt;omega,fun e=>by have:=Sl.idLt H.list.sl e;omega,fun z hz e=>by have:=(H.rows z hz).mlt;omega⟩
   refine E8 (n:=x.2.2.length) (by rfl) (fun k σ ds g4=>ds=[]∧σ 5=.ptr h.next 0∧σ 14=r∧σ 15=.int .i64 (n:Int)∧σ 16=.int .i64 (j:Int)∧σ 7=.ptr g'.next 0∧σ 21=x.2.1∧σ 22=.int .i64 (x.2.2.length:Int)∧g'.next<g4.next ∧
     g4.get g'.next=some (.cells (sjC x) false)∧∃ lv xs,HeadOk h.next (2*(F.length+k)) g4 h.next lv xs∧xs.map M1=((x.2.2.take k).map fun s=>(x.1.2,s)).foldl F9 (F.foldl F9 [])∧Fr h g4∧Sl g4 2 n r (al.flatMap sjC)∧(∀ i,s7 r=some i→a0c h.next lv xs i)∧a0c h.next lv xs g'.next) (by omega) (by simp)
    ⟨rfl,by simp [e5],by simp [e14],by simp [e15],by simp [hi],by simp,by simp,by simp,by omega,c2,lv,xs,H.fr fp,by rw [hc];rfl,f'.trans fp,sr'.fr fp,hro,hown _ (Nat.le_refl _)⟩ (fun k σ ds g hJ=>by simp [hJ.2.2.2.2.2.2.2.1]) ?_ ?_
   ·rintro k σ ds g4 hk hki ⟨rfl,e5,e14,e15,e16,e7,e21,e22,hq,cq,lv4,xs4,H4,hc4,f4,sr4,hr4,ho4⟩
    obtain ⟨s,hs⟩:=J4 (l:=x.2.2) (j:=k) hk
    have hok4:=hxi.ok.fr f4
    obtain ⟨id2,o2,p1,p2,_⟩:=l0I hok4.smp hs
    have stn2:=E0 (h:=g4) (n:=2) (z:=[.int .i64 0,.int .u64 0]) (l:=smC s) rfl rfl (by simp [smC,b9])
    obtain ⟨g5,hg5⟩:∃ g5,g5=g4.push (.cells (smC s) false):=⟨_,rfl⟩
    have f5:Fr g4 g5:=by rw [hg5];exact Fr.push (.refl g4) _
    have c5:g5.get g4.next=some (.cells (smC s) false):=by rw [hg5];exact a7 _
    rw [← hg5] at stn2
    have m0:load1 g5 g4.next 0=.ok (.int .i64 s.1):=by rw [d6 c5];rfl
    have m1:load1 g5 g4.next 1=.ok (.int .u64 (s.2:Int)):=by rw [d6 c5];rfl
    have m7:load1 g5 g'.next 0=.ok x.1.1:=by rw [d6 (by rw [f5.get _ hq];exact cq)];rfl
    simp [e5,e7,e14,e15,e16,e21,e22,hki,p1,p2,B4,stn2,m0,m1,m7]
    have H5:=H4.fr f5
    have hlen:=hxi.lab
    refine (i0b H5 (by have:=f4.next;have:=f5.next;omega) (by omega) (hok4.lab.fr f5) hlen (hxi.rg s (List.mem_of_getElem? hs))).mono ?_
    rintro r' g6 ⟨rfl,fb,lv6,xs6,H6,hc6,hn6⟩
    have f5n:=f5.next
    have q6:=hn6 g'.next (by omega) ho4
    have r6:∀ i,s7 r=some i→g6.get i=g5.get i∧a0c h.next lv6 xs6 i:=fun i e=>hn6 i (by have:=Sl.idLt sr4 e;omega) (hr4 i e)
    have fbn:=fb.next
    simp [e5,e7,e14,e15,e16,e21,e22,hki]
    refine ⟨by omega,by rw [q6.1,f5.get _ hq];exact cq,lv6,xs6,H6.le (by omega),?_,⟨by have:=f4.next;omega,fun i hi=>by rw [fb.get i hi (by omega),f5.get i (by have:=f4.next;omega),f4.get i hi]⟩,c0m (sr4.fr f5) fbn fun i e=>(r6 i e).1,fun i e=>(r6 i e).2,q6.2⟩
    rw [hc6,hc4,List.map_take,b0R _ k (x.1.2,s) (by rw [List.getElem?_map,hs];rfl),List.foldl_append]
    rfl
   ·rintro σ ds g4 ⟨rfl,e5,e14,e15,e16,e7,e21,e22,hq,cq,lv4,xs4,H4,hc4,f4,sr4,hr4,ho4⟩
    simp [e5,e14,e15,e16]
    refine ⟨lv4,xs4,?_,?_,f4,sr4,hr4⟩
    ·rw [hL0,List.length_append,List.length_map];exact H4
    ·rw [hL0,List.foldl_append,hc4,List.take_length]
  ·rintro σ ds g' ⟨rfl,e5,e14,e15,lv,xs,H,hc,f',sr',hro⟩
   have htk:(al.map plJ).take n=al.map plJ:=List.take_of_length_le (by rw [List.length_map];omega)
   rw [htk] at H hc
   simp [e5]
   have hcan:=E6 (I5 (al.map plJ)) O9
   rw [← hc] at hcan
   refine (h0s H (fun x hx e=>?_) (by omega)).mono ?_
   ·have:=(hcan.el (M1 x) (List.mem_map.2 ⟨x,hx,rfl⟩)).2
    exact this (List.eq_nil_of_length_eq_zero (by show (a0j x.zs).length=0;rw [e01,e];rfl))
   ·rintro r' g3 ⟨f3,ys,o,hyc,hys⟩
    simp
    exact ⟨f'.trans f3,ys,o.sl,by rw [hyc,hc,hL],hys⟩
end Go.Dk
