/-
  Texts joined.
-/
import Derived.Test.YtnapechhagnmaaaGreatDoorT19
import Derived.Test.YtnapechhagnmaaaGreatDoorRows
import Derived.Test.YtnapechhagnmaaaGreatDoorCards
import Derived.Test.YtnapechhagnmaaaGreatDoorTie
import Derived.Test.YtnapechhagnmaaaGreatDoorT2
import Derived.Lib.LaidIn
import Derived.SevenTiedAt
import Derived.SizedLaws
import Derived.Test.YtnapechhagnmaaaGreatDoorT4
import Derived.Test.YtnapechhagnmaaaGreatDoorT8

namespace Go.Dk
open Go Go.Dr
set_option maxRecDepth 100000
abbrev Rr:=AV×(List Lab×Smp)
def rrC (x:Rr):List AV:=[x.1,.int .i64 x.2.2.1,.int .u64 (x.2.2.2:Int)]
structure RrIn (h:AH) (x:Rr):Prop where
 lab:Sl h 2 x.2.1.length x.1 (x.2.1.flatMap M2)
 short:h0p x.2.1
 rg:-9223372036854775808≤x.2.2.1∧x.2.2.1≤9223372036854775807
 len:x.2.1.length<2 ^ 62
theorem RrIn.fr {h g:AH} {x:Rr} (a:RrIn h x) (f:Fr h g):RrIn g x:=⟨a.lab.fr f,a.short,a.rg,a.len⟩
theorem g0N (xs:List Rr):(xs.flatMap rrC).length=xs.length*3:=L1 xs (fun _ _=>rfl)
theorem n0x {h:AH} {n:Nat} {v:AV} {xs:List Rr} (s:Sl h 3 n v (xs.flatMap rrC)) {j:Nat} {x:Rr} (hx:xs[j]? = some x) :
  ∃ id o,G1 3 v (.int .i64 (j:Int))=.ok (.ptr id o)∧loadN h id o 3=.ok (rrC x):=by
 obtain ⟨id,o,h1,h2,_⟩:=s.elem (fun _ _=>rfl) (by omega) (k:=.i64) (i:=(j:Int)) rfl hx
 exact ⟨id,o,h1,h2⟩
def T2 (x:Rr):Bool:=!d0k x.2.1
theorem l0m {h:AH} {x:Rr} (hx:RrIn h x):Ev P SI (.fn s5) [.agg (rrC x)] h fun r g=>r=.bool (T2 x)∧Fr h g:=by
 refine m6 b0j rfl rfl ?_
 obtain ⟨g1,hg1⟩:∃ g1,g1=h.push (.cells [x.1,.int .i64 x.2.2.1,.int .u64 (x.2.2.2:Int)] false):=⟨_,rfl⟩
 have f1:Fr h g1:=by rw [hg1];exact Fr.push (.refl h) _
 have c1:g1.get h.next=some (.cells [x.1,.int .i64 x.2.2.1,.int .u64 (x.2.2.2:Int)] false):=by rw [hg1];exact a7 _
 have l1:load1 g1 h.next 0=.ok x.1:=by rw [d6 c1];rfl
 simp [P8,O3,rrC,← hg1,l1]
 refine (i0B (hx.lab.fr f1) hx.short).mono ?_
 rintro r g ⟨rfl,f⟩
 simp [T2]
 exact f1.trans f
def q0T (h:AH) (xs:List Rr) (r:AV) (g:AH):Prop:=Fr h g∧∃ z:Int,r=.int .i64 z∧(0≤z↔xs.any T2=true)
def n0y (xs:List Rr) (j:Nat):Prop:=∀ i x,i<j→xs[i]? = some x→T2 x=false
theorem i0O {h:AH} {n:Nat} {v:AV} {xs:List Rr} (s:Sl h 3 n v (xs.flatMap rrC)) (hn:n<2 ^ 62) (hx:∀ x ∈ xs,RrIn h x) :
  Ev P SI (.fn p9) [v,.func (.func s5) [] []] h (q0T h xs):=by
 refine m6 J5 rfl rfl ?_
 have hl:xs.length=n:=by have:=s.1;rw [g0N] at this;omega
 simp [A7,s.len]
 refine E8 (n:=n) (by rfl) (fun j σ ds g=>ds=[]∧σ 0=v∧σ 1=.func (.func s5) [] []∧σ 7=.int .i64 (n:Int)∧Fr h g∧n0y xs j) (by omega) (by simp)
  ⟨rfl,by simp,by simp,by simp,.refl _,fun i x hi=>by omega⟩ (fun j σ ds g hJ=>by simp [hJ.2.2.2.1]) ?_ ?_
 ·rintro j σ ds g hj hi ⟨rfl,e0,e1,e7,f,hb⟩
  obtain ⟨x,hxj⟩:=J4 (l:=xs) (j:=j) (by omega)
  obtain ⟨id,o,q1,q2⟩:=n0x (s.fr f) hxj
  simp [e0,e1,e7,hi,q1,q2,B4]
  refine (l0m ((hx x (List.mem_of_getElem? hxj)).fr f)).mono ?_
  rintro r g2 ⟨rfl,f2⟩
  cases hc:T2 x with
  | true =>
   simp
   refine ⟨f.trans f2,(j:Int),rfl,?_⟩
   have:xs.any T2=true:=List.any_eq_true.2 ⟨x,List.mem_of_getElem? hxj,hc⟩
   simp [this]
  | false =>
   have hb':n0y xs (j+1):=fun i y hij hy=>by
    by_cases e:i=j
    ·subst e;rw [hxj] at hy;cases hy;exact hc
    ·exact hb i y (by omega) hy
   simp [e0,e1,e7,hi]
   exact ⟨f.trans f2,hb'⟩
 ·rintro σ ds g ⟨rfl,e0,e1,e7,f,hb⟩
  simp
  refine ⟨f,-1,rfl,?_⟩
  have:¬ xs.any T2=true:=fun e=>by
   obtain ⟨x,hx,hc⟩:=List.any_eq_true.1 e
   obtain ⟨i,hi⟩:=List.getElem?_of_mem hx
   have:=(List.getElem?_eq_some_iff.1 hi).1
   rw [hb i x (by omega) hi] at hc;cases hc
  constructor
  ·intro h;omega
  ·intro h;exact absurd h this
theorem f0G {h:AH} {n:Nat} {v:AV} {xs:List Rr} (s:Sl h 3 n v (xs.flatMap rrC)) (hn:n<2 ^ 62) (hx:∀ x ∈ xs,RrIn h x) :
  Ev P SI (.fn o4) [v,.func (.func s5) [] []] h fun r g=>r=.bool (xs.any T2)∧Fr h g:=by
 refine m6 H7 rfl rfl ?_
 simp [x8]
 refine (i0O s hn hx).mono ?_
 rintro r g ⟨f,z,rfl,hz⟩
 have:decide (0≤z)=xs.any T2:=by
  cases hb:xs.any T2 with
  | true=>simp [hz.2 hb]
  | false =>
   have:¬ 0≤z:=fun h0=>by have:=hz.1 h0;rw [hb] at this;cases this
   simp;omega
 simp [this]
 exact f
end Go.Dk

namespace Go.Dk
open Go Go.Dr
set_option maxRecDepth 100000
def rwR (x:Rr):Rw:=x.2
def Apt (B hd:Nat) (v:AV):Prop:=∀ i,s7 v=some i→i<B∧i≠hd
def o0k (B t:Nat) (h:AH) (hd:Nat) (lv:AV) (xs:List Rh) (rs:List Rr) (r:AV) (g:AH):Prop :=
 r=.int .i64 (if rs.any T2=true then 1 else 0)∧FrX B hd h g∧∃ lv' xs',HeadOk B (t+2*rs.length) g hd lv' xs'∧xs'.map M1=if rs.any T2=true then xs.map M1 else (rs.map rwR).foldl F9 (xs.map M1)
theorem Fr.x {B hd:Nat} {h g:AH} (f:Fr h g) (hB:B≤h.next):FrX B hd h g:=.of (f.b hB)
theorem slX {B hd es n:Nat} {h g:AH} {v:AV} {l:List AV} (s:Sl h es n v l) (f:FrX B hd h g) (a:Apt B hd v):Sl g es n v l :=
 c0m s f.next fun i e=>f.get i (a i e).1 (a i e).2
theorem Y8 {B t hd n:Nat} {h:AH} {lv v:AV} {xs:List Rh} {rs:List Rr} (H:HeadOk B t h hd lv xs) (hB:B≤h.next) (ht:t+2*rs.length≤2 ^ 20) (s:Sl h 3 n v (rs.flatMap rrC)) (hn:n≤2 ^ 18) (hx:∀ x ∈ rs,RrIn h x)
  (hv:Apt B hd v) (hxv:∀ x ∈ rs,Apt B hd x.1):Ev P SI (.fn w6) [.ptr hd 0,v] h (o0k B t h hd lv xs rs):=by
 refine m6 c0h rfl rfl ?_
 have hl:rs.length=n:=by have:=s.1;rw [g0N] at this;omega
 simp [U8]
 simp [f00 H.cell]
 refine (f0G s (by omega) hx).mono ?_
 rintro r g ⟨rfl,f⟩
 cases hbad:rs.any T2 with
 | true =>
  have K:o0k B t h hd lv xs rs (.int .i64 1) g:=⟨by rw [if_pos hbad],Fr.x f hB,lv,xs,(H.fr f).le (by omega),by rw [if_pos hbad]⟩
  simp
  exact K
 | false =>
  have s1:=s.fr f
  simp [s1.len]
  refine E8 (n:=n) (by rfl) (fun j σ ds g'=>ds=[]∧σ 0=.ptr hd 0∧σ 13=v∧σ 14=.int .i64 (n:Int)∧FrX B hd h g'∧∃ lv' xs',HeadOk B (t+2*j) g' hd lv' xs'∧xs'.map M1=((rs.take j).map rwR).foldl F9 (xs.map M1)) (by omega) (by simp)
   ⟨rfl,by simp,by simp,by simp,Fr.x f hB,lv,xs,H.fr f,by simp⟩ (fun j σ ds g hJ=>by simp [hJ.2.2.2.1]) ?_ ?_
  ·rintro j σ ds g' hj hi ⟨rfl,e0,e13,e14,f',lv',xs',H',hc⟩
   obtain ⟨x,hxj⟩:=J4 (l:=rs) (j:=j) (by omega)
   have hxm:=List.mem_of_getElem? hxj
   have hxi:=hx x hxm
   obtain ⟨id,o,q1,q2⟩:=n0x (slX s f' hv) hxj
   have hlab:=slX hxi.lab f' (hxv x hxm)
   have hcan:d0k x.2.1=true:=by
    have:T2 x=false:=by
     cases hb:T2 x with
     | false=>rfl
     | true =>
      have:rs.any T2=true:=List.any_eq_true.2 ⟨x,hxm,hb⟩
      rw [hbad] at this;cases this
    simpa [T2] using this
   have hll:x.2.1.length≤8:=by
    simp only [d0k,Bool.and_eq_true,decide_eq_true_eq] at hcan
    exact hcan.1.2
   have stn:=E0 (h:=g') (n:=3) (z:=[.nils,.int .i64 0,.int .u64 0]) (l:=rrC x) rfl rfl (by simp [rrC,b9,hlab.oneCell.2])
   obtain ⟨g2,hg2⟩:∃ g2,g2=g'.push (.cells (rrC x) false):=⟨_,rfl⟩
   have f2:Fr g' g2:=by rw [hg2];exact Fr.push (.refl g') _
   have c2:g2.get g'.next=some (.cells (rrC x) false):=by rw [hg2];exact a7 _
   rw [← hg2] at stn
   have l0:load1 g2 g'.next 0=.ok x.1:=by rw [d6 c2];rfl
   have l1:load1 g2 g'.next 1=.ok (.int .i64 x.2.2.1):=by rw [d6 c2];rfl
   have l2:load1 g2 g'.next 2=.ok (.int .u64 (x.2.2.2:Int)):=by rw [d6 c2];rfl
   simp [e0,e13,e14,hi,q1,q2,B4,stn,l0,l1,l2]
   have hBg:B≤g'.next:=by have:=f'.next;omega
   refine (i0b (H'.fr f2) (by have:=f2.next;omega) (by omega) (hlab.fr f2) (by omega) hxi.rg).mono ?_
   rintro r' g3 ⟨rfl,f3,lv3,xs3,H3,hc3,_⟩
   simp [e0,e13,e14,hi]
   refine ⟨f'.trans ((Fr.x f2 hBg).trans f3),lv3,xs3,H3.le (by omega),?_⟩
   rw [hc3,hc,List.map_take,b0R _ j (rwR x) (by rw [List.getElem?_map,hxj];rfl),List.foldl_append]
   rfl
  ·rintro σ ds g' ⟨rfl,e0,e13,e14,f',lv',xs',H',hc⟩
   have K:o0k B t h hd lv xs rs (.int .i64 0) g':=⟨by rw [hbad];rfl,f',lv',xs',by rw [hl];exact H',by rw [hbad,hc,List.take_of_length_le (by omega)];rfl⟩
   simp
   exact K
end Go.Dk

namespace Go.Dk
open Go Go.Dr
set_option maxRecDepth 100000
theorem i02 {B hd:Nat} {g:AH} (hlt:hd<g.next) (hc:g.get hd=some (.cells [.bool true,.nils] false)):HeadOk B 0 g hd .nils [] :=
 ⟨hlt,hc,.inl ⟨rfl,rfl⟩,fun x hx=>(by cases hx),fun x hx=>(by cases hx),List.nodup_nil,List.Pairwise.nil,Nat.le_refl _⟩
theorem HeadOk.x {B B1 t hd hd':Nat} {g g':AH} {lv:AV} {xs:List Rh} (H:HeadOk B t g hd lv xs) (f:FrX B1 hd' g g') (hB:g.next≤B1) (hne:hd≠hd') (hlt:hd'<B):HeadOk B t g' hd lv xs:=by
 have keep:∀ i,i<g.next→i≠hd'→g'.get i=g.get i:=fun i h1 h2=>f.get i (by omega) h2
 refine ⟨Nat.lt_of_lt_of_le H.hlt f.next,by rw [keep _ H.hlt hne];exact H.cell,?_,fun x hx=>?_,H.far,H.inj,H.asc,H.cnt⟩
 ·rcases H.list with l | ⟨h1,sid,h2,h3,h4,h5,h6⟩
  ·exact .inl l
  ·exact .inr ⟨h1,sid,h2,h3,Nat.lt_of_lt_of_le h4 f.next,by rw [keep _ h4 (by omega)];exact h5,h6⟩
 ·have a:=H.rows x hx
  refine i0a (bad:=fun i=>i=hd') a f.next keep ?_ ?_ ?_
  ·have:=a.rB;omega
  ·intro i e;have:=a.lB i e;omega
  ·have:=a.mB;omega
theorem G0 {h:AH} {B hd es n:Nat} {v:AV} {l:List AV} (s:Sl h es n v l) (h1:h.next≤B) (h2:h.next≤hd):Apt B hd v:=fun i e=>by
 have:=Sl.idLt s e
 exact ⟨by omega,by omega⟩
theorem d0C {B t hd:Nat} {h:AH} {lv:AV} {xs:List Rh} (H:HeadOk B t h hd lv xs) (hcan:Canon (xs.map M1)) (ht:t≤2 ^ 22):Ev P SI (.fn y6) [.ptr hd 0] h (n0Y h xs) :=
 h0s H (fun x hx e=>(hcan.el (M1 x) (List.mem_map.2 ⟨x,hx,rfl⟩)).2 (List.eq_nil_of_length_eq_zero (by show (a0j x.zs).length=0;rw [e01,e];rfl))) ht
theorem l0O {h:AH} {na nb:Nat} {va vb:AV} {xa xb:List Rr} (sa:Sl h 3 na va (xa.flatMap rrC)) (sb:Sl h 3 nb vb (xb.flatMap rrC)) (hna:na<2 ^ 62) (hnb:nb<2 ^ 62) (ha:∀ x ∈ xa,RrIn h x) (hb:∀ x ∈ xb,RrIn h x) :
  Ev P SI (.fn O7) [va,vb] h fun r _=>r=.bool true:=by
 refine m6 d0p rfl rfl ?_
 have hla:xa.length=na:=by have:=sa.1;rw [g0N] at this;omega
 have hlb:xb.length=nb:=by have:=sb.1;rw [g0N] at this;omega
 obtain ⟨ma,hma⟩:∃ m,min xa.length 30=m:=⟨_,rfl⟩
 obtain ⟨mb,hmb⟩:∃ m,min xb.length 30=m:=⟨_,rfl⟩
 have hmia:min (na:Int) 30=(ma:Int):=by omega
 have hmib:min (nb:Int) 30=(mb:Int):=by omega
 obtain ⟨ua,eua,sua⟩:=sa.slice (lo:=none) (hi:=some (.int .i64 (ma:Int))) (a:=0) (b:=ma) (.inl ⟨rfl,rfl⟩) (.inr ⟨.i64,rfl⟩) (by omega) (by omega)
 obtain ⟨ub,eub,sub⟩:=sb.slice (lo:=none) (hi:=some (.int .i64 (mb:Int))) (a:=0) (b:=mb) (.inl ⟨rfl,rfl⟩) (.inr ⟨.i64,rfl⟩) (by omega) (by omega)
 rw [Nat.zero_mul,List.drop_zero,Nat.sub_zero,a0D (es:=3) (f:=rrC) xa (fun _ _=>rfl)] at sua
 rw [Nat.zero_mul,List.drop_zero,Nat.sub_zero,a0D (es:=3) (f:=rrC) xb (fun _ _=>rfl)] at sub
 obtain ⟨A,hA⟩:∃ A,A=xa.take ma:=⟨_,rfl⟩
 obtain ⟨C,hC⟩:∃ C,C=xb.take mb:=⟨_,rfl⟩
 rw [← hA] at sua
 rw [← hC] at sub
 have hAl:A.length=ma:=by rw [hA,List.length_take];omega
 have hCl:C.length=mb:=by rw [hC,List.length_take];omega
 have ha':∀ x ∈ A,RrIn h x:=fun x hx=>ha x (by rw [hA] at hx;exact List.mem_of_mem_take hx)
 have hb':∀ x ∈ C,RrIn h x:=fun x hx=>hb x (by rw [hC] at hx;exact List.mem_of_mem_take hx)
 obtain ⟨g1,hg1⟩:∃ g1,g1=h.push (.cells [.bool true,.nils] false):=⟨_,rfl⟩
 obtain ⟨g2,hg2⟩:∃ g2,g2=g1.push (.cells [.bool true,.nils] false):=⟨_,rfl⟩
 obtain ⟨g3,hg3⟩:∃ g3,g3=g2.push (.cells [.bool true,.nils] false):=⟨_,rfl⟩
 have f1:Fr h g1:=by rw [hg1];exact Fr.push (.refl h) _
 have f2:Fr g1 g2:=by rw [hg2];exact Fr.push (.refl g1) _
 have f3:Fr g2 g3:=by rw [hg3];exact Fr.push (.refl g2) _
 have n1:g1.next=h.next+1:=by rw [hg1];rfl
 have n2:g2.next=g1.next+1:=by rw [hg2];rfl
 have n3:g3.next=g2.next+1:=by rw [hg3];rfl
 have c1:g3.get h.next=some (.cells [.bool true,.nils] false):=by rw [f3.get _ (by omega),f2.get _ (by omega),hg1];exact a7 _
 have c2:g3.get g1.next=some (.cells [.bool true,.nils] false):=by rw [f3.get _ (by omega),hg2];exact a7 _
 have c3:g3.get g2.next=some (.cells [.bool true,.nils] false):=by rw [hg3];exact a7 _
 have f:=f1.trans (f2.trans f3)
 have X0:HeadOk g3.next 0 g3 h.next .nils []:=i02 (by omega) c1
 simp [a0h,sa.len,sb.len,hmia,hmib,eua,eub]
 simp [h0D,← hg1,← hg2,← hg3]
 have sA3:=sua.fr f
 have sC3:=sub.fr f
 refine (Y8 X0 (Nat.le_refl _) (by omega) sA3 (by omega) (fun x hx=>(ha' x hx).fr f) (G0 sua (by omega) (by omega)) fun x hx=>G0 (ha' x hx).lab (by omega) (by omega)).mono ?_
 rintro r4 g4 ⟨rfl,f4,lx,xs,X4,xc⟩
 have f4n:=f4.next
 have rrx:∀ {B hd:Nat} {g g':AH} {x:Rr},RrIn g x→FrX B hd g g'→Apt B hd x.1→RrIn g' x:=fun a f p=>⟨slX a.lab f p,a.short,a.rg,a.len⟩
 have sA4:=slX sA3 f4 (G0 sua (by omega) (by omega))
 have sC4:=slX sC3 f4 (G0 sub (by omega) (by omega))
 have hA4:∀ x ∈ A,RrIn g4 x:=fun x hx=>rrx ((ha' x hx).fr f) f4 (G0 (ha' x hx).lab (by omega) (by omega))
 have hC4:∀ x ∈ C,RrIn g4 x:=fun x hx=>rrx ((hb' x hx).fr f) f4 (G0 (hb' x hx).lab (by omega) (by omega))
 have Y4:HeadOk g4.next 0 g4 g1.next .nils []:=i02 (by omega) (by rw [f4.get _ (by omega) (by omega)];exact c2)
 simp
 refine (Y8 Y4 (Nat.le_refl _) (by omega) sC4 (by omega) hC4 (G0 sub (by omega) (by omega)) fun x hx=>G0 (hb' x hx).lab (by omega) (by omega)).mono ?_
 rintro r5 g5 ⟨rfl,f5,ly,ys,Y5,yc⟩
 have f5n:=f5.next
 have X5:=X4.x f5 (Nat.le_refl _) (by omega) (by omega)
 have sA5:=slX sA4 f5 (G0 sua (by omega) (by omega))
 have sC5:=slX sC4 f5 (G0 sub (by omega) (by omega))
 have hA5:∀ x ∈ A,RrIn g5 x:=fun x hx=>rrx (hA4 x hx) f5 (G0 (ha' x hx).lab (by omega) (by omega))
 have hC5:∀ x ∈ C,RrIn g5 x:=fun x hx=>rrx (hC4 x hx) f5 (G0 (hb' x hx).lab (by omega) (by omega))
 have Z5:HeadOk g5.next 0 g5 g2.next .nils []:=i02 (by omega) (by rw [f5.get _ (by omega) (by omega),f4.get _ (by omega) (by omega)];exact c3)
 simp
 refine (Y8 Z5 (Nat.le_refl _) (by omega) sA5 (by omega) hA5 (G0 sua (by omega) (by omega)) fun x hx=>G0 (ha' x hx).lab (by omega) (by omega)).mono ?_
 rintro r6 g6 ⟨rfl,f6,lz0,zs0,Z6,zc0⟩
 have f6n:=f6.next
 have sC6:=slX sC5 f6 (G0 sub (by omega) (by omega))
 have hC6:∀ x ∈ C,RrIn g6 x:=fun x hx=>rrx (hC5 x hx) f6 (G0 (hb' x hx).lab (by omega) (by omega))
 simp
 refine (Y8 Z6 f6n (by omega) sC6 (by omega) hC6 (G0 sub (by omega) (by omega)) fun x hx=>G0 (hb' x hx).lab (by omega) (by omega)).mono ?_
 rintro r7 g7 ⟨rfl,f7,lz,zs,Z7,zc⟩
 have f67:=f6.trans f7
 have X7:=X5.x f67 (Nat.le_refl _) (by omega) (by omega)
 have Y7:=Y5.x f67 (Nat.le_refl _) (by omega) (by omega)
 obtain ⟨A',hA'⟩:∃ A':List Rw,A'=if A.any T2=true then [] else A.map rwR:=⟨_,rfl⟩
 obtain ⟨C',hC'⟩:∃ C':List Rw,C'=if C.any T2=true then [] else C.map rwR:=⟨_,rfl⟩
 have xc':xs.map M1=A'.foldl F9 []:=by rw [xc,hA'];split <;> rfl
 have yc':ys.map M1=C'.foldl F9 []:=by rw [yc,hC'];split <;> rfl
 have zc0':zs0.map M1=A'.foldl F9 []:=by rw [zc0,hA'];split <;> rfl
 have zc':zs.map M1=(A'++C').foldl F9 []:=by rw [zc,zc0',List.foldl_append,hC'];split <;> rfl
 have rowsOk:∀ (R:List Rr),R.length≤30→(if R.any T2=true then [] else R.map rwR:List Rw).length≤30∧∀ r ∈ (if R.any T2=true then [] else R.map rwR:List Rw),r.1.length≤8:=by
  intro R hR
  cases hb:R.any T2 with
  | true=>simp
  | false =>
   simp only [Bool.false_eq_true,if_false,List.length_map]
   refine ⟨hR,fun r hr=>?_⟩
   obtain ⟨x,hx,rfl⟩:=List.mem_map.1 hr
   have hcan:d0k x.2.1=true:=by
    cases hc:d0k x.2.1 with
    | true=>rfl
    | false =>
     have:R.any T2=true:=List.any_eq_true.2 ⟨x,hx,by simp [T2,hc]⟩
     rw [hb] at this;cases this
   simp only [d0k,Bool.and_eq_true,decide_eq_true_eq] at hcan
   exact hcan.1.2
 obtain ⟨lA,kA⟩:=rowsOk A (by omega)
 obtain ⟨lC,kC⟩:=rowsOk C (by omega)
 rw [← hA'] at lA kA
 rw [← hC'] at lC kC
 have bA:=a0U A' (L:=[]) (k:=0) (m:=8) (fun x hx=>by cases hx) kA
 have bC:=a0U C' (L:=[]) (k:=0) (m:=8) (fun x hx=>by cases hx) kC
 have nA:=c0Y A' []
 have nC:=c0Y C' []
 simp only [List.length_nil] at nA nC
 simp
 refine (d0C X7 (by rw [xc'];exact E6 _ O9) (by omega)).mono ?_
 rintro r8 g8 ⟨f8,ya,oa,ca,ka⟩
 simp
 refine (d0C (Y7.fr f8) (by rw [yc'];exact E6 _ O9) (by omega)).mono ?_
 rintro r9 g9 ⟨f9,yb,ob,cb,kb⟩
 have hga:∀ {B t hd:Nat} {g:AH} {lv:AV} {xs:List Rh} {w:Sj} {ws:List Sj},HeadOk B t g hd lv xs→ws.map plJ=xs.map M1→w ∈ ws→∀ s ∈ w.2.2,-9223372036854775808≤s.1∧s.1≤9223372036854775807:=by
  intro B t hd g lv xs w ws H hc hw s hs
  have:plJ w ∈ xs.map M1:=by rw [← hc];exact List.mem_map.2 ⟨w,hw,rfl⟩
  obtain ⟨z,hz,e⟩:=List.mem_map.1 this
  have e2:a0j z.zs=w.2.2:=congrArg Prod.snd e
  rw [← e2] at hs
  exact (H.rows z hz).rg s (e00.1 hs)
 have hmemA:∀ w ∈ ya,(plJ w).2.length≤30∧(plJ w).1.length≤8:=fun w hw=>by
  have:=bA (plJ w) (by rw [← xc',← ca];exact List.mem_map.2 ⟨w,hw,rfl⟩)
  omega
 have hmemB:∀ w ∈ yb,(plJ w).2.length≤30∧(plJ w).1.length≤8:=fun w hw=>by
  have:=bC (plJ w) (by rw [← yc',← cb];exact List.mem_map.2 ⟨w,hw,rfl⟩)
  omega
 have lya:ya.length≤30:=by have:=congrArg List.length ca;rw [List.length_map,xc'] at this;omega
 have lyb:yb.length≤30:=by have:=congrArg List.length cb;rw [List.length_map,yc'] at this;omega
 have hmem:∀ w ∈ ya++yb,MgIn g9 w∧(plJ w).2.length≤30:=fun w hw=>by
  rcases List.mem_append.1 hw with hw | hw
  ·have:=hmemA w hw
   exact ⟨⟨(ka w hw).fr f9,by show (plJ w).1.length≤_;omega,hga X7 ca hw⟩,this.1⟩
  ·have:=hmemB w hw
   exact ⟨⟨kb w hw,by show (plJ w).1.length≤_;omega,hga Y7 cb hw⟩,this.1⟩
 have hll:(ya++yb).length≤60:=by rw [List.length_append];omega
 have hfl:(I5 ((ya++yb).map plJ)).length≤1800:=by
  have:=f0e (k:=30) (l:=(ya++yb).map plJ) fun x hx=>by
   obtain ⟨w,hw,rfl⟩:=List.mem_map.1 hx
   exact (hmem w hw).2
  rw [List.length_map] at this
  have h3:=Nat.mul_le_mul_right 30 hll
  omega
 have hmg:=i0N (oa.sl.fr f9) ob.sl (fun w hw=>(hmem w hw).1) (by omega) (by omega)
 have hLe:(I5 ((ya++yb).map plJ)).foldl F9 []=(A'++C').foldl F9 []:=by
  rw [List.map_append,ca,cb,xc',yc',← k0r]
  unfold I5
  rw [List.flatMap_append]
 rw [hLe] at hmg
 obtain ⟨L,hL⟩:∃ L,L=(A'++C').foldl F9 []:=⟨_,rfl⟩
 rw [← hL] at hmg
 simp
 refine hmg.mono ?_
 rintro r10 g10 ⟨f10,za,sz,cz,kz⟩
 simp
 refine (d0C (Z7.fr (f8.trans (f9.trans f10))) (by rw [zc'];exact E6 _ O9) (by omega)).mono ?_
 rintro r11 g11 ⟨f11,yz,oz,cz2,kz2⟩
 have hsame:za.map plJ=yz.map plJ:=by rw [cz,cz2,zc',hL]
 have hzl:za.length=yz.length:=by have:=congrArg List.length hsame;rwa [List.length_map,List.length_map] at this
 have nZ:=c0Y (A'++C') []
 simp only [List.length_nil,List.length_append] at nZ
 have lza:za.length≤60:=by have:=congrArg List.length cz;rw [List.length_map,hL] at this;omega
 have bZ:=a0U (A'++C') (L:=[]) (k:=0) (m:=8) (fun x hx=>by cases hx) (fun r hr=>by
  rcases List.mem_append.1 hr with h | h
  ·exact kA r h
  ·exact kC r h)
 simp only [List.length_append] at bZ
 simp
 refine (h0t (sz.fr f11) (by rw [hzl];exact oz.sl) (by omega) (fun w hw=>?_) (fun w hw=>kz2 w hw) hsame).mono ?_
 ·have:=bZ (plJ w) (by rw [← hL,← cz];exact List.mem_map.2 ⟨w,hw,rfl⟩)
  exact ⟨(kz w hw).fr f11,by show (plJ w).1.length<_;omega,by show (plJ w).2.length<_;omega⟩
 ·rintro r12 g12 ⟨rfl,_⟩
  simp [m0n]
end Go.Dk

namespace Go.Proofs.YtnapechhagnmaaaGreatDoor
open Go Go.Dr Go.RowKit Go.ChangeShapes Go.WideShapes Go.ChangeAt Go.Lib
set_option maxRecDepth 100000
theorem p0y:ownKnob Tryz.prog.godebug=none:=by kernel_rfl
theorem f02:laidOutB Tryz.prog=true:=by kernel_rfl
theorem p0z:Tryz.prog.funcs.all (fun f=>f.name != "runtime.NumGoroutine")=true:=by kernel_rfl
def g0C:List Int:=List.replicate 128 240++(List.replicate 66 241++(List.replicate 30 2++([19]++(List.replicate 12 3++([35,3,3,52,4,4,4,68]++List.replicate 11 241)))))
def l0c (k:IntKind) (l:List Int):Array Value:=(l.map fun z=>Value.int k z).toArray
noncomputable def b0h (os:Os):World :=
 let w0:=World.holding Tryz.prog os ⟨#[],#[],[]⟩
 let put (h:Array Obj) (g:Nat) (cs:Array Value):Array Obj:=h.modify g fun
  | .cells _ t frozen=>.cells cs t frozen
  | o=>o
 let h:=w0.heap
 let h:=put h 2 (l0c .u8 [128,191,160,191,128,159,144,191,128,143,0,0,0,0,0,0,0,0,0,0,0,0,0,0,0,0,0,0,0,0,0,0])
 let h:=put h 1 (l0c .u8 g0C)
 { w0 with heap:=h }
theorem j0T (os:Os) (args:Array Value):LaidIn Tryz.prog ((b0h os).forCall (fun _ _=>0) ⟨#[],args,[]⟩).memory (Rows.headBothRow.laid.filter fun x=>x.2.handleName?.isNone) [2,1] :=
 LaidIn.of_run _ 8 (by kernel_rfl) (by kernel_rfl) (by kernel_rfl) (by kernel_rfl)
theorem j0U (os:Os) (args:Array Value):laidMetH Tryz.prog Rows.headBothRow.laid ((b0h os).forCall (fun _ _=>0) ⟨#[],args,[]⟩).memory :=
 laidMetH_of_parts (j0T os args).met (by kernel_rfl)
end Go.Proofs.YtnapechhagnmaaaGreatDoor

namespace Go.Dr
open Go.RowKit
variable {P:Program} {H:Type} {enc:TypeId×Value→H} {W:World} {base:Nat} {sp:Nat→Bool} {held:Bool}
theorem b0l {P:Program} {e:TypeId} {d:DataW H}:∀ {l:List (DataW H)},d ∈ l→∀ n ∈ d.weights P e,n ∈ DataW.weightsAll P e l
 | x::l,hm,n,hn=>by
  simp only [DataW.weightsAll,List.mem_append]
  rcases List.mem_cons.1 hm with rfl | hm
  ·exact .inl hn
  ·exact .inr (b0l hm n hn)
inductive TyZ (P:Program) (h:AH):TypeId→List AV→Prop
 | bool {t:TypeId} (ht:P.underlying t=some .bool) (b:Bool):TyZ P h t [.bool b]
 | int {t:TypeId} {k:IntKind} {n:Int} (ht:P.underlying t=some (.int k)) (hn:(Lit.int k n).wf=true):TyZ P h t [.int k n]
 | str {t:TypeId} {s:List UInt8} (ht:P.underlying t=some .string) (hs:s.length≤reachBytes):TyZ P h t [.str s]
 | nils {t e:TypeId} (ht:P.underlying t=some (.slice e)):TyZ P h t [.nils]
 | slice {t e:TypeId} {id len cap:Nat} {vs:List AV} (ht:P.underlying t=some (.slice e)) (hi:id<h.next) (hg:h.get id=some (.cells vs true)) (hv:vs.length=len*P.cellsOf e)
   (hl:len≤cap) (hc:cap*P.bytesOf e≤reachBytes) (hel:∀ i,i<len→TyZ P h e ((vs.drop (i*P.cellsOf e)).take (P.cellsOf e))):TyZ P h t [.slice id 0 len cap true (P.cellsOf e)]
 | struct {t:TypeId} {fs:Array Field} {cs:List AV} (ht:P.underlying t=some (.struct fs)) (hl:cs.length=P.cellsOf t)
   (hf:∀ f ∈ fs.toList,TyZ P h f.type ((cs.drop f.offset).take (P.cellsOf f.type))):TyZ P h t cs
theorem TyZ.fr {h h':AH} (f:Fr h h'):∀ {t:TypeId} {cs:List AV},TyZ P h t cs→TyZ P h' t cs:=by
 intro t cs s
 induction s with
 | bool ht b=>exact .bool ht b
 | int ht hn=>exact .int ht hn
 | str ht hs=>exact .str ht hs
 | nils ht=>exact .nils ht
 | slice ht hi hg hv hl hc _ ih=>exact .slice ht (Nat.lt_of_lt_of_le hi f.next) (by rw [f.get _ hi];exact hg) hv hl hc ih
 | struct ht hl _ ih=>exact .struct ht hl ih
theorem d0T {B:Nat} {w0:World} (L:TypeId→List Value→Prop)
  (hL:∀ t cs,L t cs→∀ φ h,Rel B w0 φ h W→RO φ h→∃ φ' h' l,ConL φ' l cs∧Rel B w0 φ' h' W∧RO φ' h'∧φ.le φ'∧Fr h h'∧TyZ P h' t l) (cs:List Value) :
  ∀ (fs:List Field) (acc:Nat),d0l P fs acc cs.length=true→(∀ f ∈ fs,L f.type ((cs.drop f.offset).take (P.cellsOf f.type)))→∀ φ h,Rel B w0 φ h W→RO φ h →
  ∃ φ' h' l,ConL φ' l (cs.drop acc)∧Rel B w0 φ' h' W∧RO φ' h'∧φ.le φ'∧Fr h h'∧(∀ f ∈ fs,acc≤f.offset∧TyZ P h' f.type ((l.drop (f.offset - acc)).take (P.cellsOf f.type)))
 | [],acc,ht,_,φ,h,hR,hro=>by
  have:acc=cs.length:=Nat.eq_of_beq_eq_true ht
  subst this
  exact ⟨φ,h,[],by rw [List.drop_length];exact .nil,hR,hro,.refl _,.refl _,fun f hf=>by cases hf⟩
 | f::fs,acc,ht,hf,φ,h,hR,hro=>by
  simp only [d0l,Bool.and_eq_true] at ht
  have ho:f.offset=acc:=Nat.eq_of_beq_eq_true ht.1
  obtain ⟨φ1,h1,l1,c1,R1,ro1,le1,f1,t1⟩:=hL _ _ (hf f (by simp)) φ h hR hro
  obtain ⟨φ2,h2,l2,c2,R2,ro2,le2,f2,t2⟩:=d0T L hL cs fs (acc+P.cellsOf f.type) ht.2 (fun g hg=>hf g (List.mem_cons_of_mem _ hg)) φ1 h1 R1 ro1
  have hle:acc+P.cellsOf f.type≤cs.length:=by
   have:∀ (fs:List Field) (a:Nat),d0l P fs a cs.length=true→a≤cs.length:=by
    intro fs
    induction fs with
    | nil=>intro a h;exact Nat.le_of_eq (Nat.eq_of_beq_eq_true h)
    | cons g gs ih =>
     intro a h
     simp only [d0l,Bool.and_eq_true] at h
     have:=ih _ h.2
     omega
   exact this _ _ ht.2
  rw [ho] at c1
  have hlen:l1.length=P.cellsOf f.type:=by rw [c1.length,List.length_take,List.length_drop];omega
  refine ⟨φ2,h2,l1++l2,?_,R2,ro2,le1.trans le2,f1.trans f2,fun g hg=>?_⟩
  ·have:=(c1.mono le2).append c2
   rw [← List.drop_drop,List.take_append_drop] at this
   exact this
  ·rcases List.mem_cons.1 hg with rfl | hg
   ·refine ⟨by omega,?_⟩
    rw [ho,Nat.sub_self,List.drop_zero,List.take_append_of_le_length (by omega),List.take_of_length_le (by omega)]
    exact t1.fr f2
   ·obtain ⟨h3,h4⟩:=t2 g hg
    refine ⟨by omega,?_⟩
    rw [show g.offset - acc=l1.length+(g.offset - (acc+P.cellsOf f.type)) from by omega,← List.drop_drop,List.drop_left]
    exact h4
theorem c0i {B:Nat} {w0:World} :
  ∀ (d fuel:Nat) (t:TypeId) (cs:List Value) (x:DataW H×List MemPlace),a0A P d t=true→DataW.trod enc P W base (fun _=>true) held fuel t cs=some x→(∀ n ∈ x.1.weights P t,n≤reachBytes)→j0u W cs →
  ∀ φ h,Rel B w0 φ h W→RO φ h→∃ φ' h' l,ConL φ' l cs∧Rel B w0 φ' h' W∧RO φ' h'∧φ.le φ'∧Fr h h'∧TyZ P h' t l
 | 0,fuel,t,cs,x,hp,_,_,_,_,_,_,_=>by cases hp
 | d+1,fuel,t,cs,x,hp,h,hw0,hz,φ,g,hR,hro=>by
  unfold a0A at hp
  cases ht:P.underlying t with
  | none=>rw [ht] at hp;cases hp
  | some td =>
   rw [ht] at hp
   cases td with
   | bool =>
    obtain ⟨b,rfl,_⟩:=DataW.trod_bool ht h
    exact ⟨φ,g,_,.cons (.bool b) .nil,hR,hro,.refl _,.refl _,.bool ht b⟩
   | int k =>
    obtain ⟨n,rfl,_,hw⟩:=DataW.trod_int ht h
    exact ⟨φ,g,_,.cons (.int k n) .nil,hR,hro,.refl _,.refl _,.int ht hw⟩
   | string =>
    obtain ⟨⟨⟨s⟩⟩,rfl,rfl,_⟩:=DataW.trod_string ht h
    have hs:s.length≤reachBytes:=hw0 _ (by simp [DataW.weights])
    exact ⟨φ,g,_,.cons (.str s) .nil,hR,hro,.refl _,.refl _,.str ht hs⟩
   | struct fs =>
    simp only [Bool.and_eq_true,List.all_eq_true] at hp
    obtain ⟨hp1,hp2⟩:=hp
    obtain ⟨xs,n,_,hx,hl,hlen,hf⟩:=DataW.trod_struct ht h
    subst hx
    simp only [DataW.weights,ht] at hw0
    obtain ⟨φ1,h1,l1,c1,R1,ro1,le1,f1,t1⟩:=d0T (L:=fun t cs=>∃ n x,a0A P d t=true∧DataW.trod enc P W base (fun _=>true) held n t cs=some x∧(∀ n ∈ x.1.weights P t,n≤reachBytes)∧j0u W cs)
     (fun t cs ⟨n,x,h1,h2,h3,h4⟩=>c0i d n t cs x h1 h2 h3 h4) cs fs.toList 0 (by rw [hl];exact hp1) (fun f hfm=>by
      obtain ⟨i,hi⟩:=List.mem_iff_getElem?.1 hfm
      rw [Array.getElem?_toList] at hi
      have hlt:i<xs.length:=by rw [hlen];exact (Array.getElem?_eq_some_iff.1 hi).1
      exact ⟨n,xs[i],hp2 f hfm,by rw [hf i f hi];exact List.getElem?_eq_getElem hlt,fun m hm=>hw0 m (DataW.weights_mem_each (j:=i) (by rw [List.getElem?_map,Array.getElem?_toList,hi];rfl) (by rw [List.getElem?_map,List.getElem?_eq_getElem hlt];rfl) m hm),fun a len hm=>hz a len (List.mem_of_mem_drop (List.mem_of_mem_take hm))⟩) φ g hR hro
    exact ⟨φ1,h1,l1,c1,R1,ro1,le1,f1,.struct ht (by rw [c1.length,List.drop_zero,hl]) fun f hf=>by have:=(t1 f hf).2;rwa [Nat.sub_zero] at this⟩
   | slice e =>
    simp only [Bool.and_eq_true] at hp
    obtain ⟨hp1,hp2⟩:=hp
    have hk:0<P.cellsOf e:=Nat.le_of_ble_eq_true hp1
    rcases DataW.trod_slice ht h with ⟨rfl,_⟩ | ⟨a,len,cap,elems,rest,n,_,rfl,hx,hb,hlc,_,hel,he1,he2,_⟩
    ·exact ⟨φ,g,_,.cons .nils .nil,hR,hro,.refl _,.refl _,.nils ht⟩
    ·obtain ⟨hrl,hr⟩:=he2 rfl
     subst hx
     simp only [DataW.weights,ht,List.length_map,List.mem_cons,List.mem_append] at hw0
     have hcm:cap*P.bytesOf e≤reachBytes:=by
      have:=hw0 _ (.inl rfl)
      rwa [hel,hrl,show len+(cap - len)=cap from by omega] at this
     have each:∀ i,i<cap→∃ cs y,W.cells? base (a.add (i*P.cellsOf e)) (P.cellsOf e)=some cs∧DataW.trod enc P W base (fun _=>true) held n e cs=some y∧∀ n ∈ y.1.weights P e,n≤reachBytes:=by
      intro i hi
      have:∃ y,(W.cells? base (a.add (i*P.cellsOf e)) (P.cellsOf e)).bind (DataW.trod enc P W base (fun _=>true) held n e)=some y∧∀ n ∈ y.1.weights P e,n≤reachBytes:=by
       by_cases hil:i<len
       ·exact ⟨elems[i],by rw [he1 i hil];exact List.getElem?_eq_getElem (by omega),fun m hm=>hw0 m (.inr (.inl (b0l (List.mem_map_of_mem (List.getElem_mem _)) m hm)))⟩
       ·have hj:i - len<cap - len:=by omega
        refine ⟨rest[i - len],?_,fun m hm=>hw0 m (.inr (.inr (b0l (List.mem_map_of_mem (List.getElem_mem _)) m hm)))⟩
        have:=hr (i - len) hj
        rw [show len+(i - len)=i from by omega] at this
        rw [this];exact List.getElem?_eq_getElem (by omega)
      obtain ⟨y,hy,hwy⟩:=this
      obtain ⟨cs,h1,h2⟩:=Option.bind_eq_some_iff.1 hy
      exact ⟨cs,y,h1,h2,hwy⟩
     have hblk:∃ (b:Nat) (c:Array Value) (e:TypeId) (f:Nat×Nat),W.heap[b]? = some (.cells c e f):=by
      by_cases hc0:cap=0
      ·subst hc0;exact hz a len (by simp)
      ·obtain ⟨cs,y,q1,_⟩:=each 0 (by omega)
       obtain ⟨q2,q3⟩:=a0B q1
       have:=q3 0 hk
       rw [List.getElem?_eq_getElem (by omega)] at this
       obtain ⟨_,c,et,f,hbk,_⟩:=f0Z this
       exact ⟨_,c,et,f,hbk⟩
     have hcs:∃ css:List (List Value),css.length=len∧∀ i c,css[i]? = some c→W.cells? base (a.add (i*P.cellsOf e)) (P.cellsOf e)=some c∧∃ y,DataW.trod enc P W base (fun _=>true) held n e c=some y∧∀ n ∈ y.1.weights P e,n≤reachBytes:=by
      refine ⟨(List.range len).map fun i=>(W.cells? base (a.add (i*P.cellsOf e)) (P.cellsOf e)).getD [],by simp,fun i c hi=>?_⟩
      have hil:i<len:=by have:=(List.getElem?_eq_some_iff.1 hi).1;simpa using this
      obtain ⟨cs,y,h1,h2,h3⟩:=each i (by omega)
      simp only [List.getElem?_map,List.getElem?_range hil,Option.map_some,Option.some.injEq,h1,Option.getD_some] at hi
      subst hi
      exact ⟨h1,y,h2,h3⟩
     obtain ⟨css,hcl,hcs⟩:=hcs
     obtain ⟨φ1,h1,ls,R1,ro1,le1,f1,hll,hls⟩:=h0q (B:=B) (w0:=w0) (w:=W) (fun (h:AH) (_:Unit) l=>TyZ P h e l) (fun h h' _ l f t=>t.fr f) (css.map fun c=>((),c)) (fun x hx φ h hR hro=>by
      obtain ⟨c,hc,rfl⟩:=List.mem_map.1 hx
      obtain ⟨i,hi⟩:=List.mem_iff_getElem?.1 hc
      obtain ⟨_,y,hy,hwy⟩:=hcs i c hi
      exact c0i d n e c y hp2 hy hwy (fun _ _ _=>hblk) φ h hR hro) φ g hR hro
     rw [List.length_map,hcl] at hll
     have hlens:∀ l ∈ ls,l.length=P.cellsOf e:=by
      intro l hl
      obtain ⟨i,hi⟩:=List.mem_iff_getElem?.1 hl
      have hil:i<css.length:=by rw [hcl,← hll];exact (List.getElem?_eq_some_iff.1 hi).1
      obtain ⟨l',h1,h2,_⟩:=hls i ((),css[i]) (by simp [hil])
      rw [hi] at h1
      cases h1
      rw [h2.length]
      exact (a0B (hcs i _ (List.getElem?_eq_getElem hil)).1).1
     obtain ⟨hfl,hfg⟩:=e0u ls (P.cellsOf e) hlens
     by_cases hc0:cap=0
     ·
      obtain ⟨b,c,et,f,hbk⟩:=hblk
      have hl0:len=0:=by omega
      have hv0:ls.flatten=[]:=List.length_eq_zero_iff.1 (by rw [hfl,hll,hl0,Nat.zero_mul])
      obtain ⟨R2,ro2,le2⟩:=l0a R1 ro1 (p:=⟨b,0,0⟩) (vs:=[]) hbk (Nat.le_refl _) (Nat.zero_le _) (fun i x hx=>by simp at hx)
      refine ⟨_,_,[.slice h1.next 0 len cap true (P.cellsOf e)],.cons (.slice (Phi.set_same _ _ _) (fun _=>rfl) (Nat.le_refl _) hlc (.inl hc0)) .nil,R2,ro2,le1.trans le2,f1.push _,?_⟩
      exact .slice ht (by simp) (a7 _) (by rw [hl0,Nat.zero_mul];rfl) hlc hcm fun i hi=>by omega
     ·have hcp:0<cap:=by omega
      have hk0:∀ i j,i<cap→j<P.cellsOf e→∃ v,W.cell? ((a.add (i*P.cellsOf e)).add j)=some v:=by
       intro i j hi hj
       obtain ⟨cs,y,q1,_⟩:=each i hi
       obtain ⟨q2,q3⟩:=a0B q1
       exact ⟨cs[j]'(by omega),by rw [q3 j hj];exact List.getElem?_eq_getElem (by omega)⟩
      obtain ⟨v0,hv0⟩:=hk0 0 0 hcp hk
      have ha0:(a.add (0*P.cellsOf e)).add 0=a:=by simp [Addr.add]
      rw [ha0] at hv0
      obtain ⟨hsp,c,et,f,hbk,_⟩:=f0Z hv0
      have hat:∀ i j,(a.add (i*P.cellsOf e)).add j=⟨a.block,a.off+(i*P.cellsOf e+j),none⟩:=by
       intro i j
       rw [add_none hsp,Addr.add_none,Nat.add_assoc]
      have hcell:∀ o,W.cell? ⟨a.block,o,none⟩=c[o]?:=fun o=>R5 hbk
      have hsz:a.off+cap*P.cellsOf e≤c.size:=by
       obtain ⟨v,hv⟩:=hk0 (cap - 1) (P.cellsOf e - 1) (by omega) (by omega)
       rw [hat,hcell] at hv
       have:=(Array.getElem?_eq_some_iff.1 hv).1
       have e1:(cap - 1)*P.cellsOf e+P.cellsOf e=cap*P.cellsOf e:=by
        rw [← Nat.succ_mul,show (cap - 1).succ=cap from by omega]
       omega
      have hle:len*P.cellsOf e≤cap*P.cellsOf e:=Nat.mul_le_mul_right _ hlc
      obtain ⟨R2,ro2,le2⟩:=l0a R1 ro1 (p:=⟨a.block,a.off,cap*P.cellsOf e⟩) (vs:=ls.flatten) hbk (by rw [hfl,hll];exact hle) hsz (fun i x hx=>by
       have hi:i<len*P.cellsOf e:=by rw [← hll,← hfl];exact (List.getElem?_eq_some_iff.1 hx).1
       have hdiv:i/P.cellsOf e<len:=(Nat.div_lt_iff_lt_mul hk).2 hi
       have hmod:i%P.cellsOf e<P.cellsOf e:=Nat.mod_lt _ hk
       have hdm:i/P.cellsOf e*P.cellsOf e+i%P.cellsOf e=i:=by rw [Nat.mul_comm];exact Nat.div_add_mod _ _
       obtain ⟨l,q1,q2⟩:=j0S ls (P.cellsOf e) hlens (i/P.cellsOf e) (i%P.cellsOf e) (by omega) hmod
       rw [hdm,hx] at q2
       have hcs':(css.map fun c=>((),c))[i/P.cellsOf e]? = some ((),css[i/P.cellsOf e]'(by omega)):=by simp [hcl,hdiv]
       obtain ⟨l',q3,q4,_⟩:=hls _ _ hcs'
       rw [q1] at q3
       cases q3
       obtain ⟨y,q5,q6⟩:=q4.get _ _ q2.symm
       refine ⟨y,?_,q6⟩
       obtain ⟨_,q7⟩:=a0B (hcs _ _ (List.getElem?_eq_getElem (by omega:i/P.cellsOf e<css.length))).1
       have q8:=q7 _ hmod
       rw [hat,hcell,hdm] at q8
       rw [q8]
       exact q5)
      refine ⟨_,_,[.slice h1.next 0 len cap true (P.cellsOf e)],.cons (.slice (p:=⟨a.block,a.off,cap*P.cellsOf e⟩) (Phi.set_same _ _ _) (fun _=>rfl) (Nat.le_refl _) hlc (.inr ⟨Nat.le_of_eq (Nat.zero_add _),?_⟩)) .nil,R2,ro2,le1.trans le2,f1.push _,?_⟩
      ·obtain ⟨b,o,s⟩:=a
       cases hsp
       rfl
      ·refine .slice ht (by simp) (a7 _) (by rw [hfl,hll]) hlc hcm fun i hi=>?_
       have hil:i<css.length:=by omega
       obtain ⟨l,q1,_,q3⟩:=hls i ((),css[i]) (by simp [hil])
       rw [hfg i l q1]
       exact q3.fr ((Fr.refl _).push _)
   | _=>cases hp
theorem e0O {B:Nat} {w0:World} {b0:Nat} {d:Nat} {t e:TypeId} {v:Value} {dd:DataW H} {ps:List MemPlace} (ht:P.underlying t=some (.slice e)) (hp:a0A P d t=true)
  (hval:Value.okWide P W .any b0 t v) (hd:DataW.Trod enc P W base (fun _=>true) held t v dd ps) (hw:∀ n ∈ dd.weights P t,n≤reachBytes) {φ:Phi} {h:AH} (hR:Rel B w0 φ h W) (hro:RO φ h) :
  ∃ φ' h' a,Con φ' a v∧Rel B w0 φ' h' W∧RO φ' h'∧φ.le φ'∧Fr h h'∧TyZ P h' t [a]:=by
 have hc:Cell.okWide P W .any b0 t v:=by
  unfold Value.okWide at hval
  rw [ht] at hval
  exact hval
 have hs:=f0D hc
 have hcells:v.cells.toList=[v]:=by cases v <;> first | rfl | cases hs
 obtain ⟨fuel,hd⟩:=hd
 rw [hcells] at hd
 obtain ⟨φ',h',l,c1,R1,ro1,le1,f1,t1⟩:=c0i d fuel t [v] _ hp hd hw (fun a len hm=>by
  simp only [List.mem_singleton] at hm
  rw [← hm] at hc
  exact i0C hc) φ h hR hro
 cases c1 with
 | cons c1 c2 =>
  cases c2
  exact ⟨φ',h',_,c1,R1,ro1,le1,f1,t1⟩
variable {h:AH}
theorem TyZ.int_inv {t:TypeId} {k:IntKind} {l:List AV} (ht:P.underlying t=some (.int k)) (s:TyZ P h t l):∃ n,l=[.int k n]∧(Lit.int k n).wf=true:=by
 cases s with
 | int ht' hn=>rw [ht] at ht';cases ht';exact ⟨_,rfl,hn⟩
 | bool ht'=>rw [ht] at ht';cases ht'
 | str ht'=>rw [ht] at ht';cases ht'
 | nils ht'=>rw [ht] at ht';cases ht'
 | slice ht'=>rw [ht] at ht';cases ht'
 | struct ht'=>rw [ht] at ht';cases ht'
theorem TyZ.str_inv {t:TypeId} {l:List AV} (ht:P.underlying t=some .string) (s:TyZ P h t l):∃ x,l=[.str x]∧x.length≤reachBytes:=by
 cases s with
 | str ht' hs=>exact ⟨_,rfl,hs⟩
 | int ht'=>rw [ht] at ht';cases ht'
 | bool ht'=>rw [ht] at ht';cases ht'
 | nils ht'=>rw [ht] at ht';cases ht'
 | slice ht'=>rw [ht] at ht';cases ht'
 | struct ht'=>rw [ht] at ht';cases ht'
theorem TyZ.slice_inv {t e:TypeId} {k:Nat} {l:List AV} (ht:P.underlying t=some (.slice e)) (hb:0<P.bytesOf e) (hk:P.cellsOf e=k) (s:TyZ P h t l) :
  ∃ v n vs,l=[v]∧n≤reachBytes∧Sl h k n v vs∧∀ i,i<n→TyZ P h e ((vs.drop (i*k)).take k):=by
 subst hk
 cases s with
 | nils ht'=>exact ⟨_,0,[],rfl,Nat.zero_le _,Sl.nil _,fun i hi=>absurd hi (by omega)⟩
 | @slice _ e' id len cap vs ht' hi hg hv hl hc hel =>
  rw [ht] at ht'
  cases ht'
  exact ⟨_,len,vs,rfl,Nat.le_trans (Nat.le_trans hl (Nat.le_mul_of_pos_right _ hb)) hc,⟨hv,.inr ⟨id,0,cap,true,vs,true,rfl,hi,hl,hg,by omega,by rw [List.drop_zero,List.take_of_length_le (by omega)]⟩⟩,hel⟩
 | int ht'=>rw [ht] at ht';cases ht'
 | bool ht'=>rw [ht] at ht';cases ht'
 | str ht'=>rw [ht] at ht';cases ht'
 | struct ht'=>rw [ht] at ht';cases ht'
theorem TyZ.struct_inv {t:TypeId} {l:List AV} {ts:List (TypeId×Nat)} (ht:c0G P t=ts) (hne:ts≠[]) (s:TyZ P h t l) :
  l.length=P.cellsOf t∧∀ u o,(u,o) ∈ ts→TyZ P h u ((l.drop o).take (P.cellsOf u)):=by
 subst ht
 unfold c0G at hne ⊢
 cases s with
 | struct ht' hl hf =>
  rw [ht']
  refine ⟨hl,fun u o hm=>?_⟩
  simp only [List.mem_map,Prod.mk.injEq] at hm
  obtain ⟨f,hf',rfl,rfl⟩:=hm
  exact hf f hf'
 | int ht'=>rw [ht'] at hne;exact absurd rfl hne
 | bool ht'=>rw [ht'] at hne;exact absurd rfl hne
 | str ht'=>rw [ht'] at hne;exact absurd rfl hne
 | nils ht'=>rw [ht'] at hne;exact absurd rfl hne
 | slice ht'=>rw [ht'] at hne;exact absurd rfl hne
end Go.Dr

namespace Go.Proofs.YtnapechhagnmaaaGreatDoor
open Go Go.Dr Go.Dk Go.RowKit Go.ChangeShapes Go.WideShapes Go.ChangeAt Go.Lib
set_option maxRecDepth 100000
theorem l0o:reachBytes<2 ^ 62:=by decide
theorem k0a:0<Tryz.prog.bytesOf 56:=of_decide_eq_true (by kernel_rfl)
theorem k0b:0<Tryz.prog.bytesOf 63:=of_decide_eq_true (by kernel_rfl)
theorem k0c:Tryz.prog.cellsOf 45=1:=by kernel_rfl
theorem g0d:Tryz.prog.cellsOf 63=3:=by kernel_rfl
theorem g0O:Tryz.prog.underlying 27=some (.slice 63):=by kernel_rfl
theorem i0P:c0G Tryz.prog 63=[(45,0),(3,1),(49,2)]:=by kernel_rfl
theorem g0e:a0A Tryz.prog 8 27=true:=by kernel_rfl
theorem l0p:Tryz.prog.cellsOf 3=1:=by kernel_rfl
theorem l0q:Tryz.prog.cellsOf 9=1:=by kernel_rfl
theorem k0d:Tryz.prog.cellsOf 49=1:=by kernel_rfl
theorem g0f:Tryz.prog.cellsOf 56=2:=by kernel_rfl
theorem o0b:Tryz.prog.underlying 3=some (.int .i64):=by kernel_rfl
theorem m0L:Tryz.prog.underlying 49=some (.int .u64):=by kernel_rfl
theorem l0r:Tryz.prog.underlying 9=some .string:=by kernel_rfl
theorem m0M:Tryz.prog.underlying 45=some (.slice 56):=by kernel_rfl
theorem i0Q:c0G Tryz.prog 56=[(9,0),(9,1)]:=by kernel_rfl
theorem c0l {α:Type} (f:α→List AV):∀ l:List α,(l.map f).flatten=l.flatMap f
 | []=>rfl
 | x::l=>by rw [List.map_cons,List.flatten_cons,List.flatMap_cons,c0l f l]
theorem h0F {h:AH} {l:List AV} (s:TyZ Tryz.prog h 45 l):∃ v ls,l=[v]∧Sl h 2 ls.length v (ls.flatMap M2)∧h0p ls∧ls.length<2 ^ 62:=by
 obtain ⟨v,n,vs,rfl,hn,hs,he⟩:=s.slice_inv m0M k0a g0f
 obtain ⟨ls,h1,h2,h3⟩:=e0v M2 (fun x:Lab=>x.1.length<2 ^ 62∧x.2.length<2 ^ 62) 2 n vs hs.1 fun i hi=>by
  obtain ⟨hl,hf⟩:=(he i hi).struct_inv i0Q (by simp)
  rw [g0f] at hl
  have f0:=hf 9 0 (by simp)
  have f1:=hf 9 1 (by simp)
  rw [l0q] at f0 f1
  obtain ⟨a,a1,a2⟩:=f0.str_inv l0r
  obtain ⟨b,b1,b2⟩:=f1.str_inv l0r
  generalize (vs.drop (i*2)).take 2=w at hl a1 b1
  match w,hl with
  | [c0,c1],_ =>
   simp at a1 b1
   subst a1 b1
   have:=l0o
   exact ⟨(a,b),rfl,Nat.lt_of_le_of_lt a2 this,Nat.lt_of_le_of_lt b2 this⟩
 rw [c0l] at h2
 subst h2
 have:=l0o
 exact ⟨v,ls,rfl,by rw [h1];exact hs,h3,by omega⟩
theorem g0g {h:AH} {l:List AV} (s:TyZ Tryz.prog h 27 l):∃ v n,∃ xs:List Rr,l=[v]∧n<2 ^ 62∧Sl h 3 n v (xs.flatMap rrC)∧∀ x ∈ xs,RrIn h x:=by
 obtain ⟨v,n,vs,rfl,hn,hs,he⟩:=s.slice_inv g0O k0b g0d
 obtain ⟨xs,h1,h2,h3⟩:=e0v rrC (fun x:Rr=>RrIn h x) 3 n vs hs.1 fun i hi=>by
  obtain ⟨hl,hf⟩:=(he i hi).struct_inv i0P (by simp)
  rw [g0d] at hl
  have f0:=hf 45 0 (by simp)
  have f1:=hf 3 1 (by simp)
  have f2:=hf 49 2 (by simp)
  rw [k0c] at f0
  rw [l0p] at f1
  rw [k0d] at f2
  obtain ⟨lv0,ls,a1,a2,a3,a4⟩:=h0F f0
  obtain ⟨a,b1,b2⟩:=f1.int_inv o0b
  obtain ⟨b,d1,d2⟩:=f2.int_inv m0L
  simp [Lit.wf,IntKind.min,IntKind.max,IntKind.signed] at b2 d2
  generalize (vs.drop (i*3)).take 3=w at hl a1 b1 d1
  match w,hl with
  | [y0,y1,y2],_ =>
   simp at a1 b1 d1
   subst a1 b1 d1
   refine ⟨(y0,(ls,(a,b.toNat))),?_,⟨a2,a3,by show _≤a∧a≤_;omega,a4⟩⟩
   simp only [rrC,Int.toNat_of_nonneg d2.1]
 rw [c0l] at h2
 subst h2
 have:=l0o
 exact ⟨v,n,xs,rfl,by omega,hs,h3⟩
theorem e0T {H:Type} {enc:TypeId×Value→H} {held:Bool} {W:World} {base:Nat} {b0 b1:Nat} {v0 v1:Value} {d0 d1:DataW H} {p0 p1:List MemPlace}
  (hv0:Value.okWide Tryz.prog W .any b0 27 v0) (hv1:Value.okWide Tryz.prog W .any b1 27 v1)
  (h0:DataW.Trod enc Tryz.prog W base (fun _=>true) held 27 v0 d0 p0) (h1:DataW.Trod enc Tryz.prog W base (fun _=>true) held 27 v1 d1 p1)
  (hw0:∀ n ∈ d0.weights Tryz.prog 27,n≤reachBytes) (hw1:∀ n ∈ d1.weights Tryz.prog 27,n≤reachBytes) :
  Calls Tryz.prog 4 #[v0,v1] W fun e W'=>e=.returned (.bool true)∧Below W.heap.size W W':=by
 obtain ⟨φ1,g1,a0,c0,R1,ro1,le1,f1,t0⟩:=e0O (B:=W.heap.size) (w0:=W) g0O g0e hv0 h0 hw0 (p0E W Tryz.prog.globals.size (ρ:=fun _=>.pointer none)) (ro0 _ _)
 obtain ⟨φ2,g2,a1,c1,R2,ro2,le2,f2,t1⟩:=e0O (B:=W.heap.size) (w0:=W) g0O g0e hv1 h1 hw1 R1 ro1
 obtain ⟨u,n,xs,e1,hn,s1,q1⟩:=g0g t0
 obtain ⟨u2,n2,ys,e2,hn2,s2,q2⟩:=g0g t1
 cases e1
 cases e2
 exact m0N (f:=O7) (args':=[v0,v1]) Tryz.checked.mixed p0z (p0M _ _) (l0O (s1.fr f2) s2 hn hn2 (fun x hx=>(q1 x hx).fr f2) q2) (.cons (c0.mono le2) (.cons c1 .nil)) (((n0w Tryz.prog).le le1).le le2) R2
end Go.Proofs.YtnapechhagnmaaaGreatDoor
