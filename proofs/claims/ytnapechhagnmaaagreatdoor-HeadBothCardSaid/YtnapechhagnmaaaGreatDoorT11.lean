/-
  Texts joined.
-/
import Derived.Test.YtnapechhagnmaaaGreatDoorT10
import Derived.Test.YtnapechhagnmaaaGreatDoorT4
import Derived.Test.YtnapechhagnmaaaGreatDoorT5

namespace Go.Dk
open Go Go.Dr
set_option maxRecDepth 100000
theorem l0Z (s:ByteArray) (i:Nat):1≤(Utf8.decode s i).2:=by
 unfold Utf8.decode
 simp only []
 repeat' split
 all_goals simp
theorem k0A {h:AH} {id pos:Nat} {s:List UInt8} (hg:h.get id=some (.siter s pos)) (hp:pos<s.length) :
  P1 h (.ptr id 0) true=okV (.tuple [.bool true,.int .i64 (pos:Int),.int .i32 ((Utf8.decode ⟨⟨s⟩⟩ pos).1:Int)]) (h.set id (.siter s (pos+(Utf8.decode ⟨⟨s⟩⟩ pos).2))):=by
 have hb:Nat.blt pos s.length=true:=by simpa [Nat.blt_eq] using hp
 simp only [P1,f0j,hg,hb,cond_true,j0]
theorem k0B {h:AH} {id pos:Nat} {s:List UInt8} (hg:h.get id=some (.siter s pos)) (hp:¬ pos<s.length):P1 h (.ptr id 0) true=okV (.tuple [.bool false]) h:=by
 have hb:Nat.blt pos s.length=false:=by
  cases e:Nat.blt pos s.length with
  | false=>rfl
  | true=>exact absurd (by simpa [Nat.blt_eq] using e) hp
 simp only [P1,f0j,hg,hb,cond_false]
def d0M (s:List UInt8):Nat→Nat→List Nat
 | 0,_=>[]
 | b+1,i=>if i<s.length then (Utf8.decode ⟨⟨s⟩⟩ i).1::d0M s b (i+(Utf8.decode ⟨⟨s⟩⟩ i).2) else []
def f0o (r:Nat):Bool:=decide (32≤r∧r≠127∧r≠65533)
def j0a (s:List UInt8):Bool:=(d0M s s.length 0).all f0o
def b02 (s:List UInt8):Bool:=decide (1≤s.length∧s.length≤40)&&j0a s
theorem j0b {s:List UInt8} {b i:Nat} (hi:¬ i<s.length):d0M s b i=[]:=by
 cases b with
 | zero=>rfl
 | succ b=>rw [d0M,if_neg hi]
theorem c06 (r:Nat) (h:AH) (K:AV→AH→Prop):Ev P SI (.fn V6) [.int .i32 (r:Int)] h K=K (.bool (f0o r)) h:=by
 refine Ev.eq (m6 e0J rfl rfl ?_) K
 unfold f0o
 by_cases h1:(32:Int)≤r
 ·have h1':32≤r:=by omega
  by_cases h2:(r:Int)=127
  ·have:r=127:=by omega
   subst this
   simp [M4]
  ·have h2':¬ r=127:=by omega
   have h3:((r:Int)=65533)↔r=65533:=by omega
   simp [M4,h1,h2,h1',h2',h3]
 ·have h1':¬ 32≤r:=by omega
  simp [M4,h1,h1']
theorem g04 {s:List UInt8} (h:AH):Ev P SI (.fn V5) [.str s] h fun r g=>r=.bool (b02 s)∧Fr h g:=by
 refine m6 e0I rfl rfl ?_
 have hop:W6 h (.str s)=okV (.ptr h.next 0) (h.push (.siter s 0)):=rfl
 simp [b0k,hop]
 refine f0u (fun q σ ds g=>∃ pos b,s.length≤q+pos∧s.length≤b+pos∧ds=[]∧σ 0=.str s∧σ 6=.ptr h.next 0∧g=h.push (.siter s pos)∧j0a s=(d0M s b pos).all f0o) s.length
  ⟨0,s.length,by omega,by omega,rfl,by simp,by simp,rfl,rfl⟩ ?_
 rintro q σ ds g ⟨pos,b,hq,hb,rfl,e0,e6,rfl,hp⟩
 have hg:(h.push (.siter s pos)).get h.next=some (.siter s pos):=a7 _
 by_cases hlt:pos<s.length
 ·have hn:=k0A hg hlt
  have hw:=l0Z ⟨⟨s⟩⟩ pos
  rw [AH.set_push] at hn
  obtain ⟨b',rfl⟩:∃ b',b=b'+1:=⟨b - 1,by omega⟩
  rw [d0M,if_pos hlt,List.all_cons] at hp
  generalize Utf8.decode ⟨⟨s⟩⟩ pos=d at *
  cases hr:f0o d.1 with
  | true =>
   rw [hr,Bool.true_and] at hp
   simp [e0,e6,hn,c06,hr,I0]
   exact ⟨q - 1,by omega,pos+d.2,by omega,b',by omega,rfl,hp⟩
  | false =>
   rw [hr,Bool.false_and] at hp
   simp [e0,e6,hn,c06,hr,b02,hp]
   exact Fr.push (.refl h) _
 ·have hn:=k0B hg hlt
  rw [j0b hlt] at hp
  have hp:j0a s=true:=hp
  cases hs:s with
  | nil =>
   subst hs
   simp [e0,e6,hn,b02]
   exact Fr.push (.refl h) _
  | cons c r =>
   rw [← hs]
   have hne:¬ s=[]:=by rw [hs];simp
   have h1:((s.length:Int)≤40)↔s.length≤40:=by omega
   have h2:1≤s.length:=by rw [hs];simp
   simp [e0,e6,hn,b02,hp,hne,h1,h2]
   exact Fr.push (.refl h) _
end Go.Dk

namespace Go.Dk
open Go Go.Dr
set_option maxRecDepth 100000
abbrev Lab:=Txt×Txt
def M2 (x:Lab):List AV:=[.str x.1,.str x.2]
@[simp] theorem n0r (x:Lab):(M2 x).length=2:=nr rfl
def a0z (last:Txt):List Lab→Bool
 | []=>true
 | x::l=>c0y x.1&&(b02 x.2&&(Op.bytesLess last x.1&&a0z x.1 l))
def d0k (l:List Lab):Bool:=decide (1≤l.length∧l.length≤8)&&a0z [] l
def h0p (l:List Lab):Prop:=∀ x ∈ l,x.1.length<2 ^ 62∧x.2.length<2 ^ 62
theorem e0t {h:AH} {n:Nat} {v:AV} {l:List Lab} (s:Sl h 2 n v (l.flatMap M2)) {k:IntKind} {i:Int} {j:Nat} (hi:i=j) {x:Lab} (hx:l[j]? = some x) :
  ∃ id o,G1 2 v (.int k i)=.ok (.ptr id o)∧loadN h id o 2=.ok [.str x.1,.str x.2]∧load1 h id o=.ok (.str x.1)∧load1 h id (o+1)=.ok (.str x.2)∧id<h.next:=by
 obtain ⟨id,o,h1,h2,h3,h4⟩:=s.elem (fun _ _=>rfl) (by omega) hi hx
 exact ⟨id,o,h1,h2,h3 0 _ rfl,h3 1 _ rfl,h4⟩
theorem b0Q {h:AH} {n:Nat} {v:AV} {l:List Lab} (s:Sl h 2 n v (l.flatMap M2)):l.length=n:=by
 have:=s.1
 rw [L1 (es:=2) l (fun _ _=>rfl)] at this
 omega
theorem i0B {h:AH} {n:Nat} {v:AV} {l:List Lab} (s:Sl h 2 n v (l.flatMap M2)) (hs:h0p l):Ev P SI (.fn a0N) [v] h fun r g=>r=.bool (d0k l)∧Fr h g:=by
 refine m6 g0H rfl rfl ?_
 have hl:=b0Q s
 by_cases h0:n=0
 ·have c1:((n:Int)=0):=by omega
  have c2:d0k l=false:=by unfold d0k;simp;omega
  simp [S9,s.len,eq_true h0,c2,Fr.refl]
 by_cases h8:8<n
 ·have c1:(8:Int)<n:=by omega
  have c2:d0k l=false:=by unfold d0k;simp;omega
  simp [S9,s.len,h0,c1,c2,Fr.refl]
 have c1:¬ (8:Int)<n:=by omega
 have c2:d0k l=a0z [] l:=by
  have:(decide (1≤l.length∧l.length≤8))=true:=by simp;omega
  unfold d0k;rw [this,Bool.true_and]
 simp [S9,s.len,h0,c1]
 rw [c2]
 refine E8 (n:=n) (by rfl) (fun j σ ds g=>∃ last,ds=[]∧σ 3=.str last∧σ 14=v∧σ 15=.int .i64 (n:Int)∧Fr h g∧a0z [] l=a0z last (l.drop j)) (by omega) (by simp) ⟨[],rfl,by simp,by simp,by simp,.refl _,rfl⟩
  (fun j σ ds g ⟨last,hJ⟩=>by simp [hJ.2.2.2.1]) ?_ ?_
 ·rintro j σ ds g hj hi ⟨last,rfl,e3,e14,e15,f,hc⟩
  have hjl:j<l.length:=by omega
  obtain ⟨id,o,i1,i2,i3,i4,_⟩:=e0t (s.fr f) (k:=.i64) (i:=(j:Int)) rfl (List.getElem?_eq_getElem hjl)
  have hsx:=hs _ (List.getElem_mem hjl)
  have hd:l.drop j=l[j]::l.drop (j+1):=List.drop_eq_getElem_cons hjl
  rw [hd,a0z] at hc
  generalize l[j]=x at *
  have f1:=f.push (.cells [.str x.1,.str x.2] false)
  simp [e3,e14,e15,hi,i1,i2]
  refine (i0f hsx.1 _).mono ?_
  rintro r g1 ⟨rfl,fa⟩
  have la:load1 g1 g.next 1=.ok (.str x.2):=d6 (vs:=[.str x.1,.str x.2]) (ro:=false) (by rw [fa.get _ (by simp)];exact a7 _)
  have lb:load1 g1 g.next 0=.ok (.str x.1):=d6 (vs:=[.str x.1,.str x.2]) (ro:=false) (by rw [fa.get _ (by simp)];exact a7 _)
  cases hn:c0y x.1 with
  | false =>
   rw [hn,Bool.false_and] at hc
   simp [hc]
   exact f1.trans fa
  | true =>
   rw [hn,Bool.true_and] at hc
   simp [la]
   refine (g04 _).mono ?_
   rintro r g2 ⟨rfl,fb⟩
   have lc:load1 g2 g.next 0=.ok (.str x.1):=d6 (vs:=[.str x.1,.str x.2]) (ro:=false) (by rw [fb.get _ (by have:=fa.next;simp at this;omega),fa.get _ (by simp)];exact a7 _)
   cases hv:b02 x.2 with
   | false =>
    rw [hv,Bool.false_and] at hc
    simp [hc]
    exact (f1.trans fa).trans fb
   | true =>
    rw [hv,Bool.true_and] at hc
    cases hb:Op.bytesLess last x.1 with
    | false =>
     rw [hb,Bool.false_and] at hc
     simp [lc,e3,hb,hc]
     exact (f1.trans fa).trans fb
    | true =>
     rw [hb,Bool.true_and] at hc
     simp [lc,e3,hb,e14,e15,hi]
     exact ⟨(f1.trans fa).trans fb,hc⟩
 ·rintro σ ds g ⟨last,rfl,e3,e14,e15,f,hc⟩
  rw [List.drop_of_length_le (by omega)] at hc
  simp [hc,a0z,f]
end Go.Dk

namespace Go.Dk
open Go Go.Dr
set_option maxRecDepth 100000
def Z4 (a b:Txt):Int:=if Op.bytesLess a b=true then -1 else if Op.bytesLess b a=true then 1 else 0
def Z8 (x y:Lab):Int:=if Z4 x.1 y.1=0 then Z4 x.2 y.2 else Z4 x.1 y.1
def t7:List Lab→List Lab→Int
 | [],[]=>0
 | [],_::_=>-1
 | _::_,[]=>1
 | x::a,y::b=>if Z8 x y=0 then t7 a b else Z8 x y
theorem c0W (s:Txt) (h:AH) (K:AV→AH→Prop):Ev P SI (.fn E3) [.str s] h K=K (.bool false) h:=by
 refine Ev.eq (m6 c0q rfl rfl ?_) K
 simp [V8]
theorem f0a (a b:Txt) (h:AH) (K:AV→AH→Prop):Ev P SI (.fn C2) [.str a,.str b] h K=K (.int .i64 (Z4 a b)) h:=by
 refine Ev.eq (m6 b0y rfl rfl ?_) K
 unfold Z4
 cases h1:Op.bytesLess a b with
 | true=>simp [G7,c0W,h1]
 | false=>cases h2:Op.bytesLess b a <;> simp [G7,c0W,h1,h2]
theorem o0l {h:AH} {v:AV} (x y:Int) (s:Sl h 1 2 v [.int .i64 x,.int .i64 y]) (K:AV→AH→Prop):Ev P SI (.fn a0M) [v] h K=K (.int .i64 (if x=0 then y else x)) h:=by
 refine Ev.eq (m6 g0X rfl rfl ?_) K
 simp [c0V,s.len]
 refine E8 (n:=2) (by rfl) (fun j σ ds g=>ds=[]∧σ 3=.int .i64 0∧σ 6=v∧σ 7=.int .i64 2∧g=h∧(0<j→x=0)∧(1<j→y=0)) (by omega) (by simp) ⟨rfl,by simp,by simp,by simp,rfl,by omega,by omega⟩ (fun j σ ds g hJ=>by simp [hJ.2.2.2.1]) ?_ ?_
 ·rintro j σ ds g hj hi ⟨rfl,e3,e6,e7,rfl,h1,h2⟩
  match j,hj with
  | 0,_ =>
   obtain ⟨id,o,g1,g2,_⟩:=s.get1 (k:=.i64) (i:=((0:Nat):Int)) rfl (by omega) (x:=.int .i64 x) rfl
   rw [show ((0:Nat):Int)=0 from rfl] at g1 hi
   by_cases hx:x=0
   ·subst hx;simp [e3,e6,e7,hi,g1,g2]
   ·simp [e3,e6,e7,hi,g1,g2,hx]
  | 1,_ =>
   obtain ⟨id,o,g1,g2,_⟩:=s.get1 (k:=.i64) (i:=((1:Nat):Int)) rfl (by omega) (x:=.int .i64 y) rfl
   rw [show ((1:Nat):Int)=1 from rfl] at g1 hi
   have hx:=h1 (by omega)
   subst hx
   by_cases hy:y=0
   ·subst hy;simp [e3,e6,e7,hi,g1,g2]
   ·simp [e3,e6,e7,hi,g1,g2,hy]
 ·rintro σ ds g ⟨rfl,e3,e6,e7,rfl,h1,h2⟩
  have hx:=h1 (by omega)
  have hy:=h2 (by omega)
  subst hx hy
  simp [e3]
theorem d0A (x y:Lab) (h:AH):Ev P SI (.fn A8) [.agg (M2 x),.agg (M2 y)] h fun r g=>r=.int .i64 (Z8 x y)∧Fr h g:=by
 refine m6 c0p rfl rfl ?_
 unfold M2 Z8
 have l1:∀ o,load1 ((h.push (.cells [.str x.1,.str x.2] false)).push (.cells [.str y.1,.str y.2] false)) h.next o=ofO "load: out of the known cells" [AV.str x.1,.str x.2][o]?:=fun o=>d6 (by rw [c9 (by simp)];exact a7 _)
 have l2:∀ o,load1 ((h.push (.cells [.str x.1,.str x.2] false)).push (.cells [.str y.1,.str y.2] false)) (h.next+1) o=ofO "load: out of the known cells" [AV.str y.1,.str y.2][o]?:=fun o=>d6 (a7 _)
 have so:=(Own.fresh (B:=0) (h:=(h.push (.cells [.str x.1,.str x.2] false)).push (.cells [.str y.1,.str y.2] false)) (es:=1) (n:=2) (l:=[.int .i64 (Z4 x.1 y.1),.int .i64 (Z4 x.2 y.2)]) true (Nat.zero_le _) rfl).sl
 have ho:=o0l _ _ so
 simp only [AH.next_push] at ho
 simp [V7,l1,l2,f0a,L5,ho]
 exact (((Fr.refl h).push _).push _).push _
theorem d0B:∀ (j:Nat) (a b:List Lab),j≤a.length→j≤b.length→(∀ i x y,i<j→a[i]? = some x→b[i]? = some y→Z8 x y=0)→t7 a b=t7 (a.drop j) (b.drop j)
 | 0,a,b,_,_,_=>rfl
 | j+1,[],b,h,_,_=>by simp at h
 | j+1,x::a,[],_,h,_=>by simp at h
 | j+1,x::a,y::b,h1,h2,h3=>by
  have:=h3 0 x y (by omega) rfl rfl
  rw [t7,if_pos this,List.drop_succ_cons,List.drop_succ_cons]
  exact d0B j a b (by simpa using h1) (by simpa using h2) fun i u w hi ha hb=>h3 (i+1) u w (by omega) (by simpa using ha) (by simpa using hb)
theorem f0b {h:AH} {n m:Nat} {va vb:AV} {a b:List Lab} (sa:Sl h 2 n va (a.flatMap M2)) (sb:Sl h 2 m vb (b.flatMap M2)) (hn:n<2 ^ 62) (hm:m<2 ^ 62) :
  Ev P SI (.fn O6) [va,vb] h fun r g=>r=.int .i64 (t7 a b)∧Fr h g:=by
 refine m6 d0x rfl rfl ?_
 simp [a0k]
 have la:=b0Q sa
 have lb:=b0Q sb
 have key:Ev P SI (.fn h9) [va,vb,.func (.func A8) [] []] h fun r g=>r=.int .i64 (t7 a b)∧Fr h g:=by
  refine m6 u9 rfl rfl ?_
  simp [k7,sa.len]
  refine E8 (n:=n) (by rfl) (fun j σ ds g=>ds=[]∧σ 0=va∧σ 1=vb∧σ 2=.func (.func A8) [] []∧σ 11=va∧σ 12=.int .i64 (n:Int)∧Fr h g∧j≤m∧(∀ i x y,i<j→a[i]? = some x→b[i]? = some y→Z8 x y=0))
   (by omega) (by simp) ⟨rfl,by simp,by simp,by simp,by simp,by simp,.refl _,by omega,by omega⟩ (fun j σ ds g hJ=>by simp [hJ.2.2.2.2.2.1]) ?_ ?_
  ·rintro j σ ds g hj hi ⟨rfl,e0,e1,e2,e11,e12,f,hjm,heq⟩
   have hja:j<a.length:=by omega
   obtain ⟨id,o,i1,i2,_⟩:=e0t (sa.fr f) (k:=.i64) (i:=(j:Int)) rfl (List.getElem?_eq_getElem hja)
   have hd:=d0B j a b (by omega) (by omega) heq
   have fr1:∀ x:Lab,Fr h (g.push (.cells (M2 x) false)):=fun x=>f.push _
   by_cases hm1:m≤j
   ·have c1:(m:Int)≤j:=by omega
    have:b.drop j=[]:=List.drop_of_length_le (by omega)
    have h2:a.drop j=a[j]::a.drop (j+1):=List.drop_eq_getElem_cons hja
    rw [this,h2,t7] at hd
    simp [e0,e1,e2,e11,e12,hi,i1,i2,sb.len,c1,hd,(sb.fr (fr1 a[j])).len]
    exact f.push _
   ·have c1:¬ (m:Int)≤j:=by omega
    have hjb:j<b.length:=by omega
    have h1:a.drop j=a[j]::a.drop (j+1):=List.drop_eq_getElem_cons hja
    have h2:b.drop j=b[j]::b.drop (j+1):=List.drop_eq_getElem_cons hjb
    rw [h1,h2,t7] at hd
    have hxa:a[j]? = some a[j]:=List.getElem?_eq_getElem hja
    have hxb:b[j]? = some b[j]:=List.getElem?_eq_getElem hjb
    generalize a[j]=x at *
    generalize b[j]=y at *
    obtain ⟨id2,o2,j1,j2,_⟩:=e0t (sb.fr (f.push (.cells [.str x.1,.str x.2] false))) (k:=.i64) (i:=(j:Int)) rfl hxb
    have ln:loadN ((g.push (.cells [.str x.1,.str x.2] false)).push (.cells [.str y.1,.str y.2] false)) g.next 0 2=.ok [.str x.1,.str x.2]:=G6 (by rw [c9 (by simp)];exact a7 _) rfl
    have lm:loadN ((g.push (.cells [.str x.1,.str x.2] false)).push (.cells [.str y.1,.str y.2] false)) (g.next+1) 0 2=.ok [.str y.1,.str y.2]:=G6 (a7 _) rfl
    have fg:=(f.push (.cells [.str x.1,.str x.2] false)).push (.cells [.str y.1,.str y.2] false)
    have sn:=E0 (h:=g.push (.cells [.str x.1,.str x.2] false)) (n:=2) (z:=[.str [],.str []]) (l:=[.str y.1,.str y.2]) rfl rfl rfl
    simp only [AH.next_push] at sn
    simp [e0,e1,e2,e11,e12,hi,i1,i2,sb.len,c1,j1,j2,sn,ln,lm]
    refine (d0A x y _).mono ?_
    rintro r g1 ⟨rfl,fa⟩
    by_cases hc:Z8 x y=0
    ·simp [hc,e0,e1,e2,e11,e12,hi]
     refine ⟨fg.trans fa,by omega,fun i p1 p2 q1 q2 hij hp hq=>?_⟩
     by_cases e:i=j
     ·subst e
      rw [hxa] at hp
      rw [hxb] at hq
      cases hp;cases hq;exact hc
     ·exact heq i _ _ (by omega) hp hq
    ·rw [if_neg hc] at hd
     simp [hc,hd]
     exact fg.trans fa
  ·rintro σ ds g ⟨rfl,e0,e1,e2,e11,e12,f,hjm,heq⟩
   have hd:=d0B n a b (by omega) (by omega) heq
   have:a.drop n=[]:=List.drop_of_length_le (by omega)
   rw [this] at hd
   by_cases hlt:n<m
   ·have c1:(n:Int)<m:=by omega
    have h2:b.drop n=b[n]'(by omega)::b.drop (n+1):=List.drop_eq_getElem_cons _
    rw [h2,t7] at hd
    simp [e0,e1,sa.len,sb.len,c1,hd,f]
   ·have c1:¬ (n:Int)<m:=by omega
    have h2:b.drop n=[]:=List.drop_of_length_le (by omega)
    rw [h2,t7] at hd
    simp [e0,e1,sa.len,sb.len,c1,hd,f]
 refine key.mono ?_
 rintro r g ⟨rfl,f⟩
 simp [f]
end Go.Dk

namespace Go.Dk
open Go Go.Dr
set_option maxRecDepth 100000
end Go.Dk

namespace Go.Dk
open Go Go.Dr
set_option maxRecDepth 100000
abbrev Smp:=Int×Nat
def smC (x:Smp):List AV:=[.int .i64 x.1,.int .u64 (x.2:Int)]
theorem l0I {h:AH} {n:Nat} {v:AV} {l:List Smp} (s:Sl h 2 n v (l.flatMap smC)) {j:Nat} {x:Smp} (hx:l[j]? = some x) :
  ∃ id o,G1 2 v (.int .i64 (j:Int))=.ok (.ptr id o)∧loadN h id o 2=.ok (smC x)∧load1 h id o=.ok (.int .i64 x.1)∧load1 h id (o+1)=.ok (.int .u64 (x.2:Int))∧id<h.next:=by
 obtain ⟨id,o,h1,h2,h3,h4⟩:=s.elem (fun _ _=>rfl) (by omega) (k:=.i64) (i:=(j:Int)) rfl hx
 exact ⟨id,o,h1,h2,h3 0 _ rfl,h3 1 _ rfl,h4⟩
theorem J4 {α:Type} {l:List α} {j:Nat} (h:j<l.length):∃ x,l[j]? = some x:=⟨_,List.getElem?_eq_getElem h⟩
theorem m0R {h:AH} {n:Nat} {v:AV} {l:List Smp} (s:Sl h 2 n v (l.flatMap smC)):l.length=n:=by
 have:=s.1
 rw [L1 l (es:=2) (fun _ _=>rfl)] at this
 omega
theorem Sl.idLt {h:AH} {es n:Nat} {v:AV} {l:List AV} (s:Sl h es n v l) {i:Nat} (hi:s7 v=some i):i<h.next:=by
 rcases s.2 with ⟨rfl,_⟩ | ⟨id,off,cap,x,vs,ro,rfl,e2,_⟩
 ·cases hi
 ·cases hi;exact e2
end Go.Dk
