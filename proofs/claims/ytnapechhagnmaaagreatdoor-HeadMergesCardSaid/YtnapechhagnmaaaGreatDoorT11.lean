/-
  Texts joined.
-/
import Derived.Test.YtnapechhagnmaaaGreatDoorT10
import Derived.Test.YtnapechhagnmaaaGreatDoorT4
import Derived.Test.YtnapechhagnmaaaGreatDoorT5

namespace Go.Dk
open Go Go.Dr
set_option maxRecDepth 100000
end Go.Dk

namespace Go.Dk
open Go Go.Dr
set_option maxRecDepth 100000
abbrev Lab:=Txt×Txt
def H7 (x:Lab):List AV:=[.str x.1,.str x.2]
@[simp] theorem m00 (x:Lab):(H7 x).length=2:=nr rfl
def k0J (l:List Lab):Prop:=∀ x ∈ l,x.1.length<2 ^ 62∧x.2.length<2 ^ 62
theorem c0W {h:AH} {n:Nat} {v:AV} {l:List Lab} (s:Sl h 2 n v (l.flatMap H7)) {k:IntKind} {i:Int} {j:Nat} (hi:i=j) {x:Lab} (hx:l[j]? = some x) :
  ∃ id o,D3 2 v (.int k i)=.ok (.ptr id o)∧loadN h id o 2=.ok [.str x.1,.str x.2]∧load1 h id o=.ok (.str x.1)∧load1 h id (o+1)=.ok (.str x.2)∧id<h.next:=by
 obtain ⟨id,o,h1,h2,h3,h4⟩:=s.elem (fun _ _=>rfl) (by omega) hi hx
 exact ⟨id,o,h1,h2,h3 0 _ rfl,h3 1 _ rfl,h4⟩
theorem U7 {h:AH} {n:Nat} {v:AV} {l:List Lab} (s:Sl h 2 n v (l.flatMap H7)):l.length=n:=by
 have:=s.1
 rw [O3 (es:=2) l (fun _ _=>rfl)] at this
 omega
end Go.Dk

namespace Go.Dk
open Go Go.Dr
set_option maxRecDepth 100000
def Q4 (a b:Txt):Int:=if Op.bytesLess a b=true then -1 else if Op.bytesLess b a=true then 1 else 0
def R9 (x y:Lab):Int:=if Q4 x.1 y.1=0 then Q4 x.2 y.2 else Q4 x.1 y.1
def l8:List Lab→List Lab→Int
 | [],[]=>0
 | [],_::_=>-1
 | _::_,[]=>1
 | x::a,y::b=>if R9 x y=0 then l8 a b else R9 x y
theorem c0A (s:Txt) (h:AH) (K:AV→AH→Prop):Ev P SI (.fn E7) [.str s] h K=K (.bool false) h:=by
 refine Ev.eq (o9 b04 rfl rfl ?_) K
 simp [T9]
theorem e0H (a b:Txt) (h:AH) (K:AV→AH→Prop):Ev P SI (.fn C5) [.str a,.str b] h K=K (.int .i64 (Q4 a b)) h:=by
 refine Ev.eq (o9 a05 rfl rfl ?_) K
 unfold Q4
 cases h1:Op.bytesLess a b with
 | true=>simp [G8,c0A,h1]
 | false=>cases h2:Op.bytesLess b a <;> simp [G8,c0A,h1,h2]
theorem a09 (a b:Txt) (h:AH) (K:AV→AH→Prop):Ev P SI (.fn N9) [.str a,.str b] h K=K (.int .i64 (Q4 a b)) h:=by
 refine Ev.eq (o9 f0h rfl rfl ?_) K
 unfold Q4
 cases h1:Op.bytesLess a b with
 | true=>simp [W3,h1]
 | false=>cases h2:Op.bytesLess b a <;> simp [W3,h1,h2]
theorem n0Q {h:AH} {v:AV} (x y:Int) (s:Sl h 1 2 v [.int .i64 x,.int .i64 y]) (K:AV→AH→Prop):Ev P SI (.fn a0h) [v] h K=K (.int .i64 (if x=0 then y else x)) h:=by
 refine Ev.eq (o9 g0p rfl rfl ?_) K
 simp [c0x,s.len]
 refine F6 (n:=2) (by rfl) (fun j σ ds g=>ds=[]∧σ 3=.int .i64 0∧σ 6=v∧σ 7=.int .i64 2∧g=h∧(0<j→x=0)∧(1<j→y=0)) (by omega) (by simp) ⟨rfl,by simp,by simp,by simp,rfl,by omega,by omega⟩ (fun j σ ds g hJ=>by simp [hJ.2.2.2.1]) ?_ ?_
 ·rintro j σ ds g hj hi ⟨rfl,e3,e6,e7,rfl,h1,h2⟩
  match j,hj with
  | 0,_ =>
   obtain ⟨id,o,g1,g2,_⟩:=s.get1 (k:=.i64) (i:=((0:Nat):Int)) rfl (by omega) (x:=.int .i64 x) rfl
   rw [show ((0:Nat):Int)=0 from rfl] at g1 hi
   by_cases hx:x=0
   ·subst hx;simp [e3,e6,e7,hi,g1,g2]
   ·simp [e3,e6,e7,hi,g1,g2,hx]
  | 1,_ =>
   obtain ⟨id,o,g1,g2,_⟩:=s.get1 (k:=.i64) (i:=((1:Nat):Int)) rfl (by omega) (x:=.int .i64 y) rfl
   rw [show ((1:Nat):Int)=1 from rfl] at g1 hi
   have hx:=h1 (by omega)
   subst hx
   by_cases hy:y=0
   ·subst hy;simp [e3,e6,e7,hi,g1,g2]
   ·simp [e3,e6,e7,hi,g1,g2,hy]
 ·rintro σ ds g ⟨rfl,e3,e6,e7,rfl,h1,h2⟩
  have hx:=h1 (by omega)
  have hy:=h2 (by omega)
  subst hx hy
  simp [e3]
theorem d0c (x y:Lab) (h:AH):Ev P SI (.fn B3) [.agg (H7 x),.agg (H7 y)] h fun r g=>r=.int .i64 (R9 x y)∧Fr h g:=by
 refine o9 b03 rfl rfl ?_
 unfold H7 R9
 have l1:∀ o,load1 ((h.push (.cells [.str x.1,.str x.2] false)).push (.cells [.str y.1,.str y.2] false)) h.next o=ofO "load: out of the known cells" [AV.str x.1,.str x.2][o]?:=fun o=>c9 (by rw [b9 (by simp)];exact a8 _)
 have l2:∀ o,load1 ((h.push (.cells [.str x.1,.str x.2] false)).push (.cells [.str y.1,.str y.2] false)) (h.next+1) o=ofO "load: out of the known cells" [AV.str y.1,.str y.2][o]?:=fun o=>c9 (a8 _)
 have so:=(Own.fresh (B:=0) (h:=(h.push (.cells [.str x.1,.str x.2] false)).push (.cells [.str y.1,.str y.2] false)) (es:=1) (n:=2) (l:=[.int .i64 (Q4 x.1 y.1),.int .i64 (Q4 x.2 y.2)]) true (Nat.zero_le _) rfl).sl
 have ho:=n0Q _ _ so
 simp only [AH.next_push] at ho
 simp [T8,l1,l2,e0H,u6,ho]
 exact (((Fr.refl h).push _).push _).push _
theorem X8:∀ (j:Nat) (a b:List Lab),j≤a.length→j≤b.length→(∀ i x y,i<j→a[i]? = some x→b[i]? = some y→R9 x y=0)→l8 a b=l8 (a.drop j) (b.drop j)
 | 0,a,b,_,_,_=>rfl
 | j+1,[],b,h,_,_=>by simp at h
 | j+1,x::a,[],_,h,_=>by simp at h
 | j+1,x::a,y::b,h1,h2,h3=>by
  have:=h3 0 x y (by omega) rfl rfl
  rw [l8,if_pos this,List.drop_succ_cons,List.drop_succ_cons]
  exact X8 j a b (by simpa using h1) (by simpa using h2) fun i u w hi ha hb=>h3 (i+1) u w (by omega) (by simpa using ha) (by simpa using hb)
theorem e0I {h:AH} {n m:Nat} {va vb:AV} {a b:List Lab} (sa:Sl h 2 n va (a.flatMap H7)) (sb:Sl h 2 m vb (b.flatMap H7)) (hn:n<2 ^ 62) (hm:m<2 ^ 62) :
  Ev P SI (.fn M7) [va,vb] h fun r g=>r=.int .i64 (l8 a b)∧Fr h g:=by
 refine o9 c08 rfl rfl ?_
 simp [X5]
 have la:=U7 sa
 have lb:=U7 sb
 have key:Ev P SI (.fn g8) [va,vb,.func (.func B3) [] []] h fun r g=>r=.int .i64 (l8 a b)∧Fr h g:=by
  refine o9 u7 rfl rfl ?_
  simp [j9,sa.len]
  refine F6 (n:=n) (by rfl) (fun j σ ds g=>ds=[]∧σ 0=va∧σ 1=vb∧σ 2=.func (.func B3) [] []∧σ 11=va∧σ 12=.int .i64 (n:Int)∧Fr h g∧j≤m∧(∀ i x y,i<j→a[i]? = some x→b[i]? = some y→R9 x y=0))
   (by omega) (by simp) ⟨rfl,by simp,by simp,by simp,by simp,by simp,.refl _,by omega,by omega⟩ (fun j σ ds g hJ=>by simp [hJ.2.2.2.2.2.1]) ?_ ?_
  ·rintro j σ ds g hj hi ⟨rfl,e0,e1,e2,e11,e12,f,hjm,heq⟩
   have hja:j<a.length:=by omega
   obtain ⟨id,o,i1,i2,_⟩:=c0W (sa.fr f) (k:=.i64) (i:=(j:Int)) rfl (List.getElem?_eq_getElem hja)
   have hd:=X8 j a b (by omega) (by omega) heq
   have fr1:∀ x:Lab,Fr h (g.push (.cells (H7 x) false)):=fun x=>f.push _
   by_cases hm1:m≤j
   ·have c1:(m:Int)≤j:=by omega
    have:b.drop j=[]:=List.drop_of_length_le (by omega)
    have h2:a.drop j=a[j]::a.drop (j+1):=List.drop_eq_getElem_cons hja
    rw [this,h2,l8] at hd
    simp [e0,e1,e2,e11,e12,hi,i1,i2,sb.len,c1,hd,(sb.fr (fr1 a[j])).len]
    exact f.push _
   ·have c1:¬ (m:Int)≤j:=by omega
    have hjb:j<b.length:=by omega
    have h1:a.drop j=a[j]::a.drop (j+1):=List.drop_eq_getElem_cons hja
    have h2:b.drop j=b[j]::b.drop (j+1):=List.drop_eq_getElem_cons hjb
    rw [h1,h2,l8] at hd
    have hxa:a[j]? = some a[j]:=List.getElem?_eq_getElem hja
    have hxb:b[j]? = some b[j]:=List.getElem?_eq_getElem hjb
    generalize a[j]=x at *
    generalize b[j]=y at *
    obtain ⟨id2,o2,j1,j2,_⟩:=c0W (sb.fr (f.push (.cells [.str x.1,.str x.2] false))) (k:=.i64) (i:=(j:Int)) rfl hxb
    have ln:loadN ((g.push (.cells [.str x.1,.str x.2] false)).push (.cells [.str y.1,.str y.2] false)) g.next 0 2=.ok [.str x.1,.str x.2]:=w9 (by rw [b9 (by simp)];exact a8 _) rfl
    have lm:loadN ((g.push (.cells [.str x.1,.str x.2] false)).push (.cells [.str y.1,.str y.2] false)) (g.next+1) 0 2=.ok [.str y.1,.str y.2]:=w9 (a8 _) rfl
    have fg:=(f.push (.cells [.str x.1,.str x.2] false)).push (.cells [.str y.1,.str y.2] false)
    have sn:=A7 (h:=g.push (.cells [.str x.1,.str x.2] false)) (n:=2) (z:=[.str [],.str []]) (l:=[.str y.1,.str y.2]) rfl rfl rfl
    simp only [AH.next_push] at sn
    simp [e0,e1,e2,e11,e12,hi,i1,i2,sb.len,c1,j1,j2,sn,ln,lm]
    refine (d0c x y _).mono ?_
    rintro r g1 ⟨rfl,fa⟩
    by_cases hc:R9 x y=0
    ·simp [hc,e0,e1,e2,e11,e12,hi]
     refine ⟨fg.trans fa,by omega,fun i p1 p2 q1 q2 hij hp hq=>?_⟩
     by_cases e:i=j
     ·subst e
      rw [hxa] at hp
      rw [hxb] at hq
      cases hp;cases hq;exact hc
     ·exact heq i _ _ (by omega) hp hq
    ·rw [if_neg hc] at hd
     simp [hc,hd]
     exact fg.trans fa
  ·rintro σ ds g ⟨rfl,e0,e1,e2,e11,e12,f,hjm,heq⟩
   have hd:=X8 n a b (by omega) (by omega) heq
   have:a.drop n=[]:=List.drop_of_length_le (by omega)
   rw [this] at hd
   by_cases hlt:n<m
   ·have c1:(n:Int)<m:=by omega
    have h2:b.drop n=b[n]'(by omega)::b.drop (n+1):=List.drop_eq_getElem_cons _
    rw [h2,l8] at hd
    simp [e0,e1,sa.len,sb.len,c1,hd,f]
   ·have c1:¬ (n:Int)<m:=by omega
    have h2:b.drop n=[]:=List.drop_of_length_le (by omega)
    rw [h2,l8] at hd
    simp [e0,e1,sa.len,sb.len,c1,hd,f]
 refine key.mono ?_
 rintro r g ⟨rfl,f⟩
 simp [f]
end Go.Dk

namespace Go.Dk
open Go Go.Dr
set_option maxRecDepth 100000
theorem b0M {h:AH} {n m:Nat} {va vb:AV} {a b:List Lab} (sa:Sl h 2 n va (a.flatMap H7)) (sb:Sl h 2 m vb (b.flatMap H7)) (hn:n<2 ^ 62) (hm:m<2 ^ 62) (K:AV→AH→Prop) :
  Ev P SI (.fn J0) [va,vb] h K=K (.int .i64 (l8 a b)) h:=by
 refine Ev.eq (o9 d0U rfl rfl ?_) K
 have la:=U7 sa
 have lb:=U7 sb
 simp [a0G,sa.len,sb.len]
 refine F6 (n:=min n m) (by rfl) (fun j σ ds g=>ds=[]∧σ 0=va∧σ 1=vb∧σ 12=.int .i64 ((min n m:Nat):Int)∧g=h∧(∀ i x y,i<j→a[i]? = some x→b[i]? = some y→R9 x y=0))
  (by omega) (by simp) ⟨rfl,by simp,by simp,by simp;omega,rfl,by omega⟩ (fun j σ ds g hJ=>by simp [hJ.2.2.2.1]) ?_ ?_
 ·rintro j σ ds g hj hi ⟨rfl,e0,e1,e12,rfl,heq⟩
  have hja:j<a.length:=by omega
  have hjb:j<b.length:=by omega
  obtain ⟨id,o,i1,i2,i3,i4,_⟩:=c0W sa (k:=.i64) (i:=(j:Int)) rfl (List.getElem?_eq_getElem hja)
  obtain ⟨id2,o2,j1,j2,j3,j4,_⟩:=c0W sb (k:=.i64) (i:=(j:Int)) rfl (List.getElem?_eq_getElem hjb)
  have hd:=X8 j a b (by omega) (by omega) heq
  have h1:a.drop j=a[j]::a.drop (j+1):=List.drop_eq_getElem_cons hja
  have h2:b.drop j=b[j]::b.drop (j+1):=List.drop_eq_getElem_cons hjb
  rw [h1,h2,l8] at hd
  have hxa:a[j]? = some a[j]:=List.getElem?_eq_getElem hja
  have hxb:b[j]? = some b[j]:=List.getElem?_eq_getElem hjb
  generalize a[j]=x at *
  generalize b[j]=y at *
  unfold R9 at hd
  by_cases c1:Q4 x.1 y.1=0
  ·by_cases c2:Q4 x.2 y.2=0
   ·simp [e0,e1,e12,hi,i1,i2,i3,i4,j1,j2,j3,j4,a09,c1,c2]
    intro i p1 p2 q1 q2 hij hp hq
    by_cases e:i=j
    ·subst e
     rw [hxa] at hp
     rw [hxb] at hq
     cases hp;cases hq;unfold R9;rw [if_pos c1];exact c2
    ·exact heq i _ _ (by omega) hp hq
   ·simp only [c1,c2,if_true,if_false] at hd
    simp [e0,e1,e12,hi,i1,i2,i3,i4,j1,j2,j3,j4,a09,c1,c2,hd]
  ·simp only [c1,if_false] at hd
   simp [e0,e1,e12,hi,i1,i2,i3,i4,j1,j2,j3,j4,a09,c1,hd]
 ·rintro σ ds g ⟨rfl,e0,e1,e12,rfl,heq⟩
  have hd:=X8 (min n m) a b (by omega) (by omega) heq
  rcases Nat.lt_trichotomy n m with hlt | hlt | hlt
  ·have h1:a.drop (min n m)=[]:=List.drop_of_length_le (by omega)
   have h2:b.drop (min n m)=b[n]'(by omega)::b.drop (n+1):=by rw [Nat.min_eq_left (by omega)];exact List.drop_eq_getElem_cons _
   rw [h1,h2,l8] at hd
   have c1:(n:Int)<m:=by omega
   simp [e0,e1,sa.len,sb.len,c1,hd]
  ·subst hlt
   have h1:a.drop (min n n)=[]:=List.drop_of_length_le (by omega)
   have h2:b.drop (min n n)=[]:=List.drop_of_length_le (by omega)
   rw [h1,h2,l8] at hd
   simp [e0,e1,sa.len,sb.len,hd]
  ·have h1:b.drop (min n m)=[]:=List.drop_of_length_le (by omega)
   have h2:a.drop (min n m)=a[m]'(by omega)::a.drop (m+1):=by rw [Nat.min_eq_right (by omega)];exact List.drop_eq_getElem_cons _
   rw [h1,h2,l8] at hd
   have c1:¬ (n:Int)<m:=by omega
   have c2:(m:Int)<n:=by omega
   simp [e0,e1,sa.len,sb.len,c1,c2,hd]
end Go.Dk

namespace Go.Dk
open Go Go.Dr
set_option maxRecDepth 100000
abbrev Smp:=Int×Nat
def smC (x:Smp):List AV:=[.int .i64 x.1,.int .u64 (x.2:Int)]
theorem f0G {h:AH} {n:Nat} {v:AV} {l:List Smp} (s:Sl h 2 n v (l.flatMap smC)) {j:Nat} {x:Smp} (hx:l[j]? = some x) :
  ∃ id o,D3 2 v (.int .i64 (j:Int))=.ok (.ptr id o)∧loadN h id o 2=.ok (smC x)∧load1 h id o=.ok (.int .i64 x.1)∧load1 h id (o+1)=.ok (.int .u64 (x.2:Int))∧id<h.next:=by
 obtain ⟨id,o,h1,h2,h3,h4⟩:=s.elem (fun _ _=>rfl) (by omega) (k:=.i64) (i:=(j:Int)) rfl hx
 exact ⟨id,o,h1,h2,h3 0 _ rfl,h3 1 _ rfl,h4⟩
theorem B9 {α:Type} {l:List α} {j:Nat} (h:j<l.length):∃ x,l[j]? = some x:=⟨_,List.getElem?_eq_getElem h⟩
theorem i08 {h:AH} {n:Nat} {v:AV} {l:List Smp} (s:Sl h 2 n v (l.flatMap smC)):l.length=n:=by
 have:=s.1
 rw [O3 l (es:=2) (fun _ _=>rfl)] at this
 omega
theorem Sl.idLt {h:AH} {es n:Nat} {v:AV} {l:List AV} (s:Sl h es n v l) {i:Nat} (hi:k7 v=some i):i<h.next:=by
 rcases s.2 with ⟨rfl,_⟩ | ⟨id,off,cap,x,vs,ro,rfl,e2,_⟩
 ·cases hi
 ·cases hi;exact e2
end Go.Dk
