/-
  Texts joined.
-/
import Derived.Test.YtkbddcapcjdenaaGreatDoorT5
import Derived.Test.YtkbddcapcjdenaaGreatDoorT4

namespace Go.Dk
open Go Go.Dr
set_option maxRecDepth 100000
theorem h0E:∀ s:List UInt8,a08 s=by8 (s.map UInt8.toNat)
 | []=>rfl
 | b::s=>by rw [a08,h0E s];rfl
theorem i0p {s:List UInt8} {j:Nat} {b:UInt8} (k:IntKind) (hj:s[j]? = some b):Z1 (.str s) (.int k (j:Int))=.ok (.int .u8 (b.toNat:Int)):=by
 simp [Z1,hj]
def P7 (n:Nat):Bool:=decide (n=95)||decide (97≤n∧n≤122)||decide (65≤n∧n≤90)
def a0i (n:Nat):Bool:=decide (48≤n∧n≤57)
theorem D0g:∀ c:Fin 256,((97:Int)≤b9 .u8 ((c.val%256 ||| 32:Nat):Int)∧b9 .u8 ((c.val%256 ||| 32:Nat):Int)≤122)↔((97≤c.val∧c.val≤122)∨(65≤c.val∧c.val≤90)):=by decide
theorem h0F (c:Nat):P7 c=decide (c=95∨(97≤c∧c≤122)∨(65≤c∧c≤90)):=by
 unfold P7
 rw [Bool.eq_iff_iff]
 simp only [Bool.or_eq_true,decide_eq_true_eq]
 omega
theorem d07 {c:Nat} (hc:c<256) (h:AH) (K:AV→AH→Prop):Ev P SI (.fn a0c) [.int .u8 (c:Int)] h K=K (.bool (P7 c)) h:=by
 refine Ev.eq (k8 l0b rfl rfl ?_) K
 have key:=D0g ⟨c,hc⟩
 simp only at key
 rw [h0F]
 by_cases h1:c=95
 ·subst h1;simp [U0]
 ·have h1':¬ ((c:Int)=95):=by omega
  by_cases h2:(97:Int)≤b9 .u8 ((c%256 ||| 32:Nat):Int)
  ·by_cases h3:b9 .u8 ((c%256 ||| 32:Nat):Int)≤(122:Int)
   ·have:=key.1 ⟨h2,h3⟩
    simp [U0,h1',h2,h3,this]
   ·have:¬ ((97≤c∧c≤122)∨(65≤c∧c≤90)):=fun e=>h3 (key.2 e).2
    simp [U0,h1',h2,h3,this,h1]
  ·have:¬ ((97≤c∧c≤122)∨(65≤c∧c≤90)):=fun e=>h2 (key.2 e).1
   simp [U0,h1',h2,this,h1]
theorem p0o (c:Nat) (h:AH) (K:AV→AH→Prop):Ev P SI (.fn c0P) [.int .u8 (c:Int)] h K=K (.bool (a0i c)) h:=by
 refine Ev.eq (k8 m0k rfl rfl ?_) K
 unfold a0i
 by_cases h1:(48:Int)≤c
 ·have h1':48≤c:=by omega
  have h2:((c:Int)≤57)↔c≤57:=by omega
  simp [c06,h1,h1',h2]
 ·have h1':¬ 48≤c:=by omega
  simp [c06,h1,h1']
theorem n0z {c:Nat} (hc:c<256) (h:AH) (K:AV→AH→Prop):Ev P SI (.fn a0d) [.int .u8 (c:Int)] h K=K (.bool (!(P7 c||a0i c))) h:=by
 refine Ev.eq (k8 l0c rfl rfl ?_) K
 cases h1:P7 c
 ·simp [b00,d07 hc,h1,p0o]
 ·simp [b00,d07 hc,h1]
theorem l0K {h:AH} {v:AV} {l:List Nat} {n:Nat} {f:FuncId} {p:Nat→Bool} (hv:Sl h 1 n v (by8 l)) (hn:n<2 ^ 62) (hb:∀ x ∈ l,x<256)
  (hp:∀ x:Nat,x<256→∀ K,Ev P SI (.fn f) [.int .u8 (x:Int)] h K=K (.bool (p x)) h) (K:AV→AH→Prop):Ev P SI (.fn G1) [v,.func (.func f) [] []] h K=K (.bool (l.any p)) h:=by
 have hl:l.length=n:=by have:=hv.1;simpa using this
 refine Ev.eq (k8 b0h rfl rfl ?_) K
 simp [P5]
 have key:Ev P SI (.fn J6) [v,.func (.func f) [] []] h fun r g=>g=h∧∃ q:Int,r=.int .i64 q∧(0≤q↔l.any p=true):=by
  refine k8 b0Z rfl rfl ?_
  simp [U1,hv.len]
  refine m8 (n:=n) (by rfl) (fun j σ ds h'=>ds=[]∧σ 0=v∧σ 1=.func (.func f) [] []∧σ 7=.int .i64 (n:Int)∧h'=h∧∀ i y,i<j→l[i]? = some y→p y=false) (by omega) (by simp) (by simp) (fun j σ ds h' hJ=>by simp [hJ.2.2.2.1]) ?_ ?_
  ·rintro j σ ds h' hj hi ⟨rfl,e0,e1,e7,rfl,hno⟩
   have hjl:j<l.length:=by omega
   obtain ⟨id,o,g1,g2,_⟩:=hv.get1 (k:=.i64) (i:=(j:Int)) rfl hj (x:=.int .u8 (l[j]:Int)) (by rw [a0g,List.getElem?_eq_getElem hjl];rfl)
   have hc:=hp l[j] (hb _ (List.getElem_mem hjl))
   cases hx:p l[j] with
   | true =>
    have:l.any p=true:=List.any_eq_true.2 ⟨_,List.getElem_mem hjl,hx⟩
    simp [e0,e1,e7,hi,g1,g2,hc,hx,this]
    exact ⟨l[j],List.getElem_mem hjl,hx⟩
   | false =>
    simp [e0,e1,e7,hi,g1,g2,hc,hx]
    intro i y hij hy
    by_cases e:i=j
    ·subst e;rw [List.getElem?_eq_getElem hjl] at hy;cases hy;exact hx
    ·exact hno i y (by omega) hy
  ·rintro σ ds h' ⟨rfl,e0,e1,e7,rfl,hno⟩
   simp
   intro x hx
   obtain ⟨i,hi⟩:=List.mem_iff_getElem?.1 hx
   have:i<l.length:=(List.getElem?_eq_some_iff.1 hi).1
   exact hno i x (by omega) hi
 refine key.mono ?_
 rintro r g ⟨rfl,q,rfl,hq⟩
 simp
 cases hx:l.any p with
 | true=>have:=hq.2 hx;simp [this]
 | false =>
  have:¬ 0≤q:=fun h=>by rw [hq.1 h] at hx;cases hx
  simp [this]
def T0 (s:List UInt8):Bool :=
 decide (s.length≤24)&&match s with
  | []=>false
  | b::r=>P7 b.toNat&&r.all fun c=>P7 c.toNat||a0i c.toNat
theorem q0F {s:List UInt8} (hs:s.length<2 ^ 62) (h:AH):Ev P SI (.fn d08) [.str s] h fun r g=>r=.bool (T0 s)∧Fr h g:=by
 refine k8 n0D rfl rfl ?_
 cases s with
 | nil=>simp [Y8,T0,Fr.refl]
 | cons b r =>
  have i0:=i0p (s:=b::r) (j:=0) .i64 (b:=b) rfl
  rw [show ((0:Nat):Int)=0 from rfl] at i0
  by_cases h1:(b::r).length≤24
  case neg =>
   have h1':(24:Int)<((b::r).length:Int):=by omega
   have h2:¬ (r.length+1≤24):=by simpa using h1
   simp only [List.length_cons] at h1'
   push_cast at h1'
   simp [Y8,T0,h1',h2,Fr.refl]
  have h1':¬ (24:Int)<((b::r).length:Int):=by omega
  have h2:r.length+1≤24:=by simpa using h1
  simp only [List.length_cons] at h1'
  push_cast at h1'
  have hb:=d07 (c:=b.toNat) b.toNat_lt
  cases hlt:P7 b.toNat with
  | false=>simp [Y8,T0,h1',h2,i0,hb,hlt,Fr.refl]
  | true =>
   have f0:=Fr.push (.refl h) (.cells (a08 (b::r)) false)
   have sl:Sl (h.push (.cells (a08 (b::r)) false)) 1 (b::r).length (.slice h.next 0 (b::r).length (b::r).length false 1) (by8 ((b::r).map UInt8.toNat)):=by
    rw [← h0E]
    exact (Own.fresh (B:=0) (h:=h) false (Nat.zero_le _) (by rw [h0E];simp)).sl
   have hc:=l0K (f:=a0d) (p:=fun c=>!(P7 c||a0i c)) sl (by omega) (by intro x hx;obtain ⟨c,_,rfl⟩:=List.mem_map.1 hx;exact c.toNat_lt) (fun x hx K=>n0z hx _ K)
   have hop:K3 .bytes (.str (b::r)) h=okV (.slice h.next 0 (b::r).length (b::r).length false 1) (h.push (.cells (a08 (b::r)) false)):=rfl
   simp only [List.length_cons] at hop hc
   simp [Y8,T0,h1',h2,i0,hb,hlt,hop,hc,f0]
   rw [Bool.eq_iff_iff]
   simp [List.any_eq_true,List.all_eq_true]
end Go.Dk

namespace Go.Dk
open Go Go.Dr
set_option maxRecDepth 100000
theorem m02 {s:List UInt8} (hs:s.length<2 ^ 62) (h:AH) (K:AV→AH→Prop):Ev P SI (.fn e09) [.str s] h K=K (.bool (T0 s)) h:=by
 refine Ev.eq (k8 p0F rfl rfl ?_) K
 simp [i0M]
 refine M5 (fun q σ ds g=>∃ j:Nat,q+j=s.length∧ds=[]∧g=h∧σ 0=.str s∧σ 3=.int .i64 (j:Int)∧∀ (i:Nat) (b:UInt8),i<j→s[i]? = some b→(P7 b.toNat=true∨i≠0∧a0i b.toNat=true)) s.length
  ⟨0,by omega,rfl,rfl,by simp,by simp,by simp⟩ ?_
 rintro q σ ds g ⟨j,hq,rfl,rfl,e0,e3,hall⟩
 by_cases hj:j<s.length
 ·have hb:s[j]? = some s[j]:=List.getElem?_eq_getElem hj
  have hi:=i0p (s:=s) .i64 hb
  have hlt:((j:Int)<(s.length:Int)):=by omega
  have w1:b9 .i64 ((j:Int)+1)=((j+1:Nat):Int):=by rw [wrap_i64 (by omega) (by omega)];omega
  have hjb:∀ b,s[j]? = some b→b.toNat=s[j].toNat:=fun b e=>by rw [hb] at e;rw [Option.some.inj e]
  generalize hc:s[j].toNat=c at *
  have go:(P7 c=true∨j≠0∧a0i c=true)→∀ (i:Nat) (b:UInt8),i<j+1→s[i]? = some b→(P7 b.toNat=true∨i≠0∧a0i b.toNat=true):=by
   intro hok i b hi hb
   by_cases e:i=j
   ·rw [e] at hb ⊢;rw [hjb b hb];exact hok
   ·exact hall i b (by omega) hb
  have bad:¬ (P7 c=true∨j≠0∧a0i c=true)→T0 s=false:=by
   intro hno
   cases hn:T0 s with
   | false=>rfl
   | true =>
    exfalso
    apply hno
    unfold T0 at hn
    cases s with
    | nil=>simp at hj
    | cons b r =>
     simp only [Bool.and_eq_true,List.all_eq_true] at hn
     cases j with
     | zero=>simp at hc;subst hc;exact .inl hn.2.1
     | succ j =>
      simp at hc
      have:=hn.2.2 _ (List.getElem_mem (show j<r.length by simpa using hj))
      rw [hc] at this
      rcases Bool.or_eq_true _ _ ▸ this with h | h
      ·exact .inl h
      ·exact .inr ⟨by omega,h⟩
  by_cases hL:P7 c=true
  ·have:=go (.inl hL)
   rw [h0F,decide_eq_true_eq] at hL
   rcases hL with hL | hL | hL
   ·subst hL
    simp [e0,e3,hi,hlt,w1,l7,hj]
    exact ⟨q - 1,by omega,j+1,by omega,by omega,this⟩
   ·have a1:(97:Int)≤c:=by omega
    have a2:(c:Int)≤122:=by omega
    simp [e0,e3,hi,hlt,w1,l7,hj,a1,a2]
    exact ⟨q - 1,by omega,j+1,by omega,by omega,this⟩
   ·have a1:¬ (97:Int)≤c:=by omega
    have a2:(65:Int)≤c:=by omega
    have a3:(c:Int)≤90:=by omega
    simp [e0,e3,hi,hlt,w1,l7,hj,a1,a2,a3]
    exact ⟨q - 1,by omega,j+1,by omega,by omega,this⟩
  ·have hL':=hL
   rw [h0F,decide_eq_true_eq] at hL'
   have b1:¬ (c:Int)=95:=by omega
   by_cases h97:(97:Int)≤c
   ·have a2:¬ (c:Int)≤122:=by omega
    have a3:(65:Int)≤c:=by omega
    have a4:¬ (c:Int)≤90:=by omega
    have a5:¬ (c:Int)<48:=by omega
    have a6:(57:Int)<c:=by omega
    have hbad:=bad (by rintro (h | ⟨_,h⟩);exact hL h;unfold a0i at h;simp at h;omega)
    by_cases hj0:j=0
    ·simp [e0,e3,hi,hlt,w1,hj,h97,a2,a3,a4,b1,a5,a6,hbad,eq_true hj0]
    ·simp [e0,e3,hi,hlt,w1,hj,h97,a2,a3,a4,b1,a5,a6,hj0,hbad]
   ·by_cases h65:(65:Int)≤c
    ·have a4:¬ (c:Int)≤90:=by omega
     have a5:¬ (c:Int)<48:=by omega
     have a6:(57:Int)<c:=by omega
     have hbad:=bad (by rintro (h | ⟨_,h⟩);exact hL h;unfold a0i at h;simp at h;omega)
     by_cases hj0:j=0
     ·simp [e0,e3,hi,hlt,w1,hj,h97,h65,a4,b1,a5,a6,hbad,eq_true hj0]
     ·simp [e0,e3,hi,hlt,w1,hj,h97,h65,a4,b1,a5,a6,hj0,hbad]
    ·by_cases hj0:j=0
     ·have hbad:=bad (by rintro (h | ⟨h,_⟩);exact hL h;exact h hj0)
      simp [e0,e3,hi,hlt,w1,hj,h97,h65,b1,hbad,eq_true hj0]
     ·by_cases h48:(c:Int)<48
      ·have hbad:=bad (by rintro (h | ⟨_,h⟩);exact hL h;unfold a0i at h;simp at h;omega)
       simp [e0,e3,hi,hlt,w1,hj,h97,h65,b1,hj0,h48,hbad]
      ·by_cases h57:(57:Int)<c
       ·have hbad:=bad (by rintro (h | ⟨_,h⟩);exact hL h;unfold a0i at h;simp at h;omega)
        simp [e0,e3,hi,hlt,w1,hj,h97,h65,b1,hj0,h48,h57,hbad]
       ·have:=go (.inr ⟨hj0,by unfold a0i;simp;omega⟩)
        simp [e0,e3,hi,hlt,w1,l7,hj,h97,h65,b1,hj0,h48,h57]
        exact ⟨q - 1,by omega,j+1,by omega,by omega,this⟩
 ·have hjN:j=s.length:=by omega
  have hlt:¬ ((j:Int)<(s.length:Int)):=by omega
  have fin:T0 s=(decide ((1:Int)≤s.length)&&decide ((s.length:Int)≤24)):=by
   unfold T0
   cases s with
   | nil=>rfl
   | cons b r =>
    have h1:P7 b.toNat=true:=by
     rcases hall 0 b (by rw [hjN];simp) rfl with h | ⟨h,_⟩
     ·exact h
     ·exact absurd rfl h
    have h2:(r.all fun c=>P7 c.toNat||a0i c.toNat)=true:=by
     rw [List.all_eq_true]
     intro x hx
     obtain ⟨i,hi⟩:=List.mem_iff_getElem?.1 hx
     have hil:i<r.length:=(List.getElem?_eq_some_iff.1 hi).1
     rcases hall (i+1) x (by rw [hjN];simp;omega) (by simpa using hi) with h | ⟨_,h⟩ <;> simp [h]
    simp only [h1,h2,Bool.and_true,List.length_cons]
    rw [Bool.eq_iff_iff]
    simp
    omega
  by_cases h1:(1:Int)≤s.length
  ·simp [e0,e3,hlt,hj,h1,fin]
  ·simp [e0,e3,hlt,hj,h1,fin]
end Go.Dk

namespace Go.Dk
open Go Go.Dr
set_option maxRecDepth 100000
theorem q0T (s:ByteArray) (i:Nat):1≤(Utf8.decode s i).2:=by
 unfold Utf8.decode
 simp only []
 repeat' split
 all_goals simp
theorem o0p {h:AH} {id pos:Nat} {s:List UInt8} (hg:h.get id=some (.siter s pos)) (hp:pos<s.length) :
  b0t h (.ptr id 0) true=okV (.tuple [.bool true,.int .i64 (pos:Int),.int .i32 ((Utf8.decode ⟨⟨s⟩⟩ pos).1:Int)]) (h.set id (.siter s (pos+(Utf8.decode ⟨⟨s⟩⟩ pos).2))):=by
 have hb:Nat.blt pos s.length=true:=by simpa [Nat.blt_eq] using hp
 simp only [b0t,m0Q,hg,hb,cond_true,u7]
theorem o0q {h:AH} {id pos:Nat} {s:List UInt8} (hg:h.get id=some (.siter s pos)) (hp:¬ pos<s.length):b0t h (.ptr id 0) true=okV (.tuple [.bool false]) h:=by
 have hb:Nat.blt pos s.length=false:=by
  cases e:Nat.blt pos s.length with
  | false=>rfl
  | true=>exact absurd (by simpa [Nat.blt_eq] using e) hp
 simp only [b0t,m0Q,hg,hb,cond_false]
def f01 (s:List UInt8):Nat→Nat→List Nat
 | 0,_=>[]
 | b+1,i=>if i<s.length then (Utf8.decode ⟨⟨s⟩⟩ i).1::f01 s b (i+(Utf8.decode ⟨⟨s⟩⟩ i).2) else []
def h0O (r:Nat):Bool:=decide (32≤r∧r≠127∧r≠65533)
def j0I (s:List UInt8):Bool:=(f01 s s.length 0).all h0O
def a03 (s:List UInt8):Bool:=decide (1≤s.length∧s.length≤40)&&j0I s
theorem l03 {s:List UInt8} {b i:Nat} (hi:¬ i<s.length):f01 s b i=[]:=by
 cases b with
 | zero=>rfl
 | succ b=>rw [f01,if_neg hi]
theorem i0C (r:Nat) (h:AH) (K:AV→AH→Prop):Ev P SI (.fn c0R) [.int .i32 (r:Int)] h K=K (.bool (h0O r)) h:=by
 refine Ev.eq (k8 m0m rfl rfl ?_) K
 unfold h0O
 by_cases h1:(32:Int)≤r
 ·have h1':32≤r:=by omega
  by_cases h2:(r:Int)=127
  ·have:r=127:=by omega
   subst this
   simp [a04]
  ·have h2':¬ r=127:=by omega
   have h3:((r:Int)=65533)↔r=65533:=by omega
   simp [a04,h1,h2,h1',h2',h3]
 ·have h1':¬ 32≤r:=by omega
  simp [a04,h1,h1']
theorem p0y {s:List UInt8} (h:AH):Ev P SI (.fn c0Q) [.str s] h fun r g=>r=.bool (a03 s)∧Fr h g:=by
 refine k8 m0l rfl rfl ?_
 have hop:b0R h (.str s)=okV (.ptr h.next 0) (h.push (.siter s 0)):=rfl
 simp [f07,hop]
 refine M5 (fun q σ ds g=>∃ pos b,s.length≤q+pos∧s.length≤b+pos∧ds=[]∧σ 0=.str s∧σ 6=.ptr h.next 0∧g=h.push (.siter s pos)∧j0I s=(f01 s b pos).all h0O) s.length
  ⟨0,s.length,by omega,by omega,rfl,by simp,by simp,rfl,rfl⟩ ?_
 rintro q σ ds g ⟨pos,b,hq,hb,rfl,e0,e6,rfl,hp⟩
 have hg:(h.push (.siter s pos)).get h.next=some (.siter s pos):=b8 _
 by_cases hlt:pos<s.length
 ·have hn:=o0p hg hlt
  have hw:=q0T ⟨⟨s⟩⟩ pos
  rw [AH.set_push] at hn
  obtain ⟨b',rfl⟩:∃ b',b=b'+1:=⟨b - 1,by omega⟩
  rw [f01,if_pos hlt,List.all_cons] at hp
  generalize Utf8.decode ⟨⟨s⟩⟩ pos=d at *
  cases hr:h0O d.1 with
  | true =>
   rw [hr,Bool.true_and] at hp
   simp [e0,e6,hn,i0C,hr,l7]
   exact ⟨q - 1,by omega,pos+d.2,by omega,b',by omega,rfl,hp⟩
  | false =>
   rw [hr,Bool.false_and] at hp
   simp [e0,e6,hn,i0C,hr,a03,hp]
   exact Fr.push (.refl h) _
 ·have hn:=o0q hg hlt
  rw [l03 hlt] at hp
  have hp:j0I s=true:=hp
  cases hs:s with
  | nil =>
   subst hs
   simp [e0,e6,hn,a03]
   exact Fr.push (.refl h) _
  | cons c r =>
   rw [← hs]
   have hne:¬ s=[]:=by rw [hs];simp
   have h1:((s.length:Int)≤40)↔s.length≤40:=by omega
   have h2:1≤s.length:=by rw [hs];simp
   simp [e0,e6,hn,a03,hp,hne,h1,h2]
   exact Fr.push (.refl h) _
theorem q0U {s:List UInt8} (h:AH):Ev P SI (.fn e0b) [.str s] h fun r g=>r=.bool (j0I s)∧Fr h g:=by
 refine k8 n0G rfl rfl ?_
 have hop:b0R h (.str s)=okV (.ptr h.next 0) (h.push (.siter s 0)):=rfl
 simp [h0o,hop]
 refine M5 (fun q σ ds g=>∃ pos b,s.length≤q+pos∧s.length≤b+pos∧ds=[]∧σ 0=.str s∧σ 6=.ptr h.next 0∧g=h.push (.siter s pos)∧j0I s=(f01 s b pos).all h0O) s.length
  ⟨0,s.length,by omega,by omega,rfl,by simp,by simp,rfl,rfl⟩ ?_
 rintro q σ ds g ⟨pos,b,hq,hb,rfl,e0,e6,rfl,hp⟩
 have hg:(h.push (.siter s pos)).get h.next=some (.siter s pos):=b8 _
 by_cases hlt:pos<s.length
 ·have hn:=o0p hg hlt
  have hw:=q0T ⟨⟨s⟩⟩ pos
  rw [AH.set_push] at hn
  obtain ⟨b',rfl⟩:∃ b',b=b'+1:=⟨b - 1,by omega⟩
  rw [f01,if_pos hlt,List.all_cons] at hp
  generalize Utf8.decode ⟨⟨s⟩⟩ pos=d at *
  unfold h0O at hp
  by_cases h32:(d.1:Int)<32
  ·have h1:¬ 32≤d.1:=by omega
   simp only [h1,false_and,decide_false,Bool.false_and] at hp
   simp [e0,e6,hn,h32,hp]
   exact Fr.push (.refl h) _
  ·have h1:32≤d.1:=by omega
   by_cases h127:(d.1:Int)=127
   ·have h2:d.1=127:=by omega
    simp only [h2,ne_eq,not_true,false_and,and_false,decide_false,Bool.false_and] at hp
    simp [e0,e6,hn,h127,hp]
    exact Fr.push (.refl h) _
   ·have h2:¬ d.1=127:=by omega
    by_cases hx:(d.1:Int)=65533
    ·have h3:d.1=65533:=by omega
     simp only [h3,ne_eq,not_true,and_false,decide_false,Bool.false_and] at hp
     simp [e0,e6,hn,hx,hp]
     exact Fr.push (.refl h) _
    ·have h3:¬ d.1=65533:=by omega
     simp only [h1,h2,h3,ne_eq,not_false_eq_true,and_self,decide_true,Bool.true_and] at hp
     simp [e0,e6,hn,h32,h127,hx,l7]
     exact ⟨q - 1,by omega,pos+d.2,by omega,b',by omega,rfl,hp⟩
 ·have hn:=o0q hg hlt
  rw [l03 hlt] at hp
  have hp:j0I s=true:=hp
  simp [e0,e6,hn,hp]
  exact Fr.push (.refl h) _
theorem q0V {s:List UInt8} (h:AH):Ev P SI (.fn e0a) [.str s] h fun r g=>r=.bool (a03 s)∧Fr h g:=by
 refine k8 n0F rfl rfl ?_
 unfold a03
 by_cases h1:(1:Int)≤s.length
 ·have h1':1≤s.length:=by omega
  by_cases h2:(s.length:Int)≤40
  ·have h2':s.length≤40:=by omega
   simp [b0G,h1,h2,h1',h2']
   refine (q0U h).mono ?_
   rintro r g ⟨rfl,f⟩
   simp [f]
  ·have h2':¬ s.length≤40:=by omega
   simp [b0G,h1,h2,h2',Fr.refl]
 ·have h1':¬ 1≤s.length:=by omega
  simp [b0G,h1,h1',Fr.refl]
end Go.Dk

namespace Go.Dk
open Go Go.Dr
set_option maxRecDepth 100000
abbrev Lab:=Txt×Txt
def E2 (x:Lab):List AV:=[.str x.1,.str x.2]
@[simp] theorem A0a (x:Lab):(E2 x).length=2:=nr rfl
def Q2 (last:Txt):List Lab→Bool
 | []=>true
 | x::l=>T0 x.1&&(a03 x.2&&(Op.bytesLess last x.1&&Q2 x.1 l))
def R9 (l:List Lab):Bool:=decide (1≤l.length∧l.length≤8)&&Q2 [] l
theorem s0A {s:Txt} (h:T0 s=true):Op.bytesLess [] s=true:=by
 cases s with
 | nil=>simp [T0] at h
 | cons b r=>rfl
theorem q0p {s:Txt} (h:T0 s=true):s.length≤24:=by
 unfold T0 at h
 simp only [Bool.and_eq_true,decide_eq_true_eq] at h
 exact h.1
def X0 (l:List Lab):Prop:=∀ x ∈ l,x.1.length<2 ^ 62∧x.2.length<2 ^ 62
theorem a0z {h:AH} {n:Nat} {v:AV} {l:List Lab} (s:Sl h 2 n v (l.flatMap E2)) {k:IntKind} {i:Int} {j:Nat} (hi:i=j) {x:Lab} (hx:l[j]? = some x) :
  ∃ id o,E9 2 v (.int k i)=.ok (.ptr id o)∧loadN h id o 2=.ok [.str x.1,.str x.2]∧load1 h id o=.ok (.str x.1)∧load1 h id (o+1)=.ok (.str x.2)∧id<h.next:=by
 obtain ⟨id,o,h1,h2,h3,h4⟩:=s.elem (fun _ _=>rfl) (by omega) hi hx
 exact ⟨id,o,h1,h2,h3 0 _ rfl,h3 1 _ rfl,h4⟩
theorem X9 {h:AH} {n:Nat} {v:AV} {l:List Lab} (s:Sl h 2 n v (l.flatMap E2)):l.length=n:=by
 have:=s.1
 rw [S8 (es:=2) l (fun _ _=>rfl)] at this
 omega
theorem i0g {h:AH} {n:Nat} {v:AV} {l:List Lab} (s:Sl h 2 n v (l.flatMap E2)) (hs:X0 l):Ev P SI (.fn a0X) [v] h fun r g=>r=.bool (R9 l)∧Fr h g:=by
 refine k8 p0D rfl rfl ?_
 have hl:=X9 s
 by_cases h0:n=0
 ·have c1:((n:Int)=0):=by omega
  have c2:R9 l=false:=by unfold R9;simp;omega
  simp [c0o,s.len,eq_true h0,c2,Fr.refl]
 by_cases h8:8<n
 ·have c1:(8:Int)<n:=by omega
  have c2:R9 l=false:=by unfold R9;simp;omega
  simp [c0o,s.len,h0,c1,c2,Fr.refl]
 have c1:¬ (8:Int)<n:=by omega
 have c2:R9 l=Q2 [] l:=by
  have:(decide (1≤l.length∧l.length≤8))=true:=by simp;omega
  unfold R9;rw [this,Bool.true_and]
 simp [c0o,s.len,h0,c1]
 rw [c2]
 refine m8 (n:=n) (by rfl) (fun j σ ds g=>∃ last,ds=[]∧σ 3=.str last∧σ 14=v∧σ 15=.int .i64 (n:Int)∧Fr h g∧Q2 [] l=Q2 last (l.drop j)) (by omega) (by simp) ⟨[],rfl,by simp,by simp,by simp,.refl _,rfl⟩
  (fun j σ ds g ⟨last,hJ⟩=>by simp [hJ.2.2.2.1]) ?_ ?_
 ·rintro j σ ds g hj hi ⟨last,rfl,e3,e14,e15,f,hc⟩
  have hjl:j<l.length:=by omega
  obtain ⟨id,o,i1,i2,i3,i4,_⟩:=a0z (s.fr f) (k:=.i64) (i:=(j:Int)) rfl (List.getElem?_eq_getElem hjl)
  have hsx:=hs _ (List.getElem_mem hjl)
  have hd:l.drop j=l[j]::l.drop (j+1):=List.drop_eq_getElem_cons hjl
  rw [hd,Q2] at hc
  generalize l[j]=x at *
  have f1:=f.push (.cells [.str x.1,.str x.2] false)
  simp [e3,e14,e15,hi,i1,i2]
  refine (q0F hsx.1 _).mono ?_
  rintro r g1 ⟨rfl,fa⟩
  have la:load1 g1 g.next 1=.ok (.str x.2):=b7 (vs:=[.str x.1,.str x.2]) (ro:=false) (by rw [fa.get _ (by simp)];exact b8 _)
  have lb:load1 g1 g.next 0=.ok (.str x.1):=b7 (vs:=[.str x.1,.str x.2]) (ro:=false) (by rw [fa.get _ (by simp)];exact b8 _)
  cases hn:T0 x.1 with
  | false =>
   rw [hn,Bool.false_and] at hc
   simp [hc]
   exact f1.trans fa
  | true =>
   rw [hn,Bool.true_and] at hc
   simp [la]
   refine (p0y _).mono ?_
   rintro r g2 ⟨rfl,fb⟩
   have lc:load1 g2 g.next 0=.ok (.str x.1):=b7 (vs:=[.str x.1,.str x.2]) (ro:=false) (by rw [fb.get _ (by have:=fa.next;simp at this;omega),fa.get _ (by simp)];exact b8 _)
   cases hv:a03 x.2 with
   | false =>
    rw [hv,Bool.false_and] at hc
    simp [hc]
    exact (f1.trans fa).trans fb
   | true =>
    rw [hv,Bool.true_and] at hc
    cases hb:Op.bytesLess last x.1 with
    | false =>
     rw [hb,Bool.false_and] at hc
     simp [lc,e3,hb,hc]
     exact (f1.trans fa).trans fb
    | true =>
     rw [hb,Bool.true_and] at hc
     simp [lc,e3,hb,e14,e15,hi]
     exact ⟨(f1.trans fa).trans fb,hc⟩
 ·rintro σ ds g ⟨last,rfl,e3,e14,e15,f,hc⟩
  rw [List.drop_of_length_le (by omega)] at hc
  simp [hc,Q2,f]
theorem g07 {h:AH} {n:Nat} {v:AV} {l:List Lab} (s:Sl h 2 n v (l.flatMap E2)) (hs:X0 l):Ev P SI (.fn a0H) [v] h fun r g=>r=.bool (R9 l)∧Fr h g:=by
 refine k8 q09 rfl rfl ?_
 have hl:=X9 s
 by_cases h0:n<1
 ·have c1:((n:Int)<1):=by omega
  have c2:R9 l=false:=by unfold R9;simp;omega
  simp [d0Q,s.len,c1,c2,Fr.refl]
 have c0:¬ ((n:Int)<1):=by omega
 by_cases h8:8<n
 ·have c1:(8:Int)<n:=by omega
  have c2:R9 l=false:=by unfold R9;simp;omega
  simp [d0Q,s.len,c0,c1,c2,Fr.refl]
 have c1:¬ (8:Int)<n:=by omega
 have c2:R9 l=Q2 [] l:=by
  have:(decide (1≤l.length∧l.length≤8))=true:=by simp;omega
  unfold R9;rw [this,Bool.true_and]
 simp [d0Q,s.len,c0,c1]
 rw [c2]
 refine m8 (n:=n) (by rfl) (fun j σ ds g=>∃ last,ds=[]∧σ 0=v∧σ 13=v∧σ 14=.int .i64 (n:Int)∧Fr h g∧Q2 [] l=Q2 last (l.drop j)∧((j=0∧last=[])∨∃ i y,j=i+1∧l[i]? = some y∧last=y.1)) (by omega) (by simp) ⟨[],rfl,by simp,by simp,by simp,.refl _,rfl,.inl ⟨rfl,rfl⟩⟩
  (fun j σ ds g ⟨last,hJ⟩=>by simp [hJ.2.2.2.1]) ?_ ?_
 ·rintro j σ ds g hj hi ⟨last,rfl,e0,e13,e14,f,hc,hlast⟩
  have hjl:j<l.length:=by omega
  obtain ⟨id,o,i1,i2,i3,i4,_⟩:=a0z (s.fr f) (k:=.i64) (i:=(j:Int)) rfl (List.getElem?_eq_getElem hjl)
  have hsx:=hs _ (List.getElem_mem hjl)
  have hd:l.drop j=l[j]::l.drop (j+1):=List.drop_eq_getElem_cons hjl
  rw [hd,Q2] at hc
  have hxj:l[j]? = some l[j]:=List.getElem?_eq_getElem hjl
  generalize l[j]=x at *
  have f1:=f.push (.cells [.str x.1,.str x.2] false)
  cases hn:T0 x.1 with
  | false =>
   rw [hn,Bool.false_and] at hc
   simp [e0,e13,e14,hi,i1,i2,m02 hsx.1,hn,hc]
   exact f1
  | true =>
   rw [hn,Bool.true_and] at hc
   simp [e0,e13,e14,hi,i1,i2,m02 hsx.1,hn]
   refine (q0V _).mono ?_
   rintro r g1 ⟨rfl,fa⟩
   have la:load1 g1 g.next 1=.ok (.str x.2):=b7 (vs:=[.str x.1,.str x.2]) (ro:=false) (by rw [fa.get _ (by simp)];exact b8 _)
   have lb:load1 g1 g.next 0=.ok (.str x.1):=b7 (vs:=[.str x.1,.str x.2]) (ro:=false) (by rw [fa.get _ (by simp)];exact b8 _)
   cases hv:a03 x.2 with
   | false =>
    rw [hv,Bool.false_and] at hc
    simp [la,lb,hc]
    exact f1.trans fa
   | true =>
    rw [hv,Bool.true_and] at hc
    rcases hlast with ⟨rfl,rfl⟩ | ⟨i,y,rfl,hy,rfl⟩
    ·rw [s0A hn,Bool.true_and] at hc
     simp [la,lb,e0,e13,e14]
     exact ⟨by simpa using hi,f1.trans fa,x.1,by simpa using hc,x.2,hxj⟩
    ·have fg:=f1.trans fa
     obtain ⟨id2,o2,j1,j2,j3,j4,_⟩:=a0z (s.fr fg) (k:=.i64) (i:=(i:Int)) rfl hy
     have w0:b9 .i64 (i:Int)=(i:Int):=wrap_i64 (by omega) (by omega)
     have c0:(0:Int)<(i:Int)+1:=by omega
     cases hb:Op.bytesLess y.1 x.1 with
     | false =>
      rw [hb,Bool.false_and] at hc
      simp [la,lb,e0,e13,e14,c0,w0,j1,j3,hb,hc]
      exact fg
     | true =>
      rw [hb,Bool.true_and] at hc
      simp [la,lb,e0,e13,e14,c0,w0,j1,j3,hb,hi]
      exact ⟨fg,x.1,hc,x.2,hxj⟩
 ·rintro σ ds g ⟨last,rfl,e0,e13,e14,f,hc,_⟩
  rw [List.drop_of_length_le (by omega)] at hc
  simp [hc,Q2,f]
end Go.Dk

namespace Go.Dk
open Go Go.Dr
set_option maxRecDepth 100000
def l0h (a b:Txt):Int:=if Op.bytesLess a b=true then -1 else if Op.bytesLess b a=true then 1 else 0
def l0i (x y:Lab):Int:=if l0h x.1 y.1=0 then l0h x.2 y.2 else l0h x.1 y.1
def O9:List Lab→List Lab→Int
 | [],[]=>0
 | [],_::_=>-1
 | _::_,[]=>1
 | x::a,y::b=>if l0i x y=0 then O9 a b else l0i x y
theorem i0Q (s:Txt) (h:AH) (K:AV→AH→Prop):Ev P SI (.fn T4) [.str s] h K=K (.bool false) h:=by
 refine Ev.eq (k8 h0R rfl rfl ?_) K
 simp [c08]
theorem m0x (a b:Txt) (h:AH) (K:AV→AH→Prop):Ev P SI (.fn N4) [.str a,.str b] h K=K (.int .i64 (l0h a b)) h:=by
 refine Ev.eq (k8 f08 rfl rfl ?_) K
 unfold l0h
 cases h1:Op.bytesLess a b with
 | true=>simp [V7,i0Q,h1]
 | false=>cases h2:Op.bytesLess b a <;> simp [V7,i0Q,h1,h2]
theorem g0f (a b:Txt) (h:AH) (K:AV→AH→Prop):Ev P SI (.fn b0B) [.str a,.str b] h K=K (.int .i64 (l0h a b)) h:=by
 refine Ev.eq (k8 n0H rfl rfl ?_) K
 unfold l0h
 cases h1:Op.bytesLess a b with
 | true=>simp [e0l,h1]
 | false=>cases h2:Op.bytesLess b a <;> simp [e0l,h1,h2]
theorem A0t {h:AH} {v:AV} (x y:Int) (s:Sl h 1 2 v [.int .i64 x,.int .i64 y]) (K:AV→AH→Prop):Ev P SI (.fn e08) [v] h K=K (.int .i64 (if x=0 then y else x)) h:=by
 refine Ev.eq (k8 p0E rfl rfl ?_) K
 simp [i0L,s.len]
 refine m8 (n:=2) (by rfl) (fun j σ ds g=>ds=[]∧σ 3=.int .i64 0∧σ 6=v∧σ 7=.int .i64 2∧g=h∧(0<j→x=0)∧(1<j→y=0)) (by omega) (by simp) ⟨rfl,by simp,by simp,by simp,rfl,by omega,by omega⟩ (fun j σ ds g hJ=>by simp [hJ.2.2.2.1]) ?_ ?_
 ·rintro j σ ds g hj hi ⟨rfl,e3,e6,e7,rfl,h1,h2⟩
  match j,hj with
  | 0,_ =>
   obtain ⟨id,o,g1,g2,_⟩:=s.get1 (k:=.i64) (i:=((0:Nat):Int)) rfl (by omega) (x:=.int .i64 x) rfl
   rw [show ((0:Nat):Int)=0 from rfl] at g1 hi
   by_cases hx:x=0
   ·subst hx;simp [e3,e6,e7,hi,g1,g2]
   ·simp [e3,e6,e7,hi,g1,g2,hx]
  | 1,_ =>
   obtain ⟨id,o,g1,g2,_⟩:=s.get1 (k:=.i64) (i:=((1:Nat):Int)) rfl (by omega) (x:=.int .i64 y) rfl
   rw [show ((1:Nat):Int)=1 from rfl] at g1 hi
   have hx:=h1 (by omega)
   subst hx
   by_cases hy:y=0
   ·subst hy;simp [e3,e6,e7,hi,g1,g2]
   ·simp [e3,e6,e7,hi,g1,g2,hy]
 ·rintro σ ds g ⟨rfl,e3,e6,e7,rfl,h1,h2⟩
  have hx:=h1 (by omega)
  have hy:=h2 (by omega)
  subst hx hy
  simp [e3]
theorem j0U (x y:Lab) (h:AH):Ev P SI (.fn L2) [.agg (E2 x),.agg (E2 y)] h fun r g=>r=.int .i64 (l0i x y)∧Fr h g:=by
 refine k8 h0Q rfl rfl ?_
 unfold E2 l0i
 have l1:∀ o,load1 ((h.push (.cells [.str x.1,.str x.2] false)).push (.cells [.str y.1,.str y.2] false)) h.next o=ofO "load: out of the known cells" [AV.str x.1,.str x.2][o]?:=fun o=>b7 (by rw [c7 (by simp)];exact b8 _)
 have l2:∀ o,load1 ((h.push (.cells [.str x.1,.str x.2] false)).push (.cells [.str y.1,.str y.2] false)) (h.next+1) o=ofO "load: out of the known cells" [AV.str y.1,.str y.2][o]?:=fun o=>b7 (b8 _)
 have so:=(Own.fresh (B:=0) (h:=(h.push (.cells [.str x.1,.str x.2] false)).push (.cells [.str y.1,.str y.2] false)) (es:=1) (n:=2) (l:=[.int .i64 (l0h x.1 y.1),.int .i64 (l0h x.2 y.2)]) true (Nat.zero_le _) rfl).sl
 have ho:=A0t _ _ so
 simp only [AH.next_push] at ho
 simp [c07,l1,l2,m0x,i9,ho]
 exact (((Fr.refl h).push _).push _).push _
theorem e0J:∀ (j:Nat) (a b:List Lab),j≤a.length→j≤b.length→(∀ i x y,i<j→a[i]? = some x→b[i]? = some y→l0i x y=0)→O9 a b=O9 (a.drop j) (b.drop j)
 | 0,a,b,_,_,_=>rfl
 | j+1,[],b,h,_,_=>by simp at h
 | j+1,x::a,[],_,h,_=>by simp at h
 | j+1,x::a,y::b,h1,h2,h3=>by
  have:=h3 0 x y (by omega) rfl rfl
  rw [O9,if_pos this,List.drop_succ_cons,List.drop_succ_cons]
  exact e0J j a b (by simpa using h1) (by simpa using h2) fun i u w hi ha hb=>h3 (i+1) u w (by omega) (by simpa using ha) (by simpa using hb)
theorem g0g {h:AH} {n m:Nat} {va vb:AV} {a b:List Lab} (sa:Sl h 2 n va (a.flatMap E2)) (sb:Sl h 2 m vb (b.flatMap E2)) (hn:n<2 ^ 62) (hm:m<2 ^ 62) :
  Ev P SI (.fn X7) [va,vb] h fun r g=>r=.int .i64 (O9 a b)∧Fr h g:=by
 refine k8 j0O rfl rfl ?_
 simp [e0E]
 have la:=X9 sa
 have lb:=X9 sb
 have key:Ev P SI (.fn q9) [va,vb,.func (.func L2) [] []] h fun r g=>r=.int .i64 (O9 a b)∧Fr h g:=by
  refine k8 G2 rfl rfl ?_
  simp [A3,sa.len]
  refine m8 (n:=n) (by rfl) (fun j σ ds g=>ds=[]∧σ 0=va∧σ 1=vb∧σ 2=.func (.func L2) [] []∧σ 11=va∧σ 12=.int .i64 (n:Int)∧Fr h g∧j≤m∧(∀ i x y,i<j→a[i]? = some x→b[i]? = some y→l0i x y=0))
   (by omega) (by simp) ⟨rfl,by simp,by simp,by simp,by simp,by simp,.refl _,by omega,by omega⟩ (fun j σ ds g hJ=>by simp [hJ.2.2.2.2.2.1]) ?_ ?_
  ·rintro j σ ds g hj hi ⟨rfl,e0,e1,e2,e11,e12,f,hjm,heq⟩
   have hja:j<a.length:=by omega
   obtain ⟨id,o,i1,i2,_⟩:=a0z (sa.fr f) (k:=.i64) (i:=(j:Int)) rfl (List.getElem?_eq_getElem hja)
   have hd:=e0J j a b (by omega) (by omega) heq
   have fr1:∀ x:Lab,Fr h (g.push (.cells (E2 x) false)):=fun x=>f.push _
   by_cases hm1:m≤j
   ·have c1:(m:Int)≤j:=by omega
    have:b.drop j=[]:=List.drop_of_length_le (by omega)
    have h2:a.drop j=a[j]::a.drop (j+1):=List.drop_eq_getElem_cons hja
    rw [this,h2,O9] at hd
    simp [e0,e1,e2,e11,e12,hi,i1,i2,sb.len,c1,hd,(sb.fr (fr1 a[j])).len]
    exact f.push _
   ·have c1:¬ (m:Int)≤j:=by omega
    have hjb:j<b.length:=by omega
    have h1:a.drop j=a[j]::a.drop (j+1):=List.drop_eq_getElem_cons hja
    have h2:b.drop j=b[j]::b.drop (j+1):=List.drop_eq_getElem_cons hjb
    rw [h1,h2,O9] at hd
    have hxa:a[j]? = some a[j]:=List.getElem?_eq_getElem hja
    have hxb:b[j]? = some b[j]:=List.getElem?_eq_getElem hjb
    generalize a[j]=x at *
    generalize b[j]=y at *
    obtain ⟨id2,o2,j1,j2,_⟩:=a0z (sb.fr (f.push (.cells [.str x.1,.str x.2] false))) (k:=.i64) (i:=(j:Int)) rfl hxb
    have ln:loadN ((g.push (.cells [.str x.1,.str x.2] false)).push (.cells [.str y.1,.str y.2] false)) g.next 0 2=.ok [.str x.1,.str x.2]:=A8 (by rw [c7 (by simp)];exact b8 _) rfl
    have lm:loadN ((g.push (.cells [.str x.1,.str x.2] false)).push (.cells [.str y.1,.str y.2] false)) (g.next+1) 0 2=.ok [.str y.1,.str y.2]:=A8 (b8 _) rfl
    have fg:=(f.push (.cells [.str x.1,.str x.2] false)).push (.cells [.str y.1,.str y.2] false)
    have sn:=l6 (h:=g.push (.cells [.str x.1,.str x.2] false)) (n:=2) (z:=[.str [],.str []]) (l:=[.str y.1,.str y.2]) rfl rfl rfl
    simp only [AH.next_push] at sn
    simp [e0,e1,e2,e11,e12,hi,i1,i2,sb.len,c1,j1,j2,sn,ln,lm]
    refine (j0U x y _).mono ?_
    rintro r g1 ⟨rfl,fa⟩
    by_cases hc:l0i x y=0
    ·simp [hc,e0,e1,e2,e11,e12,hi]
     refine ⟨fg.trans fa,by omega,fun i p1 p2 q1 q2 hij hp hq=>?_⟩
     by_cases e:i=j
     ·subst e
      rw [hxa] at hp
      rw [hxb] at hq
      cases hp;cases hq;exact hc
     ·exact heq i _ _ (by omega) hp hq
    ·rw [if_neg hc] at hd
     simp [hc,hd]
     exact fg.trans fa
  ·rintro σ ds g ⟨rfl,e0,e1,e2,e11,e12,f,hjm,heq⟩
   have hd:=e0J n a b (by omega) (by omega) heq
   have:a.drop n=[]:=List.drop_of_length_le (by omega)
   rw [this] at hd
   by_cases hlt:n<m
   ·have c1:(n:Int)<m:=by omega
    have h2:b.drop n=b[n]'(by omega)::b.drop (n+1):=List.drop_eq_getElem_cons _
    rw [h2,O9] at hd
    simp [e0,e1,sa.len,sb.len,c1,hd,f]
   ·have c1:¬ (n:Int)<m:=by omega
    have h2:b.drop n=[]:=List.drop_of_length_le (by omega)
    rw [h2,O9] at hd
    simp [e0,e1,sa.len,sb.len,c1,hd,f]
 refine key.mono ?_
 rintro r g ⟨rfl,f⟩
 simp [f]
end Go.Dk

namespace Go.Dk
open Go Go.Dr
set_option maxRecDepth 100000
theorem b0H {h:AH} {n m:Nat} {va vb:AV} {a b:List Lab} (sa:Sl h 2 n va (a.flatMap E2)) (sb:Sl h 2 m vb (b.flatMap E2)) (hn:n<2 ^ 62) (hm:m<2 ^ 62) (K:AV→AH→Prop) :
  Ev P SI (.fn M6) [va,vb] h K=K (.int .i64 (O9 a b)) h:=by
 refine Ev.eq (k8 l0e rfl rfl ?_) K
 have la:=X9 sa
 have lb:=X9 sb
 simp [f0D,sa.len,sb.len]
 refine m8 (n:=min n m) (by rfl) (fun j σ ds g=>ds=[]∧σ 0=va∧σ 1=vb∧σ 12=.int .i64 ((min n m:Nat):Int)∧g=h∧(∀ i x y,i<j→a[i]? = some x→b[i]? = some y→l0i x y=0))
  (by omega) (by simp) ⟨rfl,by simp,by simp,by simp;omega,rfl,by omega⟩ (fun j σ ds g hJ=>by simp [hJ.2.2.2.1]) ?_ ?_
 ·rintro j σ ds g hj hi ⟨rfl,e0,e1,e12,rfl,heq⟩
  have hja:j<a.length:=by omega
  have hjb:j<b.length:=by omega
  obtain ⟨id,o,i1,i2,i3,i4,_⟩:=a0z sa (k:=.i64) (i:=(j:Int)) rfl (List.getElem?_eq_getElem hja)
  obtain ⟨id2,o2,j1,j2,j3,j4,_⟩:=a0z sb (k:=.i64) (i:=(j:Int)) rfl (List.getElem?_eq_getElem hjb)
  have hd:=e0J j a b (by omega) (by omega) heq
  have h1:a.drop j=a[j]::a.drop (j+1):=List.drop_eq_getElem_cons hja
  have h2:b.drop j=b[j]::b.drop (j+1):=List.drop_eq_getElem_cons hjb
  rw [h1,h2,O9] at hd
  have hxa:a[j]? = some a[j]:=List.getElem?_eq_getElem hja
  have hxb:b[j]? = some b[j]:=List.getElem?_eq_getElem hjb
  generalize a[j]=x at *
  generalize b[j]=y at *
  unfold l0i at hd
  by_cases c1:l0h x.1 y.1=0
  ·by_cases c2:l0h x.2 y.2=0
   ·simp [e0,e1,e12,hi,i1,i2,i3,i4,j1,j2,j3,j4,g0f,c1,c2]
    intro i p1 p2 q1 q2 hij hp hq
    by_cases e:i=j
    ·subst e
     rw [hxa] at hp
     rw [hxb] at hq
     cases hp;cases hq;unfold l0i;rw [if_pos c1];exact c2
    ·exact heq i _ _ (by omega) hp hq
   ·simp only [c1,c2,if_true,if_false] at hd
    simp [e0,e1,e12,hi,i1,i2,i3,i4,j1,j2,j3,j4,g0f,c1,c2,hd]
  ·simp only [c1,if_false] at hd
   simp [e0,e1,e12,hi,i1,i2,i3,i4,j1,j2,j3,j4,g0f,c1,hd]
 ·rintro σ ds g ⟨rfl,e0,e1,e12,rfl,heq⟩
  have hd:=e0J (min n m) a b (by omega) (by omega) heq
  rcases Nat.lt_trichotomy n m with hlt | hlt | hlt
  ·have h1:a.drop (min n m)=[]:=List.drop_of_length_le (by omega)
   have h2:b.drop (min n m)=b[n]'(by omega)::b.drop (n+1):=by rw [Nat.min_eq_left (by omega)];exact List.drop_eq_getElem_cons _
   rw [h1,h2,O9] at hd
   have c1:(n:Int)<m:=by omega
   simp [e0,e1,sa.len,sb.len,c1,hd]
  ·subst hlt
   have h1:a.drop (min n n)=[]:=List.drop_of_length_le (by omega)
   have h2:b.drop (min n n)=[]:=List.drop_of_length_le (by omega)
   rw [h1,h2,O9] at hd
   simp [e0,e1,sa.len,sb.len,hd]
  ·have h1:b.drop (min n m)=[]:=List.drop_of_length_le (by omega)
   have h2:a.drop (min n m)=a[m]'(by omega)::a.drop (m+1):=by rw [Nat.min_eq_right (by omega)];exact List.drop_eq_getElem_cons _
   rw [h1,h2,O9] at hd
   have c1:¬ (n:Int)<m:=by omega
   have c2:(m:Int)<n:=by omega
   simp [e0,e1,sa.len,sb.len,c1,c2,hd]
end Go.Dk

namespace Go.Dk
open Go Go.Dr
set_option maxRecDepth 100000
def Q9 (l:List Nat):Txt:=l.map UInt8.ofNat
@[simp] theorem y0Z (l:List Nat):(Q9 l).length=l.length:=by simp [Q9]
theorem k0D:∀ l:List Nat,g0U (by8 l)=.ok (Q9 l)
 | []=>rfl
 | x::l=>by
  show (match g0U (by8 l) with | .ok r=>(.ok (UInt8.ofNat ((x:Int)).toNat::r):R Txt) | .error e=>.error e)=_
  rw [k0D l];simp [Q9]
theorem b0q {h:AH} {v:AV} {l:List Nat} {n:Nat} (s:Sl h 1 n v (by8 l)):K3 .strB v h=okV (.str (Q9 l)) h:=by
 obtain ⟨hl,s⟩:=s
 rcases s with ⟨rfl,rfl⟩ | ⟨id,off,cap,x,vs,ro,rfl,e2,e6,e3,e4,e5⟩
 ·have:l=[]:=by simpa using hl
  subst this;rfl
 ·have hld:loadN h id off n=.ok (by8 l):=by
   have hb:Nat.ble (off+n) vs.length=true:=Nat.ble_eq_true_of_le (by omega)
   rw [Nat.mul_one] at e5
   simp [loadN,e3,hb,e5]
  simp only [K3,if_true,hld,k0D]
def L7:List Nat→Option (Txt×List Nat)
 | []=>none
 | n::r=>if n≤r.length then some (Q9 (r.take n),r.drop n) else none
def R0:Nat→List Nat→Option (List Lab×List Nat)
 | 0,b=>some ([],b)
 | k+1,b=>match L7 b with
  | none=>none
  | some (nm,r)=>match L7 r with
   | none=>none
   | some (v,r2)=>match R0 k r2 with
    | none=>none
    | some (l,r3)=>some ((nm,v)::l,r3)
def f0h:List Nat→Except Int (List Lab×List Nat)
 | []=>.error 3
 | n::r=>match R0 n r with
  | none=>.error 3
  | some (l,rest)=>if R9 l=true then .ok (l,rest) else .error 5
theorem m0o {b:List Nat} {s:Txt} {r:List Nat} (h:L7 b=some (s,r)):∃ n t,b=n::t∧n≤t.length∧s=Q9 (t.take n)∧r=t.drop n:=by
 cases b with
 | nil=>simp [L7] at h
 | cons n t =>
  by_cases hn:n≤t.length
  ·simp only [L7,if_pos hn,Option.some.injEq,Prod.mk.injEq] at h
   exact ⟨n,t,rfl,hn,h.1.symm,h.2.symm⟩
  ·simp [L7,hn] at h
theorem e0F {b:List Nat} {s:Txt} {r:List Nat} (h:L7 b=some (s,r)):s.length+r.length+1=b.length:=by
 obtain ⟨n,t,rfl,hn,rfl,rfl⟩:=m0o h
 simp;omega
theorem e0G {b:List Nat} {s:Txt} {r:List Nat} (h:L7 b=some (s,r)):∀ x ∈ r,x ∈ b:=by
 obtain ⟨n,t,rfl,hn,rfl,rfl⟩:=m0o h
 intro x hx
 exact List.mem_cons_of_mem _ (List.mem_of_mem_drop hx)
theorem e0H:∀ {k:Nat} {b:List Nat} {l:List Lab} {r:List Nat},R0 k b=some (l,r)→l.length=k∧r.length≤b.length∧(∀ x ∈ l,x.1.length<b.length+1∧x.2.length<b.length+1)∧∀ x ∈ r,x ∈ b
 | 0,b,l,r,h=>by
  simp only [R0,Option.some.injEq,Prod.mk.injEq] at h
  obtain ⟨rfl,rfl⟩:=h
  simp
 | k+1,b,l,r,h=>by
  unfold R0 at h
  cases h1:L7 b with
  | none=>simp [h1] at h
  | some p =>
   obtain ⟨nm,r1⟩:=p
   cases h2:L7 r1 with
   | none=>simp [h1,h2] at h
   | some p =>
    obtain ⟨v,r2⟩:=p
    cases h3:R0 k r2 with
    | none=>simp [h1,h2,h3] at h
    | some p =>
     obtain ⟨l3,r3⟩:=p
     simp only [h1,h2,h3,Option.some.injEq,Prod.mk.injEq] at h
     obtain ⟨rfl,rfl⟩:=h
     obtain ⟨e1,e2,e3,e4⟩:=e0H h3
     have p1:=e0F h1
     have p2:=e0F h2
     refine ⟨by simp [e1],by omega,fun x hx=>?_,fun x hx=>e0G h1 x (e0G h2 x (e4 x hx))⟩
     rcases List.mem_cons.1 hx with rfl | hx
     ·simp only;omega
     ·have:=e3 x hx;omega
theorem r0f:∀ (ls:List Lab) (j:Nat) (s:Txt) (x:Lab),ls[j]? = some x→(ls.flatMap E2).set (j*2+0) (.str s)=(ls.set j (s,x.2)).flatMap E2
 | [],j,s,x,h=>by simp at h
 | y::ls,0,s,x,h=>by simp at h;subst h;simp [E2]
 | y::ls,j+1,s,x,h=>by
  have ih:=r0f ls j s x (by simpa using h)
  rw [List.flatMap_cons,List.set_cons_succ,List.flatMap_cons,← ih,show (j+1)*2+0=(E2 y).length+(j*2+0) from by simp;omega,List.set_append_right _ _ (by omega)]
  congr 2;omega
theorem r0g:∀ (ls:List Lab) (j:Nat) (s:Txt) (x:Lab),ls[j]? = some x→(ls.flatMap E2).set (j*2+1) (.str s)=(ls.set j (x.1,s)).flatMap E2
 | [],j,s,x,h=>by simp at h
 | y::ls,0,s,x,h=>by simp at h;subst h;simp [E2]
 | y::ls,j+1,s,x,h=>by
  have ih:=r0g ls j s x (by simpa using h)
  rw [List.flatMap_cons,List.set_cons_succ,List.flatMap_cons,← ih,show (j+1)*2+1=(E2 y).length+(j*2+1) from by simp;omega,List.set_append_right _ _ (by omega)]
  congr 2;omega
theorem r0h:∀ n,c0q [AV.str [],.str []] n=(List.replicate n (([],[]):Lab)).flatMap E2
 | 0=>rfl
 | n+1=>by rw [c0q,r0h n,List.replicate_succ,List.flatMap_cons];rfl
end Go.Dk

namespace Go.Dk
open Go Go.Dr
set_option maxRecDepth 100000
theorem q0o {h:AH} {n:Nat} {v:AV} {bs:List Nat} (hv:Sl h 1 n v (by8 bs)) (hb:∀ x ∈ bs,x<256) (h1:1≤n) (h8:n≤8) (K:AV→AH→Prop) :
  Ev P SI (.fn c0v) [v] h K=K (.tuple [.int .u64 (beV bs:Int),.bool true]) h:=by
 refine Ev.eq (k8 o06 rfl rfl ?_) K
 have hl:bs.length=n:=by have:=hv.1;simpa using this
 have e1:¬ (n=0):=by omega
 have e2:¬ (8<(n:Int)):=by omega
 simp [k0g,hv.len,e1,e2]
 refine m8 (n:=n) (by rfl) (fun j σ ds h'=>ds=[]∧σ 15=v∧σ 16=.int .i64 (n:Int)∧σ 4=.int .u64 (beV (bs.take j):Int)∧h'=h) (by omega) (by simp) (by simp [beV]) (fun j σ ds h' hJ=>by simp [hJ.2.2.1]) ?_ ?_
 ·rintro j σ ds h' hj hi ⟨rfl,hs,hn,h4,rfl⟩
  have hjl:j<bs.length:=by omega
  obtain ⟨id,o,g1,g2,_⟩:=hv.get1 (k:=.i64) (i:=(j:Int)) rfl hj (x:=.int .u8 (bs[j]:Int)) (by rw [a0g,List.getElem?_eq_getElem hjl];rfl)
  have hx:bs[j]<256:=hb _ (List.getElem_mem hjl)
  have ht:beV (bs.take (j+1))=beV (bs.take j)*256+bs[j]:=by
   rw [List.take_add_one,List.getElem?_eq_getElem hjl,Option.toList_some,h02]
  have hlt:=h03 (bs.take j) (fun x hx=>hb x (List.mem_of_mem_take hx))
  rw [List.length_take,Nat.min_eq_left (by omega)] at hlt
  have hlt2:beV (bs.take j)*256≤2 ^ 64 - 256:=by
   have:256 ^ j≤256 ^ 7:=Nat.pow_le_pow_right (by decide) (by omega)
   omega
  have w1:b9 .u64 ((beV (bs.take j):Int)*256)=(beV (bs.take j):Int)*256:=wrap_u64 (by omega) (by omega)
  have w2:b9 .u64 (bs[j]:Int)=(bs[j]:Int):=wrap_u64 (by omega) (by omega)
  have w3:=A0I (beV (bs.take j)) bs[j] (by omega) hx
  have w4:b9 .u64 ((beV (bs.take j):Int)*256+(bs[j]:Int))=(beV (bs.take j):Int)*256+(bs[j]:Int):=wrap_u64 (by omega) (by omega)
  simp [hs,hn,h4,hi,g1,g2,w1,w2,w3,w4,ht]
 ·rintro σ ds h' ⟨rfl,hs,hn,h4,rfl⟩
  rw [List.take_of_length_le (by omega)] at h4
  simp [h4]
theorem p0c {h:AH} {n:Nat} {v:AV} {bs:List Nat} (hv:Sl h 1 n v (by8 bs)) (hb:∀ x ∈ bs,x<256) (h1:1≤n) (h8:n≤8) (K:AV→AH→Prop) :
  Ev P SI (.fn d0L) [v] h K=K (.tuple [.int .u64 (beV bs:Int),.bool true]) h:=by
 refine Ev.eq (k8 q0B rfl rfl ?_) K
 have hl:bs.length=n:=by have:=hv.1;simpa using this
 have e1:¬ ((n:Int)<1):=by omega
 have e2:¬ (8<(n:Int)):=by omega
 simp [k0n,hv.len,e1,e2]
 refine m8 (n:=n) (by rfl) (fun j σ ds h'=>ds=[]∧σ 15=v∧σ 16=.int .i64 (n:Int)∧σ 4=.int .u64 (beV (bs.take j):Int)∧h'=h) (by omega) (by simp) (by simp [beV]) (fun j σ ds h' hJ=>by simp [hJ.2.2.1]) ?_ ?_
 ·rintro j σ ds h' hj hi ⟨rfl,hs,hn,h4,rfl⟩
  have hjl:j<bs.length:=by omega
  obtain ⟨id,o,g1,g2,_⟩:=hv.get1 (k:=.i64) (i:=(j:Int)) rfl hj (x:=.int .u8 (bs[j]:Int)) (by rw [a0g,List.getElem?_eq_getElem hjl];rfl)
  have hx:bs[j]<256:=hb _ (List.getElem_mem hjl)
  have ht:beV (bs.take (j+1))=beV (bs.take j)*256+bs[j]:=by
   rw [List.take_add_one,List.getElem?_eq_getElem hjl,Option.toList_some,h02]
  have hlt:=h03 (bs.take j) (fun x hx=>hb x (List.mem_of_mem_take hx))
  rw [List.length_take,Nat.min_eq_left (by omega)] at hlt
  have hlt2:beV (bs.take j)*256≤2 ^ 64 - 256:=by
   have:256 ^ j≤256 ^ 7:=Nat.pow_le_pow_right (by decide) (by omega)
   omega
  have w1:b9 .u64 ((beV (bs.take j):Int)*256)=(beV (bs.take j):Int)*256:=wrap_u64 (by omega) (by omega)
  have w2:b9 .u64 (bs[j]:Int)=(bs[j]:Int):=wrap_u64 (by omega) (by omega)
  have w3:b9 .u64 ((beV (bs.take j):Int)*256+(bs[j]:Int))=(beV (bs.take j):Int)*256+(bs[j]:Int):=wrap_u64 (by omega) (by omega)
  simp [hs,hn,h4,hi,g1,g2,w1,w2,w3,ht]
 ·rintro σ ds h' ⟨rfl,hs,hn,h4,rfl⟩
  rw [List.take_of_length_le (by omega)] at h4
  simp [h4]
def fill (k n j:Nat):List Nat:=List.replicate (k - j) 0++(be k n).drop (k - j)
theorem p0d (k n:Nat):fill k n 0=List.replicate k 0:=by
 simp [fill]
theorem s0x (k n:Nat):fill k n k=be k n:=by simp [fill]
theorem k04 (k n j:Nat) (hj:j≤k):(fill k n j).length=k:=by
 rw [fill,List.length_append,List.length_replicate,List.length_drop,r8];omega
theorem p0e (k n j:Nat) (hj:j<k):G3 (by8 (fill k n j)) (k - 1 - j) [.int .u8 ((n/256 ^ j%256:Nat):Int)]=by8 (fill k n (j+1)):=by
 have h1:(be k n).drop (k - (j+1))=(n/256 ^ j%256)::(be k n).drop (k - j):=by
  have hlt:k - 1 - j<(be k n).length:=by rw [r8];omega
  have hg:=x0K k n j hj
  rw [List.getElem?_eq_getElem hlt] at hg
  rw [show k - (j+1)=k - 1 - j from by omega,List.drop_eq_getElem_cons hlt,Option.some.inj hg,show k - 1 - j+1=k - j from by omega]
 have h2:fill k n (j+1)=List.replicate (k - 1 - j) 0++((n/256 ^ j%256)::(be k n).drop (k - j)):=by
  rw [fill,h1,show k - (j+1)=k - 1 - j from by omega]
 have h3:fill k n j=List.replicate (k - 1 - j) 0++(0::(be k n).drop (k - j)):=by
  rw [fill,show k - j=(k - 1 - j)+1 from by omega,List.replicate_succ',List.append_assoc];rfl
 rw [h2,h3]
 simp only [G3,by8,List.map_append,List.map_cons,List.length_singleton]
 rw [List.take_left' (by simp),← List.drop_drop,List.drop_left' (by simp)]
 rfl
theorem y0n (n j:Nat) (hj:j<8):b9 .u8 (((n:Nat):Int).fdiv (2 ^ min (8*j) 64))=((n/256 ^ j%256:Nat):Int):=by
 rw [Nat.min_eq_left (by omega),u0G,Int.fdiv_eq_ediv_of_nonneg _ (by exact_mod_cast Nat.zero_le _)]
 have:(2:Int) ^ (8*j)=((256 ^ j:Nat):Int):=by
  rw [Int.pow_mul];norm_cast
 rw [this]
 norm_cast
theorem l0v (n k:Nat) (hn:n<2 ^ 64) (hk:k≤8) (h:AH) (K:AV→AH→Prop) :
  Ev P SI (.fn b0m) [.int .u64 (n:Int),.int .i64 (k:Int)] h K=K (.slice h.next 0 k k true 1) (h.push (.cells (by8 (be k n)) false)):=by
 refine Ev.eq (k8 v0t rfl rfl ?_) K
 have e1:max (k:Int) 0=k:=by omega
 have e2:min (k:Int) 8=k:=by omega
 have e3:c0q [AV.int .u8 0] k=by8 (fill k n 0):=by rw [i0P,p0d];simp [by8]
 simp [o0A,e1,e2,j0Q 1 1 k [.int .u8 0] .i64 .i64 (by omega) (by omega),e3]
 refine m8 (n:=k) (by rfl) (fun j σ ds h'=>ds=[]∧σ 0=.int .u64 (n:Int)∧σ 5=.slice h.next 0 k k true 1∧σ 12=.int .i64 (k:Int)∧h'=h.push (.cells (by8 (fill k n j)) false)) (by omega) (by simp) (by simp) (fun j σ ds h' hJ=>by simp [hJ.2.2.2.1]) ?_ ?_
 ·rintro j σ ds h' hj hi ⟨rfl,h0,h5,h12,rfl⟩
  have w1:b9 .i64 ((k:Int) - 1)=(k:Int) - 1:=wrap_i64 (by omega) (by omega)
  have w2:b9 .i64 ((k:Int) - 1 - (j:Int))=((k - 1 - j:Nat):Int):=by rw [wrap_i64 (by omega) (by omega)];omega
  have w3:b9 .i64 (8*(j:Int))=((8*j:Nat):Int):=by rw [wrap_i64 (by omega) (by omega)];omega
  have i1:=N9 (es:=1) (id:=h.next) (off:=0) (len:=k) (cap:=k) (x:=true) (k:=.i64) (i:=((k - 1 - j:Nat):Int)) ⟨by omega,by omega⟩
  have s1:B9 (h.push (.cells (by8 (fill k n j)) false)) h.next (k - 1 - j) [.int .u8 ((n/256 ^ j%256:Nat):Int)]=.ok (h.push (.cells (by8 (fill k n (j+1))) false)):=by
   rw [n8 (b8 _) (by rw [m07,k04 _ _ _ (by omega)];omega) rfl,p0e k n j hj,AH.set_push]
  have b1:=y0n n j (by omega)
  have b2:n9 P .shr j0 false (.int .u64 (n:Int)) (.int .i64 (8*(j:Int)))=.ok (.int .u64 ((n:Int).fdiv (2 ^ min (8*j) 64))):=by
   rw [I9 _ _ _ _ _ (by omega),show (8*(j:Int)).toNat=8*j from by omega]
  generalize ((n/256 ^ j%256:Nat):Int)=x at s1 b1
  simp only [Int.toNat_natCast,Nat.zero_add,Nat.mul_one] at i1
  simp [h0,h5,h12,hi,w1,w2,w3,i1,b1,b2,s1]
 ·rintro σ ds h' ⟨rfl,h0,h5,h12,rfl⟩
  simp [h5,s0x]
theorem g06 (n k:Nat) (hn:n<2 ^ 64) (hk:k≤8) (h:AH) (K:AV→AH→Prop) :
  Ev P SI (.fn S9) [.int .u64 (n:Int),.int .i64 (k:Int)] h K=K (.slice h.next 0 k k true 1) (h.push (.cells (by8 (be k n)) false)):=by
 refine Ev.eq (k8 r0a rfl rfl ?_) K
 have e1:max (k:Int) 0=k:=by omega
 have e2:min (k:Int) 8=k:=by omega
 have e3:c0q [AV.int .u8 0] k=by8 (fill k n 0):=by rw [i0P,p0d];simp [by8]
 have e4:b9 .i64 ((k:Int) - 1)=(k:Int) - 1:=wrap_i64 (by omega) (by omega)
 simp [k0A,e1,e2,j0Q 1 1 k [.int .u8 0] .i64 .i64 (by omega) (by omega),e3,e4]
 refine M5 (fun r σ ds h'=>∃ j,r+j=k∧ds=[]∧(∃ q:Nat,q=n/256 ^ j∧σ 0=.int .u64 (q:Int))∧σ 6=.slice h.next 0 k k true 1∧σ 7=.int .i64 ((k:Int) - 1 - (j:Int))∧h'=h.push (.cells (by8 (fill k n j)) false)) k ⟨0,by simp⟩ ?_
 rintro r σ ds h' ⟨j,hr,rfl,⟨q,hq,h0⟩,h6,h7,rfl⟩
 by_cases hj:j<k
 ·have c1:(j:Int)≤(k:Int) - 1:=by omega
  have i1:=N9 (es:=1) (id:=h.next) (off:=0) (len:=k) (cap:=k) (x:=true) (k:=.i64) (i:=(k:Int) - 1 - (j:Int)) ⟨by omega,by omega⟩
  have t1:((k:Int) - 1 - (j:Int)).toNat=k - 1 - j:=by omega
  rw [t1] at i1
  simp only [Nat.zero_add,Nat.mul_one] at i1
  have hqn:q<2 ^ 64:=by rw [hq];exact Nat.lt_of_le_of_lt (Nat.div_le_self _ _) hn
  have m1:(q:Int).tmod 256=(q:Int)%256:=Int.tmod_eq_emod_of_nonneg (by omega)
  have m2:b9 .u8 ((q:Int)%256)=(q:Int)%256:=wrap_u8 (by omega) (by omega)
  have q1:(q:Int).tdiv 256=(q:Int)/256:=Int.tdiv_eq_ediv_of_nonneg (by omega)
  have q2:b9 .u64 ((q:Int)/256)=(q:Int)/256:=wrap_u64 (by omega) (by omega)
  have w1:b9 .i64 ((k:Int) - 1 - (j:Int) - 1)=(k:Int) - 1 - ((j+1:Nat):Int):=by rw [wrap_i64 (by omega) (by omega)];omega
  have s1:B9 (h.push (.cells (by8 (fill k n j)) false)) h.next (k - 1 - j) [.int .u8 ((q:Int)%256)]=.ok (h.push (.cells (by8 (fill k n (j+1))) false)):=by
   rw [show (q:Int)%256=((n/256 ^ j%256:Nat):Int) from by rw [← hq];omega]
   rw [n8 (b8 _) (by rw [m07,k04 _ _ _ (by omega)];omega) rfl,p0e k n j hj,AH.set_push]
  simp [h0,h6,h7,c1,i1,m1,m2,q1,q2,s1,w1,l7]
  have e:((q/256:Nat):Int)=((n/256 ^ (j+1):Nat):Int):=by rw [hq,Nat.div_div_eq_div_mul,← Nat.pow_succ]
  exact ⟨r - 1,by omega,j+1,by omega,by simpa using e,by simp⟩
 ·have hjk:j=k:=by omega
  subst hjk
  have c1:¬ ((j:Int)≤(j:Int) - 1):=by omega
  simp [h6,h7,c1,s0x]
theorem w0p {h:AH} {n k:Nat} {v:AV} {bs:List Nat} (hv:Sl h 1 n v (by8 bs)) (hb:∀ x ∈ bs,x<256) (h1:1≤k) (h8:k≤8) (hn:k≤n) :
  ∃ v',(∀ g,Sl g 1 n v (by8 bs)→Sl g 1 (n - k) v' (by8 (bs.drop k)))∧∀ K,Ev P SI (.fn a0J) [v,.int .i64 (k:Int)] h K=K (.tuple [.int .i64 (b9 .i64 (beV (bs.take k):Int)),v',.bool true]) h:=by
 have hl:bs.length=n:=by have:=hv.1;simpa using this
 obtain ⟨u,e1,s1⟩:=hv.slice (lo:=none) (hi:=some (.int .i64 (k:Int))) (a:=0) (b:=k) (.inl ⟨rfl,rfl⟩) (.inr ⟨.i64,rfl⟩) (by omega) hn
 obtain ⟨v',e2,_⟩:=hv.slice (lo:=some (.int .i64 (k:Int))) (hi:=none) (a:=k) (b:=n) (.inr ⟨.i64,rfl⟩) (.inl ⟨rfl,rfl⟩) hn (Nat.le_refl _)
 have s1':Sl h 1 k u (by8 (bs.take k)):=by simpa [H7,H8] using s1
 have s2':∀ g,Sl g 1 n v (by8 bs)→Sl g 1 (n - k) v' (by8 (bs.drop k)):=by
  intro g hg
  obtain ⟨v'',e3,s3⟩:=hg.slice (lo:=some (.int .i64 (k:Int))) (hi:=none) (a:=k) (b:=n) (.inr ⟨.i64,rfl⟩) (.inl ⟨rfl,rfl⟩) hn (Nat.le_refl _)
  rw [e2] at e3
  cases e3
  have:(bs.drop k).take (n - k)=bs.drop k:=List.take_of_length_le (by simp;omega)
  simpa [H7,H8,this] using s3
 refine ⟨v',s2',fun K=>Ev.eq (k8 k0m rfl rfl ?_) K⟩
 have c1:¬ ((n:Int)<(k:Int)):=by omega
 simp [f0U,hv.len,c1,e1,e2,p0c s1' (fun x hx=>hb x (List.mem_of_mem_take hx)) h1 h8]
theorem l0m {h:AH} {n k:Nat} {v:AV} {l:List AV} (hv:Sl h 1 n v l) (hn:n<k) (K:AV→AH→Prop) :
  Ev P SI (.fn a0J) [v,.int .i64 (k:Int)] h K=K (.tuple [.int .i64 0,.nils,.bool false]) h:=by
 refine Ev.eq (k8 k0m rfl rfl ?_) K
 have c1:((n:Int)<(k:Int)):=by omega
 simp [f0U,hv.len,c1]
theorem u0P {a b:List Nat} (ha:∀ x ∈ a,x<256) (hb:∀ x ∈ b,x<256) (e:Q9 a=Q9 b):a=b:=by
 have h1:∀ l:List Nat,(∀ x ∈ l,x<256)→(Q9 l).map UInt8.toNat=l:=by
  intro l hl
  unfold Q9
  rw [List.map_map]
  conv=>rhs;rw [← List.map_id l]
  apply List.map_congr_left
  intro x hx
  have:=hl x hx
  simp
  omega
 rw [← h1 a ha,← h1 b hb,e]
theorem k05 {h:AH} {n m:Nat} {v u:AV} {a b:List Nat} (s:Sl h 1 n v (by8 a)) (t:Sl h 1 m u (by8 b)) (ha:∀ x ∈ a,x<256) (hb:∀ x ∈ b,x<256) (K:AV→AH→Prop) :
  Ev P SI (.fn b0D) [v,u] h K=K (.bool (decide (a=b))) h:=by
 refine Ev.eq (k8 n02 rfl rfl ?_) K
 have hs:=b0q s
 have ht:=b0q t
 by_cases e:a=b
 ·subst e
  simp [e0x,hs,ht]
 ·have e':¬ Q9 a=Q9 b:=fun h=>e (u0P ha hb h)
  simp [e0x,hs,ht,e,e']
end Go.Dk

namespace Go.Dk
open Go Go.Dr
set_option maxRecDepth 100000
abbrev Smp:=Int×Nat
def smC (x:Smp):List AV:=[.int .i64 x.1,.int .u64 (x.2:Int)]
def b0g:List Smp→Bool
 | []=>true
 | [_]=>true
 | a::b::r=>decide (a.1<b.1)&&b0g (b::r)
def a0S (l:List Smp):Bool:=b0g l&&decide (l.length≤65535)
theorem o0g {l:List Smp} {j:Nat} {x y:Smp} (hy:l[j]? = some y) (hx:l[j+1]? = some x):b0g (l.drop j)=(decide (y.1<x.1)&&b0g (l.drop (j+1))):=by
 obtain ⟨h1,e1⟩:=List.getElem?_eq_some_iff.1 hy
 obtain ⟨h2,e2⟩:=List.getElem?_eq_some_iff.1 hx
 rw [List.drop_eq_getElem_cons h1,List.drop_eq_getElem_cons h2,b0g,e1,e2]
theorem q0K (l:List Smp) (j:Nat) (hj:l.length≤j+1):b0g (l.drop j)=true:=by
 by_cases h:j<l.length
 ·rw [List.drop_eq_getElem_cons h,List.drop_of_length_le (by omega),b0g]
 ·rw [List.drop_of_length_le (by omega),b0g]
theorem M3 {h:AH} {n:Nat} {v:AV} {l:List Smp} (s:Sl h 2 n v (l.flatMap smC)) {j:Nat} {x:Smp} (hx:l[j]? = some x) :
  ∃ id o,E9 2 v (.int .i64 (j:Int))=.ok (.ptr id o)∧loadN h id o 2=.ok (smC x)∧load1 h id o=.ok (.int .i64 x.1)∧load1 h id (o+1)=.ok (.int .u64 (x.2:Int))∧id<h.next:=by
 obtain ⟨id,o,h1,h2,h3,h4⟩:=s.elem (fun _ _=>rfl) (by omega) (k:=.i64) (i:=(j:Int)) rfl hx
 exact ⟨id,o,h1,h2,h3 0 _ rfl,h3 1 _ rfl,h4⟩
theorem j7 {α:Type} {l:List α} {j:Nat} (h:j<l.length):∃ x,l[j]? = some x:=⟨_,List.getElem?_eq_getElem h⟩
theorem i0r {h:AH} {n:Nat} {v:AV} {l:List Smp} (s:Sl h 2 n v (l.flatMap smC)):l.length=n:=by
 have:=s.1
 rw [S8 l (es:=2) (fun _ _=>rfl)] at this
 omega
theorem j0A {h:AH} {n:Nat} {v:AV} {l:List Smp} (s:Sl h 2 n v (l.flatMap smC)) (hn:n≤2 ^ 40) (K:AV→AH→Prop):Ev P SI (.fn d0K) [v] h K=K (.bool (a0S l)) h:=by
 refine Ev.eq (k8 s0q rfl rfl ?_) K
 have hl:=i0r s
 simp [k02]
 refine M5 (fun q σ ds g=>∃ j:Nat,q+j=n+1∧ds=[]∧g=h∧σ 0=v∧σ 3=.int .i64 ((j+1:Nat):Int)∧b0g l=b0g (l.drop j)) (n+1) ⟨0,by omega,rfl,rfl,by simp,by simp,by simp⟩ ?_
 rintro q σ ds g ⟨j,hq,rfl,rfl,e0,e3,hr⟩
 by_cases hj:j+1<n
 ·obtain ⟨⟨x,xv⟩,hx⟩:=j7 (l:=l) (j:=j+1) (by omega)
  obtain ⟨⟨y,yv⟩,hy⟩:=j7 (l:=l) (j:=j) (by omega)
  obtain ⟨id,o,a1,_,a2,_⟩:=M3 s hx
  obtain ⟨id',o',b1,_,b2,_⟩:=M3 s hy
  have hc:((j+1:Nat):Int)<n:=by omega
  have w1:b9 .i64 (((j+1:Nat):Int) - 1)=(j:Int):=by rw [wrap_i64 (by omega) (by omega)];omega
  have w2:b9 .i64 (((j+1:Nat):Int)+1)=((j+1+1:Nat):Int):=by rw [wrap_i64 (by omega) (by omega)];omega
  rw [o0g hy hx] at hr
  simp only at a2 b2 hr
  generalize hjj:j+1=j1 at *
  by_cases hxy:y<x
  ·have hxy':¬ x≤y:=by omega
   simp [e0,e3,s.len,hc,a1,a2,b1,b2,w1,w2,hxy',l7]
   exact ⟨q - 1,by omega,j1,by omega,by omega,by simp [hr,hxy]⟩
  ·have hxy':x≤y:=by omega
   simp [e0,e3,s.len,hc,a1,a2,b1,b2,w1,w2,hxy',a0S,hr,hxy]
 ·have hc:¬ ((j+1:Nat):Int)<n:=by omega
  rw [q0K l j (by omega)] at hr
  generalize hjj:j+1=j1 at *
  simp [e0,e3,s.len,hc,a0S,hr,hl]
  omega
theorem j0B {h:AH} {n:Nat} {v:AV} {l:List Smp} (s:Sl h 2 n v (l.flatMap smC)) (hn:n≤2 ^ 40) (K:AV→AH→Prop):Ev P SI (.fn d0J) [v] h K=K (.bool (a0S l)) h:=by
 refine Ev.eq (k8 s0o rfl rfl ?_) K
 have hl:=i0r s
 simp [k00,s.len]
 refine m8 (n:=n) (by rfl) (fun j σ ds g=>ds=[]∧g=h∧σ 0=v∧σ 5=.int .i64 (n:Int)∧b0g l=b0g (l.drop (j - 1))) (by omega) (by simp) ⟨rfl,rfl,by simp,by simp,by simp⟩ (fun j σ ds g hJ=>by simp [hJ.2.2.2.1]) ?_ ?_
 ·rintro j σ ds g hj hi ⟨rfl,rfl,e0,e5,hr⟩
  cases j with
  | zero =>
   simp [e0,e5,hi]
  | succ j =>
   obtain ⟨⟨x,xv⟩,hx⟩:=j7 (l:=l) (j:=j+1) (by omega)
   obtain ⟨⟨y,yv⟩,hy⟩:=j7 (l:=l) (j:=j) (by omega)
   obtain ⟨id,o,a1,_,a2,_⟩:=M3 s hx
   obtain ⟨id',o',b1,_,b2,_⟩:=M3 s hy
   have hc:(0:Int)<((j+1:Nat):Int):=by omega
   have w1:b9 .i64 (((j+1:Nat):Int) - 1)=(j:Int):=by rw [wrap_i64 (by omega) (by omega)];omega
   rw [Nat.add_sub_cancel,o0g hy hx] at hr
   simp only at a2 b2 hr
   rw [show j+1+1 - 1=j+1 from rfl]
   generalize hjj:j+1=j1 at *
   have hc':0<j1:=by omega
   by_cases hxy:y<x
   ·have hxy':¬ x≤y:=by omega
    simp [e0,e5,hi,hc',a1,a2,b1,b2,w1,hxy',hr,hxy]
   ·have hxy':x≤y:=by omega
    simp [e0,e5,hi,hc',a1,a2,b1,b2,w1,hxy',a0S,hr,hxy]
 ·rintro σ ds g ⟨rfl,rfl,e0,e5,hr⟩
  rw [q0K l (n - 1) (by omega)] at hr
  simp [e0,s.len,a0S,hr,hl]
  omega
end Go.Dk

namespace Go.Dk
open Go Go.Dr
set_option maxRecDepth 100000
def e0L (t:Int) (v:Nat) (step:Int):List Smp→A5
 | []=>[]
 | (t',v')::l=>a0q (b9 .i64 (b9 .i64 (t' - t) - step))++d0v (v' ^^^ v)++e0L t' v' (b9 .i64 (t' - t)) l
def b0O:List Smp→A5
 | []=>[]
 | (t,v)::l=>v8 (u64 t) 64++v8 v 64++e0L t v 0 l
def SmpR (l:List Smp):Prop:=∀ x ∈ l,(-9223372036854775808≤x.1∧x.1<9223372036854775808)∧x.2<2 ^ 64
theorem o0K:∀ (l:List Smp) (t:Int) (v:Nat) (step:Int),v<2 ^ 64→(∀ x ∈ l,x.2<2 ^ 64)→(e0L t v step l).length≤150*l.length
 | [],_,_,_,_,_=>by simp [e0L]
 | (t',v')::l,t,v,step,hv,hl=>by
  have hv':v'<2 ^ 64:=hl (t',v') (by simp)
  have h1:=o0K l t' v' (b9 .i64 (t' - t)) hv' (fun x hx=>hl x (List.mem_cons_of_mem _ hx))
  have h2:=l07 (b9 .i64 (b9 .i64 (t' - t) - step))
  have h3:=y0k (v' ^^^ v) (Nat.xor_lt_two_pow hv' hv)
  simp only [e0L,List.length_append,List.length_cons]
  omega
theorem j0Z (l:List Smp) (hl:∀ x ∈ l,x.2<2 ^ 64):(b0O l).length≤150*l.length:=by
 cases l with
 | nil=>simp [b0O]
 | cons x l =>
  obtain ⟨t,v⟩:=x
  have h1:=o0K l t v 0 (hl (t,v) (by simp)) (fun x hx=>hl x (List.mem_cons_of_mem _ hx))
  simp only [b0O,List.length_append,List.length_cons,W0]
  omega
def P0 (l:List Smp):List Nat:=be 2 l.length++Z5 (b0O l)
def y04 (h:AH) (l:List Smp) (r:AV) (g:AH):Prop :=
 Fr h g∧if a0S l=true then ∃ v,r=.tuple [v,.int .i64 0]∧Sl g 1 (P0 l).length v (by8 (P0 l)) else r=.tuple [.nils,.int .i64 1]
theorem PackO.fr {h g:AH} {id:Nat} {l:A5} (p:PackO h id l) (f:Fr h g):PackO g id l:=by
 obtain ⟨v,a,b,c,d⟩:=p
 exact ⟨v,by rw [f.get _ d,a],b.fr f,c,Nat.lt_of_lt_of_le d f.next⟩
def EncJ (l:List Smp) (j:Nat) (m:A5) (step:Int):Prop :=
 (j=0∧m=[]∧step=0)∨(0<j∧∃ t w,l[j - 1]? = some (t,w)∧m++e0L t w step (l.drop j)=b0O l)
theorem EncJ.len {l:List Smp} {j:Nat} {m:A5} {step:Int} (e:EncJ l j m step):m.length≤(b0O l).length:=by
 rcases e with ⟨_,rfl,_⟩ | ⟨_,t,w,_,e⟩
 ·simp
 ·have:=congrArg List.length e
  rw [List.length_append] at this
  omega
theorem EncJ.fin {l:List Smp} {m:A5} {step:Int} (e:EncJ l l.length m step):m=b0O l:=by
 rcases e with ⟨h0,rfl,_⟩ | ⟨_,t,w,_,e⟩
 ·have:l=[]:=List.length_eq_zero_iff.1 h0
  subst this;rfl
 ·rw [List.drop_length,e0L,List.append_nil] at e
  exact e
theorem x0o (n:Nat) (hn:n<2 ^ 64) (h:AH) (K:AV→AH→Prop) :
  Ev P SI (.fn b0m) [.int .u64 (n:Int),.int .i64 2] h K=K (.slice h.next 0 2 2 true 1) (h.push (.cells (by8 (be 2 n)) false)):=l0v n 2 hn (by omega) h K
theorem t0l (n:Nat) (hn:n<2 ^ 64) (h:AH) (K:AV→AH→Prop) :
  Ev P SI (.fn S9) [.int .u64 (n:Int),.int .i64 2] h K=K (.slice h.next 0 2 2 true 1) (h.push (.cells (by8 (be 2 n)) false)):=g06 n 2 hn (by omega) h K
theorem p0O {h:AH} {n:Nat} {v:AV} {l:List Smp} (s:Sl h 2 n v (l.flatMap smC)) (hn:n≤2 ^ 40) (hv:∀ x ∈ l,x.2<2 ^ 64) (ht:TabIn h) :
  Ev P SI (.fn c0Y) [v] h (y04 h l):=by
 refine k8 n0j rfl rfl ?_
 have hl:=i0r s
 unfold y04
 by_cases hc:a0S l=true
 case neg =>
  have hc':a0S l=false:=by simpa using hc
  simp [d0q,j0A s hn,hc']
  exact .refl _
 have hn2:n≤65535:=by
  simp [a0S] at hc
  omega
 have hsl:=j0Z l hv
 simp [d0q,j0A s hn,hc,s.len]
 have f0:=Fr.push (.refl h) (.cells [.nils,.int .i64 0] false)
 have p0:PackO (h.push (.cells [.nils,.int .i64 0] false)) h.next []:=⟨.nils,b8 _,⟨rfl,.inl ⟨rfl,rfl⟩⟩,by simp [j9],Nat.lt_succ_self _⟩
 generalize hg0:h.push (.cells [.nils,.int .i64 0] false)=g0 at *
 refine m8 (n:=n) (by rfl) (fun j σ ds g=>ds=[]∧σ 0=v∧σ 4=.ptr h.next 0∧σ 12=v∧σ 13=.int .i64 (n:Int)∧Fr h g∧∃ m step,σ 5=.int .i64 step∧PackO g h.next m∧EncJ l j m step) (by omega) (by simp)
  ⟨rfl,by simp,by simp,by simp,by simp,f0,[],0,by simp,p0,.inl ⟨rfl,rfl,rfl⟩⟩ (fun j σ ds g hJ=>by simp [hJ.2.2.2.2.1]) ?_ ?_
 ·rintro j σ ds g hj hi ⟨rfl,e0,e4,e12,e13,fr,m,step,e5,po,hJ⟩
  obtain ⟨⟨t,w⟩,hx⟩:=j7 (l:=l) (j:=j) (by omega)
  have hm:=hJ.len
  have hw:w<2 ^ 64:=hv _ (List.mem_of_getElem? hx)
  obtain ⟨id,o,a1,a2,_⟩:=M3 (s.fr fr) hx
  have f1:=Fr.push (.refl g) (.cells [.int .i64 t,.int .u64 (w:Int)] false)
  have gg:(g.push (.cells [.int .i64 t,.int .u64 (w:Int)] false)).get g.next=some (.cells [.int .i64 t,.int .u64 (w:Int)] false):=b8 _
  have gn:(g.push (.cells [.int .i64 t,.int .u64 (w:Int)] false)).next=g.next+1:=rfl
  have hpn:h.next<g.next:=by obtain ⟨_,_,_,_,d⟩:=po;exact d
  have hdrop:l.drop j=(t,w)::l.drop (j+1):=by
   obtain ⟨h1,h2⟩:=List.getElem?_eq_some_iff.1 hx
   rw [List.drop_eq_getElem_cons h1,h2]
  generalize hg1:g.push (.cells [.int .i64 t,.int .u64 (w:Int)] false)=g1 at *
  have po1:=po.fr f1
  have ld0:load1 g1 g.next 0=.ok (.int .i64 t):=b7 gg
  have ld1:load1 g1 g.next 1=.ok (.int .u64 (w:Int)):=b7 gg
  simp [smC] at a2
  rcases hJ with ⟨rfl,rfl,rfl⟩ | ⟨h0,t0,w0,hp,hcat⟩
  ·have wu:=g0N t
   have a1':E9 2 v (.int .i64 0)=.ok (.ptr id o):=a1
   simp [e0,e4,e5,e12,e13,hi,a1',a2,hg1,ld0,wu]
   refine (e0Y (n:=u64 t) (cnt:=64) po1 (l06 t) (by omega) (by simp)).mono ?_
   rintro r g2 ⟨rfl,p2,x2⟩
   have ld1':load1 g2 g.next 1=.ok (.int .u64 (w:Int)):=by
    have:=x2.get g.next (by omega) (by omega)
    rw [gg] at this
    exact b7 this
   simp [ld1',e4]
   refine (e0Y (n:=w) (cnt:=64) p2 hw (by omega) (by simp)).mono ?_
   rintro r g3 ⟨rfl,p3,x3⟩
   simp [e0,e4,e5,e12,e13,hi]
   refine ⟨FrX.fr (FrX.fr (fr.trans f1) x2 (Nat.le_refl _)) x3 (Nat.le_refl _),_,p3,.inr ⟨by omega,t,w,by simpa using hx,?_⟩⟩
   rw [show l=(t,w)::l.drop 1 from by simpa using hdrop]
   simp [b0O]
  ·obtain ⟨j,rfl⟩:∃ i,j=i+1:=⟨j - 1,by omega⟩
   obtain ⟨id',o',b1,_,b2,b3,hidlt⟩:=M3 ((s.fr fr).fr f1) hp
   rw [Nat.add_sub_cancel] at b1
   simp only at b2 b3
   have c0:¬ ((j+1:Nat):Int)=0:=by omega
   have w1:b9 .i64 (((j+1:Nat):Int) - 1)=(j:Int):=by rw [wrap_i64 (by omega) (by omega)];omega
   have hw0:w0<2 ^ 64:=hv _ (List.mem_of_getElem? hp)
   have xx:=l0n (P:=P) j0 false w w0 hw hw0
   have hwx:w ^^^ w0<2 ^ 64:=Nat.xor_lt_two_pow hw hw0
   generalize hwxd:w ^^^ w0=wx at *
   generalize hjj:((j+1:Nat):Int)=j1 at *
   simp [e0,e4,e5,e12,e13,hi,a1,a2,hg1,ld0,ld1,c0,w1,b1,b2,xx,-W4]
   refine (s0v po1 (by omega)).mono ?_
   rintro r g2 ⟨rfl,p2,x2⟩
   have F2:=FrX.fr (fr.trans f1) x2 (Nat.le_refl _)
   have ld1':load1 g2 g.next 1=.ok (.int .u64 (w:Int)):=by
    have:=x2.get g.next (by omega) (by omega)
    rw [gg] at this
    exact b7 this
   obtain ⟨id2,o2,c1,_,_,c3,_⟩:=M3 (s.fr F2) hp
   rw [Nat.add_sub_cancel,b1] at c1
   cases c1
   simp only at c3
   simp [e0,e4,ld1',w1,b1,c3,xx,-W4]
   have hlen2:(m++a0q (b9 .i64 (b9 .i64 (t - t0) - step))).length≤2 ^ 33:=by
    have:=l07 (b9 .i64 (b9 .i64 (t - t0) - step))
    rw [List.length_append]
    omega
   refine (t0S p2 hwx (ht.fr F2) (by have:=ht.1;omega) hlen2).mono ?_
   rintro r g3 ⟨rfl,p3,x3⟩
   simp [e0,e4,e12,e13,hi]
   refine ⟨FrX.fr F2 x3 (Nat.le_refl _),_,p3,.inr ⟨by omega,t,w,hx,?_⟩⟩
   rw [hdrop,e0L] at hcat
   rw [← hcat,hwxd]
   simp
 ·rintro σ ds g ⟨rfl,e0,e4,e12,e13,fr,m,step,e5,po,hJ⟩
  rw [← hl] at hJ
  have hm:=hJ.fin
  subst hm
  obtain ⟨u,hu,su,_,hlt⟩:=po
  have lu:=b7 hu (off:=0)
  simp [ofO] at lu
  have wn:b9 .u64 (n:Int)=(n:Int):=wrap_u64 (by omega) (by omega)
  have f2:=Fr.push (.refl g) (.cells (by8 (be 2 n)) false)
  have ow:=Own.fresh (B:=g.next) (h:=g) (es:=1) (n:=2) (l:=by8 (be 2 n)) true (Nat.le_refl _) (by simp)
  obtain ⟨r,g',ap,og,fb,_⟩:=ow.append (bytes:=1) (su.fr f2) (Nat.le_succ _) (C8 _) (by omega) (by omega)
  have lu2:load1 (g.push (.cells (by8 (be 2 n)) false)) h.next 0=.ok u:=by
   have:=f2.get _ hlt
   rw [hu] at this
   exact b7 this
  have hus:R4 12 u u=true:=su.same
  simp [e0,e4,s.len,wn,lu,x0o n (by omega),lu2,hus,ap]
  refine ⟨⟨Nat.le_trans fr.next (Nat.le_trans (Nat.le_succ _) fb.next),fun i hi=>by rw [fb.get i (by have:=fr.next;omega),c7 (by have:=fr.next;omega),fr.get i hi]⟩,?_⟩
  have:=og.sl
  rw [← M1] at this
  rw [show (P0 l).length=2+((b0O l).length+7)/8 from by simp [P0],P0,hl]
  exact this
end Go.Dk
