/-
  Texts joined.
-/
import Derived.Test.YtnapechhagnmaaaGreatDoorT9
import Derived.Test.YtnapechhagnmaaaGreatDoorT8
import Derived.Test.YtnapechhagnmaaaGreatDoorT4

namespace Go.Dk
open Go Go.Dr
set_option maxRecDepth 100000
theorem m0O {h:AH} {es n n':Nat} {v:AV} {l l':List AV} (a:Sl h es n v l) (b:Sl h es n' v l'):n=n'∧l=l':=by
 obtain ⟨a1,a2⟩:=a
 obtain ⟨b1,b2⟩:=b
 rcases a2 with ⟨rfl,rfl⟩ | ⟨id,off,cap,x,vs,ro,rfl,_,_,h4,_,h6⟩
 ·rcases b2 with ⟨_,rfl⟩ | ⟨_,_,_,_,_,_,e,_⟩
  ·exact ⟨rfl,by rw [List.eq_nil_of_length_eq_zero (show l.length=0 by omega),List.eq_nil_of_length_eq_zero (show l'.length=0 by omega)]⟩
  ·cases e
 ·rcases b2 with ⟨e,_⟩ | ⟨id',off',cap',x',vs',ro',e,_,_,k4,_,k6⟩
  ·cases e
  ·cases e
   rw [h4] at k4;cases k4
   exact ⟨rfl,by rw [← h6,← k6]⟩
theorem g0S:∀ (l:List (AV×AV)) (i:Nat),(mk0 i l).map kv=l
 | [],_=>rfl
 | x::l,i=>by simp only [mk0,List.map_cons,g0S l];rfl
theorem l0z (zs:List (Int×Int)):kvA kI (zs.map vU)=zs.map kz:=by unfold kvA;rw [List.map_map];rfl
theorem o0f {zs:List (Int×Int)} (hn:(zs.map (·.1)).Nodup):l00 cfS zs:=by
 intro x hx y hy h1 h2
 rw [ltS] at *
 simp only [decide_eq_false_iff_not] at *
 have e:x.1=y.1:=by omega
 induction zs with
 | nil=>cases hx
 | cons z l ih =>
  simp only [List.map_cons,List.nodup_cons] at hn
  rcases List.mem_cons.1 hx with hx1 | hx1
  ·rcases List.mem_cons.1 hy with hy1 | hy1
   ·rw [hx1,hy1]
   ·exact absurd (List.mem_map.2 ⟨y,hy1,by rw [← e,hx1]⟩) hn.1
  ·rcases List.mem_cons.1 hy with hy1 | hy1
   ·exact absurd (List.mem_map.2 ⟨x,hx1,by rw [e,hy1]⟩) hn.1
   ·exact ih hn.2 hx1 hy1
theorem l0A (h:AH) (N:Nat) (hN:h.next≤N) (p q:Option (Nat×List AV)) (hp:∀ x,p=some x→h.next≤x.1∧x.1<N) (hq:∀ x,q=some x→h.next≤x.1∧x.1<N) (hne:∀ x y,p=some x→q=some y→x.1≠y.1) :
  ∃ H:AH,H.next=N∧(∀ i,i<h.next→H.get i=h.get i)∧(∀ x,p=some x→H.get x.1=some (.cells x.2 false))∧(∀ x,q=some x→H.get x.1=some (.cells x.2 false)) ∧
   ∀ i o,h.next≤i→i<N→H.get i=some o→(∃ x,(p=some x∨q=some x)∧i=x.1∧o=.cells x.2 false):=by
 have base:∀ i,i<N→(g0m h N).get i=if i<h.next then h.get i else none:=fun i hi=>k0u hN hi
 obtain ⟨H1,a1,a2,a3,a4⟩:∃ H1:AH,H1.next=N∧(∀ i,i<h.next→H1.get i=h.get i)∧(∀ x,p=some x→H1.get x.1=some (.cells x.2 false))∧∀ i o,h.next≤i→i<N→H1.get i=some o→(∃ x,p=some x∧i=x.1∧o=.cells x.2 false):=by
  cases p with
  | none =>
   refine ⟨g0m h N,f0d _,fun i hi=>by rw [base i (by omega),if_pos hi],fun x e=>(by cases e),fun i o h1 h2 e=>?_⟩
   rw [base i h2,if_neg (by omega)] at e;cases e
  | some x =>
   obtain ⟨k1,k2⟩:=hp x rfl
   refine ⟨(g0m h N).set x.1 (.cells x.2 false),f0d _,fun i hi=>by rw [b8 (by omega),base i (by omega),if_pos hi],fun y e=>by cases e;exact l6 _ _,fun i o h1 h2 e=>?_⟩
   by_cases hi:i=x.1
   ·subst hi;rw [l6] at e;cases e;exact ⟨x,rfl,rfl,rfl⟩
   ·rw [b8 hi,base i h2,if_neg (by omega)] at e;cases e
 cases q with
 | none=>exact ⟨H1,a1,a2,a3,fun x e=>(by cases e),fun i o h1 h2 e=>let ⟨x,e1,e2⟩:=a4 i o h1 h2 e;⟨x,.inl e1,e2⟩⟩
 | some y =>
  obtain ⟨k1,k2⟩:=hq y rfl
  refine ⟨H1.set y.1 (.cells y.2 false),a1,fun i hi=>by rw [b8 (by omega),a2 i hi],fun x e=>by rw [b8 (hne x y e rfl),a3 x e],fun x e=>by cases e;exact l6 _ _,fun i o h1 h2 e=>?_⟩
  by_cases hi:i=y.1
  ·subst hi;rw [l6] at e;cases e;exact ⟨y,.inr rfl,rfl,rfl⟩
  ·rw [b8 hi] at e
   obtain ⟨x,e1,e2⟩:=a4 i o h1 h2 e
   exact ⟨x,.inl e1,e2⟩
theorem m0P {rid m n:Nat} {lv:AV} {L:List AV} {h:AH} {zs:List (Int×Int)} (hr:h.get rid=some (.cells [lv,.map m] false)) (hrn:rid<h.next) (hv:Sl h 2 n lv L) (hs:b9 L=true) (hn:n≤2 ^ 30)
  (hm:MapO kI h m (zs.map vU)) (hml:m<h.next) (hlen:zs.length≤2 ^ 29) (hrg:∀ z ∈ zs,-9223372036854775808≤z.1∧z.1≤9223372036854775807) (hnd:(zs.map (·.1)).Nodup) (K:AV→AH→Prop)
  (hK:∀ a b g,Own h.next g 2 n a L→Own h.next g 2 zs.length b (fl2 .i64 .u64 (R4 cfS zs))→Fr h g→K (.agg [a,b]) g) :
  Ev P SI (.fn n9) [.ptr rid 0,.int .i64 (-9223372036854775808),.int .i64 9223372036854775807] h K:=by
 obtain ⟨N,a,g1,ha,ho,hf⟩:=k05 (S:=S0) (by simp [S0,c8,j6]) (hv.fr (Fr.push (.refl h) (.cells [.nils,.nils] false))) hs hn
 have ho:Own (h.next+1) g1 2 n a L:=ho
 have hgn:h.next+1≤g1.next:=hf.next
 have hsl:(R4 cfS zs).length=zs.length:=b0L _ _
 have hmm:h.get m=some (.map (mk0 0 (kvA kI (zs.map vU))) (zs.map vU).length):=hm
 obtain ⟨p,hp,hpo⟩:∃ p:Option (Nat×List AV),(∀ x,p=some x→h.next+1≤x.1∧x.1<g1.next∧g1.get x.1=some (.cells x.2 false))∧∀ H:AH,(∀ x,p=some x→H.get x.1=some (.cells x.2 false))→g1.next≤H.next→Own h.next H 2 n a L:=by
  rcases ho.2 with ⟨e1,e2⟩ | ⟨id,off,x,vs,e,k1,k2,k3,k4⟩
  ·exact ⟨none,fun x e=>(by cases e),fun H _ _=>⟨ho.1,.inl ⟨e1,e2⟩⟩⟩
  ·exact ⟨some (id,vs),fun x e=>by cases e;exact ⟨k1,k2,k3⟩,fun H e1 e2=>⟨ho.1,.inr ⟨id,off,x,vs,e,by omega,by omega,e1 _ rfl,k4⟩⟩⟩
 obtain ⟨q,hq,hq0⟩:∃ q:Option (Nat×List AV),(q=if zs.length=0 then none else some (g1.next+1+2*zs.length,fl2 .i64 .u64 (R4 cfS zs)))∧∀ x,q=some x→zs.length≠0∧x=(g1.next+1+2*zs.length,fl2 .i64 .u64 (R4 cfS zs)):=by
  refine ⟨_,rfl,fun x e=>?_⟩
  split at e
  ·cases e
  ·cases e;exact ⟨by assumption,rfl⟩
 obtain ⟨H,c1,c2,c3,c4,c5⟩:=l0A h (g1.next+2+2*zs.length) (by omega) p q (fun x e=>by have:=hp x e;omega) (fun x e=>by obtain ⟨_,rfl⟩:=hq0 x e;simp only;omega) (fun x y e1 e2=>by
  have:=hp x e1;obtain ⟨_,rfl⟩:=hq0 y e2;simp only;omega)
 have hown:=hpo H c3 (by omega)
 have hsmp:Own h.next H 2 zs.length (sv (g1.next - 2) 2 2 zs.length) (fl2 .i64 .u64 (R4 cfS zs)):=by
  refine ⟨by rw [w7,hsl],?_⟩
  by_cases h0:zs.length=0
  ·exact .inl ⟨by simp [sv,h0],h0⟩
  ·have e:sv (g1.next - 2) 2 2 zs.length=.slice (g1.next+1+2*zs.length) 0 zs.length zs.length false 2:=by
    simp only [sv,if_neg h0];congr 1;omega
   have:=c4 _ (by rw [hq,if_neg h0])
   exact .inr ⟨_,0,false,_,e,by omega,by omega,this,by rw [w7,hsl];omega,by rw [List.drop_zero,List.take_of_length_le (by rw [w7,hsl];omega)]⟩
 refine m03 (S0:=S0) (Spec:=i0t) (v:=.agg [a,sv (g1.next - 2) 2 2 zs.length]) (h':=H) (by simp [SI]) ?_ ?_ ?_
 ·refine n0X hr hrn hv hs hn hmm hml (fun e he=>by have:=n09 e he;rw [c0j] at this;omega) (j07 _ _) (by rw [g0S,l0z]) (by rw [e0P,c0j,List.length_map];exact hlen) hrg (o0f hnd) ha ho hf ?_
  intro g' d1 d2 d3
  refine ⟨rfl,⟨by rw [c1,d1],fun i o hi e=>?_⟩,fun i hi=>?_⟩
  ·rw [d1] at hi
   by_cases hi2:i<h.next
   ·rw [c2 i hi2] at e
    rw [d2 i (by omega) (by omega),hf.get i (by show i<h.next+1;omega),c9 (by omega)];exact e
   ·obtain ⟨x,hx,rfl,rfl⟩:=c5 i o (by omega) hi e
    rcases hx with hx | hx
    ·obtain ⟨k1,k2,k3⟩:=hp x hx
     rw [d2 _ k2 (by omega)];exact k3
    ·obtain ⟨h0,rfl⟩:=hq0 x hx
     exact d3.resolve_left h0
  ·rw [c2 i hi,d2 i (by omega) (by omega),hf.get i (by show i<h.next+1;omega),c9 (by omega)]
 ·exact ⟨rid,lv,m,n,L,zs,a,_,rfl,hr,hv,hm,rfl,hown,hsmp,⟨by rw [c1];omega,c2⟩⟩
 ·rintro v g ⟨rid',lv',m',n',L',zs',a',b',e,hr',hv',hm',rfl,o1,o2,f⟩
  cases e
  rw [hr] at hr';cases hr'
  obtain ⟨rfl,rfl⟩:=m0O hv hv'
  have hm2:h.get m=some (.map (mk0 0 (kvA kI (zs'.map vU))) (zs'.map vU).length):=hm'
  rw [hmm] at hm2
  simp only [Option.some.injEq,AObj.map.injEq] at hm2
  have:=congrArg (List.map kv) hm2.1
  rw [g0S,g0S,l0z,l0z] at this
  obtain rfl:=k09 this
  exact hK a' b' g o1 o2 f
end Go.Dk

namespace Go.Dk
open Go Go.Dr
set_option maxRecDepth 100000
theorem c0x:∀ s:List UInt8,T4 s=by8 (s.map UInt8.toNat)
 | []=>rfl
 | b::s=>by rw [T4,c0x s];rfl
theorem g07 {s:List UInt8} {j:Nat} {b:UInt8} (k:IntKind) (hj:s[j]? = some b):W5 (.str s) (.int k (j:Int))=.ok (.int .u8 (b.toNat:Int)):=by
 simp [W5,hj]
def T6 (n:Nat):Bool:=decide (n=95)||decide (97≤n∧n≤122)||decide (65≤n∧n≤90)
def f0q (n:Nat):Bool:=decide (48≤n∧n≤57)
theorem q02:∀ c:Fin 256,((97:Int)≤s6 .u8 ((c.val%256 ||| 32:Nat):Int)∧s6 .u8 ((c.val%256 ||| 32:Nat):Int)≤122)↔((97≤c.val∧c.val≤122)∨(65≤c.val∧c.val≤90)):=by decide
theorem j0e (c:Nat):T6 c=decide (c=95∨(97≤c∧c≤122)∨(65≤c∧c≤90)):=by
 unfold T6
 rw [Bool.eq_iff_iff]
 simp only [Bool.or_eq_true,decide_eq_true_eq]
 omega
theorem a0d {c:Nat} (hc:c<256) (h:AH) (K:AV→AH→Prop):Ev P SI (.fn J2) [.int .u8 (c:Int)] h K=K (.bool (T6 c)) h:=by
 refine Ev.eq (m6 e0c rfl rfl ?_) K
 have key:=q02 ⟨c,hc⟩
 simp only at key
 rw [j0e]
 by_cases h1:c=95
 ·subst h1;simp [E9]
 ·have h1':¬ ((c:Int)=95):=by omega
  by_cases h2:(97:Int)≤s6 .u8 ((c%256 ||| 32:Nat):Int)
  ·by_cases h3:s6 .u8 ((c%256 ||| 32:Nat):Int)≤(122:Int)
   ·have:=key.1 ⟨h2,h3⟩
    simp [E9,h1',h2,h3,this]
   ·have:¬ ((97≤c∧c≤122)∨(65≤c∧c≤90)):=fun e=>h3 (key.2 e).2
    simp [E9,h1',h2,h3,this,h1]
  ·have:¬ ((97≤c∧c≤122)∨(65≤c∧c≤90)):=fun e=>h2 (key.2 e).1
   simp [E9,h1',h2,this,h1]
theorem g08 (c:Nat) (h:AH) (K:AV→AH→Prop):Ev P SI (.fn V4) [.int .u8 (c:Int)] h K=K (.bool (f0q c)) h:=by
 refine Ev.eq (m6 e0H rfl rfl ?_) K
 unfold f0q
 by_cases h1:(48:Int)≤c
 ·have h1':48≤c:=by omega
  have h2:((c:Int)≤57)↔c≤57:=by omega
  simp [U9,h1,h1',h2]
 ·have h1':¬ 48≤c:=by omega
  simp [U9,h1,h1']
theorem f0P {c:Nat} (hc:c<256) (h:AH) (K:AV→AH→Prop):Ev P SI (.fn J3) [.int .u8 (c:Int)] h K=K (.bool (!(T6 c||f0q c))) h:=by
 refine Ev.eq (m6 e0d rfl rfl ?_) K
 cases h1:T6 c
 ·simp [R9,a0d hc,h1,g08]
 ·simp [R9,a0d hc,h1]
theorem f0r {h:AH} {v:AV} {l:List Nat} {n:Nat} {f:FuncId} {p:Nat→Bool} (hv:Sl h 1 n v (by8 l)) (hn:n<2 ^ 62) (hb:∀ x ∈ l,x<256)
  (hp:∀ x:Nat,x<256→∀ K,Ev P SI (.fn f) [.int .u8 (x:Int)] h K=K (.bool (p x)) h) (K:AV→AH→Prop):Ev P SI (.fn u7) [v,.func (.func f) [] []] h K=K (.bool (l.any p)) h:=by
 have hl:l.length=n:=by have:=hv.1;simpa using this
 refine Ev.eq (m6 O0 rfl rfl ?_) K
 simp [D2]
 have key:Ev P SI (.fn y7) [v,.func (.func f) [] []] h fun r g=>g=h∧∃ q:Int,r=.int .i64 q∧(0≤q↔l.any p=true):=by
  refine m6 R8 rfl rfl ?_
  simp [F0,hv.len]
  refine E8 (n:=n) (by rfl) (fun j σ ds h'=>ds=[]∧σ 0=v∧σ 1=.func (.func f) [] []∧σ 7=.int .i64 (n:Int)∧h'=h∧∀ i y,i<j→l[i]? = some y→p y=false) (by omega) (by simp) (by simp) (fun j σ ds h' hJ=>by simp [hJ.2.2.2.1]) ?_ ?_
  ·rintro j σ ds h' hj hi ⟨rfl,e0,e1,e7,rfl,hno⟩
   have hjl:j<l.length:=by omega
   obtain ⟨id,o,g1,g2,_⟩:=hv.get1 (k:=.i64) (i:=(j:Int)) rfl hj (x:=.int .u8 (l[j]:Int)) (by rw [m06,List.getElem?_eq_getElem hjl];rfl)
   have hc:=hp l[j] (hb _ (List.getElem_mem hjl))
   cases hx:p l[j] with
   | true =>
    have:l.any p=true:=List.any_eq_true.2 ⟨_,List.getElem_mem hjl,hx⟩
    simp [e0,e1,e7,hi,g1,g2,hc,hx,this]
    exact ⟨l[j],List.getElem_mem hjl,hx⟩
   | false =>
    simp [e0,e1,e7,hi,g1,g2,hc,hx]
    intro i y hij hy
    by_cases e:i=j
    ·subst e;rw [List.getElem?_eq_getElem hjl] at hy;cases hy;exact hx
    ·exact hno i y (by omega) hy
  ·rintro σ ds h' ⟨rfl,e0,e1,e7,rfl,hno⟩
   simp
   intro x hx
   obtain ⟨i,hi⟩:=List.mem_iff_getElem?.1 hx
   have:i<l.length:=(List.getElem?_eq_some_iff.1 hi).1
   exact hno i x (by omega) hi
 refine key.mono ?_
 rintro r g ⟨rfl,q,rfl,hq⟩
 simp
 cases hx:l.any p with
 | true=>have:=hq.2 hx;simp [this]
 | false =>
  have:¬ 0≤q:=fun h=>by rw [hq.1 h] at hx;cases hx
  simp [this]
def c0y (s:List UInt8):Bool :=
 decide (s.length≤24)&&match s with
  | []=>false
  | b::r=>T6 b.toNat&&r.all fun c=>T6 c.toNat||f0q c.toNat
theorem i0f {s:List UInt8} (hs:s.length<2 ^ 62) (h:AH):Ev P SI (.fn Z3) [.str s] h fun r g=>r=.bool (c0y s)∧Fr h g:=by
 refine m6 f0E rfl rfl ?_
 cases s with
 | nil=>simp [I3,c0y,Fr.refl]
 | cons b r =>
  have i0:=g07 (s:=b::r) (j:=0) .i64 (b:=b) rfl
  rw [show ((0:Nat):Int)=0 from rfl] at i0
  by_cases h1:(b::r).length≤24
  case neg =>
   have h1':(24:Int)<((b::r).length:Int):=by omega
   have h2:¬ (r.length+1≤24):=by simpa using h1
   simp only [List.length_cons] at h1'
   push_cast at h1'
   simp [I3,c0y,h1',h2,Fr.refl]
  have h1':¬ (24:Int)<((b::r).length:Int):=by omega
  have h2:r.length+1≤24:=by simpa using h1
  simp only [List.length_cons] at h1'
  push_cast at h1'
  have hb:=a0d (c:=b.toNat) b.toNat_lt
  cases hlt:T6 b.toNat with
  | false=>simp [I3,c0y,h1',h2,i0,hb,hlt,Fr.refl]
  | true =>
   have f0:=Fr.push (.refl h) (.cells (T4 (b::r)) false)
   have sl:Sl (h.push (.cells (T4 (b::r)) false)) 1 (b::r).length (.slice h.next 0 (b::r).length (b::r).length false 1) (by8 ((b::r).map UInt8.toNat)):=by
    rw [← c0x]
    exact (Own.fresh (B:=0) (h:=h) false (Nat.zero_le _) (by rw [c0x];simp)).sl
   have hc:=f0r (f:=J3) (p:=fun c=>!(T6 c||f0q c)) sl (by omega) (by intro x hx;obtain ⟨c,_,rfl⟩:=List.mem_map.1 hx;exact c.toNat_lt) (fun x hx K=>f0P hx _ K)
   have hop:B6 .bytes (.str (b::r)) h=okV (.slice h.next 0 (b::r).length (b::r).length false 1) (h.push (.cells (T4 (b::r)) false)):=rfl
   simp only [List.length_cons] at hop hc
   simp [I3,c0y,h1',h2,i0,hb,hlt,hop,hc,f0]
   rw [Bool.eq_iff_iff]
   simp [List.any_eq_true,List.all_eq_true]
end Go.Dk

namespace Go.Dk
open Go Go.Dr
set_option maxRecDepth 100000
end Go.Dk
