/-
  Texts joined.
-/
import Derived.Test.YtnapechhagnmaaaGreatDoorT9
import Derived.Test.YtnapechhagnmaaaGreatDoorT8
import Derived.Test.YtnapechhagnmaaaGreatDoorT4

namespace Go.Dk
open Go Go.Dr
set_option maxRecDepth 100000
theorem m0l {h:AH} {es n n':Nat} {v:AV} {l l':List AV} (a:Sl h es n v l) (b:Sl h es n' v l'):n=n'∧l=l':=by
 obtain ⟨a1,a2⟩:=a
 obtain ⟨b1,b2⟩:=b
 rcases a2 with ⟨rfl,rfl⟩ | ⟨id,off,cap,x,vs,ro,rfl,_,_,h4,_,h6⟩
 ·rcases b2 with ⟨_,rfl⟩ | ⟨_,_,_,_,_,_,e,_⟩
  ·exact ⟨rfl,by rw [List.eq_nil_of_length_eq_zero (show l.length=0 by omega),List.eq_nil_of_length_eq_zero (show l'.length=0 by omega)]⟩
  ·cases e
 ·rcases b2 with ⟨e,_⟩ | ⟨id',off',cap',x',vs',ro',e,_,_,k4,_,k6⟩
  ·cases e
  ·cases e
   rw [h4] at k4;cases k4
   exact ⟨rfl,by rw [← h6,← k6]⟩
theorem g0k:∀ (l:List (AV×AV)) (i:Nat),(mk0 i l).map kv=l
 | [],_=>rfl
 | x::l,i=>by simp only [mk0,List.map_cons,g0k l];rfl
theorem k07 (zs:List (Int×Int)):kvA kI (zs.map vU)=zs.map kz:=by unfold kvA;rw [List.map_map];rfl
theorem n0L {zs:List (Int×Int)} (hn:(zs.map (·.1)).Nodup):l0x cfS zs:=by
 intro x hx y hy h1 h2
 rw [ltS] at *
 simp only [decide_eq_false_iff_not] at *
 have e:x.1=y.1:=by omega
 induction zs with
 | nil=>cases hx
 | cons z l ih =>
  simp only [List.map_cons,List.nodup_cons] at hn
  rcases List.mem_cons.1 hx with hx1 | hx1
  ·rcases List.mem_cons.1 hy with hy1 | hy1
   ·rw [hx1,hy1]
   ·exact absurd (List.mem_map.2 ⟨y,hy1,by rw [← e,hx1]⟩) hn.1
  ·rcases List.mem_cons.1 hy with hy1 | hy1
   ·exact absurd (List.mem_map.2 ⟨x,hx1,by rw [e,hy1]⟩) hn.1
   ·exact ih hn.2 hx1 hy1
theorem k08 (h:AH) (N:Nat) (hN:h.next≤N) (p q:Option (Nat×List AV)) (hp:∀ x,p=some x→h.next≤x.1∧x.1<N) (hq:∀ x,q=some x→h.next≤x.1∧x.1<N) (hne:∀ x y,p=some x→q=some y→x.1≠y.1) :
  ∃ H:AH,H.next=N∧(∀ i,i<h.next→H.get i=h.get i)∧(∀ x,p=some x→H.get x.1=some (.cells x.2 false))∧(∀ x,q=some x→H.get x.1=some (.cells x.2 false)) ∧
   ∀ i o,h.next≤i→i<N→H.get i=some o→(∃ x,(p=some x∨q=some x)∧i=x.1∧o=.cells x.2 false):=by
 have base:∀ i,i<N→(f0M h N).get i=if i<h.next then h.get i else none:=fun i hi=>j0W hN hi
 obtain ⟨H1,a1,a2,a3,a4⟩:∃ H1:AH,H1.next=N∧(∀ i,i<h.next→H1.get i=h.get i)∧(∀ x,p=some x→H1.get x.1=some (.cells x.2 false))∧∀ i o,h.next≤i→i<N→H1.get i=some o→(∃ x,p=some x∧i=x.1∧o=.cells x.2 false):=by
  cases p with
  | none =>
   refine ⟨f0M h N,e0L _,fun i hi=>by rw [base i (by omega),if_pos hi],fun x e=>(by cases e),fun i o h1 h2 e=>?_⟩
   rw [base i h2,if_neg (by omega)] at e;cases e
  | some x =>
   obtain ⟨k1,k2⟩:=hp x rfl
   refine ⟨(f0M h N).set x.1 (.cells x.2 false),e0L _,fun i hi=>by rw [c8 (by omega),base i (by omega),if_pos hi],fun y e=>by cases e;exact j8 _ _,fun i o h1 h2 e=>?_⟩
   by_cases hi:i=x.1
   ·subst hi;rw [j8] at e;cases e;exact ⟨x,rfl,rfl,rfl⟩
   ·rw [c8 hi,base i h2,if_neg (by omega)] at e;cases e
 cases q with
 | none=>exact ⟨H1,a1,a2,a3,fun x e=>(by cases e),fun i o h1 h2 e=>let ⟨x,e1,e2⟩:=a4 i o h1 h2 e;⟨x,.inl e1,e2⟩⟩
 | some y =>
  obtain ⟨k1,k2⟩:=hq y rfl
  refine ⟨H1.set y.1 (.cells y.2 false),a1,fun i hi=>by rw [c8 (by omega),a2 i hi],fun x e=>by rw [c8 (hne x y e rfl),a3 x e],fun x e=>by cases e;exact j8 _ _,fun i o h1 h2 e=>?_⟩
  by_cases hi:i=y.1
  ·subst hi;rw [j8] at e;cases e;exact ⟨y,.inr rfl,rfl,rfl⟩
  ·rw [c8 hi] at e
   obtain ⟨x,e1,e2⟩:=a4 i o h1 h2 e
   exact ⟨x,.inl e1,e2⟩
theorem m0m {rid m n:Nat} {lv:AV} {L:List AV} {h:AH} {zs:List (Int×Int)} (hr:h.get rid=some (.cells [lv,.map m] false)) (hrn:rid<h.next) (hv:Sl h 2 n lv L) (hs:a7 L=true) (hn:n≤2 ^ 30)
  (hm:MapO kI h m (zs.map vU)) (hml:m<h.next) (hlen:zs.length≤2 ^ 29) (hrg:∀ z ∈ zs,-9223372036854775808≤z.1∧z.1≤9223372036854775807) (hnd:(zs.map (·.1)).Nodup) (K:AV→AH→Prop)
  (hK:∀ a b g,Own h.next g 2 n a L→Own h.next g 2 zs.length b (fl2 .i64 .u64 (P7 cfS zs))→Fr h g→K (.agg [a,b]) g) :
  Ev P SI (.fn m8) [.ptr rid 0,.int .i64 (-9223372036854775808),.int .i64 9223372036854775807] h K:=by
 obtain ⟨N,a,g1,ha,ho,hf⟩:=k0E (S:=S0) (by simp [S0,d7,j0]) (hv.fr (Fr.push (.refl h) (.cells [.nils,.nils] false))) hs hn
 have ho:Own (h.next+1) g1 2 n a L:=ho
 have hgn:h.next+1≤g1.next:=hf.next
 have hsl:(P7 cfS zs).length=zs.length:=b0l _ _
 have hmm:h.get m=some (.map (mk0 0 (kvA kI (zs.map vU))) (zs.map vU).length):=hm
 obtain ⟨p,hp,hpo⟩:∃ p:Option (Nat×List AV),(∀ x,p=some x→h.next+1≤x.1∧x.1<g1.next∧g1.get x.1=some (.cells x.2 false))∧∀ H:AH,(∀ x,p=some x→H.get x.1=some (.cells x.2 false))→g1.next≤H.next→Own h.next H 2 n a L:=by
  rcases ho.2 with ⟨e1,e2⟩ | ⟨id,off,x,vs,e,k1,k2,k3,k4⟩
  ·exact ⟨none,fun x e=>(by cases e),fun H _ _=>⟨ho.1,.inl ⟨e1,e2⟩⟩⟩
  ·exact ⟨some (id,vs),fun x e=>by cases e;exact ⟨k1,k2,k3⟩,fun H e1 e2=>⟨ho.1,.inr ⟨id,off,x,vs,e,by omega,by omega,e1 _ rfl,k4⟩⟩⟩
 obtain ⟨q,hq,hq0⟩:∃ q:Option (Nat×List AV),(q=if zs.length=0 then none else some (g1.next+1+2*zs.length,fl2 .i64 .u64 (P7 cfS zs)))∧∀ x,q=some x→zs.length≠0∧x=(g1.next+1+2*zs.length,fl2 .i64 .u64 (P7 cfS zs)):=by
  refine ⟨_,rfl,fun x e=>?_⟩
  split at e
  ·cases e
  ·cases e;exact ⟨by assumption,rfl⟩
 obtain ⟨H,c1,c2,c3,c4,c5⟩:=k08 h (g1.next+2+2*zs.length) (by omega) p q (fun x e=>by have:=hp x e;omega) (fun x e=>by obtain ⟨_,rfl⟩:=hq0 x e;simp only;omega) (fun x y e1 e2=>by
  have:=hp x e1;obtain ⟨_,rfl⟩:=hq0 y e2;simp only;omega)
 have hown:=hpo H c3 (by omega)
 have hsmp:Own h.next H 2 zs.length (sv (g1.next - 2) 2 2 zs.length) (fl2 .i64 .u64 (P7 cfS zs)):=by
  refine ⟨by rw [w6,hsl],?_⟩
  by_cases h0:zs.length=0
  ·exact .inl ⟨by simp [sv,h0],h0⟩
  ·have e:sv (g1.next - 2) 2 2 zs.length=.slice (g1.next+1+2*zs.length) 0 zs.length zs.length false 2:=by
    simp only [sv,if_neg h0];congr 1;omega
   have:=c4 _ (by rw [hq,if_neg h0])
   exact .inr ⟨_,0,false,_,e,by omega,by omega,this,by rw [w6,hsl];omega,by rw [List.drop_zero,List.take_of_length_le (by rw [w6,hsl];omega)]⟩
 refine m0A (S0:=S0) (Spec:=h0Y) (v:=.agg [a,sv (g1.next - 2) 2 2 zs.length]) (h':=H) (by simp [SI]) ?_ ?_ ?_
 ·refine n0v hr hrn hv hs hn hmm hml (fun e he=>by have:=n0H e he;rw [b0V] at this;omega) (j0D _ _) (by rw [g0k,k07]) (by rw [e0p,b0V,List.length_map];exact hlen) hrg (n0L hnd) ha ho hf ?_
  intro g' d1 d2 d3
  refine ⟨rfl,⟨by rw [c1,d1],fun i o hi e=>?_⟩,fun i hi=>?_⟩
  ·rw [d1] at hi
   by_cases hi2:i<h.next
   ·rw [c2 i hi2] at e
    rw [d2 i (by omega) (by omega),hf.get i (by show i<h.next+1;omega),b9 (by omega)];exact e
   ·obtain ⟨x,hx,rfl,rfl⟩:=c5 i o (by omega) hi e
    rcases hx with hx | hx
    ·obtain ⟨k1,k2,k3⟩:=hp x hx
     rw [d2 _ k2 (by omega)];exact k3
    ·obtain ⟨h0,rfl⟩:=hq0 x hx
     exact d3.resolve_left h0
  ·rw [c2 i hi,d2 i (by omega) (by omega),hf.get i (by show i<h.next+1;omega),b9 (by omega)]
 ·exact ⟨rid,lv,m,n,L,zs,a,_,rfl,hr,hv,hm,rfl,hown,hsmp,⟨by rw [c1];omega,c2⟩⟩
 ·rintro v g ⟨rid',lv',m',n',L',zs',a',b',e,hr',hv',hm',rfl,o1,o2,f⟩
  cases e
  rw [hr] at hr';cases hr'
  obtain ⟨rfl,rfl⟩:=m0l hv hv'
  have hm2:h.get m=some (.map (mk0 0 (kvA kI (zs'.map vU))) (zs'.map vU).length):=hm'
  rw [hmm] at hm2
  simp only [Option.some.injEq,AObj.map.injEq] at hm2
  have:=congrArg (List.map kv) hm2.1
  rw [g0k,g0k,k07,k07] at this
  obtain rfl:=k0I this
  exact hK a' b' g o1 o2 f
end Go.Dk

namespace Go.Dk
open Go Go.Dr
set_option maxRecDepth 100000
end Go.Dk

namespace Go.Dk
open Go Go.Dr
set_option maxRecDepth 100000
end Go.Dk
