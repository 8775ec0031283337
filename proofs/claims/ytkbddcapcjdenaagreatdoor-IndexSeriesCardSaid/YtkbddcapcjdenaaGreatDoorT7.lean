/-
  Texts joined.
-/
import Derived.Test.YtkbddcapcjdenaaGreatDoorT6

namespace Go.Dk
open Go Go.Dr
set_option maxRecDepth 100000
theorem Q7 (b:List Nat):(j5 b).length=8*b.length:=n0V b
def C9 (bs:A5) (at' cnt:Nat):Option Nat:=if at'+cnt≤bs.length then some (val ((bs.drop at').take cnt)) else none
theorem m0a {bs:A5} {at' cnt x:Nat} (h:C9 bs at' cnt=some x):x<2 ^ cnt:=by
 unfold C9 at h
 split at h
 ·cases h
  have:=g0w ((bs.drop at').take cnt)
  have h2:((bs.drop at').take cnt).length=cnt:=by simp;omega
  rw [h2] at this
  exact this
 ·cases h
theorem B02:∀ t:Fin 9,b9 .u8 (((1*2 ^ t.val%256:Nat):Int) - 1)=((2 ^ t.val - 1:Nat):Int):=by decide
theorem v0h {h:AH} {n at' cnt:Nat} {v:AV} {b:List Nat} (s:Sl h 1 n v (by8 b)) (hb:∀ x ∈ b,x<256) (hn:n≤2 ^ 36) (ha:at'≤2 ^ 42) (hc:cnt≤64) :
  Ev P SI (.fn a0I) [.agg [v,.int .i64 ((8*n:Nat):Int)],.int .i64 (at':Int),.int .i64 (cnt:Int)] h fun r g=>Fr h g ∧
   match C9 (j5 b) at' cnt with
   | some x=>r=.tuple [.int .u64 (x:Int),.int .i64 0]
   | none=>∃ e:Int,e≠0∧r=.tuple [.int .u64 0,.int .i64 e]:=by
 refine k8 s0p rfl rfl ?_
 have hbl:b.length=n:=by have:=s.1;simpa using this
 obtain ⟨N,hN⟩:∃ N,N=8*n:=⟨_,rfl⟩
 rw [← hN]
 have f0:=Fr.push (.refl h) (.cells [v,.int .i64 (N:Int)] false)
 have g0:(h.push (.cells [v,.int .i64 (N:Int)] false)).get h.next=some (.cells [v,.int .i64 (N:Int)] false):=b8 _
 have hnx:(h.push (.cells [v,.int .i64 (N:Int)] false)).next=h.next+1:=rfl
 generalize hh1:h.push (.cells [v,.int .i64 (N:Int)] false)=h1 at *
 have ld:=J5 g0
 simp [k01,hh1,ld]
 refine (j0m (N:=N) (s.fr f0) hn (by omega) (by omega) (.inl hN)).mono ?_
 rintro r g ⟨rfl,fa⟩
 have c1:¬ (cnt:Int)<0:=by omega
 have c2:¬ (64:Int)<cnt:=by omega
 have c3:¬ (at':Int)<0:=by omega
 have g0':=fa.get h.next (by omega)
 rw [g0] at g0'
 have lc0:load1 g h.next 0=.ok v:=b7 g0'
 have lc1:load1 g h.next 1=.ok (.int .i64 (N:Int)):=b7 g0'
 have f1:=f0.trans fa
 have hbs:=Q7 b
 by_cases c4:N<at'
 ·have:C9 (j5 b) at' cnt=none:=by unfold C9;rw [if_neg (by omega)]
  simp [c1,c2,c3,lc1,c4,this]
  exact f1
 have x1:b9 .i64 ((N:Int) - (at':Int))=((N - at':Nat):Int):=by rw [wrap_i64 (by omega) (by omega)];omega
 by_cases c5:N - at'<cnt
 ·have:C9 (j5 b) at' cnt=none:=by unfold C9;rw [if_neg (by omega)]
  generalize N - at'=left at *
  simp [c1,c2,c3,lc1,c4,x1,c5,this]
  exact f1
 have ht:C9 (j5 b) at' cnt=some (val (((j5 b).drop at').take cnt)):=by unfold C9;rw [if_pos (by omega)]
 rw [ht]
 have c5':¬ ((N - at':Nat):Int)<cnt:=by omega
 have hfit:at'+cnt≤N:=by omega
 generalize N - at'=left at *
 simp [c1,c2,c3,lc1,c4,x1,c5]
 refine D3 (Q:=fun x σ ds g'=>x=.exit 1∧ds=[]∧g'=g∧σ 8=.int .u64 ((val (((j5 b).drop at').take cnt):Nat):Int)) ?_ ?_
 rotate_left
 ·rintro x σ ds g' ⟨rfl,rfl,rfl,e8⟩
  simp [e8]
  exact f1
 refine M5 (fun q σ ds g'=>∃ c:Nat,q=c∧c≤cnt∧ds=[]∧g'=g∧σ 3=.ptr h.next 0∧σ 1=.int .i64 ((at'+(cnt - c):Nat):Int)∧σ 2=.int .i64 (c:Int)∧σ 8=.int .u64 ((val (((j5 b).drop at').take (cnt - c)):Nat):Int)) cnt
  ⟨cnt,rfl,Nat.le_refl _,rfl,rfl,by simp,by simp,by simp,by simp⟩ ?_
 rintro q σ ds g' ⟨c,rfl,hcc,rfl,rfl,e3,e1,e2,e8⟩
 by_cases h0:q=0
 ·subst h0
  rw [Nat.sub_zero] at e8
  simp [e2,e8]
 obtain ⟨k,hk⟩:∃ k,k=cnt - q:=⟨_,rfl⟩
 obtain ⟨a,ha'⟩:∃ a,a=at'+k:=⟨_,rfl⟩
 rw [← hk] at e1 e8
 rw [← ha'] at e1
 obtain ⟨f,hf⟩:∃ f,f=8 - a%8:=⟨_,rfl⟩
 obtain ⟨t,ht'⟩:∃ t,t=min f q:=⟨_,rfl⟩
 obtain ⟨d,hd⟩:∃ d,d=q - t:=⟨_,rfl⟩
 obtain ⟨e,he⟩:∃ e,e=f - t:=⟨_,rfl⟩
 have ht1:1≤t:=by omega
 have ht8:t≤8:=by omega
 obtain ⟨y,hy⟩:=j7 (l:=b) (j:=a/8) (by omega)
 have hy256:y<256:=hb _ (List.mem_of_getElem? hy)
 have hwin:=h0v b a t y hy (by omega)
 rw [show 8 - a%8 - t=e from by omega] at hwin
 have hxlt:=g0w (((j5 b).drop at').take k)
 have hkl:(((j5 b).drop at').take k).length=k:=by simp;omega
 rw [hkl] at hxlt
 have hstep:((j5 b).drop at').take (k+t)=((j5 b).drop at').take k++v8 (y/2 ^ e) t:=by
  rw [List.take_add,List.drop_drop,← ha',hwin]
 have hval:val (((j5 b).drop at').take (k+t))=val (((j5 b).drop at').take k)*2 ^ t+(y/2 ^ e)%2 ^ t:=by
  rw [hstep,f0x,W0,e0R]
 have hnext:cnt - d=k+t:=by omega
 generalize val (((j5 b).drop at').take k)=x at *
 have hx64:x*2 ^ t<2 ^ 64:=by
  have h1:2 ^ k*2 ^ t≤2 ^ 64:=by rw [← Nat.pow_add];exact Nat.pow_le_pow_right (by omega) (by omega)
  exact Nat.lt_of_lt_of_le (Nat.mul_lt_mul_of_pos_right hxlt (Nat.two_pow_pos _)) h1
 have hrem:(a:Int).tmod 8=((a%8:Nat):Int):=i0V _ 8
 have x1':b9 .i64 (8 - ((a%8:Nat):Int))=(f:Int):=by rw [wrap_i64 (by omega) (by omega)];omega
 have x2:min (f:Int) (q:Int)=(t:Int):=by omega
 have x3:=e04 (P:=P) j0 false .i64 x t (by omega)
 rw [Nat.mod_eq_of_lt hx64] at x3
 have x4:(a:Int).tdiv 8=((a/8:Nat):Int):=r0y _ 8
 have x4':b9 .i64 ((a/8:Nat):Int)=((a/8:Nat):Int):=wrap_i64 (by omega) (by omega)
 have x5:b9 .i64 ((f:Int) - (t:Int))=(e:Int):=by rw [wrap_i64 (by omega) (by omega)];omega
 have x6:=s0L (P:=P) t6 false .i64 y e (by omega)
 have x7:=s0M (P:=P) t6 true .i64 1 t (by omega)
 have x8:=B02 ⟨t,by omega⟩
 simp only at x8
 rw [show ((1:Nat):Int)=1 from rfl] at x7
 have h2t:=b0s ht8
 have x9:=s0N (P:=P) t6 false (y/2 ^ e) (2 ^ t - 1) (Nat.lt_of_le_of_lt (Nat.div_le_self _ _) hy256) (by have:=Nat.two_pow_pos t;omega)
 rw [g0J] at x9
 have hpl:y/2 ^ e%2 ^ t<2 ^ t:=Nat.mod_lt _ (Nat.two_pow_pos _)
 have x10:b9 .u64 ((y/2 ^ e%2 ^ t:Nat):Int)=((y/2 ^ e%2 ^ t:Nat):Int):=wrap_u64 (by omega) (by omega)
 have x11:=w0E (P:=P) j0 false (x*2 ^ t) (y/2 ^ e%2 ^ t) hx64 (by omega)
 rw [p0q _ _ t (Nat.mul_mod_left _ _) hpl,← hval] at x11
 have hvl:val (((j5 b).drop at').take (k+t))<2 ^ 64:=by
  have h1:=g0w (((j5 b).drop at').take (k+t))
  have h2:(((j5 b).drop at').take (k+t)).length=k+t:=by simp;omega
  rw [h2] at h1
  exact Nat.lt_of_lt_of_le h1 (Nat.pow_le_pow_right (by omega) (by omega))
 have x12:b9 .i64 ((a:Int)+(t:Int))=((at'+(cnt - d):Nat):Int):=by rw [wrap_i64 (by omega) (by omega)];omega
 have x13:b9 .i64 ((q:Int) - (t:Int))=(d:Int):=by rw [wrap_i64 (by omega) (by omega)];omega
 rw [← hnext] at x11
 generalize x*2 ^ t=xs at *
 generalize 1*2 ^ t%256=T at *
 generalize 2 ^ t - 1=T1 at *
 generalize y/2 ^ e%2 ^ t=pt at *
 generalize y/2 ^ e=ye at *
 obtain ⟨id3,o3,k1,k2,_⟩:=(s.fr f1).get1 (k:=.i64) (i:=((a/8:Nat):Int)) rfl (show a/8<n by omega) (x:=.int .u8 (y:Int)) (by rw [a0g,hy];rfl)
 generalize hr:a%8=r at *
 generalize hq8:a/8=a8 at *
 have hs:=s.same
 have hdlt:d<q:=by omega
 have hdc:d≤cnt:=by omega
 generalize han:at'+(cnt - d)=an at *
 generalize hV:val (((j5 b).drop at').take (cnt - d))=V at *
 simp [e3,e1,e2,e8,show 0<q by omega,hrem,x1',x2,x3,lc0,x4,x4',k1,k2,x5,x6,x7,x8,x9,x10,x11,x12,x13,hs,l7,-h07,-h06,-O0,-h04,-h05]
 exact ⟨d,hdlt,hdc,by omega,rfl,by rw [hV]⟩
end Go.Dk

namespace Go.Dk
open Go Go.Dr
set_option maxRecDepth 100000
def pre:Nat→A5→Option (Nat×A5)
 | 0,d=>some (0,d)
 | _+1,[]=>none
 | _+1,false::d=>some (0,d)
 | m+1,true::d=>(pre m d).map fun p=>(p.1+1,p.2)
def sx (w raw:Nat):Int:=if w=0 then 0 else (b9 .i64 ((raw*2 ^ (64 - w)%2 ^ 64:Nat):Int)).fdiv (2 ^ (64 - w))
def b0U (bs:A5) (at':Nat):Option (Int×Nat) :=
 match pre 4 (bs.drop at') with
 | none=>none
 | some (k,rest)=>if rest.length<y7 k then none else
   if m7 (sx (y7 k) (val (rest.take (y7 k))))=k then some (sx (y7 k) (val (rest.take (y7 k))),bs.length - rest.length+y7 k) else none
theorem n0o {bs:A5} {a:Nat} {x:Bool} {d:A5} (e:bs.drop a=x::d):C9 bs a 1=some x.toNat∧bs.drop (a+1)=d∧a+1≤bs.length:=by
 have h1:(bs.drop a).length=d.length+1:=by rw [e];rfl
 rw [List.length_drop] at h1
 refine ⟨?_,?_,by omega⟩
 ·unfold C9
  rw [if_pos (by omega),e,List.take_succ_cons,List.take_zero]
  cases x <;> rfl
 ·rw [← List.drop_drop,e];rfl
theorem p0b {bs:A5} {a:Nat} (e:bs.drop a=[]):C9 bs a 1=none:=by
 have h1:(bs.drop a).length=0:=by rw [e];rfl
 rw [List.length_drop] at h1
 unfold C9
 rw [if_neg (by omega)]
theorem i0f {h:AH} {n N at' cnt:Nat} {v:AV} {b:List Nat} (s:Sl h 1 n v (by8 b)) (hb:∀ x ∈ b,x<256) (hn:n≤2 ^ 36) (ha:at'≤2 ^ 42) (hc:cnt≤64) (hN:N=8*n) :
  Ev P SI (.fn a0I) [.agg [v,.int .i64 (N:Int)],.int .i64 (at':Int),.int .i64 (cnt:Int)] h fun r g=>Fr h g ∧
   match C9 (j5 b) at' cnt with
   | some x=>r=.tuple [.int .u64 (x:Int),.int .i64 0]
   | none=>∃ e:Int,e≠0∧r=.tuple [.int .u64 0,.int .i64 e]:=by
 subst hN
 exact v0h s hb hn ha hc
theorem y0g:∀ (m:Nat) (d:A5) (k:Nat) (r:A5),pre m d=some (k,r)→k≤m
 | 0,d,k,r,h=>by cases h;omega
 | _+1,[],k,r,h=>by cases h
 | _+1,false::d,k,r,h=>by cases h;omega
 | m+1,true::d,k,r,h=>by
  rw [pre] at h
  cases hp:pre m d with
  | none=>rw [hp] at h;cases h
  | some p =>
   rw [hp] at h
   cases h
   have:=y0g m d p.1 p.2 hp
   omega
theorem q0i {h:AH} {n N at':Nat} {v:AV} {b:List Nat} (s:Sl h 1 n v (by8 b)) (hb:∀ x ∈ b,x<256) (hn:n≤2 ^ 36) (ha:at'≤2 ^ 41) (hN:N=8*n) :
  Ev P SI (.fn c0X) [.agg [v,.int .i64 (N:Int)],.int .i64 (at':Int)] h fun r g=>Fr h g ∧
   match b0U (j5 b) at' with
   | some (x,a)=>r=.tuple [.int .i64 x,.int .i64 (a:Int),.int .i64 0]
   | none=>∃ e:Int,e≠0∧r=.tuple [.int .i64 0,.int .i64 0,.int .i64 e]:=by
 refine k8 n0i rfl rfl ?_
 have hbl:b.length=n:=by have:=s.1;simpa using this
 have hbs:=Q7 b
 have f0:=Fr.push (.refl h) (.cells [v,.int .i64 (N:Int)] false)
 have g0:(h.push (.cells [v,.int .i64 (N:Int)] false)).get h.next=some (.cells [v,.int .i64 (N:Int)] false):=b8 _
 have hnx:(h.push (.cells [v,.int .i64 (N:Int)] false)).next=h.next+1:=rfl
 generalize hh1:h.push (.cells [v,.int .i64 (N:Int)] false)=h1 at *
 have ld:=J5 g0
 simp [g0E,hh1,ld]
 refine (j0m (N:=N) (s.fr f0) hn (by omega) (by omega) (.inl hN)).mono ?_
 rintro r g ⟨rfl,fa⟩
 have c3:¬ (at':Int)<0:=by omega
 have g0':=fa.get h.next (by omega)
 rw [g0] at g0'
 have lc1:load1 g h.next 1=.ok (.int .i64 (N:Int)):=b7 g0'
 have f1:=f0.trans fa
 have hgn:h.next<g.next:=Nat.lt_of_lt_of_le (by omega) fa.next
 by_cases c4:N<at'
 ·have:b0U (j5 b) at'=none:=by
   unfold b0U
   rw [List.drop_of_length_le (by omega)]
   rfl
  simp [c3,lc1,c4,this]
  exact f1
 simp [c3,lc1,c4]
 refine D3 (Q:=fun x σ ds g'=>ds=[]∧Fr g g'∧((x=.exit 0∧σ 2=.ptr h.next 0∧σ 4=.int .i64 0∧σ 5=.int .i64 0∧σ 6=.int .i64 0∧∃ k a:Nat,σ 7=.int .i64 (k:Int)∧σ 1=.int .i64 (a:Int)∧pre 4 ((j5 b).drop at')=some (k,(j5 b).drop a)∧a≤N) ∨
   (x=.ret∧pre 4 ((j5 b).drop at')=none∧σ 4=.int .i64 0∧σ 5=.int .i64 0∧∃ e:Int,e≠0∧σ 6=.int .i64 e))) ?_ ?_
 ·refine M5 (fun q σ ds g'=>∃ k a:Nat,q+k=4∧ds=[]∧Fr g g'∧σ 2=.ptr h.next 0∧σ 4=.int .i64 0∧σ 5=.int .i64 0∧σ 6=.int .i64 0∧σ 7=.int .i64 (k:Int)∧σ 1=.int .i64 (a:Int)∧a≤N ∧
    pre 4 ((j5 b).drop at')=(pre (4 - k) ((j5 b).drop a)).map fun p=>(p.1+k,p.2)) 4 ⟨0,at',rfl,rfl,.refl _,by simp,by simp,by simp,by simp,by simp,by simp,by omega,by simp⟩ ?_
  rintro q σ ds g' ⟨k,a,hq,rfl,fr,e2,e4,e5,e6,e7,e1,haN,hp⟩
  by_cases hk:k<4
  case neg =>
   have hk4:k=4:=by omega
   subst hk4
   rw [Nat.sub_self,pre] at hp
   simp [e7,e2,e4,e5,e6,e1,hp]
   exact ⟨fr,4,rfl,a,rfl,⟨rfl,rfl⟩,haN⟩
  have hk':(k:Int)<4:=by omega
  have gb:=fr.get h.next hgn
  rw [g0'] at gb
  have F1:=f1.trans fr
  have hm:4 - k=(3 - k)+1:=by omega
  simp [e7,hk',e2,J5 gb,e1]
  refine (i0f (at':=a) (cnt:=1) (s.fr F1) hb hn (by omega) (by omega) hN).mono ?_
  rintro r g2 ⟨f2,hr⟩
  cases hd:(j5 b).drop a with
  | nil =>
   rw [p0b hd] at hr
   obtain ⟨e,he,rfl⟩:=hr
   rw [hd,hm,pre] at hp
   simp [he,hp]
   exact fr.trans f2
  | cons x d =>
   obtain ⟨t1,t2,t3⟩:=n0o hd
   rw [t1] at hr
   simp only at hr
   subst hr
   have w1:b9 .i64 ((a:Int)+1)=((a+1:Nat):Int):=by rw [wrap_i64 (by omega) (by omega)];omega
   cases x with
   | false =>
    rw [hd,hm,pre] at hp
    simp [e1,w1,e2,e4,e5,e6,e7,hp]
    exact ⟨fr.trans f2,k,rfl,a+1,rfl,⟨rfl,t2.symm⟩,by omega⟩
   | true =>
    rw [hd,hm,pre] at hp
    have w2:b9 .i64 ((k:Int)+1)=((k+1:Nat):Int):=by rw [wrap_i64 (by omega) (by omega)];omega
    generalize ha1:a+1=a1 at *
    generalize hk1:k+1=k1 at *
    simp [e1,w1,e2,e4,e5,e6,e7,w2,l7]
    refine ⟨q - 1,by omega,k1,by omega,fr.trans f2,rfl,a1,rfl,by omega,?_⟩
    rw [hp,t2,show 4 - k1=3 - k from by omega]
    cases pre (3 - k) d with
    | none=>rfl
    | some p =>
     simp only [Option.map_some]
     congr 2
     omega
 rintro x σ ds g' ⟨rfl,fr,⟨rfl,e2,e4,e5,e6,k,a,e7,e1,hp,haN⟩ | ⟨rfl,hp,e4,e5,e,he,e6⟩⟩
 rotate_left
 ·have:b0U (j5 b) at'=none:=by
   unfold b0U
   rw [hp]
  simp [e4,e5,e6,this]
  exact ⟨f1.trans fr,he⟩
 have hk4:=y0g _ _ _ _ hp
 have F1:=f1.trans fr
 have gb:=fr.get h.next hgn
 rw [g0'] at gb
 have hrl:((j5 b).drop a).length=N - a:=by rw [List.length_drop];omega
 have hti:b0U (j5 b) at'=if N - a<y7 k then none else
   if m7 (sx (y7 k) (val (((j5 b).drop a).take (y7 k))))=k then some (sx (y7 k) (val (((j5 b).drop a).take (y7 k))),a+y7 k) else none:=by
  unfold b0U
  rw [hp]
  simp only [hrl]
  rw [show (j5 b).length - (N - a)=a from by omega]
 have hw:=g0O k
 have bw:=n0a k hk4
 generalize hwd:y7 k=w at *
 simp [e7,bw,e2,e1,J5 gb]
 refine (i0f (at':=a) (cnt:=w) (s.fr F1) hb hn (by omega) (by omega) hN).mono ?_
 rintro r g2 ⟨f2,hr⟩
 have F2:=F1.trans f2
 by_cases hlt:N - a<w
 ·have ht:C9 (j5 b) a w=none:=by unfold C9;rw [if_neg (by omega)]
  rw [if_pos hlt] at hti
  rw [ht] at hr
  obtain ⟨e,he,rfl⟩:=hr
  simp [he,hti]
  exact F2
 have ht:C9 (j5 b) a w=some (val (((j5 b).drop a).take w)):=by unfold C9;rw [if_pos (by omega)]
 rw [if_neg hlt] at hti
 have hraw:=m0a ht
 rw [ht] at hr
 simp only at hr
 subst hr
 have hraw0:w=0→val (((j5 b).drop a).take w)=0:=by rintro rfl;simp
 generalize val (((j5 b).drop a).take w)=raw at *
 have w1:b9 .i64 (64 - (w:Int))=((64 - w:Nat):Int):=by rw [wrap_i64 (by omega) (by omega)];omega
 have w5:b9 .i64 ((a:Int)+(w:Int))=((a+w:Nat):Int):=by rw [wrap_i64 (by omega) (by omega)];omega
 have fin:∀ x:Int,x=sx w raw→(if m7 x=k then some (x,a+w) else none)=b0U (j5 b) at':=by
  rintro x rfl
  rw [hti]
 by_cases hw0:w=0
 ·have h0:=hraw0 hw0
  subst h0
  have hsx:sx w 0=0:=by rw [sx,if_pos hw0]
  rw [hsx] at hti
  subst hw0
  by_cases hck:m7 0=k
  ·rw [if_pos hck] at hti
   simp [e1,e7,d0n,hck,hti,show b9 .i64 0=0 from rfl,wrap_i64 (n:=(a:Int)) (by omega) (by omega)]
   exact F2
  ·rw [if_neg hck] at hti
   have hck':¬ ((m7 0:Nat):Int)=(k:Int):=by omega
   simp [e1,e7,d0n,hck',hti,show b9 .i64 0=0 from rfl]
   exact F2
 ·have s1:=e04 (P:=P) j0 false .i64 raw (64 - w) (by omega)
  have s2:=f0y (P:=P) a7 false .i64 .i64 (b9 .i64 ((raw*2 ^ (64 - w)%2 ^ 64:Nat):Int)) ((64 - w:Nat):Int) (by omega)
  have hsx:(b9 .i64 ((raw*2 ^ (64 - w)%2 ^ 64:Nat):Int)).fdiv (2 ^ min ((64 - w:Nat):Int).toNat IntKind.i64.bits)=sx w raw:=by
   rw [sx,if_neg hw0,Int.toNat_natCast,Nat.min_eq_left (by simp [IntKind.bits])]
  rw [hsx] at s2
  generalize raw*2 ^ (64 - w)%2 ^ 64=sh at *
  generalize hsxx:sx w raw=n0 at *
  generalize hs64:64 - w=sw at *
  generalize haw:a+w=aw at *
  have hw0':0<w:=by omega
  by_cases hck:m7 n0=k
  ·rw [if_pos hck] at hti
   simp [hw0',w1,s1,s2,e1,e7,d0n,hck,hti,w5,-O0,-k0R]
   exact F2
  ·rw [if_neg hck] at hti
   have hck':¬ ((m7 n0:Nat):Int)=(k:Int):=by omega
   simp [hw0',w1,s1,s2,e1,e7,d0n,hck',hti,w5,-O0,-k0R]
   exact F2
end Go.Dk

namespace Go.Dk
open Go Go.Dr
set_option maxRecDepth 100000
theorem M7 {bs:A5} {a c v:Nat} {z:A5} (e:bs.drop a=v8 v c++z) (ha:a≤bs.length):C9 bs a c=some (v%2 ^ c)∧bs.drop (a+c)=z∧a+c≤bs.length:=by
 have h1:(bs.drop a).length=c+z.length:=by rw [e];simp
 rw [List.length_drop] at h1
 refine ⟨?_,?_,by omega⟩
 ·unfold C9
  rw [if_pos (by omega),e,List.take_left' (by simp),e0R]
 ·rw [← List.drop_drop,e,List.drop_left' (by simp)]
theorem p0M (k:Nat) (hk:k≤4) (z:A5):pre 4 (v8 (2 ^ k - 1) k++(if k<4 then v8 0 1 else [])++z)=some (k,z):=by
 rcases (show k=0∨k=1∨k=2∨k=3∨k=4 by omega) with rfl | rfl | rfl | rfl | rfl <;> rfl
theorem C5 (x:Int):b9 .i64 x=(x+9223372036854775808)%18446744073709551616 - 9223372036854775808:=by rw [N8,IntKind.wrap_i64]
theorem x0i (n:Int) (h:-9223372036854775808≤n∧n<9223372036854775808):sx (y7 (m7 n)) (u64 n%2 ^ y7 (m7 n))=n:=by
 have fd:∀ (x:Int) (m:Int),0<m→x.fdiv m=x/m:=fun x m hm=>Int.fdiv_eq_ediv_of_nonneg _ (by omega)
 unfold m7
 by_cases h0:n=0
 ·subst h0;rfl
 rw [if_neg h0]
 by_cases h1:-64≤n∧n<64
 ·rw [if_pos h1]
  simp only [y7,sx]
  rw [if_neg (by decide),fd _ _ (by decide),C5]
  unfold u64
  omega
 rw [if_neg h1]
 by_cases h2:-2048≤n∧n<2048
 ·rw [if_pos h2]
  simp only [y7,sx]
  rw [if_neg (by decide),fd _ _ (by decide),C5]
  unfold u64
  omega
 rw [if_neg h2]
 by_cases h3:-2147483648≤n∧n<2147483648
 ·rw [if_pos h3]
  simp only [y7,sx]
  rw [if_neg (by decide),fd _ _ (by decide),C5]
  unfold u64
  omega
 rw [if_neg h3]
 simp only [y7,sx]
 rw [if_neg (by decide),fd _ _ (by decide),C5]
 unfold u64
 omega
theorem v0K {bs:A5} {a:Nat} {n:Int} {z:A5} (e:bs.drop a=a0q n++z) (ha:a≤bs.length) (hn:-9223372036854775808≤n∧n<9223372036854775808) :
  ∃ a',b0U bs a=some (n,a')∧bs.drop a'=z∧a'≤bs.length:=by
 have hk:=e0C n
 have hp:pre 4 (bs.drop a)=some (m7 n,v8 (u64 n) (y7 (m7 n))++z):=by
  rw [e,a0q,List.append_assoc _ _ z]
  exact p0M _ hk _
 have hsuf:∃ q,bs.drop q=v8 (u64 n) (y7 (m7 n))++z∧q≤bs.length:=by
  refine ⟨a+(v8 (2 ^ m7 n - 1) (m7 n)++(if m7 n<4 then v8 0 1 else [])).length,?_,?_⟩
  ·rw [← List.drop_drop,e,a0q,List.append_assoc _ _ z,List.drop_left' rfl]
  ·have:=congrArg List.length e
   rw [List.length_drop,a0q,List.append_assoc _ _ z,List.length_append] at this
   omega
 obtain ⟨q,hq,hql⟩:=hsuf
 obtain ⟨t1,t2,t3⟩:=M7 hq hql
 have hlen:(v8 (u64 n) (y7 (m7 n))++z).length=bs.length - q:=by rw [← hq,List.length_drop]
 refine ⟨q+y7 (m7 n),?_,t2,t3⟩
 unfold b0U
 rw [hp]
 simp only
 rw [if_neg (by simp),List.take_left' (by simp),e0R,x0i n hn,if_pos rfl,hlen]
 congr 2
 omega
theorem x0j {bs:A5} {a a':Nat} {n:Int} (e:b0U bs a=some (n,a')):a'≤bs.length:=by
 unfold b0U at e
 cases hp:pre 4 (bs.drop a) with
 | none=>rw [hp] at e;cases e
 | some p =>
  obtain ⟨k,rest⟩:=p
  rw [hp] at e
  simp only at e
  split at e
  ·cases e
  ·split at e
   ·simp only [Option.some.injEq,Prod.mk.injEq] at e
    have hle:∀ (m:Nat) (d:A5) (k:Nat) (r:A5),pre m d=some (k,r)→r.length≤d.length:=by
     intro m
     induction m with
     | zero=>intro d k r h;cases h;omega
     | succ m ih =>
      intro d k r h
      cases d with
      | nil=>cases h
      | cons x d =>
       cases x with
       | false=>cases h;simp
       | true =>
        rw [pre] at h
        cases hq:pre m d with
        | none=>rw [hq] at h;cases h
        | some p =>
         rw [hq] at h
         cases h
         have:=ih d p.1 p.2 hq
         simp
         omega
    have:=hle _ _ _ _ hp
    rw [List.length_drop] at this
    omega
   ·cases e
structure UnO (h:AH) (id:Nat) (v:AV) (n:Nat) (b:List Nat) (at':Nat) (bad:Bool):Prop where
 cells:h.get id=some (.cells [v,.int .i64 ((8*n:Nat):Int),.int .i64 (at':Int),.bool bad] false)
 lt:id<h.next
 sl:Sl h 1 n v (by8 b)
 ne:j9 v≠some id
theorem Sl.frX {h g:AH} {id es n:Nat} {v:AV} {l:List AV} (s:Sl h es n v l) (f:FrX id h g) (hv:j9 v≠some id):Sl g es n v l:=by
 refine ⟨s.1,?_⟩
 rcases s.2 with e | ⟨i,off,cap,x,vs,ro,e1,e2,e3,e4,e5,e6⟩
 ·exact .inl e
 ·exact .inr ⟨i,off,cap,x,vs,ro,e1,Nat.lt_of_lt_of_le e2 f.next,e3,by rw [f.get i e2 (by intro e;apply hv;rw [e1,e];rfl)];exact e4,e5,e6⟩
theorem UnO.fr {h g:AH} {id:Nat} {v:AV} {n:Nat} {b:List Nat} {at':Nat} {bad:Bool} (u:UnO h id v n b at' bad) (f:Fr h g):UnO g id v n b at' bad :=
 ⟨by rw [f.get _ u.lt,u.cells],Nat.lt_of_lt_of_le u.lt f.next,u.sl.fr f,u.ne⟩
theorem UnO.put {h g:AH} {id:Nat} {v:AV} {n:Nat} {b:List Nat} {at' a2:Nat} {bad b2:Bool} (u:UnO h id v n b at' bad) (f:Fr h g) (o:AObj)
  (ho:o=.cells [v,.int .i64 ((8*n:Nat):Int),.int .i64 (a2:Int),.bool b2] false):UnO (g.set id o) id v n b a2 b2∧FrX id h (g.set id o):=by
 have u':=u.fr f
 subst ho
 exact ⟨⟨i8 _ _,u'.lt,Sl.setX u'.sl _ u.ne,u.ne⟩,⟨f.next,fun i hi hn=>by rw [c8 hn,f.get i hi]⟩⟩
theorem m0C {h:AH} {id:Nat} {a b c d:AV} (hg:h.get id=some (.cells [a,b,c,d] false)):s7 2 (.ptr id 0) h=okV (.agg [a,b]) h:=by
 have:loadN h id 0 2=.ok [a,b]:=by
  simp [loadN,hg]
  rfl
 simp [s7,this]
theorem Sl.samePair {h:AH} {es n:Nat} {v:AV} {l:List AV} (s:Sl h es n v l) (k:IntKind) (N:Int):R4 12 (.agg [v,.int k N]) (.agg [v,.int k N])=true:=by
 have h1:R4 11 v v=true:=by
  rcases s.2 with ⟨rfl,_⟩ | ⟨i,off,cap,x,vs,ro,rfl,_⟩
  ·rfl
  ·show (Bool.and (Nat.beq i i) (Bool.and (Nat.beq off off) (Bool.and (Nat.beq n n) (Bool.and (Nat.beq cap cap) (Bool.and (x == x) (Nat.beq es es))))))=true
   simp
 have h2:R4 11 (.int k N) (.int k N)=true:=by
  show Bool.and (decide (k=k)) (decide (N=N))=true
  simp
 show Bool.and (R4 11 v v) (Bool.and (R4 11 (.int k N) (.int k N)) true)=true
 rw [h1,h2]
 rfl
theorem a0M {h:AH} {id:Nat} {v:AV} {n:Nat} {b:List Nat} {at' cnt:Nat} {bad:Bool} (u:UnO h id v n b at' bad) (hb:∀ x ∈ b,x<256) (hn:n≤2 ^ 36) (ha:at'≤2 ^ 41) (hc:cnt≤64) :
  Ev P SI (.fn B8) [.ptr id 0,.int .i64 (cnt:Int)] h fun r g=>∃ (x:Nat) (b2:Bool),r=.int .u64 (x:Int)∧UnO g id v n b (at'+cnt) b2∧FrX id h g∧x<2 ^ cnt ∧
   ((C9 (j5 b) at' cnt=some x∧b2=bad)∨(C9 (j5 b) at' cnt=none∧b2=true∧x=0)):=by
 refine k8 h0g rfl rfl ?_
 obtain ⟨N,hN⟩:∃ N,N=8*n:=⟨_,rfl⟩
 have hg:=u.cells
 rw [← hN] at hg
 have ld:=m0C hg
 have l2:load1 h id 2=.ok (.int .i64 (at':Int)):=b7 hg
 have hvc:=u.sl.oneCell
 have hsame:=Sl.samePair u.sl .i64 (N:Int)
 simp [c0c,ld,l2,hsame]
 refine (i0f (at':=at') (cnt:=cnt) u.sl hb hn (by omega) hc hN).mono ?_
 rintro r g ⟨f,hr⟩
 have hg2:=f.get id u.lt
 rw [hg] at hg2
 have l2':load1 g id 2=.ok (.int .i64 (at':Int)):=b7 hg2
 have l3:load1 g id 3=.ok (.bool bad):=b7 hg2
 have w1:b9 .i64 ((at':Int)+(cnt:Int))=((at'+cnt:Nat):Int):=by rw [wrap_i64 (by omega) (by omega)];omega
 obtain ⟨a2,ha2⟩:∃ a2,a2=at'+cnt:=⟨_,rfl⟩
 rw [← ha2] at w1 ⊢
 have st:∀ b2:Bool,∃ g1,B9 g id 3 [.bool b2]=.ok g1∧load1 g1 id 2=.ok (.int .i64 (at':Int))∧∃ g2,B9 g1 id 2 [.int .i64 (a2:Int)]=.ok g2∧UnO g2 id v n b a2 b2∧FrX id h g2:=by
  intro b2
  have h1:=n8 (v:=.bool b2) (off:=3) hg2 (by simp) rfl
  simp [i9] at h1
  have hgx:(g.set id (.cells [v,.int .i64 (N:Int),.int .i64 (at':Int),.bool b2] false)).get id=some (.cells [v,.int .i64 (N:Int),.int .i64 (at':Int),.bool b2] false):=i8 _ _
  have h2:=n8 (v:=.int .i64 (a2:Int)) (off:=2) hgx (by simp) rfl
  simp [i9] at h2
  refine ⟨_,h1,b7 hgx,_,h2,?_⟩
  exact u.put f (.cells [v,.int .i64 (N:Int),.int .i64 (a2:Int),.bool b2] false) (a2:=a2) (b2:=b2) (by rw [← hN])
 cases ht:C9 (j5 b) at' cnt with
 | some x =>
  rw [ht] at hr
  simp only at hr
  subst hr
  obtain ⟨g1,s1,s2,g2,s3,u2,fx⟩:=st bad
  have hlt:=m0a ht
  have hbb:∀ c:Bool,(bif bad then AV.bool true else AV.bool bad)=.bool bad:=by intro c;cases bad <;> rfl
  cases bad <;> simp [l3,s1,s2,w1,s3] <;> exact ⟨x,rfl,u2,fx,hlt,rfl⟩
 | none =>
  rw [ht] at hr
  obtain ⟨e,he,rfl⟩:=hr
  obtain ⟨g1,s1,s2,g2,s3,u2,fx⟩:=st true
  have hp:0<2 ^ cnt:=Nat.two_pow_pos _
  cases bad <;> simp [l3,he,s1,s2,w1,s3] <;> exact ⟨0,rfl,u2,fx,hp,rfl⟩
end Go.Dk

namespace Go.Dk
open Go Go.Dr
set_option maxRecDepth 100000
def boC (l:A5):List AV:=l.map fun b=>.bool b
theorem t0i (a b:A5):boC (a++b)=boC a++boC b:=by simp [boC]
structure BoO (B:Nat) (h:AH) (id:Nat) (v:AV) (l:A5):Prop where
 cells:h.get id=some (.cells [v] false)
 lt:id<h.next
 ge:B≤id
 own:Own B h 1 l.length v (boC l)
 ne:j9 v≠some id
structure BoF (id:Nat) (v v':AV) (h h':AH):Prop where
 next:h.next≤h'.next
 get:∀ i,i<h.next→i≠id→j9 v≠some i→h'.get i=h.get i
 ids:∀ i,j9 v'=some i→j9 v=some i∨h.next≤i
theorem BoF.refl (id:Nat) (v:AV) (h:AH):BoF id v v h h:=⟨Nat.le_refl _,fun _ _ _ _=>rfl,fun _ e=>.inl e⟩
theorem BoF.trans {id:Nat} {v v' v'':AV} {h h' h'':AH} (a:BoF id v v' h h') (b:BoF id v' v'' h' h''):BoF id v v'' h h'':=by
 refine ⟨Nat.le_trans a.next b.next,fun i hi hn hv=>?_,fun i e=>?_⟩
 ·rw [b.get i (Nat.lt_of_lt_of_le hi a.next) hn (fun e=>?_),a.get i hi hn hv]
  rcases a.ids i e with e | e
  ·exact hv e
  ·omega
 ·rcases b.ids i e with e | e
  ·exact a.ids i e
  ·exact .inr (Nat.le_trans a.next e)
def BoK (B id:Nat) (v:AV) (h:AH) (m:A5) (r:AV) (h':AH):Prop:=r=.tuple []∧FrB B h h'∧∃ v',BoO B h' id v' m∧BoF id v v' h h'
theorem A0s (n c:Nat):decide (((n/2 ^ c &&& 1:Nat):Int)=1)=n.testBit c:=by
 rw [Nat.testBit_eq_decide_div_mod_eq,show (1:Nat)=2 ^ 1 - 1 from rfl,g0J]
 congr 1
 simp only [eq_iff_iff]
 omega
theorem F8 {h:AH} {B id:Nat} {v:AV} {l:A5} {n cnt:Nat} (b:BoO B h id v l) (hn:n<2 ^ 64) (hc:cnt≤64) (hl:l.length≤2 ^ 35) :
  Ev P SI (.fn m5) [.ptr id 0,.int .u64 (n:Int),.int .i64 (cnt:Int)] h (BoK B id v h (l++v8 n cnt)):=by
 refine k8 l0k rfl rfl ?_
 have w0:b9 .i64 ((cnt:Int) - 1)=(cnt:Int) - 1:=wrap_i64 (by omega) (by omega)
 simp [f0J,w0]
 refine M5 (fun q σ ds g=>∃ (c:Nat) (u:AV) (m:A5),q=c∧c≤cnt∧ds=[]∧σ 0=.ptr id 0∧σ 1=.int .u64 (n:Int)∧σ 6=.int .i64 ((c:Int) - 1)∧BoO B g id u m∧FrB B h g∧BoF id v u h g∧m++v8 n c=l++v8 n cnt) cnt
  ⟨cnt,v,l,rfl,Nat.le_refl _,rfl,by simp,by simp,by simp,b,.refl _ _,.refl _ _ _,rfl⟩ ?_
 rintro q σ ds g ⟨c,u,m,rfl,hcc,rfl,e0,e1,e6,bo,fr,bf,hm⟩
 cases q with
 | zero =>
  simp [e6,BoK]
  rw [v8,List.append_nil] at hm
  exact ⟨fr,_,hm ▸ bo,bf⟩
 | succ c =>
  have hml:m.length+(c+1)=l.length+cnt:=by have:=congrArg List.length hm;simpa using this
  have c0:(((c+1:Nat):Int) - 1)=(c:Int):=by omega
  rw [c0] at e6
  have lc0:=b7 bo.cells (off:=0)
  simp [ofO] at lc0
  have x1:=g0I (P:=P) j0 false .i64 n c (by omega)
  have x2:=p0p (P:=P) j0 true (n/2 ^ c) 1 (Nat.lt_of_le_of_lt (Nat.div_le_self _ _) hn) (by omega)
  have x3:=A0s n c
  rw [show ((1:Nat):Int)=1 from rfl] at x2
  generalize n/2 ^ c &&& 1=bit at *
  generalize n/2 ^ c=nd at *
  have x3':=u0F (P:=P) j0 true .u64 (bit:Int) 1
  rw [x3] at x3'
  have hB:B≤g.next:=Nat.le_trans bo.ge (Nat.le_of_lt bo.lt)
  obtain ⟨v',g',ap,o1,f1,p1,p2⟩:=bo.own.snoc2 (x:=[.bool (n.testBit c)]) (bytes:=1) hB rfl rfl (by omega) (by omega)
  have lt':id<g'.next:=Nat.lt_of_lt_of_le bo.lt f1.next
  have gc:g'.get id=some (.cells [u] false):=by rw [p1 id bo.lt bo.ne,bo.cells]
  have hv':v'.cells=[v']∧v'.scalar=true:=o1.sl.oneCell
  have st:=n8 (id:=id) (off:=0) gc (by simp) hv'.2
  have ne':j9 v'≠some id:=by
   intro e
   rcases p2 id e with h | h
   ·exact bo.ne h
   ·have:=bo.lt;omega
  have lc1:load1 (g.push (.cells [.bool (n.testBit c)] false)) id 0=.ok u:=by
   have:(g.push (.cells [.bool (n.testBit c)] false)).get id=some (.cells [u] false):=by rw [c7 (by have:=bo.lt;omega),bo.cells]
   exact b7 this
  have hss:=bo.own.sl.same
  have hpos:(0:Int)≤(c:Int):=by omega
  simp [e0,e1,e6,lc0,lc1,hss,x1,x2,x3',i9,ap,J2,hv'.1,st,l7,-I9,-W1,-u0F]
  refine ⟨c,by omega,by omega,by rw [wrap_i64 (by omega) (by omega)],v',m++[n.testBit c],⟨i8 _ _,lt',bo.ge,?_,ne'⟩,?_,?_,?_⟩
  ·have:=o1.set (.cells [v'] false) (j:=id) ne'
   rw [t0i,List.length_append]
   exact this
  ·exact (fr.trans f1).trans ⟨Nat.le_refl _,fun i hi=>c8 (by have:=bo.ge;omega)⟩
  ·refine bf.trans ⟨f1.next,fun i hi hn hu=>?_,fun i e=>?_⟩
   ·rw [c8 hn,p1 i hi hu]
   ·rcases p2 i e with e | e
    ·exact .inl e
    ·exact .inr (by omega)
  ·rw [← hm,v8,List.append_assoc]
   rfl
end Go.Dk

namespace Go.Dk
open Go Go.Dr
set_option maxRecDepth 100000
theorem i04 {h:AH} {B id:Nat} {v:AV} {l:A5} {n:Int} (b:BoO B h id v l) (hl:l.length≤2 ^ 34) :
  Ev P SI (.fn T5) [.ptr id 0,.int .i64 n] h (BoK B id v h (l++a0q n)):=by
 refine k8 i0a rfl rfl ?_
 have hu:=l06 n
 have wu:=g0N n
 have two:∀ {a k w:Nat},a<2 ^ 64→k≤4→w≤64→a0q n=v8 a k++v8 (u64 n) w→∀ {h1:AH} {v1:AV},FrB B h h1→BoO B h1 id v1 (l++v8 a k)→BoF id v v1 h h1 →
   Ev P SI (.fn m5) [.ptr id 0,.int .u64 (u64 n:Int),.int .i64 (w:Int)] h1 (BoK B id v h (l++a0q n)):=by
  intro a k w ha hk hw e h1 v1 f1 b1 k1
  refine (F8 b1 hu hw (by simp;omega)).mono ?_
  rintro r g ⟨rfl,f2,v2,b2,k2⟩
  exact ⟨rfl,f1.trans f2,v2,by rw [e,← List.append_assoc];exact b2,k1.trans k2⟩
 by_cases h0:n=0
 ·subst h0
  simp [B6]
  refine (F8 (n:=0) (cnt:=1) b (by omega) (by omega) (by omega)).mono ?_
  rintro r g ⟨rfl,f,w,bw,kw⟩
  simp [BoK]
  exact ⟨f,w,bw,kw⟩
 by_cases h1:-64≤n∧n<64
 ·have e:a0q n=v8 2 2++v8 (u64 n) 7:=by simp [a0q,m7,h0,h1,y7,v8];decide
  have a2:n≤63:=by omega
  simp [B6,h0,h1.1,a2]
  refine (F8 (n:=2) (cnt:=2) b (by omega) (by omega) (by omega)).mono ?_
  rintro r g ⟨rfl,f,w,bw,kw⟩
  simp [wu]
  refine (two (by omega) (by omega) (by omega) e f bw kw).mono ?_
  rintro r g ⟨rfl,q⟩
  simpa [BoK] using q
 by_cases h2:-2048≤n∧n<2048
 ·have e:a0q n=v8 6 3++v8 (u64 n) 12:=by simp [a0q,m7,h0,h1,h2,y7,v8];decide
  have a2:n≤2047:=by omega
  by_cases a1:-64≤n
  ·have a3:¬ n≤63:=by omega
   simp [B6,h0,h2.1,a1,a2,a3]
   refine (F8 (n:=6) (cnt:=3) b (by omega) (by omega) (by omega)).mono ?_
   rintro r g ⟨rfl,f,w,bw,kw⟩
   simp [wu]
   refine (two (by omega) (by omega) (by omega) e f bw kw).mono ?_
   rintro r g ⟨rfl,q⟩
   simpa [BoK] using q
  ·simp [B6,h0,h2.1,a1,a2]
   refine (F8 (n:=6) (cnt:=3) b (by omega) (by omega) (by omega)).mono ?_
   rintro r g ⟨rfl,f,w,bw,kw⟩
   simp [wu]
   refine (two (by omega) (by omega) (by omega) e f bw kw).mono ?_
   rintro r g ⟨rfl,q⟩
   simpa [BoK] using q
 have c12:(-64≤n∧¬ n≤63∧-2048≤n∧¬ n≤2047)∨(¬ -64≤n∧¬ -2048≤n):=by omega
 by_cases h3:-2147483648≤n∧n<2147483648
 ·have e:a0q n=v8 14 4++v8 (u64 n) 32:=by simp [a0q,m7,h0,h1,h2,h3,y7,v8];decide
  have a2:n≤2147483647:=by omega
  rcases c12 with ⟨b1,b2,b3,b4⟩ | ⟨b1,b3⟩
  ·simp [B6,h0,h3.1,a2,b1,b2,b3,b4]
   refine (F8 (n:=14) (cnt:=4) b (by omega) (by omega) (by omega)).mono ?_
   rintro r g ⟨rfl,f,w,bw,kw⟩
   simp [wu]
   refine (two (by omega) (by omega) (by omega) e f bw kw).mono ?_
   rintro r g ⟨rfl,q⟩
   simpa [BoK] using q
  ·simp [B6,h0,h3.1,a2,b1,b3]
   refine (F8 (n:=14) (cnt:=4) b (by omega) (by omega) (by omega)).mono ?_
   rintro r g ⟨rfl,f,w,bw,kw⟩
   simp [wu]
   refine (two (by omega) (by omega) (by omega) e f bw kw).mono ?_
   rintro r g ⟨rfl,q⟩
   simpa [BoK] using q
 have e:a0q n=v8 15 4++v8 (u64 n) 64:=by simp [a0q,m7,h0,h1,h2,h3,y7,v8]
 have c3:(-64≤n∧¬ n≤63∧-2048≤n∧¬ n≤2047∧-2147483648≤n∧¬ n≤2147483647)∨(¬ -64≤n∧¬ -2048≤n∧¬ -2147483648≤n):=by omega
 rcases c3 with ⟨b1,b2,b3,b4,b5,b6⟩ | ⟨b1,b3,b5⟩
 ·simp [B6,h0,b1,b2,b3,b4,b5,b6]
  refine (F8 (n:=15) (cnt:=4) b (by omega) (by omega) (by omega)).mono ?_
  rintro r g ⟨rfl,f,w,bw,kw⟩
  simp [wu]
  refine (two (by omega) (by omega) (by omega) e f bw kw).mono ?_
  rintro r g ⟨rfl,q⟩
  simpa [BoK] using q
 ·simp [B6,h0,b1,b3,b5]
  refine (F8 (n:=15) (cnt:=4) b (by omega) (by omega) (by omega)).mono ?_
  rintro r g ⟨rfl,f,w,bw,kw⟩
  simp [wu]
  refine (two (by omega) (by omega) (by omega) e f bw kw).mono ?_
  rintro r g ⟨rfl,q⟩
  simpa [BoK] using q
theorem t0s {x:Nat} (hx:x<2 ^ 64):(∀ i,Lib.bitLen x≤i→x/2 ^ i%2=0)∧(x≠0→x/2 ^ (Lib.bitLen x - 1)%2=1):=by
 have up:∀ i,Lib.bitLen x≤i→x<2 ^ i:=by
  intro i hi
  by_cases h:2 ^ i≤x
  ·have h4:=Lib.bitLen_shift i x h hx
   have h5:x/2 ^ i≠0:=by
    have:=Nat.div_pos h (Nat.two_pow_pos _)
    omega
   have h6:=Lib.bitLen_half (x/2 ^ i) h5 (Nat.lt_of_le_of_lt (Nat.div_le_self _ _) hx)
   omega
  ·omega
 refine ⟨fun i hi=>by rw [Nat.div_eq_of_lt (up i hi)],fun h0=>?_⟩
 obtain ⟨h1,h2,h3,h4⟩:=g04 hx h0
 have h5:=up _ (Nat.le_refl _)
 have h6:2 ^ (Lib.bitLen x - 1)≤x:=by
  by_cases h:x<2 ^ (Lib.bitLen x - 1)
  ·have:=Lib.bitLen_le x (Lib.bitLen x - 1) (by omega) h
   omega
  ·omega
 obtain ⟨b,hb⟩:∃ b,Lib.bitLen x=b+1:=⟨Lib.bitLen x - 1,by omega⟩
 rw [hb] at h5 h6 ⊢
 rw [Nat.add_sub_cancel] at h6 ⊢
 rw [Nat.pow_succ] at h5
 have:x/2 ^ b=1:=by
  apply Nat.div_eq_of_lt_le <;> omega
 rw [this]
theorem y09 {x:Nat} (hx:x<2 ^ 64) (h0:x≠0):(∀ i,i<Lib.ctz 64 x→x/2 ^ i%2=0)∧x/2 ^ Lib.ctz 64 x%2=1:=by
 have e:Lib.ctz 64 x=Lib.ctzFrom 64 x:=by simp [Lib.ctz,h0]
 obtain ⟨m,hm,_⟩:=Lib.ctzFrom_spec 64 x (by omega) hx
 rw [← e] at hm
 generalize Lib.ctz 64 x=c at *
 refine ⟨fun i hi=>?_,?_⟩
 ·obtain ⟨d,rfl⟩:∃ d,c=i+(d+1):=⟨c - i - 1,by omega⟩
  rw [hm,Nat.pow_add,Nat.mul_assoc,Nat.mul_div_cancel_left _ (Nat.two_pow_pos _),Nat.pow_succ,Nat.mul_comm (2 ^ d) 2,Nat.mul_assoc,Nat.mul_mod_right]
 ·rw [hm,Nat.mul_div_cancel_left _ (Nat.two_pow_pos _)]
  omega
theorem u0p (hi w:Nat) (hw:w<64):v8 (hi*64+w) 12=v8 hi 6++v8 w 6:=by
 rw [show 12=6+6 from rfl,e0S,show (hi*64+w)/2 ^ 6=hi from by omega,← j0a (hi*64+w) 6 6 (Nat.le_refl _),show (hi*64+w)%2 ^ 6=w from by omega]
theorem p0U {h:AH} {B id:Nat} {v:AV} {l:A5} {x:Nat} (b:BoO B h id v l) (hx:x<2 ^ 64) (hl:l.length≤2 ^ 34) :
  Ev P SI (.fn T6) [.ptr id 0,.int .u64 (x:Int)] h (BoK B id v h (l++d0v x)):=by
 refine k8 i0b rfl rfl ?_
 by_cases h0:x=0
 ·subst h0
  simp [a0x]
  refine (F8 (n:=0) (cnt:=1) b (by omega) (by omega) (by omega)).mono ?_
  rintro r g ⟨rfl,f,w,bw,kw⟩
  simp [d0v,BoK]
  exact ⟨f,w,bw,kw⟩
 obtain ⟨w1,w2,w3,w4⟩:=g04 hx h0
 obtain ⟨z1,z2⟩:=t0s hx
 replace z2:=z2 h0
 obtain ⟨y1,y2⟩:=y09 hx h0
 have hxB:d0v x=v8 1 1++v8 ((64 - Lib.bitLen x)*64+(c0u x - 1)) 12++v8 (x/2 ^ Lib.ctz 64 x) (c0u x):=by rw [d0v,if_neg h0]
 rw [hxB]
 have hwx:c0u x=Lib.bitLen x - Lib.ctz 64 x:=rfl
 generalize Lib.ctz 64 x=c at *
 generalize Lib.bitLen x=bl at *
 generalize c0u x=w at *
 rw [u0p _ _ (by omega)]
 have hd:∀ i,x/2 ^ i<2 ^ 64:=fun i=>Nat.lt_of_le_of_lt (Nat.div_le_self _ _) hx
 have bz:∀ i b,x/2 ^ i%2=b→∃ e:Nat,n9 P .and j0 true (.int .u64 ((x/2 ^ i:Nat):Int)) (.int .u64 1)=.ok (.int .u64 (e:Int))∧(e=0↔b=0):=by
  intro i b hb
  refine ⟨_,p0p (P:=P) j0 true (x/2 ^ i) 1 (hd i) (by omega),?_⟩
  rw [show (1:Nat)=2 ^ 1 - 1 from rfl,g0J]
  omega
 simp [a0x,h0]
 refine D3 (Q:=fun q σ ds g=>q=.exit 0∧ds=[]∧g=h∧σ 0=.ptr id 0∧σ 1=.int .u64 (x:Int)∧σ 4=.int .i64 ((64 - bl:Nat):Int)∧σ 5=.int .i64 0) ?_ ?_
 ·refine M5 (fun q σ ds g=>∃ j:Nat,q+j=64 - bl∧ds=[]∧g=h∧σ 0=.ptr id 0∧σ 1=.int .u64 (x:Int)∧σ 4=.int .i64 (j:Int)∧σ 5=.int .i64 0) (64 - bl) ⟨0,by omega,rfl,rfl,by simp,by simp,by simp,by simp⟩ ?_
  rintro q σ ds g ⟨j,hq,rfl,rfl,e0,e1,e4,e5⟩
  have s1:b9 .i64 (63 - (j:Int))=((63 - j:Nat):Int):=by rw [wrap_i64 (by omega) (by omega)];omega
  have s2:=g0I (P:=P) j0 false .i64 x (63 - j) (by omega)
  have s3:b9 .i64 ((j:Int)+1)=((j+1:Nat):Int):=by rw [wrap_i64 (by omega) (by omega)];omega
  by_cases hj:j<64 - bl
  ·obtain ⟨e,f1,f2⟩:=bz (63 - j) 0 (z1 _ (by omega))
   have f3:e=0:=f2.2 rfl
   subst f3
   generalize x/2 ^ (63 - j)=xd at *
   generalize 63 - j=k at *
   simp [e0,e1,e4,e5,s1,s2,s3,f1,l7,-I9,-W1]
   exact ⟨q - 1,by omega,j+1,by omega,by simp⟩
  ·have hj':j=64 - bl:=by omega
   obtain ⟨e,f1,f2⟩:=bz (63 - j) 1 (by rw [show 63 - j=bl - 1 from by omega];exact z2)
   have f3:¬ e=0:=fun h=>by have:=f2.1 h;omega
   generalize x/2 ^ (63 - j)=xd at *
   generalize 63 - j=k at *
   simp [e0,e1,e4,e5,s1,s2,s3,f1,f3,l7,-I9,-W1]
   rw [hj']
 rintro q σ ds g ⟨rfl,rfl,rfl,e0,e1,e4,e5⟩
 generalize hhi:64 - bl=hi at *
 simp
 refine D3 (Q:=fun q σ ds g'=>q=.exit 2∧ds=[]∧g'=g∧σ 0=.ptr id 0∧σ 1=.int .u64 (x:Int)∧σ 4=.int .i64 (hi:Int)∧σ 5=.int .i64 (c:Int)) ?_ ?_
 ·refine M5 (fun q σ ds g'=>∃ j:Nat,q+j=c∧ds=[]∧g'=g∧σ 0=.ptr id 0∧σ 1=.int .u64 (x:Int)∧σ 4=.int .i64 (hi:Int)∧σ 5=.int .i64 (j:Int)) c ⟨0,by omega,rfl,rfl,e0,e1,e4,e5⟩ ?_
  clear e0 e1 e4 e5
  rintro q σ ds g' ⟨j,hq,rfl,rfl,e0,e1,e4,e5⟩
  have s2:=g0I (P:=P) j0 false .i64 x j (by omega)
  have s3:b9 .i64 ((j:Int)+1)=((j+1:Nat):Int):=by rw [wrap_i64 (by omega) (by omega)];omega
  by_cases hj:j<c
  ·obtain ⟨e,f1,f2⟩:=bz j 0 (y1 _ (by omega))
   have f3:e=0:=f2.2 rfl
   subst f3
   generalize x/2 ^ j=xd at *
   simp [e0,e1,e4,e5,s2,s3,f1,l7,-I9,-W1]
   exact ⟨q - 1,by omega,j+1,by omega,by simp⟩
  ·have hj':j=c:=by omega
   obtain ⟨e,f1,f2⟩:=bz j 1 (by rw [hj'];exact y2)
   have f3:¬ e=0:=fun h=>by have:=f2.1 h;omega
   generalize x/2 ^ j=xd at *
   simp [e0,e1,e4,e5,s2,s3,f1,f3,l7,-I9,-W1]
   rw [hj']
 clear e0 e1 e4 e5
 rintro q σ ds g' ⟨rfl,rfl,rfl,e0,e1,e4,e5⟩
 have x1:b9 .i64 (64 - (hi:Int))=(bl:Int):=by rw [wrap_i64 (by omega) (by omega)];omega
 have x2:b9 .i64 ((bl:Int) - (c:Int))=(w:Int):=by rw [wrap_i64 (by omega) (by omega)];omega
 have x3:b9 .u64 (hi:Int)=(hi:Int):=wrap_u64 (by omega) (by omega)
 obtain ⟨wm,hwm⟩:∃ wm,wm=w - 1:=⟨_,rfl⟩
 have x5:b9 .i64 ((w:Int) - 1)=(wm:Int):=by rw [wrap_i64 (by omega) (by omega)];omega
 have x6:b9 .u64 (wm:Int)=(wm:Int):=wrap_u64 (by omega) (by omega)
 have x8:=g0I (P:=P) j0 false .i64 x c (by omega)
 rw [← hwm]
 have hxd:=hd c
 generalize x/2 ^ c=xd at *
 simp [e0,e4,e5,x1,x2]
 refine (F8 (n:=1) (cnt:=1) b (by omega) (by omega) (by omega)).mono ?_
 rintro r g1 ⟨rfl,fx1,v1,p1,k1⟩
 simp [e0,e4,x3]
 refine (F8 (n:=hi) (cnt:=6) p1 (by omega) (by omega) (by simp;omega)).mono ?_
 rintro r g2 ⟨rfl,fx2,v2,p2,k2⟩
 simp [e0,x5,x6]
 refine (F8 (n:=wm) (cnt:=6) p2 (by omega) (by omega) (by simp;omega)).mono ?_
 rintro r g3 ⟨rfl,fx3,v3,p3,k3⟩
 simp [e0,e1,e5,x8,-I9]
 refine (F8 (n:=xd) (cnt:=w) p3 hxd (by omega) (by simp;omega)).mono ?_
 rintro r g4 ⟨rfl,fx4,v4,p4,k4⟩
 simp [BoK]
 simp only [List.append_assoc] at p4
 exact ⟨((fx1.trans fx2).trans fx3).trans fx4,v4,p4,((k1.trans k2).trans k3).trans k4⟩
end Go.Dk

namespace Go.Dk
open Go Go.Dr
set_option maxRecDepth 100000
theorem UnO.st {h g:AH} {id:Nat} {v:AV} {n:Nat} {b:List Nat} {at':Nat} {bad:Bool} (u:UnO h id v n b at' bad) (f:Fr h g) (a2:Nat) (b2:Bool) :
  ∃ g1,B9 g id 3 [.bool b2]=.ok g1∧load1 g1 id 2=.ok (.int .i64 (at':Int))∧load1 g1 id 3=.ok (.bool b2)∧UnO g1 id v n b at' b2∧FrX id h g1 ∧
   ∃ g2,B9 g1 id 2 [.int .i64 (a2:Int)]=.ok g2∧UnO g2 id v n b a2 b2∧FrX id h g2:=by
 obtain ⟨N,hN⟩:∃ N,N=8*n:=⟨_,rfl⟩
 have hg2:=(u.fr f).cells
 rw [← hN] at hg2
 have h1:=n8 (v:=.bool b2) (off:=3) hg2 (by simp) rfl
 simp [i9] at h1
 have hgx:(g.set id (.cells [v,.int .i64 (N:Int),.int .i64 (at':Int),.bool b2] false)).get id=some (.cells [v,.int .i64 (N:Int),.int .i64 (at':Int),.bool b2] false):=i8 _ _
 have h2:=n8 (v:=.int .i64 (a2:Int)) (off:=2) hgx (by simp) rfl
 simp [i9] at h2
 have u1:=u.put f (.cells [v,.int .i64 (N:Int),.int .i64 (at':Int),.bool b2] false) (a2:=at') (b2:=b2) (by rw [← hN])
 exact ⟨_,h1,b7 hgx,b7 hgx,u1.1,u1.2,_,h2,u.put f (.cells [v,.int .i64 (N:Int),.int .i64 (a2:Int),.bool b2] false) (a2:=a2) (b2:=b2) (by rw [← hN])⟩
theorem UnO.ld {h:AH} {id:Nat} {v:AV} {n:Nat} {b:List Nat} {at':Nat} {bad:Bool} (u:UnO h id v n b at' bad):load1 h id 3=.ok (.bool bad):=b7 u.cells
theorem n0U {h:AH} {id:Nat} {v:AV} {n:Nat} {b:List Nat} {at':Nat} {bad:Bool} (u:UnO h id v n b at' bad) (hb:∀ x ∈ b,x<256) (hn:n≤2 ^ 36) (ha:at'≤2 ^ 41) :
  Ev P SI (.fn U5) [.ptr id 0] h fun r g=>∃ (x:Int) (a2:Nat) (b2:Bool),r=.int .i64 x∧UnO g id v n b a2 b2∧FrX id h g∧a2≤8*n ∧
   ((b0U (j5 b) at'=some (x,a2)∧b2=bad)∨(b0U (j5 b) at'=none∧b2=true)):=by
 refine k8 f0R rfl rfl ?_
 have hbl:b.length=n:=by have:=u.sl.1;simpa using this
 have hbs:=Q7 b
 obtain ⟨N,hN⟩:∃ N,N=8*n:=⟨_,rfl⟩
 have hg:=u.cells
 rw [← hN] at hg
 have ld:=m0C hg
 have l2:load1 h id 2=.ok (.int .i64 (at':Int)):=b7 hg
 have hsame:=Sl.samePair u.sl .i64 (N:Int)
 simp [b0l,ld,l2,hsame]
 refine (q0i (at':=at') u.sl hb hn ha hN).mono ?_
 rintro r g ⟨f,hr⟩
 have l3:load1 g id 3=.ok (.bool bad):=(u.fr f).ld
 cases ht:b0U (j5 b) at' with
 | some p =>
  obtain ⟨x,a2⟩:=p
  have hle:=x0j ht
  rw [ht] at hr
  simp only at hr
  subst hr
  obtain ⟨g1,s1,_,_,_,_,g2,s3,u2,fx⟩:=u.st f a2 bad
  cases bad <;> simp [l3,s1,s3] <;> exact ⟨a2,u2,fx,by omega,rfl⟩
 | none =>
  rw [ht] at hr
  obtain ⟨e,he,rfl⟩:=hr
  obtain ⟨g1,s1,_,_,_,_,g2,s3,u2,fx⟩:=u.st f 0 true
  rw [show ((0:Nat):Int)=0 from rfl] at s3
  cases bad <;> simp [l3,he,s1,s3] <;> exact ⟨0,u2,fx,by omega⟩
theorem u0u {x:Nat} (hx:x<2 ^ 64) (h0:x≠0):x/2 ^ Lib.ctz 64 x*2 ^ Lib.ctz 64 x=x:=by
 have e:Lib.ctz 64 x=Lib.ctzFrom 64 x:=by simp [Lib.ctz,h0]
 obtain ⟨m,hm,_⟩:=Lib.ctzFrom_spec 64 x (by omega) hx
 rw [← e] at hm
 generalize Lib.ctz 64 x=c at *
 have:x/2 ^ c=2*m+1:=by
  rw [hm,Nat.mul_div_cancel_left _ (Nat.two_pow_pos _)]
 rw [this,Nat.mul_comm,← hm]
def v0Y (bs:A5) (at':Nat) (bad:Bool) (x:Nat) (a2:Nat) (b2:Bool):Prop :=
 (bad=true→b2=true)∧∀ x0 z,x0<2 ^ 64→bad=false→at'≤bs.length→bs.drop at'=d0v x0++z→x=x0∧b2=false∧bs.drop a2=z∧a2≤bs.length
theorem t0w {x:Nat} (hx:x<2 ^ 64) (h0:x≠0):x/2 ^ Lib.ctz 64 x<2 ^ c0u x:=by
 obtain ⟨w1,w2,w3,w4⟩:=g04 hx h0
 have hlt:x<2 ^ Lib.bitLen x:=by
  by_cases h:2 ^ Lib.bitLen x≤x
  ·have h4:=Lib.bitLen_shift (Lib.bitLen x) x h hx
   have h5:x/2 ^ Lib.bitLen x≠0:=by
    have:=Nat.div_pos h (Nat.two_pow_pos _)
    omega
   have h6:=Lib.bitLen_half (x/2 ^ Lib.bitLen x) h5 (Nat.lt_of_le_of_lt (Nat.div_le_self _ _) hx)
   omega
  ·omega
 rw [Nat.div_lt_iff_lt_mul (Nat.two_pow_pos _),← Nat.pow_add]
 unfold c0u
 rw [show Lib.bitLen x - Lib.ctz 64 x+Lib.ctz 64 x=Lib.bitLen x from by omega]
 exact hlt
theorem b0S {bs:A5} {a x:Nat} {z:A5} (hx:x<2 ^ 64) (h0:x≠0) (e:bs.drop a=d0v x++z) (ha:a≤bs.length) :
  C9 bs a 1=some 1∧C9 bs (a+1) 6=some (64 - Lib.bitLen x)∧C9 bs (a+1+6) 6=some (c0u x - 1)∧C9 bs (a+1+6+6) (c0u x)=some (x/2 ^ Lib.ctz 64 x) ∧
   bs.drop (a+1+6+6+c0u x)=z∧a+1+6+6+c0u x≤bs.length∧1≤c0u x∧(64 - Lib.bitLen x)+c0u x≤64∧64 - (64 - Lib.bitLen x) - c0u x=Lib.ctz 64 x:=by
 obtain ⟨w1,w2,w3,w4⟩:=g04 hx h0
 have hw:c0u x=Lib.bitLen x - Lib.ctz 64 x:=rfl
 have hxd:=t0w hx h0
 rw [d0v,if_neg h0,u0p _ _ (by omega)] at e
 simp only [List.append_assoc] at e
 obtain ⟨p1,p2,p3⟩:=M7 e ha
 obtain ⟨q1,q2,q3⟩:=M7 p2 p3
 obtain ⟨r1,r2,r3⟩:=M7 q2 q3
 obtain ⟨s1,s2,s3⟩:=M7 r2 r3
 rw [Nat.mod_eq_of_lt (by omega)] at q1 r1
 rw [Nat.mod_eq_of_lt hxd] at s1
 exact ⟨p1,q1,r1,s1,s2,s3,by omega,by omega,by omega⟩
def C0a (h:AH) (id:Nat) (v:AV) (n:Nat) (b:List Nat) (at':Nat) (bad:Bool) (r:AV) (g:AH):Prop :=
 ∃ (x:Nat) (a2:Nat) (b2:Bool),r=.int .u64 (x:Int)∧x<2 ^ 64∧UnO g id v n b a2 b2∧FrX id h g∧a2≤at'+100∧v0Y (j5 b) at' bad x a2 b2
theorem p0W {h:AH} {id:Nat} {v:AV} {n:Nat} {b:List Nat} {at':Nat} {bad:Bool} (u:UnO h id v n b at' bad) (hb:∀ x ∈ b,x<256) (hn:n≤2 ^ 36) (ha:at'≤2 ^ 40) :
  Ev P SI (.fn V5) [.ptr id 0] h (C0a h id v n b at' bad):=by
 refine k8 g0F rfl rfl ?_
 have l3:=u.ld
 cases bad with
 | true =>
  simp [W5,l3]
  exact ⟨0,at',true,rfl,by omega,u,.refl _ _,by omega,fun _=>rfl,fun x0 z _ h=>by cases h⟩
 | false =>
  have hbl:b.length=n:=by have:=u.sl.1;simpa using this
  simp [W5,l3]
  refine (a0M (cnt:=1) u hb hn (by omega) (by omega)).mono ?_
  rintro r g1 ⟨x1,b1,rfl,u1,f1,hx1,hc1⟩
  by_cases h10:x1=0
  ·subst h10
   simp
   refine ⟨0,at'+1,b1,rfl,by omega,u1,f1,by omega,fun h=>(by cases h),?_⟩
   intro x0 z hx0 _ hal hd
   by_cases h0:x0=0
   ·subst h0
    rw [d0v,if_pos rfl] at hd
    obtain ⟨p1,p2,p3⟩:=M7 hd hal
    rcases hc1 with ⟨_,rfl⟩ | ⟨hn1,_⟩
    ·exact ⟨rfl,rfl,p2,p3⟩
    ·rw [p1] at hn1;cases hn1
   ·obtain ⟨p1,_⟩:=b0S hx0 h0 hd hal
    rw [p1] at hc1
    rcases hc1 with ⟨h,_⟩ | ⟨h,_⟩ <;> cases h
  simp [h10]
  refine (a0M (cnt:=6) u1 hb hn (by omega) (by omega)).mono ?_
  rintro r g2 ⟨x2,b2,rfl,u2,f2,hx2,hc2⟩
  have w2:b9 .i64 (x2:Int)=(x2:Int):=wrap_i64 (by omega) (by omega)
  simp [w2]
  refine (a0M (cnt:=6) u2 hb hn (by omega) (by omega)).mono ?_
  rintro r g3 ⟨x3,b3,rfl,u3,f3,hx3,hc3⟩
  have w3:b9 .i64 (x3:Int)=(x3:Int):=wrap_i64 (by omega) (by omega)
  obtain ⟨w,hw⟩:∃ w,w=x3+1:=⟨_,rfl⟩
  have w4:b9 .i64 ((x3:Int)+1)=(w:Int):=by rw [wrap_i64 (by omega) (by omega)];omega
  obtain ⟨hs,hhs⟩:∃ hs,hs=x2+w:=⟨_,rfl⟩
  have w5:b9 .i64 ((x2:Int)+(w:Int))=(hs:Int):=by rw [wrap_i64 (by omega) (by omega)];omega
  have l33:=u3.ld
  obtain ⟨g4,s1,_,s3,u4,f4,_⟩:=u3.st (.refl _) 0 (b3||decide (64<hs))
  have hno:∀ x0 z,x0<2 ^ 64→at'≤(j5 b).length→(j5 b).drop at'=d0v x0++z→x0≠0:=by
   rintro x0 z hx0 hal hd rfl
   rw [d0v,if_pos rfl] at hd
   obtain ⟨p1,_⟩:=M7 hd hal
   rw [p1] at hc1
   rcases hc1 with ⟨h,_⟩ | ⟨h,_⟩ <;> cases h
   exact h10 rfl
  have hall:∀ x0 z,x0<2 ^ 64→at'≤(j5 b).length→(j5 b).drop at'=d0v x0++z→b3=false∧x2=64 - Lib.bitLen x0∧w=c0u x0∧¬ 64<hs:=by
   intro x0 z hx0 hal hd
   obtain ⟨p1,p2,p3,p4,p5,p6,p7,p8,p9⟩:=b0S hx0 (hno x0 z hx0 hal hd) hd hal
   rw [p1] at hc1
   rw [p2] at hc2
   rw [p3] at hc3
   rcases hc1 with ⟨_,rfl⟩ | ⟨h,_⟩
   rcases hc2 with ⟨h2,rfl⟩ | ⟨h,_⟩
   rcases hc3 with ⟨h3,rfl⟩ | ⟨h,_⟩
   ·have e2:=Option.some.inj h2
    have e3:=Option.some.inj h3
    exact ⟨rfl,e2.symm,by omega,by omega⟩
   ·cases h
   ·cases h
   ·cases h
  cases hbad:(b3||decide (64<hs)) with
  | true =>
   rw [hbad] at s1 s3 u4
   have fin:C0a h id v n b at' false (.int .u64 0) g4:=by
    refine ⟨0,_,true,rfl,by omega,u4,((f1.trans f2).trans f3).trans f4,by omega,fun _=>rfl,?_⟩
    intro x0 z hx0 _ hal hd
    obtain ⟨q1,_,_,q4⟩:=hall x0 z hx0 hal hd
    rw [q1] at hbad
    simp at hbad
    exact absurd hbad q4
   cases b3 with
   | true =>
    simp [w3,w4,l33,s1,s3]
    exact fin
   | false =>
    simp at hbad
    have hbad':(64:Int)<hs:=by omega
    simp [w3,w4,w5,l33,hbad',s1,s3]
    exact fin
  | false =>
   rw [hbad] at s1 s3 u4
   simp at hbad
   obtain ⟨rfl,hle⟩:=hbad
   have hle':¬ (64:Int)<hs:=by omega
   simp [w3,w4,w5,l33,hle',s1,s3]
   refine (a0M (cnt:=w) u4 hb hn (by omega) (by omega)).mono ?_
   rintro r g5 ⟨x5,b5,rfl,u5,f5,hx5,hc5⟩
   have w6:b9 .i64 (64 - (x2:Int))=((64 - x2:Nat):Int):=by rw [wrap_i64 (by omega) (by omega)];omega
   have w7:b9 .i64 (((64 - x2:Nat):Int) - (w:Int))=((64 - x2 - w:Nat):Int):=by rw [wrap_i64 (by omega) (by omega)];omega
   have s5:=e04 (P:=P) j0 false .i64 x5 (64 - x2 - w) (by omega)
   have hres:x5*2 ^ (64 - x2 - w)%2 ^ 64<2 ^ 64:=Nat.mod_lt _ (by omega)
   have fin:v0Y (j5 b) at' false (x5*2 ^ (64 - x2 - w)%2 ^ 64) (at'+1+6+6+w) b5:=by
    refine ⟨fun h=>(by cases h),?_⟩
    intro x0 z hx0 _ hal hd
    obtain ⟨_,q2,q3,_⟩:=hall x0 z hx0 hal hd
    have h0:=hno x0 z hx0 hal hd
    obtain ⟨_,_,_,p4,p5,p6,p7,p8,p9⟩:=b0S hx0 h0 hd hal
    rw [q3,p4] at hc5
    rcases hc5 with ⟨h5,rfl⟩ | ⟨h,_⟩
    ·have e5:=Option.some.inj h5
     refine ⟨?_,rfl,by rw [q3];exact p5,by rw [q3];exact p6⟩
     rw [q2,q3,p9,← e5,u0u hx0 h0,Nat.mod_eq_of_lt hx0]
    ·cases h
   generalize x5*2 ^ (64 - x2 - w)%2 ^ 64=res at *
   generalize 64 - x2 - w=sh at *
   generalize 64 - x2=sh2 at *
   simp [w6,w7,s5,-O0]
   exact ⟨res,_,b5,rfl,hres,u5,(((f1.trans f2).trans f3).trans f4).trans f5,by omega,fin⟩
end Go.Dk

namespace Go.Dk
open Go Go.Dr
set_option maxRecDepth 100000
theorem Own.frX {h g:AH} {B id es n:Nat} {v:AV} {l:List AV} (s:Own B h es n v l) (f:FrX id h g) (hid:id<B):Own B g es n v l:=by
 refine ⟨s.1,?_⟩
 rcases s.2 with e | ⟨i,off,x,vs,e1,e2,e3,e4,e5⟩
 ·exact .inl e
 ·exact .inr ⟨i,off,x,vs,e1,e2,Nat.lt_of_lt_of_le e3 f.next,by rw [f.get i e3 (by omega)];exact e4,e5⟩
theorem UnO.frB {h g:AH} {B id:Nat} {v:AV} {n:Nat} {b:List Nat} {at':Nat} {bad:Bool} (u:UnO h id v n b at' bad) (f:FrB B h g) (hid:id<B) (hv:∀ i,j9 v=some i→i<B):UnO g id v n b at' bad:=by
 refine ⟨by rw [f.get _ hid,u.cells],Nat.lt_of_lt_of_le u.lt f.next,⟨u.sl.1,?_⟩,u.ne⟩
 rcases u.sl.2 with e | ⟨i,off,cap,x,vs,ro,e1,e2,e3,e4,e5,e6⟩
 ·exact .inl e
 ·exact .inr ⟨i,off,cap,x,vs,ro,e1,Nat.lt_of_lt_of_le e2 f.next,e3,by rw [f.get i (hv i (by rw [e1];rfl))];exact e4,e5,e6⟩
def p0l (bs:A5) (l0:List Smp) (z:A5) (j:Nat) (r:List Smp) (at':Nat) (step:Int):Prop :=
 r=l0.take j∧at'≤bs.length∧((j=0∧step=0∧bs.drop at'=b0O l0++z)∨(0<j∧∃ t w,l0[j - 1]? = some (t,w)∧bs.drop at'=e0L t w step (l0.drop j)++z))
def s0G (bs:A5) (l0:List Smp) (z:A5) (j:Nat) (T:Int) (V:Nat) (at':Nat) (bad:Bool) (step:Int):Prop :=
 bad=false∧l0[j]? = some (T,V)∧at'≤bs.length∧bs.drop at'=e0L T V step (l0.drop (j+1))++z
def a0B (l0:List Smp) (z:A5) (bs:A5) (cnt:Nat):Prop:=SmpR l0∧l0.length=cnt∧bs=b0O l0++z
theorem i0n {α:Type} {l:List α} {j:Nat} {x:α} (h:l[j]? = some x):l.drop j=x::l.drop (j+1):=by
 obtain ⟨h1,h2⟩:=List.getElem?_eq_some_iff.1 h
 rw [List.drop_eq_getElem_cons h1,h2]
theorem j0y {bs:A5} {cnt:Nat} {r:List Smp} {at':Nat} {step:Int} (h0:0<cnt) (hJ:∀ l0 z,a0B l0 z bs cnt→p0l bs l0 z 0 r at' step) {x1 x2:Nat} {b1 b2:Bool}
  (h1:C9 bs at' 64=some x1∧b1=false∨C9 bs at' 64=none∧b1=true∧x1=0) (h2:C9 bs (at'+64) 64=some x2∧b2=b1∨C9 bs (at'+64) 64=none∧b2=true∧x2=0) :
  ∀ l0 z,a0B l0 z bs cnt→s0G bs l0 z 0 (b9 .i64 (x1:Int)) x2 (at'+64+64) b2 0:=by
 intro l0 z hk
 obtain ⟨hr,hle,hc⟩:=hJ l0 z hk
 obtain ⟨hR,hlen,_⟩:=hk
 rcases hc with ⟨_,_,hd⟩ | ⟨h,_⟩
 rotate_left
 ·omega
 cases l0 with
 | nil=>simp at hlen;omega
 | cons x l =>
  obtain ⟨t,w⟩:=x
  rw [b0O,List.append_assoc,List.append_assoc] at hd
  obtain ⟨p1,p2,p3⟩:=M7 hd hle
  obtain ⟨q1,q2,q3⟩:=M7 p2 p3
  obtain ⟨ht,hw⟩:=hR (t,w) (by simp)
  simp only at ht hw
  have hu:=l06 t
  rw [Nat.mod_eq_of_lt hu] at p1
  rw [Nat.mod_eq_of_lt hw] at q1
  rw [p1] at h1
  rw [q1] at h2
  rcases h1 with ⟨h1,rfl⟩ | ⟨h,_⟩
  ·rcases h2 with ⟨h2,rfl⟩ | ⟨h,_⟩
   ·cases h1
    cases h2
    have:b9 .i64 (u64 t:Int)=t:=by rw [C5];unfold u64;omega
    rw [this]
    exact ⟨rfl,rfl,q3,q2⟩
   ·cases h
  ·cases h
theorem w0C {bs:A5} {cnt j:Nat} {r:List Smp} {at':Nat} {step:Int} (hj:j+1<cnt) (hJ:∀ l0 z,a0B l0 z bs cnt→p0l bs l0 z (j+1) r at' step) {t:Int} {w:Nat} (hr:r[j]? = some (t,w))
  {n:Int} {a1 a2 x:Nat} {b1 b2:Bool} (h1:b0U bs at'=some (n,a1)∧b1=false∨b0U bs at'=none∧b1=true) (h2:v0Y bs a1 b1 x a2 b2) :
  ∀ l0 z,a0B l0 z bs cnt→s0G bs l0 z (j+1) (b9 .i64 (t+b9 .i64 (step+n))) (w ^^^ x) a2 b2 (b9 .i64 (step+n)):=by
 intro l0 z hk
 obtain ⟨hrt,hle,hc⟩:=hJ l0 z hk
 obtain ⟨hR,hlen,_⟩:=hk
 rcases hc with ⟨h,_⟩ | ⟨_,t0,w0,hp,hd⟩
 ·omega
 rw [Nat.add_sub_cancel] at hp
 have:l0[j]? = some (t,w):=by
  rw [hrt,List.getElem?_take_of_lt (by omega)] at hr
  exact hr
 rw [hp] at this
 cases this
 obtain ⟨⟨t',w'⟩,hx⟩:=j7 (l:=l0) (j:=j+1) (by omega)
 obtain ⟨ht',hw'⟩:=hR _ (List.mem_of_getElem? hx)
 obtain ⟨ht0,hw0⟩:=hR _ (List.mem_of_getElem? hp)
 simp only at ht' hw' ht0 hw0
 rw [i0n hx,e0L,List.append_assoc,List.append_assoc] at hd
 have hrg:∀ y,-9223372036854775808≤b9 .i64 y∧b9 .i64 y<9223372036854775808:=fun y=>by rw [C5];omega
 obtain ⟨a',e1,e2,e3⟩:=v0K hd hle (hrg _)
 rw [e1] at h1
 rcases h1 with ⟨h1,rfl⟩ | ⟨h,_⟩
 ·simp only [Option.some.injEq,Prod.mk.injEq] at h1
  obtain ⟨rfl,rfl⟩:=h1
  obtain ⟨f1,f2,f3,f4⟩:=h2.2 _ _ (Nat.xor_lt_two_pow hw' hw0) rfl e3 e2
  subst f1
  have s1:b9 .i64 (step+b9 .i64 (b9 .i64 (t' - t) - step))=b9 .i64 (t' - t):=by
   simp only [C5]
   omega
  have s2:b9 .i64 (t+b9 .i64 (t' - t))=t':=by
   simp only [C5]
   omega
  have s3:w ^^^ (w' ^^^ w)=w':=by rw [Nat.xor_comm w',← Nat.xor_assoc,Nat.xor_self,Nat.zero_xor]
  rw [s1,s2,s3]
  exact ⟨f2,hx,f4,f3⟩
 ·cases h
theorem q0x {bs:A5} {cnt j:Nat} {r:List Smp} {at' a2:Nat} {step st2:Int} {T:Int} {V:Nat} (hJ:∀ l0 z,a0B l0 z bs cnt→p0l bs l0 z j r at' step)
  (hN:∀ l0 z,a0B l0 z bs cnt→s0G bs l0 z j T V a2 false st2):∀ l0 z,a0B l0 z bs cnt→p0l bs l0 z (j+1) (r++[(T,V)]) a2 st2:=by
 intro l0 z hk
 obtain ⟨rfl,_⟩:=hJ l0 z hk
 obtain ⟨_,h1,h2,h3⟩:=hN l0 z hk
 exact ⟨(u9 l0 j _ h1).symm,h2,.inr ⟨by omega,T,V,by simpa using h1,h3⟩⟩
def IsS (b:List Nat) (l:List Smp):Prop:=SmpR l∧a0S l=true∧P0 l=b
theorem IsS.k {b:List Nat} {l:List Smp} (h:IsS b l):∃ z,a0B l z (j5 (b.drop 2)) (beV (b.take 2))∧2≤b.length∧beV (b.take 2)≤65535:=by
 obtain ⟨h1,h2,rfl⟩:=h
 have hl:l.length≤65535:=by simp [a0S] at h2;omega
 obtain ⟨z,hz⟩:=r0X (b0O l)
 have e1:(P0 l).take 2=be 2 l.length:=by rw [P0,List.take_left' (by simp)]
 have e2:(P0 l).drop 2=Z5 (b0O l):=by rw [P0,List.drop_left' (by simp)]
 have e3:beV (be 2 l.length)=l.length:=by rw [p04];omega
 refine ⟨z,⟨h1,?_,?_⟩,by simp [P0],by rw [e1,e3];exact hl⟩
 ·rw [e1,e3]
 ·rw [e2,hz]
def DecS (h:AH) (b:List Nat) (r:AV) (g:AH):Prop :=
 Fr h g∧((∃ l v,IsS b l∧(∀ l0,IsS b l0→l0=l)∧r=.tuple [v,.int .i64 0]∧Sl g 2 l.length v (l.flatMap smC))∨((∀ l0,¬ IsS b l0)∧r=.tuple [.nils,.int .i64 5]))
end Go.Dk

namespace Go.Dk
open Go Go.Dr
set_option maxRecDepth 100000
theorem BoO.fr {B:Nat} {h g:AH} {id:Nat} {v:AV} {l:A5} (p:BoO B h id v l) (f:Fr h g):BoO B g id v l :=
 ⟨by rw [f.get _ p.lt,p.cells],Nat.lt_of_lt_of_le p.lt f.next,p.ge,p.own.fr f,p.ne⟩
theorem u0Z (x:Int):b9 .i64 (b9 .i64 x)=b9 .i64 x:=by
 have e:b9 .i64 x=(x+9223372036854775808)%18446744073709551616 - 9223372036854775808:=by rw [N8,IntKind.wrap_i64]
 exact wrap_i64 (by omega) (by omega)
theorem y0F (x:Bool):val [x]=x.toNat:=by cases x <;> rfl
theorem set_same {α:Type} {l:List α} {i:Nat} {x:α} (h:l[i]? = some x):l.set i x=l:=by
 apply List.ext_getElem?
 intro k
 rw [List.getElem?_set]
 split
 ·rename_i e
  subst e
  obtain ⟨h1,h2⟩:=List.getElem?_eq_some_iff.1 h
  rw [if_pos h1,h]
 ·rfl
theorem y0G {r:Nat} (hr:r<8):128/2 ^ r=2 ^ (7 - r):=by
 have:(128:Nat)=2 ^ (7 - r)*2 ^ r:=by rw [← Nat.pow_add,show 7 - r+r=7 from by omega]
 rw [this,Nat.mul_div_cancel _ (Nat.two_pow_pos _)]
def D0h (h:AH) (l:List Smp) (j:Nat) (g:AH):Prop:=∃ m step u,BoO h.next g h.next u m∧EncJ l j m step ∧
 (2≤j→∃ t1 w1 t2 w2,l[j - 1]? = some (t1,w1)∧l[j - 2]? = some (t2,w2)∧step=b9 .i64 (t1 - t2))∧(j=1→step=0)
theorem i0q {h:AH} {n:Nat} {v:AV} {l:List Smp} (s:Sl h 2 n v (l.flatMap smC)) (hn:n≤2 ^ 40) (hv:∀ x ∈ l,x.2<2 ^ 64) :
  Ev P SI (.fn a0Y) [v] h (y04 h l):=by
 refine k8 n0g rfl rfl ?_
 have hl:=i0r s
 unfold y04
 by_cases hc:a0S l=true
 case neg =>
  have hc':a0S l=false:=by simpa using hc
  simp [d0o,j0B s hn,hc']
  exact .refl _
 have hn2:n≤65535:=by
  simp [a0S] at hc
  omega
 have hsl:=j0Z l hv
 simp [d0o,j0B s hn,hc,s.len]
 have f0:=Fr.push (.refl h) (.cells [.nils] false)
 have p0:BoO h.next (h.push (.cells [.nils] false)) h.next .nils []:=⟨b8 _,Nat.lt_succ_self _,Nat.le_refl _,Own.nil _ _,by simp [j9]⟩
 generalize hg0:h.push (.cells [.nils] false)=g0 at *
 refine D3 (Q:=fun q σ ds g=>q=.exit 0∧ds=[]∧σ 0=v∧σ 4=.ptr h.next 0∧Fr h g∧∃ u,BoO h.next g h.next u (b0O l)) ?_ ?_
 ·refine m8 (n:=n) (by rfl) (fun j σ ds g=>ds=[]∧σ 0=v∧σ 4=.ptr h.next 0∧σ 15=v∧σ 16=.int .i64 (n:Int)∧Fr h g∧D0h h l j g) (by omega) (by simp)
   ⟨rfl,by simp,by simp,by simp,by simp,f0,[],0,.nils,p0,.inl ⟨rfl,rfl,rfl⟩,fun h=>by omega,fun h=>by omega⟩ (fun j σ ds g hJ=>by simp [hJ.2.2.2.2.1]) ?_ ?_
  ·rintro j σ ds g hj hi ⟨rfl,e0,e4,e12,e13,fr,m,step,u,po,hJ,hst,hs1⟩
   obtain ⟨⟨t,w⟩,hx⟩:=j7 (l:=l) (j:=j) (by omega)
   have hm:=hJ.len
   have hw:w<2 ^ 64:=hv _ (List.mem_of_getElem? hx)
   obtain ⟨id,o,a1,a2,_⟩:=M3 (s.fr fr) hx
   have f1:=Fr.push (.refl g) (.cells [.int .i64 t,.int .u64 (w:Int)] false)
   have gg:(g.push (.cells [.int .i64 t,.int .u64 (w:Int)] false)).get g.next=some (.cells [.int .i64 t,.int .u64 (w:Int)] false):=b8 _
   have gn:(g.push (.cells [.int .i64 t,.int .u64 (w:Int)] false)).next=g.next+1:=rfl
   have hpn:h.next<g.next:=po.lt
   have hun:j9 u≠some g.next:=fun e=>by have:=Sl.idLt po.own.sl e;omega
   have hdrop:l.drop j=(t,w)::l.drop (j+1):=by
    obtain ⟨h1,h2⟩:=List.getElem?_eq_some_iff.1 hx
    rw [List.drop_eq_getElem_cons h1,h2]
   generalize hg1:g.push (.cells [.int .i64 t,.int .u64 (w:Int)] false)=g1 at *
   have po1:=po.fr f1
   have ld0:load1 g1 g.next 0=.ok (.int .i64 t):=b7 gg
   have ld1:load1 g1 g.next 1=.ok (.int .u64 (w:Int)):=b7 gg
   simp [smC] at a2
   have frOf:∀ {g2:AH},FrB h.next g1 g2→Fr h g2:=fun fb=>⟨Nat.le_trans (fr.trans f1).next fb.next,fun i hi=>by rw [fb.get i hi,(fr.trans f1).get i hi]⟩
   rcases hJ with ⟨rfl,rfl,rfl⟩ | ⟨h0,t0,w0,hp,hcat⟩
   ·have wu:=g0N t
    have a1':E9 2 v (.int .i64 0)=.ok (.ptr id o):=a1
    simp [e0,e4,e12,e13,hi,a1',a2,hg1,ld0,wu]
    refine (F8 (n:=u64 t) (cnt:=64) po1 (l06 t) (by omega) (by simp)).mono ?_
    rintro r g2 ⟨rfl,fb2,u2,p2,k2⟩
    have ld1':load1 g2 g.next 1=.ok (.int .u64 (w:Int)):=by
     have:=k2.get g.next (by omega) (by omega) hun
     rw [gg] at this
     exact b7 this
    simp [ld1',e4]
    refine (F8 (n:=w) (cnt:=64) p2 hw (by omega) (by simp)).mono ?_
    rintro r g3 ⟨rfl,fb3,u3,p3,k3⟩
    simp [e0,e4,e12,e13,hi]
    refine ⟨frOf (fb2.trans fb3),_,0,u3,p3,.inr ⟨by omega,t,w,by simpa using hx,?_⟩,fun h=>by omega,fun _=>rfl⟩
    rw [show l=(t,w)::l.drop 1 from by simpa using hdrop]
    simp [b0O]
   ·obtain ⟨j,rfl⟩:∃ i,j=i+1:=⟨j - 1,by omega⟩
    obtain ⟨id',o',b1,_,b2,b3,hidlt⟩:=M3 ((s.fr fr).fr f1) hp
    rw [Nat.add_sub_cancel] at b1
    simp only at b2 b3
    have hw0:w0<2 ^ 64:=hv _ (List.mem_of_getElem? hp)
    have xx:=l0n (P:=P) j0 false w w0 hw hw0
    have hwx:w ^^^ w0<2 ^ 64:=Nat.xor_lt_two_pow hw hw0
    have w1:b9 .i64 (((j+1:Nat):Int) - 1)=(j:Int):=by rw [wrap_i64 (by omega) (by omega)];omega
    have tail:∀ (g2:AH) (u2:AV),FrB h.next g1 g2→BoO h.next g2 h.next u2 (m++a0q (b9 .i64 (b9 .i64 (t - t0) - step)))→BoF h.next u u2 g1 g2 →
      load1 g2 g.next 1=.ok (.int .u64 (w:Int))∧load1 g2 id' (o'+1)=.ok (.int .u64 (w0:Int)) ∧
      Ev P SI (.fn T6) [.ptr h.next 0,.int .u64 ((w ^^^ w0:Nat):Int)] g2 fun r g3=>r=.tuple []∧Fr h g3∧∃ m' step' u',BoO h.next g3 h.next u' m'∧EncJ l (j+1+1) m' step'∧step'=b9 .i64 (t - t0):=by
     intro g2 u2 fb2 p2 k2
     have F2:=frOf fb2
     refine ⟨?_,?_,?_⟩
     ·have:=k2.get g.next (by omega) (by omega) hun
      rw [gg] at this
      exact b7 this
     ·obtain ⟨id2,o2,c1,_,_,c3,_⟩:=M3 (s.fr F2) hp
      rw [Nat.add_sub_cancel,b1] at c1
      cases c1
      exact c3
     ·have hlen2:(m++a0q (b9 .i64 (b9 .i64 (t - t0) - step))).length≤2 ^ 34:=by
       have:=l07 (b9 .i64 (b9 .i64 (t - t0) - step))
       rw [List.length_append]
       omega
      refine (p0U p2 hwx hlen2).mono ?_
      rintro r g3 ⟨rfl,fb3,u3,p3,k3⟩
      refine ⟨rfl,frOf (fb2.trans fb3),_,_,u3,p3,.inr ⟨by omega,t,w,hx,?_⟩,rfl⟩
      rw [hdrop,e0L] at hcat
      rw [← hcat]
      simp
    by_cases hj0:j=0
    ·subst hj0
     have hs0:=hs1 rfl
     subst hs0
     have b1':E9 2 v (.int .i64 0)=.ok (.ptr id' o'):=b1
     have a1':E9 2 v (.int .i64 1)=.ok (.ptr id o):=a1
     have w2:b9 .i64 (b9 .i64 (t - t0) - 0)=b9 .i64 (t - t0):=by rw [Int.sub_zero];exact u0Z _
     rw [w2] at tail
     simp [e0,e4,e12,e13,hi,a1',a2,hg1,ld0,b1',b2]
     refine (i04 po1 (by omega)).mono ?_
     rintro r g2 ⟨rfl,fb2,u2,p2,k2⟩
     obtain ⟨q1,q2,q3⟩:=tail g2 u2 fb2 p2 k2
     generalize w ^^^ w0=wx at *
     simp [e0,e4,q1,q2,b1',xx,show b9 .i64 0=0 from rfl,-W4]
     refine q3.mono ?_
     rintro r g3 ⟨rfl,F3,m',st',u3,p3,e3,hst3⟩
     simp [e0,e4,e12,e13,hi]
     exact ⟨F3,m',st',u3,p3,e3,fun _=>⟨t,w,t0,w0,by simpa using hx,by simpa using hp,hst3⟩,fun h=>by omega⟩
    ·obtain ⟨i,rfl⟩:∃ i,j=i+1:=⟨j - 1,by omega⟩
     obtain ⟨t1,w1',t2,w2',hp1,hp2,hs⟩:=hst (by omega)
     rw [hp1] at hp
     cases hp
     subst hs
     obtain ⟨idq,oq,d1,_,d2,_,_⟩:=M3 ((s.fr fr).fr f1) hp2
     rw [show i+1+1 - 2=i from by omega] at d1
     simp only at d2
     have c0:¬ ((i+1+1:Nat):Int)=0:=by omega
     have c1:¬ ((i+1+1:Nat):Int)=1:=by omega
     have w2:b9 .i64 (((i+1+1:Nat):Int) - 2)=(i:Int):=by rw [wrap_i64 (by omega) (by omega)];omega
     generalize hjj:((i+1+1:Nat):Int)=j1 at *
     generalize hj2:((i+1:Nat):Int)=j2 at *
     simp [e0,e4,e12,e13,hi,a1,a2,hg1,ld0,b1,b2,c0,c1,w1,w2,d1,d2]
     refine (i04 po1 (by omega)).mono ?_
     rintro r g2 ⟨rfl,fb2,u2,p2,k2⟩
     obtain ⟨q1,q2,q3⟩:=tail g2 u2 fb2 p2 k2
     generalize w ^^^ w0=wx at *
     simp [e0,e4,q1,q2,b1,w1,xx,-W4]
     refine q3.mono ?_
     rintro r g3 ⟨rfl,F3,m',st',u3,p3,e3,hst3⟩
     simp [e0,e4,e12,e13,hi]
     exact ⟨F3,m',st',u3,p3,e3,fun _=>⟨t,w,t0,w0,by simpa using hx,by simpa using hp1,hst3⟩,fun h=>by omega⟩
  ·rintro σ ds g ⟨rfl,e0,e4,e12,e13,fr,m,step,u,po,hJ,_⟩
   rw [← hl] at hJ
   have hm:=hJ.fin
   subst hm
   simp [e0,e4]
   exact ⟨fr,u,po⟩
 ·rintro q σ ds g ⟨rfl,rfl,e0,e4,fr,u,po⟩
  generalize hbits:b0O l=bits at *
  have hN:bits.length≤150*65535:=by omega
  have wn:b9 .u64 (n:Int)=(n:Int):=wrap_u64 (by omega) (by omega)
  have f2:=Fr.push (.refl g) (.cells (by8 (be 2 n)) false)
  have ow:=Own.fresh (B:=g.next) (h:=g) (es:=1) (n:=2) (l:=by8 (be 2 n)) true (Nat.le_refl _) (by simp)
  have su:=po.own.sl
  have hug:load1 (g.push (.cells (by8 (be 2 n)) false)) h.next 0=.ok u:=by
   have:=f2.get _ po.lt
   rw [po.cells] at this
   exact b7 this
  generalize hg2:g.push (.cells (by8 (be 2 n)) false)=g2 at *
  simp [e0,e4,s.len,wn,t0l n (by omega),hg2,hug,su.len]
  refine m8 (n:=bits.length) (by rfl) (fun j σ ds g'=>ds=[]∧σ 89=u∧σ 90=.int .i64 (bits.length:Int)∧FrB g.next g2 g'∧∃ b,σ 7=b∧Own g.next g' 1 (2+(j+7)/8) b (by8 (be 2 n++Z5 (bits.take j)))) (by omega) (by simp)
   ⟨rfl,by simp,by simp,.refl _ _,_,by simp;rfl,by simpa [Z5] using ow⟩ (fun j σ ds g hJ=>by simp [hJ.2.2.1]) ?_ ?_
  ·clear e0 e4
   rintro j σ ds g3 hj hi ⟨rfl,e89,e90,fb,b,e7,ob⟩
   have F3:Fr g g3:=⟨Nat.le_trans f2.next fb.next,fun i hi=>by rw [fb.get i hi,f2.get i hi]⟩
   obtain ⟨x,hx⟩:=j7 (l:=bits) (j:=j) hj
   obtain ⟨id,o,a1,a2,_⟩:=(su.fr F3).get1 (k:=.i64) (i:=(j:Int)) rfl hj (x:=.bool x) (by rw [boC,List.getElem?_map,hx];rfl)
   obtain ⟨r,hr⟩:∃ r,r=j%8:=⟨_,rfl⟩
   have hr8:r<8:=by omega
   have hrem:(j:Int).tmod 8=(r:Int):=by rw [hr];exact i0V _ 8
   have hlt:(bits.take j).length=j:=by simp;omega
   obtain ⟨Bt,hBt⟩:∃ Bt,Bt=if r=0 then Z5 (bits.take j)++[0] else Z5 (bits.take j):=⟨_,rfl⟩
   obtain ⟨y,hy1,hy2,hy3,hy4,hy5,hy6⟩:=o0U (bits.take j) [x] (by simp) (by rw [hlt];simp;omega) Bt (by rw [hBt,hr,hlt])
   rw [hlt,← hr] at hy3 hy6
   rw [hlt] at hy5
   rw [y0F,List.length_singleton,show 8 - r - 1=7 - r from by omega] at hy6
   have htk:bits.take (j+1)=bits.take j++[x]:=u9 bits j x hx
   rw [← htk] at hy6
   simp [e89,e90,hi,a1,a2]
   refine D3 (c:=.cond (.c (.bool (decide ((j:Int).tmod 8=0)))) _ _) (Q:=fun q σ ds g'=>q=.normal∧ds=[]∧σ 89=u∧σ 90=.int .i64 (bits.length:Int)∧σ 91=.int .i64 (j:Int)∧σ 8=.int .i64 (j:Int)∧σ 9=.bool x∧FrB g.next g2 g'∧∃ b,σ 7=b ∧
    Own g.next g' 1 (2+Bt.length) b (by8 (be 2 n++Bt))) ?_ ?_
   ·by_cases h0:r=0
    ·rw [if_pos h0] at hBt
     obtain ⟨v',g',ap,o1,f1,p1,p2⟩:=ob.snoc2 (x:=[.int .u8 0]) (bytes:=1) (Nat.le_trans F3.next (Nat.le_refl _)) rfl rfl (by omega) (by omega)
     simp [hrem,h0,e7,i9,ap,e89,e90,hi]
     refine ⟨fb.trans f1,?_⟩
     have e1:2+(Z5 (bits.take j)++[0]).length=2+(j+7)/8+1:=by
      rw [List.length_append,d00,hlt]
      simp
      omega
     rw [hBt,e1,← List.append_assoc,M1 (be 2 n++Z5 (bits.take j))]
     exact o1
    ·rw [if_neg h0] at hBt
     simp [hrem,h0,e7,e89,e90,hi]
     refine ⟨fb,?_⟩
     rw [hBt,d00,hlt]
     exact ob
   clear fb ob e7 b e89 e90 hi a2 F3
   rintro q σ ds g4 ⟨rfl,rfl,e89,e90,hi,e8,e9,fb,b,e7,ob⟩
   rw [H9]
   have hw:b9 .i64 (((2+Bt.length:Nat):Int) - 1)=((2+Bt.length - 1:Nat):Int):=by rw [wrap_i64 (by omega) (by omega)];omega
   obtain ⟨W,hW⟩:∃ W,W=2+Bt.length:=⟨_,rfl⟩
   rw [← hW] at ob hw
   obtain ⟨wl,hwl⟩:∃ wl,wl=W - 1:=⟨_,rfl⟩
   rw [← hwl] at hw
   have hlast:(be 2 n++Bt)[wl]? = some y:=by
    rw [List.getElem?_append_right (by simp;omega),r8,show wl - 2=Bt.length - 1 from by omega]
    exact hy1
   have hset:∀ z,(be 2 n++Bt).set wl z=be 2 n++Bt.set (Bt.length - 1) z:=by
    intro z
    rw [List.set_append_right _ _ (by simp;omega),r8,show wl - 2=Bt.length - 1 from by omega]
   have hlen1:2+(j+1+7)/8=W:=by omega
   cases x with
   | false =>
    simp [e9,e7,e8,e89,e90,hi]
    refine ⟨fb,?_⟩
    rw [hlen1,hy6]
    simp only [Bool.toNat_false,Nat.zero_mul,Nat.add_zero]
    rw [set_same hy1]
    exact ob
   | true =>
    simp only [Bool.toNat_true,Nat.one_mul] at hy6
    have s1:=s0L (P:=P) t6 true .i64 128 r (by omega)
    rw [y0G hr8,show ((128:Nat):Int)=128 from rfl] at s1
    have h2r:2 ^ (7 - r)<256:=Nat.pow_lt_pow_right (a:=2) (m:=7 - r) (n:=8) (by omega) (by omega)
    have s2:=z0O (P:=P) t6 false y (2 ^ (7 - r)) hy2 h2r
    rw [p0q _ _ (8 - r) hy3 (Nat.pow_lt_pow_right (by omega) (by omega))] at s2
    generalize 2 ^ (7 - r)=pr at *
    obtain ⟨id2,o2,g5,z1,z2,z3,z4,z5,z6⟩:=ob.store2 (k:=.i64) (i:=(wl:Int)) rfl (show wl<W by omega) (c:=0) (by omega) (x:=.int .u8 ((y+pr:Nat):Int)) rfl
    obtain ⟨id3,o3,k1,k2,_⟩:=ob.sl.get1 (k:=.i64) (i:=(wl:Int)) rfl (show wl<W by omega) (x:=.int .u8 (y:Int)) (by rw [a0g,hlast];rfl)
    rw [z1] at k1
    cases k1
    rw [Nat.mul_one,Nat.add_zero,u0n,hset] at z3
    rw [Nat.add_zero] at z2
    rw [← hy6] at z3
    generalize y+pr=ypr at *
    simp [e9,e7,e8,e89,e90,hi,ob.sl.len,ob.sl.same,hw,hrem,s1,s2,z1,z2,k2,-h07,-o01]
    exact ⟨fb.trans z4,by rw [hlen1];exact z3⟩
  ·rintro σ ds g3 ⟨rfl,e89,e90,fb,b,e7,ob⟩
   rw [List.take_length] at ob
   have F3:Fr g g3:=⟨Nat.le_trans f2.next fb.next,fun i hi=>by rw [fb.get i hi,f2.get i hi]⟩
   simp [e7]
   refine ⟨fr.trans F3,?_⟩
   rw [show (P0 l).length=2+(bits.length+7)/8 from by simp [P0,hbits],P0,hl,hbits]
   exact ob.sl
end Go.Dk
