/-
  Texts joined.
-/
import Derived.Test.YtkbddcapcjdenaaGreatDoorT10
import Derived.Test.YtkbddcapcjdenaaGreatDoorT6

namespace Go.Dk
open Go Go.Dr
set_option maxRecDepth 100000
theorem A0c (s:Txt) (h:AH):Z3 P (.iface H4 (.str s)) "dryrot/index.size" [] h=.ok (.enter d0x [.str s],h):=by kernel_rfl
theorem A0d (l:List AV) (h:AH):Z3 P (.iface l8 (.agg l)) "dryrot/index.size" [] h=.ok (.enter d0w [.agg l],h):=by kernel_rfl
theorem A0e (v:AV) (h:AH):Z3 P (.iface t8 v) "dryrot/index.size" [] h=.ok (.enter b05 [v],h):=by kernel_rfl
def itB:It→List Nat
 | .t s=>s.length%256::bT s
 | .w n k=>be k (n64 n)
 | .p l=>be 4 l.length++l.flatMap (be 4)
def n0x:It→Prop
 | .t s=>s.length≤2 ^ 29
 | .w _ k=>k≤8
 | .p l=>l.length≤2 ^ 29∧∀ x ∈ l,x<2 ^ 62
theorem a0C (l:List Nat):(l.flatMap (be 4)).length=4*l.length:=by
 induction l with
 | nil=>rfl
 | cons x l ih=>rw [List.flatMap_cons,List.length_append,r8,ih,List.length_cons];omega
theorem y0D {h:AH} {v:AV} {it:It} (hv:OkI h v it) (ho:n0x it):∃ f a,Z3 P v "dryrot/index.size" [] h=.ok (.enter f a,h)∧Ev P SI (.fn f) a h (fun r g=>r=.int .i64 ((itB it).length:Int)∧Fr h g):=by
 cases it with
 | t s =>
  cases hv
  refine ⟨_,_,A0c s h,?_⟩
  refine k8 i0m rfl rfl ?_
  have w:b9 .i64 (1+(s.length:Int))=1+(s.length:Int):=wrap_i64 (by omega) (by simp only [n0x] at ho;omega)
  have w':b9 .i64 ((s.length:Int)+1)=(s.length:Int)+1:=wrap_i64 (by omega) (by simp only [n0x] at ho;omega)
  simp [d0z,w,w',itB,bT,Fr.refl]
  omega
 | w n k =>
  cases hv
  refine ⟨_,_,A0d _ h,?_⟩
  refine k8 i0l rfl rfl ?_
  have stn:=l6 (h:=h) (n:=2) (z:=[.int .i64 0,.int .i64 0]) (l:=[.int .i64 n,.int .i64 (k:Int)]) rfl rfl rfl
  have m1:load1 (h.push (.cells [.int .i64 n,.int .i64 (k:Int)] false)) h.next 1=.ok (.int .i64 (k:Int)):=b7 (b8 _)
  simp [d0y,stn,m1,itB,r8]
  exact Fr.push (.refl h) _
 | p l =>
  obtain ⟨u,rfl,hs⟩:=hv
  refine ⟨_,_,A0e _ h,?_⟩
  refine k8 g08 rfl rfl ?_
  simp only [n0x] at ho
  have w1:b9 .i64 (4*(l.length:Int))=4*(l.length:Int):=wrap_i64 (by omega) (by omega)
  have w2:b9 .i64 (4+4*(l.length:Int))=4+4*(l.length:Int):=wrap_i64 (by omega) (by omega)
  simp [b06,hs.len,w1,w2,itB,r8,a0C,Fr.refl,-List.length_flatMap]
theorem B0P (s:Txt):F0 P (.iface H4 (.str s)) H4 true=.ok (.tuple [.str s,.bool true]):=by kernel_rfl
theorem B0Q (l:List AV):F0 P (.iface l8 (.agg l)) H4 true=.ok (.tuple [.str [],.bool false]):=by kernel_rfl
theorem B0R (v:AV):F0 P (.iface t8 v) H4 true=.ok (.tuple [.str [],.bool false]):=by kernel_rfl
theorem B0S (l:List AV):F0 P (.iface l8 (.agg l)) l8 true=.ok (.tuple [.agg l,.bool true]):=by kernel_rfl
theorem B0T (v:AV):F0 P (.iface t8 v) l8 true=.ok (.tuple [.agg [.int .i64 0,.int .i64 0],.bool false]):=by kernel_rfl
theorem B0U (v:AV):F0 P (.iface t8 v) t8 false=.ok v:=by kernel_rfl
theorem G8 (n:Nat) (hn:n<2 ^ 64):n64 (n:Int)=n:=by unfold n64;omega
theorem l0F (z:Int):b9 .u64 z=((n64 z:Nat):Int):=by
 unfold n64
 rw [m08,Int.toNat_of_nonneg (Int.emod_nonneg _ (by decide))]
theorem l0G (z:Int):n64 z<2 ^ 64:=by unfold n64;omega
theorem n0y {h:AH} {v:AV} {it:It} (hv:OkI h v it) (ho:n0x it):Ev P SI (.fn b0W) [v] h (fun r g=>Own h.next g 1 (itB it).length r (by8 (itB it))∧Fr h g):=by
 refine k8 l0d rfl rfl ?_
 cases it with
 | t s =>
  cases hv
  simp only [n0x] at ho
  have w:b9 .u8 (s.length:Int)=((s.length%256:Nat):Int):=by rw [u0G];omega
  obtain ⟨b,hb⟩:∃ b,s.length%256=b:=⟨_,rfl⟩
  rw [hb] at w
  have o1:=Own.fresh (B:=h.next) (h:=h) (es:=1) (n:=1) (l:=[.int .u8 (b:Int)]) true (Nat.le_refl _) rfl
  obtain ⟨v',g',e,o,f,p,q⟩:=o1.append_src (bytes:=1) (p0z s) (by simp) (Nat.le_succ _) (C8 _) (by omega) (by omega)
  simp [a0e,B0P,w,i9,e]
  have hgn:(h.push (.cells [.int .u8 (b:Int)] false)).next=h.next+1:=rfl
  refine ⟨?_,by have:=f.next;omega,fun i hi=>?_⟩
  ·have e2:itB (.t s)=b::bT s:=by simp [itB,hb]
   rw [e2]
   have e3:(b::bT s).length=1+s.length:=by simp [bT];omega
   rw [e3]
   exact o
  ·rw [f.get i hi,c7 (by omega)]
 | w n k =>
  cases hv
  have hk:k≤8:=ho
  have stn:=l6 (h:=h) (n:=2) (z:=[.int .i64 0,.int .i64 0]) (l:=[.int .i64 n,.int .i64 (k:Int)]) rfl rfl rfl
  have m0:load1 (h.push (.cells [.int .i64 n,.int .i64 (k:Int)] false)) h.next 0=.ok (.int .i64 n):=b7 (b8 _)
  have m1:load1 (h.push (.cells [.int .i64 n,.int .i64 (k:Int)] false)) h.next 1=.ok (.int .i64 (k:Int)):=b7 (b8 _)
  simp [a0e,B0Q,B0S,stn,m0,m1,l0F,l0v (n64 n) k (l0G n) hk]
  have o1:=Own.fresh (B:=h.next) (h:=h.push (.cells [.int .i64 n,.int .i64 (k:Int)] false)) (es:=1) (n:=k) (l:=by8 (be k (n64 n))) true (Nat.le_succ _) (by simp)
  refine ⟨?_,(Fr.push (.refl h) _).push _⟩
  simp only [itB,r8]
  exact o1
 | p l =>
  obtain ⟨u,rfl,hs⟩:=hv
  obtain ⟨hl1,hl2⟩:=ho
  have stn:=l6 (h:=h) (n:=2) (z:=[.int .i64 0,.int .i64 0]) (l:=[.int .i64 0,.int .i64 0]) rfl rfl rfl
  have w:b9 .u64 (l.length:Int)=((l.length:Nat):Int):=wrap_u64 (by omega) (by omega)
  have cp:=l0v l.length 4 (by omega) (by omega)
  have e4:((4:Nat):Int)=4:=rfl
  rw [e4] at cp
  simp [a0e,B0R,B0T,B0U,stn,hs.len,w,cp]
  have f1:Fr h ((h.push (.cells [.int .i64 0,.int .i64 0] false)).push (.cells (by8 (be 4 l.length)) false)):=(Fr.push (.refl h) _).push _
  have o1:=Own.fresh (B:=h.next) (h:=h.push (.cells [.int .i64 0,.int .i64 0] false)) (es:=1) (n:=4) (l:=by8 (be 4 l.length)) true (Nat.le_succ _) (by simp)
  refine m8 (n:=l.length) (by rfl) (fun j σ ds g=>ds=[]∧σ 41=u∧σ 42=.int .i64 (l.length:Int)∧Fr h g∧Own h.next g 1 (4+4*j) (σ 8) (by8 (be 4 l.length++(l.take j).flatMap (be 4)))) (by omega) (by simp) ⟨rfl,by simp,by simp,f1,by simpa using o1⟩ (fun j σ ds g hJ=>by simp [hJ.2.2.1]) ?_ ?_
  ·rintro j σ ds g hj hi ⟨rfl,e41,e42,fr,ho⟩
   obtain ⟨x,hx⟩:=j7 (l:=l) (j:=j) hj
   obtain ⟨id,o,a1,a2,_⟩:=(hs.fr fr).get1 (k:=.i64) (i:=(j:Int)) rfl hj (x:=.int .i64 (x:Int)) (by simp [nv,hx])
   have hx2:=hl2 x (List.mem_of_getElem? hx)
   have wx:b9 .u64 (x:Int)=((x:Nat):Int):=wrap_u64 (by omega) (by omega)
   have cx:=l0v x 4 (by omega) (by omega)
   rw [e4] at cx
   obtain ⟨ov,hov⟩:∃ ov,σ 8=ov:=⟨_,rfl⟩
   rw [hov] at ho
   have fp:=Fr.push (.refl g) (.cells (by8 (be 4 x)) false)
   have sx:=(Own.fresh (B:=0) (h:=g) (es:=1) (n:=4) (l:=by8 (be 4 x)) true (Nat.zero_le _) (by simp)).sl
   have hnn:=fr.next
   obtain ⟨v',g',e,o2,f,p,q⟩:=(ho.fr fp).append (bytes:=1) sx (by show h.next≤g.next+1;omega) (C8 _) (by omega) (by omega)
   simp [e41,e42,hi,hov,a1,a2,wx,cx,e]
   refine ⟨?_,?_⟩
   ·have hf:=f.next
    have gn:(g.push (.cells (by8 (be 4 x)) false)).next=g.next+1:=rfl
    exact ⟨by omega,fun i hi'=>by rw [f.get i hi',c7 (by omega)];exact fr.get i hi'⟩
   ·have e5:4+4*(j+1)=4+4*j+4:=by omega
    rw [e5,u9 _ _ _ hx,List.flatMap_append,← List.append_assoc,M1]
    simpa using o2
  ·rintro σ ds g ⟨rfl,e41,e42,fr,ho⟩
   rw [List.take_of_length_le (by omega)] at ho
   simp
   refine ⟨?_,fr⟩
   have e6:(be 4 l.length++l.flatMap (be 4)).length=4+4*l.length:=by rw [List.length_append,r8,a0C]
   simp only [itB,e6]
   exact ho
end Go.Dk

namespace Go.Dk
open Go Go.Dr
set_option maxRecDepth 100000
theorem r0Y:∀ (l:List Ep) (pos:Int) (prev:Option Ep),c0e pos prev l=true→∀ x ∈ l,R9 x.ls=true∧1≤x.sz∧x.sz≤2147483647
 | [],_,_,_,x,hx=>by cases hx
 | y::l,pos,prev,h,x,hx=>by
  simp only [c0e,Bool.and_eq_true] at h
  obtain ⟨⟨h1,h2⟩,h3⟩:=h
  rcases List.mem_cons.1 hx with rfl | hx
  ·simp only [ok1,Bool.and_eq_true,decide_eq_true_eq] at h1
   exact ⟨h1.1.1.1.1,h1.1.1.2,h1.1.2⟩
  ·exact r0Y l _ _ h3 x hx
theorem h0w {s:Txt} (h:a03 s=true):1≤s.length∧s.length≤40:=by
 unfold a03 at h
 simp only [Bool.and_eq_true,decide_eq_true_eq] at h
 exact h.1
theorem g0x:∀ (l:List Lab) (last:Txt),Q2 last l=true→∀ k ∈ l,k.1.length≤24∧k.2.length≤40∧k.1≠[]∧k.2≠[]∧Op.bytesLess last k.1=true
 | [],_,_,k,hk=>by cases hk
 | y::l,last,h,k,hk=>by
  simp only [Q2,Bool.and_eq_true] at h
  obtain ⟨h1,h2,h3,h4⟩:=h
  rcases List.mem_cons.1 hk with rfl | hk
  ·refine ⟨q0p h1,(h0w h2).2,fun e=>?_,fun e=>?_,h3⟩
   ·rw [e] at h1;simp [T0] at h1
   ·have:=(h0w h2).1;rw [e] at this;simp at this
  ·obtain ⟨a,b,c,d,e⟩:=g0x l y.1 h4 k hk
   exact ⟨a,b,c,d,c0H h3 e⟩
theorem k0P:∀ (l:List Lab) (last:Txt),Q2 last l=true→l.Pairwise fun a b=>Op.bytesLess a.1 b.1=true
 | [],_,_=>.nil
 | y::l,last,h=>by
  simp only [Q2,Bool.and_eq_true] at h
  obtain ⟨h1,h2,h3,h4⟩:=h
  refine List.pairwise_cons.2 ⟨fun b hb=>?_,k0P l y.1 h4⟩
  obtain ⟨_,_,_,_,e⟩:=g0x l y.1 h4 b hb
  exact e
theorem b0c {l:List Lab} (h:R9 l=true):l.length≤8∧∀ k ∈ l,k.1.length≤24∧k.2.length≤40∧k.1≠[]∧k.2≠[]:=by
 simp only [R9,Bool.and_eq_true,decide_eq_true_eq] at h
 exact ⟨h.1.2,fun k hk=>by
  obtain ⟨a,b,c,d,_⟩:=g0x l [] h.2 k hk
  exact ⟨a,b,c,d⟩⟩
theorem g0y {l:List Lab} (h:R9 l=true):b0Y l:=by
 simp only [R9,Bool.and_eq_true,decide_eq_true_eq] at h
 unfold b0Y
 refine List.pairwise_map.2 ((k0P l [] h.2).imp fun {a b} hab e=>?_)
 rw [e,d0A] at hab
 cases hab
theorem d0k {l:List Ep} (h:W9 l=true):∀ x ∈ l,R9 x.ls=true∧1≤x.sz∧x.sz≤2147483647:=by
 simp only [W9,Bool.and_eq_true] at h
 exact r0Y l 0 none h.1
theorem d0l {l:List Ep} (h:W9 l=true):∀ x ∈ l,x.ls.length≤8:=fun x hx=>(b0c (d0k h x hx).1).1
theorem u0v (T:List Txt):∀ (l:List Ep) (i:Nat) (e:(Nat×Nat)×Nat),e ∈ evE T i l→i≤e.2∧e.2<i+l.length
 | [],_,_,h=>by cases h
 | x::l,i,e,h=>by
  rcases List.mem_append.1 h with h | h
  ·obtain ⟨k,_,rfl⟩:=List.mem_map.1 h
   simp only [List.length_cons];omega
  ·have:=u0v T l (i+1) e h
   simp only [List.length_cons];omega
theorem p02 (T:List Txt):∀ (l:List Ep) (i:Nat),(∀ x ∈ l,x.ls.length≤8)→(evE T i l).length≤8*l.length
 | [],_,_=>by simp [evE]
 | x::l,i,h=>by
  have h1:=p02 T l (i+1) (fun y hy=>h y (List.mem_cons_of_mem _ hy))
  have h2:=h x List.mem_cons_self
  simp only [evE,evL,List.length_append,List.length_map,List.length_cons]
  omega
theorem C0c (l:List Ep) (h8:∀ x ∈ l,x.ls.length≤8) (p:Nat×Nat):(atK (c02 l) p).length≤8*l.length∧∀ x ∈ atK (c02 l) p,x<l.length:=by
 unfold c02
 rw [l0r]
 constructor
 ·rw [List.length_map]
  exact Nat.le_trans (List.length_filter_le _ _) (p02 _ l 0 h8)
 ·intro x hx
  obtain ⟨e,he,rfl⟩:=List.mem_map.1 hx
  have:=u0v _ l 0 e (List.mem_filter.1 he).1
  omega
theorem u0w (l:List Ep) (h8:∀ x ∈ l,x.ls.length≤8):((c02 l).map (·.1)).length≤8*l.length:=by
 rw [List.length_map]
 have h1:∀ (m:List ((Nat×Nat)×List Nat)) (e:(Nat×Nat)×Nat),(Q8 m e).length≤m.length+1:=by
  intro m e
  induction m with
  | nil=>simp [Q8]
  | cons x m ih=>unfold Q8;split <;> simp;omega
 have h2:∀ (evs:List ((Nat×Nat)×Nat)) (m:List ((Nat×Nat)×List Nat)),(evs.foldl Q8 m).length≤m.length+evs.length:=by
  intro evs
  induction evs with
  | nil=>intro m;simp
  | cons e evs ih =>
   intro m
   have:=ih (Q8 m e)
   have:=h1 m e
   simp only [List.foldl_cons,List.length_cons]
   omega
 have:=h2 (evE (Tof l) 0 l) []
 have:=p02 (Tof l) l 0 h8
 unfold c02 L6
 simp at *
 omega
theorem u0x (T:List Txt) (x:Ep) (h:x.ls.length≤8):(itE T x).length≤20:=by
 have:∀ l:List Lab,(l.flatMap fun k=>[It.w (pl T k.1:Int) 4,.w (pl T k.2:Int) 4]).length=2*l.length:=by
  intro l
  induction l with
  | nil=>rfl
  | cons y l ih=>rw [List.flatMap_cons,List.length_append,ih];simp;omega
 simp only [itE,List.cons_append,List.length_cons,List.length_append,this,List.length_nil]
 omega
theorem g00 {α β:Type} (f:α→List β) (M:Nat):∀ l:List α,(∀ x ∈ l,(f x).length≤M)→(l.flatMap f).length≤l.length*M
 | [],_=>by simp
 | x::l,h=>by
  rw [List.flatMap_cons,List.length_append,List.length_cons,Nat.add_mul]
  have h1:=h x List.mem_cons_self
  have h2:=g00 f M l (fun y hy=>h y (List.mem_cons_of_mem _ hy))
  omega
theorem o0V (l:List Ep) (hn:l.length≤10000) (h8:∀ x ∈ l,x.ls.length≤8):(a02 l).length≤700000:=by
 have h1:=l0q l h8
 have h2:=g00 (itE (Tof l)) 20 l (fun x hx=>u0x _ x (h8 x hx))
 have h3:∀ S:List (Nat×Nat),(itP (c02 l) S).length=3*S.length:=by
  intro S
  unfold itP
  induction S with
  | nil=>rfl
  | cons y S ih=>rw [List.flatMap_cons,List.length_append,ih];simp;omega
 have h4:=u0w l h8
 simp only [a02,List.length_append,List.length_map,List.length_singleton,h3,q0W]
 rw [List.length_map] at h4
 omega
theorem u0y {l:List Ep} (hn:l.length≤10000) (hc:W9 l=true):∀ it ∈ a02 l,n0x it∧(itB it).length≤400000:=by
 have h8:=d0l hc
 have w:∀ (n:Int) (k:Nat),k≤8→n0x (.w n k)∧(itB (.w n k)).length≤400000:=fun n k hk=>⟨hk,by simp only [itB,r8];omega⟩
 intro it hit
 simp only [a02,List.mem_append,List.mem_singleton,List.mem_map,List.mem_flatMap] at hit
 rcases hit with (((rfl | ⟨s,hs,rfl⟩) | rfl) | ⟨x,hx,hit⟩) | hit
 ·exact w _ _ (by omega)
 ·obtain ⟨y,hy,k,hk,hsk⟩:=(a01 l s).1 hs
  obtain ⟨x,hx,rfl⟩:=List.mem_map.1 hy
  obtain ⟨a,b,_⟩:=(b0c (d0k hc x hx).1).2 k hk
  have:s.length≤40:=by rcases hsk with rfl | rfl <;> omega
  exact ⟨by simp only [n0x];omega,by simp only [itB,bT,List.length_cons,List.length_map];omega⟩
 ·exact w _ _ (by omega)
 ·simp only [itE,List.cons_append,List.mem_cons,List.mem_append,List.mem_flatMap,List.not_mem_nil,or_false] at hit
  rcases hit with rfl | ⟨k,_,rfl | rfl⟩ | rfl | rfl | rfl <;> exact w _ _ (by omega)
 ·unfold itP at hit
  obtain ⟨p,_,hit⟩:=List.mem_flatMap.1 hit
  simp only [List.mem_cons,List.not_mem_nil,or_false] at hit
  rcases hit with rfl | rfl | rfl
  ·exact w _ _ (by omega)
  ·exact w _ _ (by omega)
  ·obtain ⟨a,b⟩:=C0c l h8 p
   refine ⟨⟨by omega,fun x hx=>by have:=b x hx;omega⟩,?_⟩
   simp only [itB,List.length_append,r8,a0C]
   omega
def R7 (l:List Ep):List Nat:=(a02 l).flatMap itB
theorem m06 {l:List Ep} (hn:l.length≤10000) (hc:W9 l=true):(R7 l).length≤2 ^ 39:=by
 have h1:=o0V l hn (d0l hc)
 have h2:=g00 itB 400000 (a02 l) (fun x hx=>(u0y hn hc x hx).2)
 unfold R7
 omega
def j0b (h:AH) (l:List Ep) (r:AV) (g:AH):Prop :=
 if W9 l=true then ∃ u,r=.tuple [u,.int .i64 0]∧Sl g 1 (R7 l).length u (by8 (R7 l))∧Fr h g else r=.tuple [.nils,.int .i64 1]∧Fr h g
theorem j0c {h:AH} {n:Nat} {v:AV} {xs:List (AV×Ep)} (s:Sl h 5 n v (xs.flatMap enC)) (hn:n≤10000) (he:∀ x ∈ xs,EnOk h x∧X0 x.2.ls∧x.2.ls.length<2 ^ 62) :
  Ev P SI (.fn a0W) [v] h (j0b h (xs.map (·.2))):=by
 refine k8 m0j rfl rfl ?_
 have hl:xs.length=n:=by have:=s.1;rw [b04] at this;omega
 simp only [f06,Q1]
 simp
 refine (p0h s (by omega) he).mono ?_
 rintro r g ⟨rfl,f1⟩
 cases hc:W9 (xs.map (·.2)) with
 | false =>
  simp [j0b,hc]
  exact f1
 | true =>
  have hll:(xs.map (·.2)).length≤10000:=by rw [List.length_map];omega
  have h8:=d0l hc
  simp
  refine (q0S (s.fr f1) (by omega) (fun x hx=>⟨(he x hx).1.fr f1,h8 x.2 (List.mem_map.2 ⟨x,hx,rfl⟩)⟩)).mono ?_
  rintro r g2 ⟨os,ho,f2,hok⟩
  generalize hits:a02 (xs.map (·.2))=its at hok
  have hits2:∀ it ∈ its,n0x it∧(itB it).length≤400000:=by rw [← hits];exact u0y hll hc
  have hnum:its.length≤700000:=by rw [← hits];exact o0V _ hll h8
  have hB:R7 (xs.map (·.2))=its.flatMap itB:=by rw [R7,hits]
  have hBl:=m06 hll hc
  have osl:=ho.sl.len
  have hlen:os.length=its.length:=hok.1
  have pre:∀ j,(((its.take j).flatMap itB).length)≤2 ^ 39:=fun j=>by
   have:(its.take j).flatMap itB <+: its.flatMap itB:=by
    conv=>rhs;rw [← List.take_append_drop j its]
    rw [List.flatMap_append]
    exact List.prefix_append _ _
   have:=this.length_le
   rw [hB] at hBl
   omega
  simp [osl,-List.length_flatMap]
  refine m8 (n:=os.length) (by rfl) (fun j σ ds g=>ds=[]∧σ 4=r∧σ 16=r∧σ 17=.int .i64 (os.length:Int)∧σ 5=.int .i64 (((its.take j).flatMap itB).length:Int)∧Fr g2 g) (by omega) (by simp) ⟨rfl,by simp,by simp,by simp,by simp,.refl _⟩ (fun j σ ds g hJ=>by simp [hJ.2.2.2.1]) ?_ ?_
  ·rintro j σ ds g hj hi ⟨rfl,e4,e16,e17,e5,fr⟩
   obtain ⟨ov,hov⟩:=j7 (l:=os) (j:=j) hj
   obtain ⟨it,hit⟩:=j7 (l:=its) (j:=j) (by omega)
   have okv:=OkI.fr fr (hok.2 j ov it hov hit)
   obtain ⟨id,o,a1,a2,_⟩:=(ho.sl.fr fr).get1 (k:=.i64) (i:=(j:Int)) rfl hj (x:=ov) (by simpa using hov)
   obtain ⟨f,a,e1,e2⟩:=y0D okv (hits2 it (List.mem_of_getElem? hit)).1
   simp [e16,hi,a1,a2,e1,-List.length_flatMap]
   refine e2.mono ?_
   rintro r' g' ⟨rfl,f'⟩
   have p1:=pre j
   have p2:=pre (j+1)
   have hsum:((its.take (j+1)).flatMap itB).length=((its.take j).flatMap itB).length+(itB it).length:=by
    rw [u9 _ _ _ hit,List.flatMap_append,List.length_append];simp
   have w:b9 .i64 ((((its.take j).flatMap itB).length:Int)+((itB it).length:Int))=(((its.take (j+1)).flatMap itB).length:Int):=by
    rw [hsum,wrap_i64 (by omega) (by omega)];omega
   obtain ⟨q1,hq1⟩:∃ q,((its.take j).flatMap itB).length=q:=⟨_,rfl⟩
   obtain ⟨q2,hq2⟩:∃ q,((its.take (j+1)).flatMap itB).length=q:=⟨_,rfl⟩
   rw [hq1] at w e5
   rw [hq2] at w
   simp [e4,e5,e16,e17,hi,w,hq2,-List.length_flatMap]
   exact fr.trans f'
  ·rintro σ ds g ⟨rfl,e4,e16,e17,e5,fr⟩
   rw [List.take_of_length_le (by omega),← hB] at e5
   obtain ⟨g3,mk,bf,f3⟩:=Buf.make (B:=h.next) (h:=g) (cap:=(R7 (xs.map (·.2))).length) (by have:=f1.next;have:=f2.next;have:=fr.next;omega) .i64 (by omega)
   obtain ⟨cap,hcap⟩:∃ q,(R7 (xs.map (·.2))).length=q:=⟨_,rfl⟩
   rw [hcap] at mk bf e5
   simp [e4,e5,mk,osl,-List.length_flatMap]
   refine m8 (n:=os.length) (by rfl) (fun j σ ds g'=>ds=[]∧σ 29=r∧σ 30=.int .i64 (os.length:Int)∧FrB h.next g3 g'∧Fr h g'∧Buf h.next g' (((its.take j).flatMap itB).length) cap (σ 8) (by8 ((its.take j).flatMap itB))∧j9 (σ 8)=some g.next∧(∀ i,i<g.next→g'.get i=g.get i)) (by omega) (by simp)
    ⟨rfl,by simp,by simp,.refl _ _,((f1.trans f2).trans fr).trans f3,by simpa [by8] using bf,by simp [j9],fun i hi=>f3.get i hi⟩ (fun j σ ds g hJ=>by simp [hJ.2.2.1]) ?_ ?_
   ·rintro j σ' ds g' hj hi ⟨rfl,e29,e30,fb,fh,bfj,hid,hst⟩
    obtain ⟨ov,hov⟩:=j7 (l:=os) (j:=j) hj
    obtain ⟨it,hit⟩:=j7 (l:=its) (j:=j) (by omega)
    have fr':Fr g g':=⟨by have:=f3.next;have:=fb.next;omega,hst⟩
    have okv:=OkI.fr (fr.trans fr') (hok.2 j ov it hov hit)
    obtain ⟨id,o,a1,a2,_⟩:=(ho.sl.fr (fr.trans fr')).get1 (k:=.i64) (i:=(j:Int)) rfl hj (x:=ov) (by simpa using hov)
    obtain ⟨bv,hbv⟩:∃ bv,σ' 8=bv:=⟨_,rfl⟩
    rw [hbv] at bfj hid
    simp [e29,hi,a1,a2,-List.length_flatMap]
    refine (n0y okv (hits2 it (List.mem_of_getElem? hit)).1).mono ?_
    rintro r' g4 ⟨ho4,f4⟩
    have hsum:((its.take (j+1)).flatMap itB).length=((its.take j).flatMap itB).length+(itB it).length:=by
     rw [u9 _ _ _ hit,List.flatMap_append,List.length_append];simp
    have hle:((its.take (j+1)).flatMap itB).length≤cap:=by
     have:(its.take (j+1)).flatMap itB <+: its.flatMap itB:=by
      conv=>rhs;rw [← List.take_append_drop (j+1) its]
      rw [List.flatMap_append]
      exact List.prefix_append _ _
     have:=this.length_le
     rw [← hB,hcap] at this
     exact this
    obtain ⟨bv',g5,b1,b2,b3,b4,b5,b6⟩:=(bfj.fr f4).append (x:=r') ho4.sl.cells (by simp) (C8 _) (by omega)
    simp [hbv,b1,e29,e30,hi,-List.length_flatMap]
    refine ⟨?_,?_,?_,b5.trans hid,fun i hi'=>?_⟩
    ·exact fb.trans ((f4.b (by have:=fh.next;omega)).trans b3)
    ·exact ⟨by have:=fh.next;have:=f4.next;omega,fun i hi'=>by rw [b3.get i hi',f4.get i (by have:=fh.next;omega)];exact fh.get i hi'⟩
    ·rw [hsum,u9 _ _ _ hit,List.flatMap_append,M1]
     rw [show [it].flatMap itB=itB it by simp];exact b2
    ·rw [b6 i (by rw [hid];intro e;cases e;omega),f4.get i (by have:=fr'.next;omega)]
     exact hst i hi'
   ·rintro σ' ds g' ⟨rfl,e29,e30,fb,fh,bfj,hid,hst⟩
    rw [List.take_of_length_le (by omega),← hB] at bfj
    simp [j0b,hc]
    exact ⟨bfj.sl,fh⟩
end Go.Dk
