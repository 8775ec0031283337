/-
  Texts joined.
-/
import Derived.Test.YtnapechhagnmaaaGreatDoorT15

namespace Go.Dk
open Go Go.Dr
set_option maxRecDepth 100000
def a0c (hd:Nat) (lv:AV) (xs:List Rh) (i:Nat):Prop:=i≠hd∧s7 lv≠some i∧∀ x ∈ xs,x.m≠i
structure FrX (B hd:Nat) (h g:AH):Prop where
 next:h.next≤g.next
 get:∀ i,i<B→i≠hd→g.get i=h.get i
theorem FrX.trans {B hd:Nat} {h g k:AH} (a:FrX B hd h g) (b:FrX B hd g k):FrX B hd h k:=⟨Nat.le_trans a.next b.next,fun i hi hne=>(b.get i hi hne).trans (a.get i hi hne)⟩
theorem FrX.of {B hd:Nat} {h g:AH} (a:FrB B h g):FrX B hd h g:=⟨a.next,fun i hi _=>a.get i hi⟩
def p0P (B t:Nat) (h:AH) (hd:Nat) (lv:AV) (xs:List Rh) (l:List Lab) (s:Smp) (r:AV) (g:AH):Prop :=
 r=.tuple []∧FrX B hd h g∧∃ lv' xs',HeadOk B (t+2) g hd lv' xs'∧xs'.map M1=J8 (xs.map M1) l [s]∧∀ i,i<h.next→a0c hd lv xs i→g.get i=h.get i∧a0c hd lv' xs' i
theorem j0H {B t t0 hd q:Nat} {h0 h:AH} {lv lv0:AV} {xs xs0:List Rh} {y:Rh} {l:List Lab} {s:Smp} (H:HeadOk B t h hd lv xs) (hy:xs[q]? = some y) (hs:-9223372036854775808≤s.1∧s.1≤9223372036854775807)
  (f:FrX B hd h0 h) (fk:∀ i,i<h0.next→a0c hd lv0 xs0 i→h.get i=h0.get i∧a0c hd lv xs i) (ht:t+1≤t0+2) (hc:(xs.set q { y with zs:=c0n y.zs s }).map M1=J8 (xs0.map M1) l [s]) :
  ∃ id o g,load1 h hd 1=.ok lv∧G1 1 lv (.int .i64 (q:Int))=.ok (.ptr id o)∧load1 h id o=.ok (.ptr y.r 0)∧load1 h y.r 1=.ok (.map y.m)∧b0c P d7 h (.map y.m) (.int .i64 s.1) (.int .u64 (s.2:Int))=.ok g ∧
   p0P B t0 h0 hd lv0 xs0 l s (.tuple []) g:=by
 obtain ⟨g,u1,u2,u3,u4,u5⟩:=m0A H hy hs
 have hql:=(List.getElem?_eq_some_iff.1 hy).1
 obtain ⟨id,o,q1,q2,_⟩:=H.list.sl.get1 (k:=.i64) (i:=(q:Int)) rfl hql (show (xs.map Rh.p)[q]? = some (.ptr y.r 0) by rw [List.getElem?_map,hy];rfl)
 have l1:load1 h hd 1=.ok lv:=by rw [d6 H.cell];rfl
 have l2:load1 h y.r 1=.ok (.map y.m):=by rw [d6 (H.rows y (List.mem_of_getElem? hy)).at_.cell];rfl
 exact ⟨id,o,g,l1,q1,q2,l2,u1,rfl,f.trans (.of u2),lv,_,u4.le ht,hc,fun i h1 h2=>by
  obtain ⟨k1,k2,k3,k4⟩:=fk i h1 h2
  have hym:=k4 y (List.mem_of_getElem? hy)
  refine ⟨by rw [u5 i (fun e=>hym e.symm),k1],k2,k3,fun x hx=>?_⟩
  rcases List.mem_or_eq_of_mem_set hx with hx | rfl
  ·exact k4 x hx
  ·exact hym⟩
theorem f0n:∀ l:List Lab,b9 (l.flatMap M2)=true
 | []=>rfl
 | x::l=>by
  rw [List.flatMap_cons]
  show (true&&(true&&b9 (l.flatMap M2)))=true
  rw [f0n l];rfl
theorem j0I {xs:List Rh} {l:List Lab} {q:Nat} (hp:PlI xs l q q):∀ i z,i<q→(xs.map M1)[i]? = some z→t7 z.1 l<0:=fun i z hi hz=>by
 rw [List.getElem?_map] at hz
 cases hz':xs[i]? with
 | none=>rw [hz'] at hz;cases hz
 | some z'=>rw [hz'] at hz;cases hz;exact hp.lo i z' hi hz'
theorem o0t {args:List AV} {h h':AH} {v:AV} {K:AV→AH→Prop} (he:j0q args h=.ok (v,h')) (hk:K v h'):Ev P SI (.fn a6) args h K :=
 ⟨1,v,h',by simp [cl,t6,SI,n9,a6,he],hk⟩
theorem l0Y {B hd q vb r:Nat} {h:AH} {lv:AV} {xs:List Rh} (l:LisO B h hd lv xs) (hq:q≤xs.length) (hv:h.get vb=some (.cells [.ptr r 0] false)) (hvn:vb<h.next) (hne:s7 lv≠some vb) (hn:xs.length≤2 ^ 30) :
  ∃ g,j0q [lv,.int .i64 (q:Int),.slice vb 0 1 1 true 1] h=.ok (.slice h.next 0 (xs.length+1) (xs.length+1) false 1,g)∧g.next=h.next+1 ∧
   g.get h.next=some (.cells ((xs.map Rh.p).take q++.ptr r 0::(xs.map Rh.p).drop q) false)∧∀ i,i<h.next→s7 lv≠some i→g.get i=h.get i:=by
 rcases l with ⟨rfl,rfl⟩ | ⟨_,sid,rfl,_,hlt,hg,_⟩
 ·have:q=0:=by simpa using hq
  subst this
  refine ⟨h.push (.cells [.ptr r 0] false),by simp [j0q,hv],rfl,by simp,fun i hi _=>c9 (by omega)⟩
 ·have hp:AllPtr (xs.map Rh.p):=fun v hv=>by
   obtain ⟨x,_,rfl⟩:=List.mem_map.1 hv
   exact ⟨x.r,0,rfl⟩
  have hne':sid≠vb:=fun e=>hne (by rw [e];rfl)
  refine ⟨(h.kill sid).push (.cells ((xs.map Rh.p).take q++.ptr r 0::(xs.map Rh.p).drop q) false),?_,rfl,by rw [AH.get_push,if_pos (show h.next=(h.kill sid).next from rfl)],fun i hi hi2=>?_⟩
  ·have hc:xs.length=xs.length∧(xs.map Rh.p).length=xs.length∧0≤(q:Int)∧(q:Int).toNat≤xs.length∧sid≠vb∧sid<h.next∧vb<h.next∧xs.length≤2 ^ 30∧AllPtr (xs.map Rh.p) :=
    ⟨rfl,by simp,by omega,by simpa using hq,hne',hlt,hvn,hn,hp⟩
   simp only [j0q,hv,hg]
   rw [if_pos hc,Int.toNat_natCast]
  ·rw [AH.get_push,if_neg (show i≠(h.kill sid).next by show i≠h.next;omega),AH.get_kill,if_neg (fun e=>hi2 (by rw [e];rfl))]
theorem i0a {B t:Nat} {h g:AH} {x:Rh} {bad:Nat→Prop} (a:RowOk B t h x) (hn:h.next≤g.next) (hk:∀ i,i<h.next→¬ bad i→g.get i=h.get i) (h1:¬ bad x.r) (h2:∀ i,s7 x.lv=some i→¬ bad i) (h3:¬ bad x.m):RowOk B t g x :=
 ⟨⟨by rw [hk _ a.at_.lt h1];exact a.at_.cell,Nat.lt_of_lt_of_le a.at_.lt hn,c0m a.at_.lab hn fun id e=>hk id (Sl.idLt a.at_.lab e) (h2 id e),a.at_.short⟩,
  a.rB,by unfold MapO;rw [hk _ a.mlt h3];exact a.map,a.mB,Nat.lt_of_lt_of_le a.mlt hn,a.nd,a.rg,a.len,a.lB⟩
theorem m0Y {xs:List Rh} {y:Rh} {q:Nat} (ha:e0i xs) (hp:PlI xs y.ls q q) (hgt:∀ z,xs[q]? = some z→0<t7 z.ls y.ls):e0i (xs.take q++[y]++xs.drop q):=by
 have hdrop:∀ z ∈ xs.drop q,t7 y.ls z.ls<0:=fun z hz=>by
  obtain ⟨k,hk⟩:=List.getElem?_of_mem hz
  rw [List.getElem?_drop] at hk
  have hlt:=(List.getElem?_eq_some_iff.1 hk).1
  obtain ⟨u,hu⟩:∃ u,xs[q]? = some u:=⟨_,List.getElem?_eq_getElem (by omega)⟩
  have h1:=hgt u hu
  have h2:t7 y.ls u.ls<0:=by rw [a0m u.ls y.ls];omega
  cases k with
  | zero=>rw [Nat.add_zero,hu] at hk;cases hk;exact h2
  | succ k=>exact K3 h2 (i01 ha hu hk (by omega))
 have htake:∀ z ∈ xs.take q,t7 z.ls y.ls<0:=fun z hz=>by
  obtain ⟨k,hk⟩:=List.getElem?_of_mem hz
  have hlt:=(List.getElem?_eq_some_iff.1 hk).1
  rw [List.length_take] at hlt
  rw [List.getElem?_take_of_lt (by omega)] at hk
  exact hp.lo k z (by omega) hk
 have ht:e0i (xs.take q):=List.Pairwise.sublist (List.take_sublist _ _) ha
 have hd:e0i (xs.drop q):=List.Pairwise.sublist (List.drop_sublist _ _) ha
 unfold e0i at *
 rw [List.pairwise_append,List.pairwise_append]
 refine ⟨⟨ht,List.pairwise_singleton _ _,fun a ha' b hb=>?_⟩,hd,fun a ha' b hb=>?_⟩
 ·rw [List.mem_singleton.1 hb];exact htake a ha'
 ·rcases List.mem_append.1 ha' with h | h
  ·exact K3 (htake a h) (hdrop b hb)
  ·rw [List.mem_singleton.1 h];exact hdrop b hb
theorem m0Z {B t hd q r m n:Nat} {h g6:AH} {lv a:AV} {xs:List Rh} {l:List Lab} (H:HeadOk B t h hd lv xs) (hr:h.get r=some (.cells [a,.map m] false)) (hrn:r<h.next) (hrB:B≤r) (hrd:r≠hd) (hrl:s7 lv≠some r)
  (ho:Sl h 2 n a (l.flatMap M2)) (had:s7 a≠some hd) (haB:∀ i,s7 a=some i→B≤i) (hal:∀ i,s7 a=some i→s7 lv≠some i) (hll:l.length≤2 ^ 30) (hm:h.get m=some (.map [] 0)) (hmn:m<h.next) (hmB:B≤m) (hmx:∀ x ∈ xs,x.m≠m)
  (hp:PlI xs l q q) (hgt:∀ z,xs[q]? = some z→0<t7 z.ls l) (hB:B≤h.next)
  (n6:g6.next=h.next+1) (c6:g6.get h.next=some (.cells ((xs.map Rh.p).take q++.ptr r 0::(xs.map Rh.p).drop q) false)) (o6:∀ i,i<h.next→s7 lv≠some i→g6.get i=h.get i) :
  HeadOk B (t+1) (g6.set hd (.cells [.bool true,.slice h.next 0 (xs.length+1) (xs.length+1) false 1] false)) hd (.slice h.next 0 (xs.length+1) (xs.length+1) false 1) (xs.take q++[⟨r,a,m,l,[]⟩]++xs.drop q):=by
 have hq:=hp.top
 have hlen:(xs.take q++[(⟨r,a,m,l,[]⟩:Rh)]++xs.drop q).length=xs.length+1:=by simp;omega
 have hlid:∀ i,s7 lv=some i→i<h.next:=fun i e=>Sl.idLt H.list.sl e
 have keep:∀ i,i<h.next→¬ (s7 lv=some i∨i=hd)→(g6.set hd (.cells [.bool true,.slice h.next 0 (xs.length+1) (xs.length+1) false 1] false)).get i=h.get i:=fun i hi hb=>by
  rw [b8 (fun e=>hb (.inr e)),o6 i hi (fun e=>hb (.inl e))]
 have hmem:∀ x,x ∈ xs.take q++[(⟨r,a,m,l,[]⟩:Rh)]++xs.drop q→x=⟨r,a,m,l,[]⟩∨x ∈ xs:=fun x hx=>by
  rcases List.mem_append.1 hx with hx | hx
  ·rcases List.mem_append.1 hx with hx | hx
   ·exact .inr (List.mem_of_mem_take hx)
   ·exact .inl (List.mem_singleton.1 hx)
  ·exact .inr (List.mem_of_mem_drop hx)
 have hxl:∀ x ∈ xs,s7 lv≠some x.r∧(∀ i,s7 x.lv=some i→s7 lv≠some i)∧s7 lv≠some x.m:=fun x hx=>by
  rcases H.list with ⟨e,_⟩ | ⟨_,sid,e,_,_,hg,_,hall⟩
  ·rw [e] at hx;cases hx
  ·rw [e]
   obtain ⟨h1,h2⟩:=hall x hx
   refine ⟨fun e'=>h1 (by simpa [s7] using e'.symm),fun i e1 e2=>h2 (by rw [e1];exact e2.symm),fun e'=>?_⟩
   have e3:sid=x.m:=by simpa [s7] using e'
   have:=(H.rows x hx).map
   unfold MapO at this
   rw [← e3,hg] at this;cases this
 have hmd:∀ x ∈ xs,x.m≠hd:=fun x hx e=>by have:=(H.rows x hx).map;unfold MapO at this;rw [e,H.cell] at this;cases this
 have hmd':m≠hd:=fun e=>by rw [e,H.cell] at hm;cases hm
 have hml:s7 lv≠some m:=fun e=>by
  rcases H.list with ⟨_,e'⟩ | ⟨_,sid,e',_,_,hg,_,_⟩
  ·rw [e'] at e;cases e
  ·rw [e'] at e
   have e3:sid=m:=by simpa [s7] using e
   rw [e3,hm] at hg;cases hg
 have hcell:(xs.take q++[(⟨r,a,m,l,[]⟩:Rh)]++xs.drop q).map Rh.p=(xs.map Rh.p).take q++.ptr r 0::(xs.map Rh.p).drop q:=by
  rw [List.map_append,List.map_append,List.map_take,List.map_drop,List.append_assoc];rfl
 refine ⟨by show hd<g6.next;have:=H.hlt;omega,l6 _ _,.inr ⟨fun e=>by rw [e] at hlen;simp at hlen,h.next,by rw [hlen],hB,by show h.next<g6.next;omega,?_,by have:=H.hlt;omega,fun x hx=>?_⟩,fun x hx=>?_,fun x hx=>?_,?_,m0Y (y:=⟨r,a,m,l,[]⟩) H.asc hp hgt,by rw [hlen];have:=H.cnt;omega⟩
 ·rw [b8 (by have:=H.hlt;omega),c6,hcell]
 ·rcases hmem x hx with rfl | hx
  ·exact ⟨by show r≠h.next;omega,fun e=>by have:=Sl.idLt ho e;omega⟩
  ·exact ⟨by have:=(H.rows x hx).at_.lt;omega,fun e=>by have:=Sl.idLt (H.rows x hx).at_.lab e;omega⟩
 ·rcases hmem x hx with rfl | hx
  ·refine ⟨⟨by rw [keep r hrn (by rintro (e | e);exact hrl e;exact hrd e)];exact hr,by show r<g6.next;omega,?_,hll⟩,hrB,?_,hmB,by show m<g6.next;omega,by simp,fun z hz=>(by cases hz),Nat.zero_le _,haB⟩
   ·have hn:=b0Q ho
    show Sl _ 2 l.length a (l.flatMap M2)
    rw [hn]
    refine c0m ho (by show h.next≤g6.next;omega) fun id e=>keep id (Sl.idLt ho e) ?_
    rintro (e' | e')
    ·exact hal id e e'
    ·exact had (by rw [e,e'])
   ·unfold MapO
    rw [keep m hmn (by rintro (e | e);exact hml e;exact hmd' e)];exact hm
  ·refine (i0a (bad:=fun i=>s7 lv=some i∨i=hd) (H.rows x hx) (by show h.next≤g6.next;omega) keep ?_ ?_ ?_).le (Nat.le_succ _)
   ·rintro (e | e)
    ·exact (hxl x hx).1 e
    ·exact (H.far x hx).1 e
   ·rintro i e (e' | e')
    ·exact (hxl x hx).2.1 i e e'
    ·exact (H.far x hx).2 (by rw [e,e'])
   ·rintro (e | e)
    ·exact (hxl x hx).2.2 e
    ·exact hmd x hx e
 ·rcases hmem x hx with rfl | hx
  ·exact ⟨hrd,had⟩
  ·exact H.far x hx
 ·have hperm:((xs.take q++[(⟨r,a,m,l,[]⟩:Rh)]++xs.drop q).map Rh.m).Perm (m::xs.map Rh.m):=by
   rw [List.append_assoc]
   have:=(List.perm_middle (a:=(⟨r,a,m,l,[]⟩:Rh)) (l₁:=xs.take q) (l₂:=xs.drop q)).map Rh.m
   rw [List.take_append_drop] at this
   exact this
  refine hperm.nodup_iff.2 (List.nodup_cons.2 ⟨fun e=>?_,H.inj⟩)
  obtain ⟨x,hx,e⟩:=List.mem_map.1 e
  exact hmx x hx e
theorem i0b {B t hd n:Nat} {h:AH} {lv v:AV} {xs:List Rh} {l:List Lab} {s:Smp} (H:HeadOk B t h hd lv xs) (hB:B≤h.next) (ht:t≤2 ^ 20) (hl:Sl h 2 n v (l.flatMap M2)) (hn:n≤2 ^ 20) (hs:-9223372036854775808≤s.1∧s.1≤9223372036854775807) :
  Ev P SI (.fn J1) [.ptr hd 0,v,.int .i64 s.1,.int .u64 (s.2:Int)] h (p0P B t h hd lv xs l s):=by
 refine m6 e0g rfl rfl ?_
 have l1:load1 h hd 1=.ok lv:=by rw [d6 H.cell];rfl
 have hcnt:=H.cnt
 simp only [a07,h0d]
 simp [l1]
 refine (k0q H.list.sl (fun x hx=>(H.rows x hx).at_) hl (by omega) H.asc (by omega)).mono ?_
 rintro r g ⟨f,q,b,rfl,hp,hb⟩
 have H1:=H.fr f
 have hqt:=hp.top
 cases b with
 | true =>
  obtain ⟨y,hy,hc⟩:=hb.1 rfl
  have hls:=B9.1 hc
  obtain ⟨id,o,g',k1,k2,k3,k4,k5,k6⟩:=j0H (lv0:=lv) (xs0:=xs) (l:=l) (t0:=t) H1 hy hs (.of (f.b hB)) (fun i h1 h2=>⟨f.get i h1,h2⟩) (by omega) (by
   rw [h0H (xs.map M1) l [s] q (M1 y) (by rw [List.getElem?_map,hy];rfl) hc (j0I hp),List.map_set]
   congr 1
   simp only [M1,List.foldl_cons,List.foldl_nil]
   rw [l0E s (H.rows y (List.mem_of_getElem? hy)).nd])
  simp [k1,k2,k3,k4,k5]
  exact k6
 | false =>
  have hgt:∀ y,xs[q]? = some y→0<t7 y.ls l:=fun y hy=>by
   have h1:=hp.hi q y (Nat.le_refl _) hy
   have h2:t7 y.ls l≠0:=fun e=>by have:=hb.2 ⟨y,hy,e⟩;cases this
   omega
  have l2:load1 g hd 1=.ok lv:=by rw [d6 H1.cell];rfl
  have mk:c0d none g=okV (.map g.next) (g.push (.map [] 0)):=rfl
  obtain ⟨g2,hg2⟩:∃ g2,g2=g.push (.map [] 0):=⟨_,rfl⟩
  have f2:Fr g g2:=by rw [hg2];exact Fr.push (.refl g) _
  rw [← hg2] at mk
  have H2:=H1.fr f2
  have l3:load1 g2 hd 1=.ok lv:=by rw [d6 H2.cell];rfl
  have hsame:=H.list.sl.same
  simp [l2,mk,l3,hsame]
  refine (k05 (S:=SI) (by simp [SI,c0R,c8,F5,n9,a6]) (hl.fr (f.trans f2)) (f0n l) (by omega)).mono ?_
  rintro a g3 ⟨ho,f3⟩
  obtain ⟨g4,hg4⟩:∃ g4,g4=g3.push (.cells [a,.map g.next] false):=⟨_,rfl⟩
  have f4:Fr g3 g4:=by rw [hg4];exact Fr.push (.refl g3) _
  obtain ⟨g5,hg5⟩:∃ g5,g5=g4.push (.cells [.ptr g3.next 0] false):=⟨_,rfl⟩
  have f5:Fr g4 g5:=by rw [hg5];exact Fr.push (.refl g4) _
  have H5:=H2.fr (f3.trans (f4.trans f5))
  have l5:load1 g5 hd 1=.ok lv:=by rw [d6 H5.cell];rfl
  have n4:g4.next=g3.next+1:=by rw [hg4];rfl
  simp [ho.sl.oneCell.1,L5,← hg4,← hg5,O3,l5,hsame]
  have hvb:g5.get g4.next=some (.cells [.ptr g3.next 0] false):=by rw [hg5];exact a7 _
  have n5:g5.next=g4.next+1:=by rw [hg5];rfl
  have n2:g2.next=g.next+1:=by rw [hg2];rfl
  have f3n:=f3.next
  have hlv:∀ i,s7 lv=some i→i<g.next:=fun i e=>Sl.idLt H1.list.sl e
  obtain ⟨g6,k1,k2,k3,k4⟩:=l0Y (q:=q) H5.list hqt hvb (by omega) (fun e=>by have:=hlv _ e;omega) (by omega)
  refine o0t k1 ?_
  have hr5:g5.get g3.next=some (.cells [a,.map g.next] false):=by rw [f5.get _ (by omega),hg4];exact a7 _
  have hm5:g5.get g.next=some (.map [] 0):=by rw [f5.get _ (by omega),f4.get _ (by omega),f3.get _ (by omega),hg2];exact a7 _
  have hdl:=H1.hlt
  have hage:∀ i,s7 a=some i→g2.next≤i:=fun i e=>by
   by_cases hlt:i<g2.next
   ·exact absurd e (ho.ne hlt)
   ·omega
  have HN:=m0Z (q:=q) (r:=g3.next) (a:=a) (m:=g.next) (l:=l) H5 hr5 (by omega) (by have:=f.next;omega) (by omega) (fun e=>by have:=hlv _ e;omega) (ho.sl.fr (f4.trans f5)) (fun e=>by have:=hage _ e;omega) (fun i e=>by have:=hage _ e;have:=f.next;omega)
   (fun i e e'=>by have:=hage _ e;have:=hlv _ e';omega) (by have:=b0Q hl;omega) hm5 (by omega) (by have:=f.next;omega) (fun x hx=>by have:=(H1.rows x hx).mlt;omega) hp hgt (by have:=f.next;omega) k2 k3 k4
  have hc6:g6.get hd=some (.cells [.bool true,lv] false):=by
   rw [k4 hd (by omega) (fun e=>?_)]
   ·exact H5.cell
   ·rcases H1.list with ⟨_,e'⟩ | ⟨_,sid,e',_,_,_,hne,_⟩
    ·rw [e'] at e;cases e
    ·rw [e'] at e;exact hne (by simpa [s7] using e)
  obtain ⟨nv,hnv⟩:∃ nv:AV,nv=.slice g5.next 0 (xs.length+1) (xs.length+1) false 1:=⟨_,rfl⟩
  have hnc:nv.cells=[nv]∧nv.scalar=true:=by rw [hnv];exact ⟨rfl,rfl⟩
  rw [← hnv] at HN ⊢
  have st:B5 g6 hd 1 [nv]=.ok (g6.set hd (.cells [.bool true,nv] false)):=by
   rw [B8 hc6 (by simp) (by simp [b9,hnc.2]) (by simp)];rfl
  have hxs:(xs.take q++[(⟨g3.next,a,g.next,l,[]⟩:Rh)]++xs.drop q)[q]? = some ⟨g3.next,a,g.next,l,[]⟩:=by
   have t1:(xs.take q).length=q:=by rw [List.length_take];omega
   rw [List.append_assoc,List.getElem?_append_right (by omega),t1,Nat.sub_self];rfl
  have ff:FrX B hd h (g6.set hd (.cells [.bool true,nv] false)):=by
   refine ⟨by show h.next≤g6.next;have:=f.next;omega,fun i hi hiB=>?_⟩
   have hfn:=f.next
   rw [b8 hiB,k4 i (by omega) (fun e=>?_),(f.trans (f2.trans (f3.trans (f4.trans f5)))).get i (by omega)]
   rcases H1.list with ⟨_,e'⟩ | ⟨_,sid,e',hsB,_⟩
   ·rw [e'] at e;cases e
   ·rw [e'] at e;have:sid=i:=by simpa [s7] using e
    omega
  obtain ⟨id,o,g',e1,e2,e3,e4,e5,e6⟩:=j0H (lv0:=lv) (xs0:=xs) (l:=l) (t0:=t) HN hxs hs ff (fun i h1 ⟨h2,h3,h4⟩=>by
   have hfn:=f.next
   refine ⟨by rw [b8 h2,k4 i (by omega) h3,(f.trans (f2.trans (f3.trans (f4.trans f5)))).get i h1],h2,fun e=>?_,fun x hx=>?_⟩
   ·rw [hnv] at e
    have:g5.next=i:=by simpa [s7] using e
    omega
   ·rcases List.mem_append.1 hx with hx | hx
    ·rcases List.mem_append.1 hx with hx | hx
     ·exact h4 x (List.mem_of_mem_take hx)
     ·rw [List.mem_singleton.1 hx];show g.next≠i;omega
    ·exact h4 x (List.mem_of_mem_drop hx)) (by omega) (by
   have t1:(xs.take q).length=q:=by rw [List.length_take];omega
   rw [m0H _ _ _ _ _ t1,h0G (xs.map M1) l [s] q (by simpa using hqt) (fun y hy=>by
    rw [List.getElem?_map] at hy
    cases hz:xs[q]? with
    | none=>rw [hz] at hy;cases hy
    | some z=>rw [hz] at hy;cases hy;exact hgt z hz) (j0I hp),List.map_append,List.map_append,List.map_take,List.map_drop]
   congr 2
   simp only [List.map_cons,List.map_nil,M1,List.foldl_cons,List.foldl_nil]
   rw [b0w (by simp),List.nil_append,l0F];rfl)
  simp [hnc.1,st,e1,e2,e3,e4,e5]
  exact e6
end Go.Dk
