/-
  Texts joined.
-/
import Derived.Test.YtnapechhagnmaaaGreatDoorT16

namespace Go.Dk
open Go Go.Dr
set_option maxRecDepth 100000
theorem index_none {h:AH} {f:AV}:Ev P SI (.fn l7) [.nils,f] h fun r g=>r=.int .i64 (-1)∧g=h:=by
 refine m6 E5 rfl rfl ?_
 have l0:C9 .nils=.ok (.int .i64 0):=rfl
 simp [t8,l0]
 refine f0u (fun k σ ds g=>ds=[]∧g=h∧σ 7=.int .i64 0∧σ 8=.int .i64 0) 0 ⟨rfl,rfl,by simp,by simp⟩ ?_
 rintro k σ ds g ⟨rfl,rfl,e7,e8⟩
 simp [e7,e8]
theorem contains_none {h:AH} {f:AV}:Ev P SI (.fn i6) [.nils,f] h fun r g=>r=.bool false∧g=h:=by
 refine m6 D3 rfl rfl ?_
 simp [p6]
 refine index_none.mono ?_
 rintro r g ⟨rfl,rfl⟩
 simp
theorem can_none {h:AH}:Ev P SI (.fn b0t) [.nils] h fun r g=>r=.bool true∧g=h:=by
 refine m6 h0X rfl rfl ?_
 have l0:C9 .nils=.ok (.int .i64 0):=rfl
 simp [d00,l0]
 refine contains_none.mono ?_
 rintro r g ⟨rfl,rfl⟩
 simp
theorem l0u {h:AH} {v:AV} (hv:v.cells=[v]):Ev P SI (.fn b0u) [.nils,v] h fun r g=>r=.bool true∧Fr h g:=by
 refine m6 h0Y rfl rfl ?_
 simp [d01,hv,O3]
 refine contains_none.mono ?_
 rintro r g ⟨rfl,rfl⟩
 simp
 exact Fr.push (.refl h) _
theorem l0v {B t:Nat} {h:AH} {x:Rh} (a:RowOk B t h x) (ht:t≤2 ^ 22) (K:AV→AH→Prop)
  (hK:∀ a b g,Own h.next g 2 x.ls.length a (x.ls.flatMap M2)→Own h.next g 2 x.zs.length b ((a0j x.zs).flatMap smC)→Fr h g→K (.agg [a,b]) g) :
  Ev P SI (.fn n9) [.ptr x.r 0,.int .i64 (-9223372036854775808),.int .i64 9223372036854775807] h K:=by
 have hl:=a.len
 refine m0P (zs:=x.zs.map toI) a.at_.cell a.at_.lt a.at_.lab (f0n _) a.at_.short (by rw [o0g];exact a.map) a.mlt (by rw [List.length_map];omega) (fun z hz=>?_) (by rw [j0C];exact a.nd) K fun u v g h1 h2 h3=>?_
 ·obtain ⟨s,hs,rfl⟩:=List.mem_map.1 hz
  exact a.rg s hs
 ·rw [l0C,List.length_map] at h2
  exact hK u v g h1 h2 h3
theorem l0w {B t b5 b6 b7:Nat} {r5 r6 r7:Bool} {h:AH} {x:Rh} (a:RowOk B t h x) (ht:t≤2 ^ 22) (h5:h.get b5=some (.cells [.nils] r5)) (h6:h.get b6=some (.cells [.int .i64 (-9223372036854775808)] r6)) (h7:h.get b7=some (.cells [.int .i64 9223372036854775807] r7))
  (n5:b5<h.next) (n6:b6<h.next) (n7:b7<h.next) (K:AV→AH→Prop)
  (hK:∀ a b g,Own h.next g 2 x.ls.length a (x.ls.flatMap M2)→Own h.next g 2 x.zs.length b ((a0j x.zs).flatMap smC)→Fr h g→K (.agg [a,b]) g) :
  Ev P SI (.fn x6) [.ptr x.r 0,.ptr b5 0,.ptr b6 0,.ptr b7 0] h K:=by
 refine m6 b0z rfl rfl ?_
 obtain ⟨g1,hg1⟩:∃ g1,g1=h.push (.cells [.nils,.nils] false):=⟨_,rfl⟩
 have f1:Fr h g1:=by rw [hg1];exact Fr.push (.refl h) _
 have c1:load1 g1 b5 0=.ok .nils:=by rw [d6 (by rw [f1.get _ n5];exact h5)];rfl
 have c2:load1 g1 x.r 0=.ok x.lv:=by rw [d6 (by rw [f1.get _ a.at_.lt];exact a.at_.cell)];rfl
 have hsame:=a.at_.lab.same
 have hcl:=a.at_.lab.oneCell
 simp [Q6,O3,← hg1,c1,c2,hsame]
 refine (l0u hcl.1).mono ?_
 rintro r g2 ⟨rfl,f2⟩
 have f12:=f1.trans f2
 have n1:g1.next=h.next+1:=by rw [hg1];rfl
 have f2n:=f2.next
 have c3:load1 g2 b6 0=.ok (.int .i64 (-9223372036854775808)):=by rw [d6 (by rw [f12.get _ n6];exact h6)];rfl
 have c4:load1 g2 b7 0=.ok (.int .i64 9223372036854775807):=by rw [d6 (by rw [f12.get _ n7];exact h7)];rfl
 simp [c3,c4]
 refine l0v (a.fr f12) ht _ ?_
 intro u v g3 ou ov f3
 have hc3:g3.get h.next=some (.cells [.nils,.nils] false):=by rw [f3.get _ (by omega),f2.get _ (by omega),hg1];exact a7 _
 have hu:=ou.sl.oneCell
 have hv:=ov.sl.oneCell
 have st:B5 g3 h.next 0 [u,v]=.ok (g3.set h.next (.cells [u,v] false)):=by
  rw [B8 hc3 (by simp) (by simp [b9,hu.2,hv.2]) (by simp)];rfl
 have ln:loadN (g3.set h.next (.cells [u,v] false)) h.next 0 2=.ok [u,v]:=G6 (l6 _ _) rfl
 have f3n:=f3.next
 have keep:∀ {n:Nat} {w:AV} {l:List AV},Own g2.next g3 2 n w l→Own h.next (g3.set h.next (.cells [u,v] false)) 2 n w l:=by
  intro n w l o
  refine ⟨o.1,?_⟩
  rcases o.2 with e | ⟨id,off,y,vs,e1,e2,e3,e4,e5⟩
  ·exact .inl e
  ·exact .inr ⟨id,off,y,vs,e1,by omega,e3,by rw [b8 (by omega)];exact e4,e5⟩
 simp [Y6,st,a0g,ln]
 exact hK u v _ (keep ou) (keep ov) ⟨by show h.next≤g3.next;omega,fun i hi=>by rw [b8 (by omega),f3.get i (by omega),f12.get i hi]⟩
end Go.Dk

namespace Go.Dk
open Go Go.Dr
set_option maxRecDepth 100000
def n0Y (h:AH) (xs:List Rh) (r:AV) (g:AH):Prop:=Fr h g∧∃ ys:List Sj,Own h.next g 2 ys.length r (ys.flatMap sjC)∧ys.map plJ=xs.map M1∧∀ y ∈ ys,SjOk g y
theorem n0Z {B t b5 b6 b7:Nat} {r5 r6 r7:Bool} {h:AH} {lv:AV} {xs:List Rh} (hl:Sl h 1 xs.length lv (xs.map Rh.p)) (hx:∀ x ∈ xs,RowOk B t h x) (hne:∀ x ∈ xs,x.zs≠[]) (ht:t≤2 ^ 22) (hn:xs.length≤2 ^ 22)
  (h5:h.get b5=some (.cells [.nils] r5)) (h6:h.get b6=some (.cells [.int .i64 (-9223372036854775808)] r6)) (h7:h.get b7=some (.cells [.int .i64 9223372036854775807] r7)) (n5:b5<h.next) (n6:b6<h.next) (n7:b7<h.next) :
  Ev P SI (.fn E4) [lv,.func (.func x6) [] [.ptr b5 0,.ptr b6 0,.ptr b7 0]] h (n0Y h xs):=by
 refine m6 a0T rfl rfl ?_
 simp [M6,hl.len]
 refine E8 (n:=xs.length) (by rfl) (fun j σ ds g=>ds=[]∧σ 1=.func (.func x6) [] [.ptr b5 0,.ptr b6 0,.ptr b7 0]∧σ 9=lv∧σ 10=.int .i64 (xs.length:Int)∧Fr h g ∧
   ∃ ys:List Sj,Own h.next g 2 ys.length (σ 5) (ys.flatMap sjC)∧ys.length=j∧ys.map plJ=(xs.take j).map M1∧∀ y ∈ ys,SjOk g y∧(∀ i,s7 y.1.1=some i→s7 (σ 5)≠some i)∧(∀ i,s7 y.2.1=some i→s7 (σ 5)≠some i)) (by omega) (by simp)
  ⟨rfl,by simp,by simp,by simp,.refl _,[],by simpa using Own.nil _ _,rfl,by simp,fun y hy=>by simp at hy⟩ (fun j σ ds g hJ=>by simp [hJ.2.2.2.1]) ?_ ?_
 ·rintro j σ ds g hj hi ⟨rfl,e1,e9,e10,f,ys,ho,hyl,hyc,hys⟩
  obtain ⟨x,hxj⟩:=J4 (l:=xs) (j:=j) hj
  have hxm:=List.mem_of_getElem? hxj
  have hok:=(hx x hxm).fr f
  obtain ⟨id,o,q1,q2,_⟩:=(hl.fr f).get1 (k:=.i64) (i:=(j:Int)) rfl hj (show (xs.map Rh.p)[j]? = some (.ptr x.r 0) by rw [List.getElem?_map,hxj];rfl)
  obtain ⟨ov,hov⟩:∃ ov,σ 5=ov:=⟨_,rfl⟩
  rw [hov] at ho hys
  simp [e1,e9,e10,hi,q1,q2]
  refine l0w hok ht (by rw [f.get _ n5];exact h5) (by rw [f.get _ n6];exact h6) (by rw [f.get _ n7];exact h7) (Nat.lt_of_lt_of_le n5 f.next) (Nat.lt_of_lt_of_le n6 f.next) (Nat.lt_of_lt_of_le n7 f.next) _ ?_
  intro a b g1 oa ob f1
  have ha:=oa.sl.oneCell
  have hb:=ob.sl.oneCell
  have stn:=E0 (h:=g1) (n:=2) (z:=[.nils,.nils]) (l:=[a,b]) rfl rfl (by simp [b9,ha.2,hb.2])
  obtain ⟨g2,hg2⟩:∃ g2,g2=g1.push (.cells [a,b] false):=⟨_,rfl⟩
  have f2:Fr g1 g2:=by rw [hg2];exact Fr.push (.refl g1) _
  have c2:g2.get g1.next=some (.cells [a,b] false):=by rw [hg2];exact a7 _
  have n2:g2.next=g1.next+1:=by rw [hg2];rfl
  rw [← hg2] at stn
  have l1:load1 g2 g1.next 1=.ok b:=by rw [d6 c2];rfl
  have ln:loadN g2 g1.next 0 2=.ok [a,b]:=G6 c2 rfl
  have hzl:(a0j x.zs).length=x.zs.length:=e01 _
  have hpos:0<x.zs.length:=List.length_pos_iff.2 (hne x hxm)
  have hposI:(0:Int)<(x.zs.length:Int):=by omega
  have ho2:=(ho.fr f1).fr f2
  have hys':∀ y ∈ ys,SjOk g2 y:=fun y hy=>((hys y hy).1.fr f1).fr f2
  have hfn:=f.next
  have f1n:=f1.next
  obtain ⟨ov',g3,ap,ho3,fb,keep,newid⟩:=ho2.snoc2 (bytes:=48) (x:=[a,b]) (by omega) rfl (by simp [b9,ha.2,hb.2]) (by omega) (by omega)
  have hovid:∀ i,s7 ov=some i→i<g.next:=fun i e=>Sl.idLt ho.sl e
  have hage:∀ i,s7 a=some i→g.next≤i:=fun i e=>by
   by_cases hlt:i<g.next
   ·exact absurd e (oa.ne hlt)
   ·omega
  have hbge:∀ i,s7 b=some i→g.next≤i:=fun i e=>by
   by_cases hlt:i<g.next
   ·exact absurd e (ob.ne hlt)
   ·omega
  have halt:∀ i,s7 a=some i→i<g1.next:=fun i e=>Sl.idLt oa.sl e
  have hblt:∀ i,s7 b=some i→i<g1.next:=fun i e=>Sl.idLt ob.sl e
  have hn3:g2.next≤g3.next:=fb.next
  simp [O3,hg2.symm,stn,l1,ob.sl.len,hposI,hpos,ln,B4,hov,L5,ap,e1,e9,e10,hi]
  refine ⟨⟨by omega,fun i hi=>by rw [fb.get i hi,f2.get i (by omega),f1.get i (by omega),f.get i hi]⟩,ys++[((a,x.ls),(b,a0j x.zs))],?_,by simp [hyl],?_,?_⟩
  ·rw [List.length_append,List.flatMap_append]
   simpa [sjC] using ho3
  ·have hcx:(xs.map M1)[j]? = some (M1 x):=by rw [List.getElem?_map,hxj];rfl
   rw [List.map_append,hyc,List.map_take,List.take_add_one,hcx];rfl
  ·have sok:∀ {n:Nat} {w:AV} {l:List AV},Sl g2 2 n w l→(∀ i,s7 w=some i→s7 ov≠some i)→Sl g3 2 n w l:=fun sw hw=>c0m sw hn3 fun i e=>keep i (Sl.idLt sw e) (hw i e)
   intro u lu w lw hm
   rcases List.mem_append.1 hm with hm | hm
   ·obtain ⟨k1,k2,k3⟩:=hys _ hm
    have k1':=(k1.fr f1).fr f2
    refine ⟨⟨sok k1'.lab k2,sok k1'.smp k3⟩,fun i e e'=>?_,fun i e e'=>?_⟩
    ·rcases newid i e' with h | h
     ·exact k2 i e h
     ·have:=Sl.idLt k1'.lab e;omega
    ·rcases newid i e' with h | h
     ·exact k3 i e h
     ·have:=Sl.idLt k1'.smp e;omega
   ·simp at hm
    obtain ⟨⟨rfl,rfl⟩,rfl,rfl⟩:=hm
    have sa:Sl g2 2 x.ls.length u (x.ls.flatMap M2):=oa.sl.fr f2
    have sb:Sl g2 2 x.zs.length w ((a0j x.zs).flatMap smC):=ob.sl.fr f2
    refine ⟨⟨sok sa fun i e e'=>by have:=hage i e;have:=hovid i e';omega,by show Sl g3 2 (a0j x.zs).length w _;rw [hzl];exact sok sb fun i e e'=>by have:=hbge i e;have:=hovid i e';omega⟩,fun i e e'=>?_,fun i e e'=>?_⟩
    ·rcases newid i e' with h | h
     ·have:=hage i e;have:=hovid i h;omega
     ·have:=halt i e;omega
    ·rcases newid i e' with h | h
     ·have:=hbge i e;have:=hovid i h;omega
     ·have:=hblt i e;omega
 ·rintro σ ds g ⟨rfl,e1,e9,e10,f,ys,ho,hyl,hyc,hys⟩
  simp
  exact ⟨f,ys,ho,by rw [hyc,List.take_length],fun y hy=>(hys y hy).1⟩
theorem f00 {h:AH} {hd:Nat} {lv:AV} {ro:Bool} (hc:h.get hd=some (.cells [.bool true,lv] ro)) (K:AV→AH→Prop):Ev P SI (.fn H8) [.ptr hd 0] h K=K (.bool false) h:=by
 refine Ev.eq (m6 d0y rfl rfl ?_) K
 have l1:load1 h hd 0=.ok (.bool true):=by rw [d6 hc];rfl
 simp [a0l,l1]
theorem h0s {B t hd:Nat} {h:AH} {lv:AV} {xs:List Rh} (H:HeadOk B t h hd lv xs) (hne:∀ x ∈ xs,x.zs≠[]) (ht:t≤2 ^ 22):Ev P SI (.fn y6) [.ptr hd 0] h (n0Y h xs):=by
 refine m6 e0h rfl rfl ?_
 simp [a08]
 refine m6 c0r rfl rfl ?_
 obtain ⟨g1,hg1⟩:∃ g1,g1=h.push (.cells [.nils] false):=⟨_,rfl⟩
 obtain ⟨g2,hg2⟩:∃ g2,g2=g1.push (.cells [.int .i64 (-9223372036854775808)] false):=⟨_,rfl⟩
 obtain ⟨g3,hg3⟩:∃ g3,g3=g2.push (.cells [.int .i64 9223372036854775807] false):=⟨_,rfl⟩
 have f1:Fr h g1:=by rw [hg1];exact Fr.push (.refl h) _
 have f2:Fr g1 g2:=by rw [hg2];exact Fr.push (.refl g1) _
 have f3:Fr g2 g3:=by rw [hg3];exact Fr.push (.refl g2) _
 have n1:g1.next=h.next+1:=by rw [hg1];rfl
 have n2:g2.next=g1.next+1:=by rw [hg2];rfl
 have n3:g3.next=g2.next+1:=by rw [hg3];rfl
 have f:=f1.trans (f2.trans f3)
 have H3:=H.fr f
 have c5:g3.get h.next=some (.cells [.nils] false):=by rw [f3.get _ (by omega),f2.get _ (by omega),hg1];exact a7 _
 have c6:g3.get g1.next=some (.cells [.int .i64 (-9223372036854775808)] false):=by rw [f3.get _ (by omega),hg2];exact a7 _
 have c7:g3.get g2.next=some (.cells [.int .i64 9223372036854775807] false):=by rw [hg3];exact a7 _
 have l5:load1 g3 h.next 0=.ok .nils:=by rw [d6 c5];rfl
 have lh:load1 g3 hd 1=.ok lv:=by rw [d6 H3.cell];rfl
 simp [V9,O3,← hg1,← hg2,← hg3]
 simp [f00 H3.cell,l5]
 refine can_none.mono ?_
 rintro r g ⟨rfl,rfl⟩
 simp [lh]
 refine (n0Z H3.list.sl H3.rows hne ht (by have:=H.cnt;omega) c5 c6 c7 (by omega) (by omega) (by omega)).mono ?_
 rintro r g ⟨f4,hK⟩
 simp
 exact ⟨f.trans f4,by
  obtain ⟨ys,o,hc,hs⟩:=hK
  refine ⟨ys,⟨o.1,?_⟩,hc,hs⟩
  rcases o.2 with e | ⟨id,off,y,vs,e1,e2,e3⟩
  ·exact .inl e
  ·exact .inr ⟨id,off,y,vs,e1,by omega,e3⟩⟩
end Go.Dk

namespace Go.Dk
open Go Go.Dr
set_option maxRecDepth 100000
theorem p0N {h:AH} {n:Nat} (h0:0<n) (hn:n≤2 ^ 20) (K:AV→AH→Prop):Ev P SI (.fn k9) [.nils,.int .i64 (n:Int)] h K =
  K (.slice h.next 0 0 n false 2) (h.push (.cells (a0p [.nils,.nils] n) false)):=by
 refine Ev.eq (m6 A4 rfl rfl ?_) K
 have c1:¬ ((n:Int)<0):=by omega
 have c2:(0:Int)<(n:Int):=by omega
 have h1:¬ n=0:=by omega
 have w0:s6 .i64 0=0:=wrap_i64 (by omega) (by omega)
 have w1:s6 .i64 (n:Int)=n:=wrap_i64 (by omega) (by omega)
 have z:Z9 2 48 [.nils,.nils] .nils (.int .i64 (n:Int)) h=okV (.slice h.next 0 n n false 2) (h.push (.cells (a0p [.nils,.nils] n) false)):=by
  simp only [Z9,Int.toNat_natCast]
  rw [if_pos ⟨by omega,by omega,by omega⟩]
  simp only [M8]
  rw [if_neg h1,if_pos ⟨by omega,by omega⟩]
 have s0:k8 2 (.nils) none (some (.int .i64 0)) none=.ok .nils:=by simp [k8,C5,A0,B7]
 have s1:k8 2 (.slice h.next 0 n n false 2) none (some (.int .i64 0)) none=.ok (.slice h.next 0 0 n false 2):=by
  simp [k8,C5,A0,B7]
 simp [p5,C9,b0I,w0,w1,c1,c2,s0,z,s1,h0]
theorem o0o {h:AH} (K:AV→AH→Prop):Ev P SI (.fn k9) [.nils,.int .i64 0] h K=K .nils h:=by
 refine Ev.eq (m6 A4 rfl rfl ?_) K
 have w0:s6 .i64 0=0:=wrap_i64 (by omega) (by omega)
 simp [p5,C9,b0I,w0]
theorem k0s {h:AH} {T k m:Nat} {vs:List AV} {u:AV} {l:List AV} (hk:k+m≤T) (hv:vs.length=T*2) (hu:Sl (h.push (.cells vs false)) 2 m u l) (hs:b9 l=true) :
  ∃ vs',M9 2 48 (.slice h.next 0 k T false 2) u (h.push (.cells vs false))=okV (.slice h.next 0 (k+m) T false 2) (h.push (.cells vs' false))∧vs'.length=T*2∧vs'.take ((k+m)*2)=vs.take (k*2)++l:=by
 have hl:l.length=m*2:=hu.1
 unfold M9
 rw [hu.cells]
 simp only [M8,ne_eq,not_true,if_false,j0,Nat.ble_eq_true_of_le hk,cond_true,Nat.zero_add]
 cases l with
 | nil =>
  obtain rfl:m=0:=by simp at hl;omega
  exact ⟨vs,by simp [B5],hv,by simp⟩
 | cons x l =>
  refine ⟨v6 vs (k*2) (x::l),?_,by rw [F8 _ _ _ (by omega)];exact hv,?_⟩
  ·have hb:Nat.ble (k*2+(x::l).length) vs.length=true:=Nat.ble_eq_true_of_le (by omega)
   simp only [B5,a7,hb,hs,Bool.and_self,cond_true,AH.set_push]
  ·rw [v6,← List.append_assoc,List.take_left' (by rw [List.length_append,List.length_take,hl];omega)]
def upS (ps:List (AV×List Sj)) (j:Nat):List Sj:=(ps.take j).flatMap (·.2)
theorem c0X {ps:List (AV×List Sj)} {j:Nat} {p:AV×List Sj} (h:ps[j]? = some p):upS ps (j+1)=upS ps j++p.2:=by
 rw [upS,b0R _ _ _ h,List.flatMap_append];simp [upS]
theorem o0p (ps:List (AV×List Sj)) (j:Nat):(upS ps j).length≤(ps.flatMap (·.2)).length:=by
 have:upS ps j <+: ps.flatMap (·.2):=by
  conv=>rhs;rw [← List.take_append_drop j ps]
  rw [List.flatMap_append]
  exact List.prefix_append _ _
 exact this.length_le
theorem m0V {h:AH} {s n:Nat} {ps:List (AV×List Sj)} (hg:h.get s=some (.cells (ps.map (·.1)) false)) (hs:s<h.next) (hps:ps.length=n) (hp:∀ p ∈ ps,Sl h 2 p.2.length p.1 (p.2.flatMap sjC)∧b9 (p.2.flatMap sjC)=true)
  (hT:(ps.flatMap (·.2)).length≤2 ^ 20) (hn:n≤1000) :
  Ev P SI (.fn o3) [.slice s 0 n n true 1] h fun r g=>Sl g 2 (ps.flatMap (·.2)).length r ((ps.flatMap (·.2)).flatMap sjC)∧Fr h g∧∀ i,s7 r=some i→h.next≤i:=by
 refine m6 H9 rfl rfl ?_
 have elem:∀ g,Fr h g→∀ (j:Nat) (p:AV×List Sj),ps[j]? = some p→∃ id o,G1 1 (.slice s 0 n n true 1) (.int .i64 (j:Int))=.ok (.ptr id o)∧load1 g id o=.ok p.1:=by
  intro g f j p hj
  have hjl:=(List.getElem?_eq_some_iff.1 hj).1
  refine ⟨s,0+j,by rw [T7 _ _ _ _ _ _ _ _ ⟨by omega,by omega⟩,Int.toNat_natCast,Nat.mul_one],?_⟩
  rw [d6 (vs:=ps.map (·.1)) (ro:=false) (by rw [f.get s hs];exact hg)]
  simp [hj,ofO]
 have hlen:C9 (.slice s 0 n n true 1)=.ok (.int .i64 (n:Int)):=rfl
 obtain ⟨T,hTe⟩:∃ T,(ps.flatMap (·.2)).length=T:=⟨_,rfl⟩
 rw [hTe] at hT ⊢
 have hle:=o0p ps
 rw [hTe] at hle
 simp [x9,hlen,-List.length_flatMap]
 refine E8 (n:=n) (by rfl) (fun j σ ds g=>ds=[]∧σ 0=.slice s 0 n n true 1∧σ 3=.int .i64 ((upS ps j).length:Int)∧σ 9=.slice s 0 n n true 1∧σ 10=.int .i64 (n:Int)∧g=h) (by omega) (by simp) ⟨rfl,by simp,by simp [upS],by simp,by simp,rfl⟩ (fun j σ ds h' hJ=>by simp [hJ.2.2.2.2.1]) ?_ ?_
 ·rintro j σ ds g hj hi ⟨rfl,e0,e3,e9,e10,rfl⟩
  obtain ⟨p,hx⟩:=J4 (l:=ps) (j:=j) (by omega)
  obtain ⟨id,o,g1,g2⟩:=elem g (.refl _) j p hx
  have hpl:=(hp p (List.mem_of_getElem? hx)).1.len
  have hsz:((upS ps j).length:Int)+(p.2.length:Int)=((upS ps (j+1)).length:Int):=by rw [c0X hx,List.length_append];omega
  have hl1:=hle (j+1)
  generalize (upS ps (j+1)).length=k1 at *
  generalize (upS ps j).length=k0 at *
  have w1:s6 .i64 (k1:Int)=(k1:Int):=wrap_i64 (by omega) (by omega)
  have c1:¬ ((k1:Int)<0):=by omega
  simp [e0,e3,e9,e10,hi,g1,g2,hpl,hsz,w1,c1]
 ·rintro σ ds g ⟨rfl,e0,e3,e9,e10,rfl⟩
  have hfull:upS ps n=ps.flatMap (·.2):=by rw [upS,List.take_of_length_le (by omega)]
  rw [hfull,hTe] at e3
  by_cases h0:T=0
  ·have hnil:ps.flatMap (·.2)=[]:=List.eq_nil_of_length_eq_zero (by omega)
   subst h0
   simp [e0,e3,o0o,hlen]
   refine E8 (n:=n) (by rfl) (fun j σ ds g'=>ds=[]∧σ 25=.slice s 0 n n true 1∧σ 26=.int .i64 (n:Int)∧σ 6=.nils∧g'=g) (by omega) (by simp)
    ⟨rfl,by simp,by simp,by simp,rfl⟩ (fun j σ ds h' hJ=>by simp [hJ.2.2.1]) ?_ ?_
   ·rintro j σ ds g' hj hi ⟨rfl,f25,f26,f6,rfl⟩
    obtain ⟨p,hx⟩:=J4 (l:=ps) (j:=j) (by omega)
    obtain ⟨id,o,g1,g2⟩:=elem g' (.refl _) j p hx
    have hp2:p.2=[]:=by
     have:=hle (j+1)
     rw [c0X hx] at this
     simp at this
     exact this.2
    have hu:=(hp p (List.mem_of_getElem? hx)).1
    rw [hp2] at hu
    have ap:M9 2 48 .nils p.1 g'=okV .nils g':=by
     unfold M9
     rw [hu.cells];simp [M8]
    simp [f25,f26,f6,hi,g1,g2,ap]
   ·rintro σ ds g' ⟨rfl,f25,f26,f6,rfl⟩
    simp [f6]
    rw [hnil]
    exact ⟨Sl.nil 2,.refl _,fun i e=>(by cases e)⟩
  ·have h0:0<T:=by omega
   simp [e0,e3,p0N h0 hT,hlen]
   refine E8 (n:=n) (by rfl) (fun j σ ds g'=>ds=[]∧σ 25=.slice s 0 n n true 1∧σ 26=.int .i64 (n:Int)∧σ 6=.slice g.next 0 (upS ps j).length T false 2∧∃ vs,g'=g.push (.cells vs false)∧vs.length=T*2∧vs.take ((upS ps j).length*2)=(upS ps j).flatMap sjC) (by omega) (by simp)
    ⟨rfl,by simp,by simp,by simp [upS],_,rfl,by rw [L6];rfl,by simp [upS]⟩ (fun j σ ds h' hJ=>by simp [hJ.2.2.1]) ?_ ?_
   ·rintro j σ ds g' hj hi ⟨rfl,f25,f26,f6,vs,rfl,hvl,hvt⟩
    obtain ⟨p,hx⟩:=J4 (l:=ps) (j:=j) (by omega)
    have hF:=Fr.push (.refl g) (.cells vs false)
    obtain ⟨id,o,g1,g2⟩:=elem _ hF j p hx
    have hu:=(hp p (List.mem_of_getElem? hx)).1.fr hF
    have hsz:(upS ps j).length+p.2.length=(upS ps (j+1)).length:=by rw [c0X hx,List.length_append]
    obtain ⟨vs',ap,b1,b2⟩:=k0s (k:=(upS ps j).length) (T:=T) (by rw [hsz];exact hle _) hvl hu (hp p (List.mem_of_getElem? hx)).2
    rw [hsz] at ap b2
    rw [hvt,← List.flatMap_append,← c0X hx] at b2
    simp [f25,f26,f6,hi,g1,g2,ap]
    exact ⟨vs',rfl,b1,b2⟩
   ·rintro σ ds g' ⟨rfl,f25,f26,f6,vs,rfl,hvl,hvt⟩
    rw [hfull,hTe,List.take_of_length_le (by omega)] at hvt
    rw [hfull,hTe] at f6
    subst hvt
    simp [f6]
    exact ⟨(Own.fresh (B:=0) (es:=2) (n:=T) false (Nat.zero_le _) (by rw [hvl])).sl,Fr.push (.refl g) _,fun i e=>Nat.le_of_eq (by simpa [s7] using e)⟩
end Go.Dk
