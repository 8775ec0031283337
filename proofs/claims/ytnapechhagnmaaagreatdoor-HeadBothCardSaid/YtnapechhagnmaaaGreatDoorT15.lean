/-
  Texts joined.
-/
import Derived.Test.YtnapechhagnmaaaGreatDoorT10
import Derived.Test.YtnapechhagnmaaaGreatDoorT14

namespace Go.Dk
open Go Go.Dr
set_option maxRecDepth 100000
def toI (s:Smp):Int×Int:=(s.1,(s.2:Int))
def ofI (z:Int×Int):Smp:=(z.1,z.2.toNat)
def a0j (zs:List Smp):List Smp:=(R4 cfS (zs.map toI)).map ofI
def vS (s:Smp):Int×AV:=(s.1,.int .u64 (s.2:Int))
theorem o0g (zs:List Smp):(zs.map toI).map vU=zs.map vS:=by rw [List.map_map];rfl
theorem m0Q (s:Smp):ofI (toI s)=s:=by simp [ofI,toI]
theorem d0v (zs:List Smp):(a0j zs).Perm zs:=by
 have:=(U4 cfS (zs.map toI)).map ofI
 rwa [List.map_map,show (ofI ∘ toI)=id from funext m0Q,List.map_id] at this
theorem e00 {zs:List Smp} {y:Smp}:y ∈ a0j zs↔y ∈ zs:=(d0v zs).mem_iff
theorem e01 (zs:List Smp):(a0j zs).length=zs.length:=(d0v zs).length_eq
theorem j0C (zs:List Smp):(zs.map toI).map (·.1)=zs.map (·.1):=by rw [List.map_map];rfl
theorem l0B {zs:List (Int×Int)} (hn:(zs.map (·.1)).Nodup):(R4 cfS zs).Pairwise fun a b=>a.1<b.1:=by
 have hp:=U4 cfS zs
 have hnd:((R4 cfS zs).map (·.1)).Nodup:=(hp.map _).nodup_iff.2 hn
 have hs:(R4 cfS zs).Pairwise fun x y=>(!(Go.Proofs.ltOf cfS) y x)=true:=by
  unfold R4
  refine List.pairwise_mergeSort (fun a b c h1 h2=>?_) (fun a b=>?_) _
  ·rw [ltS] at *;simp only [Bool.not_eq_true',decide_eq_false_iff_not] at *;omega
  ·rw [ltS,ltS];simp only [Bool.or_eq_true,Bool.not_eq_true',decide_eq_false_iff_not];omega
 have hd:=List.pairwise_map.1 hnd
 refine (hs.and hd).imp fun {a b} hab=>?_
 have:=hab.1
 rw [ltS] at this
 simp only [Bool.not_eq_true',decide_eq_false_iff_not] at this
 have:=hab.2
 omega
theorem h0S {zs:List Smp} (hn:(zs.map (·.1)).Nodup):e0k (a0j zs):=by
 unfold e0k a0j
 rw [List.pairwise_map]
 exact l0B (by rw [j0C];exact hn)
theorem l0C (zs:List Smp):fl2 .i64 .u64 (R4 cfS (zs.map toI))=(a0j zs).flatMap smC:=by
 have hm:∀ z ∈ R4 cfS (zs.map toI),0≤z.2:=fun z hz=>by
  obtain ⟨s,_,rfl⟩:=List.mem_map.1 ((U4 cfS _).mem_iff.1 hz)
  simp [toI]
 unfold a0j
 generalize R4 cfS (zs.map toI)=l at hm
 induction l with
 | nil=>rfl
 | cons z l ih =>
  rw [List.map_cons,List.flatMap_cons,← ih fun y hy=>hm y (List.mem_cons_of_mem _ hy)]
  have:=hm z List.mem_cons_self
  show [AV.int .i64 z.1,.int .u64 z.2]++_=smC (ofI z)++_
  rw [show smC (ofI z)=[AV.int .i64 z.1,.int .u64 z.2] from by simp only [smC,ofI];rw [Int.toNat_of_nonneg this]]
def c0n (zs:List Smp) (s:Smp):List Smp:=match zs.findIdx? (fun z=>decide (z.1=s.1)) with
 | some q=>zs.set q s
 | none=>zs++[s]
theorem c0S {zs:List Smp} {s u:Smp} {q:Nat} (hn:(zs.map (·.1)).Nodup) (hq:zs[q]? = some u) (hu:u.1=s.1):c0n zs s=zs.set q s:=by
 have hlt:=(List.getElem?_eq_some_iff.1 hq).1
 have:zs.findIdx? (fun z=>decide (z.1=s.1))=some q:=by
  rw [List.findIdx?_eq_some_iff_getElem]
  refine ⟨hlt,by rw [(List.getElem?_eq_some_iff.1 hq).2];simp [hu],fun j hj=>?_⟩
  have hne:=List.pairwise_iff_getElem.1 (List.pairwise_map.1 hn) j q (by omega) hlt hj
  rw [(List.getElem?_eq_some_iff.1 hq).2,hu] at hne
  simpa using hne
 unfold c0n
 rw [this]
theorem b0w {zs:List Smp} {s:Smp} (h:s.1 ∉ zs.map (·.1)):c0n zs s=zs++[s]:=by
 have:zs.findIdx? (fun z=>decide (z.1=s.1))=none:=by
  rw [List.findIdx?_eq_none_iff]
  intro z hz
  simp only [decide_eq_false_iff_not]
  intro e
  exact h (List.mem_map.2 ⟨z,hz,e⟩)
 unfold c0n
 rw [this]
theorem l0D {zs:List Smp} {s u:Smp} {q:Nat} (hq:zs[q]? = some u) (hu:u.1=s.1):(zs.set q s).map (·.1)=zs.map (·.1):=by
 rw [List.map_set]
 have:(zs.map (·.1))[q]? = some s.1:=by rw [List.getElem?_map,hq,← hu];rfl
 exact List.ext_getElem? fun t=>by
  rw [List.getElem?_set]
  split
  ·rename_i e;subst e
   rw [this]
   rw [if_pos (by rw [List.length_map];exact (List.getElem?_eq_some_iff.1 hq).1)]
  ·rfl
theorem a0P (zs:List Smp) (s:Smp):(s.1 ∉ zs.map (·.1))∨∃ (q:Nat) (u:Smp),zs[q]? = some u∧u.1=s.1:=by
 by_cases h:s.1 ∈ zs.map (·.1)
 ·obtain ⟨u,hu,e⟩:=List.mem_map.1 h
  obtain ⟨q,hq⟩:=List.getElem?_of_mem hu
  exact .inr ⟨q,u,hq,e⟩
 ·exact .inl h
theorem e02 {zs:List Smp} (s:Smp) (hn:(zs.map (·.1)).Nodup):((c0n zs s).map (·.1)).Nodup:=by
 rcases a0P zs s with h | ⟨q,u,hq,hu⟩
 ·rw [b0w h,List.map_append]
  refine List.nodup_append.2 ⟨hn,by simp,fun a ha b hb e=>?_⟩
  simp at hb
  subst hb;subst e;exact h ha
 ·rw [c0S hn hq hu,l0D hq hu];exact hn
theorem h0T {zs:List Smp} {s y:Smp} (hn:(zs.map (·.1)).Nodup):y ∈ c0n zs s↔y=s∨y ∈ zs∧y.1≠s.1:=by
 rcases a0P zs s with h | ⟨q,u,hq,hu⟩
 ·rw [b0w h,List.mem_append,List.mem_singleton]
  constructor
  ·rintro (h1 | h1)
   ·exact .inr ⟨h1,fun e=>h (List.mem_map.2 ⟨y,h1,e⟩)⟩
   ·exact .inl h1
  ·rintro (h1 | h1)
   ·exact .inr h1
   ·exact .inl h1.1
 ·rw [c0S hn hq hu]
  have hlt:=(List.getElem?_eq_some_iff.1 hq).1
  have hqe:=(List.getElem?_eq_some_iff.1 hq).2
  constructor
  ·intro h1
   obtain ⟨t,ht⟩:=List.getElem?_of_mem h1
   by_cases hqt:q=t
   ·subst hqt
    rw [List.getElem?_set_self hlt] at ht
    cases ht;exact .inl rfl
   ·rw [List.getElem?_set_ne hqt] at ht
    refine .inr ⟨List.mem_of_getElem? ht,fun e=>?_⟩
    have ht1:=(List.getElem?_eq_some_iff.1 ht).1
    have ht2:=(List.getElem?_eq_some_iff.1 ht).2
    have hp:=List.pairwise_map.1 hn
    rcases Nat.lt_or_gt_of_ne hqt with hl | hl
    ·have:=List.pairwise_iff_getElem.1 hp q t hlt ht1 hl
     rw [hqe,ht2,hu,e] at this;exact this rfl
    ·have:=List.pairwise_iff_getElem.1 hp t q ht1 hlt hl
     rw [hqe,ht2,hu,e] at this;exact this rfl
  ·rintro (rfl | ⟨h1,h2⟩)
   ·exact List.mem_of_getElem? (i:=q) (by rw [List.getElem?_set_self hlt])
   ·obtain ⟨t,ht⟩:=List.getElem?_of_mem h1
    refine List.mem_of_getElem? (i:=t) ?_
    rw [List.getElem?_set_ne (fun e=>by subst e;rw [hq] at ht;cases ht;exact h2 hu)]
    exact ht
theorem l0E {zs:List Smp} (s:Smp) (hn:(zs.map (·.1)).Nodup):a0j (c0n zs s)=O1 (a0j zs) s:=by
 have hr:=h0S hn
 refine j0E (h0S (e02 s hn)) (f0v _ _ hr) fun y=>?_
 rw [e00,h0T hn,e09 hr,e00]
theorem l0F (s:Smp):a0j [s]=[s]:=by
 have:=d0v [s]
 exact List.perm_singleton.1 this
end Go.Dk

namespace Go.Dk
open Go Go.Dr
set_option maxRecDepth 100000
structure Rh where
 r:Nat
 lv:AV
 m:Nat
 ls:List Lab
 zs:List Smp
def Rh.p (x:Rh):AV:=.ptr x.r 0
structure RowAt (h:AH) (x:Rh):Prop where
 cell:h.get x.r=some (.cells [x.lv,.map x.m] false)
 lt:x.r<h.next
 lab:Sl h 2 x.ls.length x.lv (x.ls.flatMap M2)
 short:x.ls.length≤2 ^ 30
theorem RowAt.fr {h g:AH} {x:Rh} (a:RowAt h x) (f:Fr h g):RowAt g x:=⟨by rw [f.get _ a.lt];exact a.cell,Nat.lt_of_lt_of_le a.lt f.next,a.lab.fr f,a.short⟩
def e0i (xs:List Rh):Prop:=xs.Pairwise fun a b=>t7 a.ls b.ls<0
theorem d02 {h:AH} {x:Rh} {n:Nat} {v:AV} {l:List Lab} (hx:RowAt h x) (s:Sl h 2 n v (l.flatMap M2)) (hn:n≤2 ^ 30) :
  Ev P SI (.fn I4) [.ptr x.r 0,v] h fun r g=>r=.int .i64 (t7 x.ls l)∧Fr h g:=by
 refine m6 f0M rfl rfl ?_
 have l1:load1 h x.r 0=.ok x.lv:=by rw [d6 hx.cell];rfl
 simp [c0b,l1]
 refine (f0b hx.lab s (by have:=hx.short;omega) (by omega)).mono ?_
 rintro r g ⟨rfl,f⟩
 simp
 exact f
theorem i01 {xs:List Rh} (h:e0i xs) {i j:Nat} {x y:Rh} (hi:xs[i]? = some x) (hj:xs[j]? = some y) (hij:i<j):t7 x.ls y.ls<0:=by
 have h1:=List.getElem?_eq_some_iff.1 hi
 have h2:=List.getElem?_eq_some_iff.1 hj
 have:=List.pairwise_iff_getElem.1 h i j h1.1 h2.1 hij
 rwa [h1.2,h2.2] at this
structure PlI (xs:List Rh) (l:List Lab) (i j:Nat):Prop where
 le:i≤j
 top:j≤xs.length
 lo:∀ t y,t<i→xs[t]? = some y→t7 y.ls l<0
 hi:∀ t y,j≤t→xs[t]? = some y→0≤t7 y.ls l
theorem PlI.up {xs:List Rh} {l:List Lab} {i j m:Nat} {y:Rh} (p:PlI xs l i j) (ha:e0i xs) (hm:m<j) (hy:xs[m]? = some y) (hc:t7 y.ls l<0):PlI xs l (m+1) j:=by
 refine ⟨hm,p.top,fun t z ht hz=>?_,p.hi⟩
 by_cases e:t=m
 ·subst e;rw [hy] at hz;cases hz;exact hc
 ·exact K3 (i01 ha hz hy (by omega)) hc
theorem PlI.down {xs:List Rh} {l:List Lab} {i j m:Nat} {y:Rh} (p:PlI xs l i j) (ha:e0i xs) (h1:i≤m) (hm:m<j) (hy:xs[m]? = some y) (hc:¬ t7 y.ls l<0):PlI xs l i m:=by
 refine ⟨h1,by have:=p.top;omega,p.lo,fun t z ht hz=>?_⟩
 by_cases e:t=m
 ·subst e;rw [hy] at hz;cases hz;omega
 ·have:=i01 ha hy hz (by omega)
  by_cases h:t7 z.ls l<0
  ·exact absurd (K3 this h) hc
  ·omega
def n0E (h:AH) (xs:List Rh) (l:List Lab) (r:AV) (g:AH):Prop :=
 Fr h g∧∃ (q:Nat) (b:Bool),r=.tuple [.int .i64 (q:Int),.bool b]∧PlI xs l q q∧(b=true↔∃ y,xs[q]? = some y∧t7 y.ls l=0)
theorem o0m {h:AH} {n:Nat} {lv v:AV} {xs:List Rh} {l:List Lab} (hl:Sl h 1 xs.length lv (xs.map Rh.p)) (hx:∀ x ∈ xs,RowAt h x) (s:Sl h 2 n v (l.flatMap M2)) (hn:n≤2 ^ 30) (ha:e0i xs) (hxn:xs.length≤2 ^ 30) :
  Ev P SI (.fn i8) [lv,v,.func (.func I4) [] []] h (n0E h xs l):=by
 refine m6 z6 rfl rfl ?_
 simp [m8,hl.len]
 refine f0u (fun k σ ds g=>∃ i j,k=j - i∧ds=[]∧Fr h g∧PlI xs l i j∧σ 0=lv∧σ 1=v∧σ 2=.func (.func I4) [] []∧σ 8=.int .i64 (xs.length:Int)∧σ 9=.int .i64 (i:Int)∧σ 10=.int .i64 (j:Int)) xs.length
  ⟨0,xs.length,by omega,rfl,.refl _,⟨Nat.zero_le _,Nat.le_refl _,fun t y h=>by omega,fun t y h e=>by rw [List.getElem?_eq_none h] at e;cases e⟩,by simp,by simp,by simp,by simp,by simp,by simp⟩ ?_
 rintro k σ ds g ⟨i,j,rfl,rfl,f,hp,e0,e1,e2,e8,e9,e10⟩
 by_cases hij:i<j
 ·obtain ⟨m,hm⟩:∃ m,m=(i+j)/2:=⟨_,rfl⟩
  have htop:=hp.top
  have w1:s6 .i64 ((i:Int)+(j:Int))=(i:Int)+(j:Int):=wrap_i64 (by omega) (by omega)
  have wm:s6 .i64 ((s6 .u64 ((i:Int)+(j:Int))).fdiv 2)=(m:Int):=by
   rw [m0h (by omega) (by omega),Int.fdiv_eq_ediv_of_nonneg _ (by omega),wrap_i64 (by omega) (by omega)];omega
  obtain ⟨x,hxm⟩:∃ x,xs[m]? = some x:=⟨_,List.getElem?_eq_getElem (by omega)⟩
  have hxr:=(hx x (List.mem_of_getElem? hxm)).fr f
  obtain ⟨id,o,q1,q2,_⟩:=(hl.fr f).get1 (k:=.i64) (i:=(m:Int)) rfl (by omega) (show (xs.map Rh.p)[m]? = some (.ptr x.r 0) by rw [List.getElem?_map,hxm];rfl)
  simp [e0,e1,e2,e9,e10,hij,w1,wm,q1,q2]
  refine (d02 hxr (s.fr f) hn).mono ?_
  rintro r g2 ⟨rfl,f2⟩
  by_cases hc:t7 x.ls l<0
  ·have w2:s6 .i64 ((m:Int)+1)=((m+1:Nat):Int):=by rw [wrap_i64 (by omega) (by omega)];omega
   simp [hc,e0,e1,e2,e8,e9,e10,w2,I0]
   exact ⟨j - (m+1),by omega,m+1,j,rfl,f.trans f2,hp.up ha (by omega) hxm hc,by omega,by omega⟩
  ·simp [hc,e0,e1,e2,e8,e9,e10,I0]
   exact ⟨m - i,by omega,i,m,rfl,f.trans f2,hp.down ha (by omega) (by omega) hxm hc,by omega,by omega⟩
 ·have he:i=j:=by have:=hp.le;omega
  subst he
  by_cases hn2:i<xs.length
  ·obtain ⟨x,hxm⟩:∃ x,xs[i]? = some x:=⟨_,List.getElem?_eq_getElem hn2⟩
   have hxr:=(hx x (List.mem_of_getElem? hxm)).fr f
   obtain ⟨id,o,q1,q2,_⟩:=(hl.fr f).get1 (k:=.i64) (i:=(i:Int)) rfl hn2 (show (xs.map Rh.p)[i]? = some (.ptr x.r 0) by rw [List.getElem?_map,hxm];rfl)
   simp [e0,e1,e2,e8,e9,e10,hn2,q1,q2]
   refine (d02 hxr (s.fr f) hn).mono ?_
   rintro r g2 ⟨rfl,f2⟩
   simp
   refine ⟨f.trans f2,i,_,rfl,hp,?_⟩
   simp [hxm]
  ·simp [e0,e1,e2,e8,e9,e10,hn2]
   refine ⟨f,i,_,rfl,hp,?_⟩
   rw [List.getElem?_eq_none (by omega)]
   simp
theorem k0q {h:AH} {n:Nat} {lv v:AV} {xs:List Rh} {l:List Lab} (hl:Sl h 1 xs.length lv (xs.map Rh.p)) (hx:∀ x ∈ xs,RowAt h x) (s:Sl h 2 n v (l.flatMap M2)) (hn:n≤2 ^ 30) (ha:e0i xs) (hxn:xs.length≤2 ^ 30) :
  Ev P SI (.fn b0s) [lv,v] h (n0E h xs l):=by
 refine m6 h0W rfl rfl ?_
 simp [d0Z]
 refine (o0m hl hx s hn ha hxn).mono ?_
 rintro r g ⟨f,q,b,rfl,hp,hb⟩
 simp
 exact ⟨f,q,b,rfl,hp,hb⟩
end Go.Dk

namespace Go.Dk
open Go Go.Dr
set_option maxRecDepth 100000
theorem p0x:KeyIs P d7 kI where
 eq a b:=by
  have h:S2 P 20 d7 (.int .i64 a) (.int .i64 b)=.ok (a == b):=by kernel_rfl
  unfold kI
  rw [h]
  rfl
 ok a:=by unfold kI;kernel_rfl
 same a:=by simp [kI,g0q,h08]
structure RowOk (B t:Nat) (h:AH) (x:Rh):Prop where
 at_:RowAt h x
 rB:B≤x.r
 map:MapO kI h x.m (x.zs.map vS)
 mB:B≤x.m
 mlt:x.m<h.next
 nd:(x.zs.map (·.1)).Nodup
 rg:∀ z ∈ x.zs,-9223372036854775808≤z.1∧z.1≤9223372036854775807
 len:x.zs.length≤t
 lB:∀ i,s7 x.lv=some i→B≤i
def LisO (B:Nat) (h:AH) (hd:Nat) (lv:AV) (xs:List Rh):Prop :=
 xs=[]∧lv=.nils∨xs≠[]∧∃ sid,lv=.slice sid 0 xs.length xs.length false 1∧B≤sid∧sid<h.next∧h.get sid=some (.cells (xs.map Rh.p) false)∧sid≠hd∧∀ x ∈ xs,x.r≠sid∧s7 x.lv≠some sid
structure HeadOk (B t:Nat) (h:AH) (hd:Nat) (lv:AV) (xs:List Rh):Prop where
 hlt:hd<h.next
 cell:h.get hd=some (.cells [.bool true,lv] false)
 list:LisO B h hd lv xs
 rows:∀ x ∈ xs,RowOk B t h x
 far:∀ x ∈ xs,x.r≠hd∧s7 x.lv≠some hd
 inj:(xs.map Rh.m).Nodup
 asc:e0i xs
 cnt:xs.length≤t
def M1 (x:Rh):Pt2:=(x.ls,a0j x.zs)
theorem LisO.sl {B hd:Nat} {h:AH} {lv:AV} {xs:List Rh} (l:LisO B h hd lv xs):Sl h 1 xs.length lv (xs.map Rh.p):=by
 rcases l with ⟨rfl,rfl⟩ | ⟨_,sid,rfl,_,hlt,hg,_⟩
 ·exact ⟨rfl,.inl ⟨rfl,rfl⟩⟩
 ·exact ⟨by simp,.inr ⟨sid,0,_,false,_,false,rfl,hlt,Nat.le_refl _,hg,by simp,by rw [List.drop_zero,List.take_of_length_le (by simp)]⟩⟩
theorem RowOk.fr {B t:Nat} {h g:AH} {x:Rh} (a:RowOk B t h x) (f:Fr h g):RowOk B t g x :=
 ⟨a.at_.fr f,a.rB,by unfold MapO;rw [f.get _ a.mlt];exact a.map,a.mB,Nat.lt_of_lt_of_le a.mlt f.next,a.nd,a.rg,a.len,a.lB⟩
theorem RowOk.le {B t t':Nat} {h:AH} {x:Rh} (a:RowOk B t h x) (ht:t≤t'):RowOk B t' h x:=⟨a.at_,a.rB,a.map,a.mB,a.mlt,a.nd,a.rg,Nat.le_trans a.len ht,a.lB⟩
theorem LisO.fr {B hd:Nat} {h g:AH} {lv:AV} {xs:List Rh} (l:LisO B h hd lv xs) (f:Fr h g):LisO B g hd lv xs:=by
 rcases l with l | ⟨h1,sid,h2,h3,h4,h5,h6⟩
 ·exact .inl l
 ·exact .inr ⟨h1,sid,h2,h3,Nat.lt_of_lt_of_le h4 f.next,by rw [f.get _ h4];exact h5,h6⟩
theorem HeadOk.fr {B t hd:Nat} {h g:AH} {lv:AV} {xs:List Rh} (H:HeadOk B t h hd lv xs) (f:Fr h g):HeadOk B t g hd lv xs :=
 ⟨Nat.lt_of_lt_of_le H.hlt f.next,by rw [f.get _ H.hlt];exact H.cell,H.list.fr f,fun x hx=>(H.rows x hx).fr f,H.far,H.inj,H.asc,H.cnt⟩
theorem HeadOk.le {B t t' hd:Nat} {h:AH} {lv:AV} {xs:List Rh} (H:HeadOk B t h hd lv xs) (ht:t≤t'):HeadOk B t' h hd lv xs :=
 ⟨H.hlt,H.cell,H.list,fun x hx=>(H.rows x hx).le ht,H.far,H.inj,H.asc,Nat.le_trans H.cnt ht⟩
theorem l0b {B t m:Nat} {h:AH} {o:AObj} {x:Rh} (a:RowOk B t h x) {es:List AEntry} {k:Nat} (hm:h.get m=some (.map es k)) (hne:x.m≠m):RowOk B t (h.set m o) x:=by
 have hr:x.r≠m:=fun e=>by have:=a.at_.cell;rw [e,hm] at this;cases this
 have hl:s7 x.lv≠some m:=fun e=>by
  rcases a.at_.lab.2 with ⟨e1,_⟩ | ⟨id,off,cap,y,vs,ro,e1,_,_,e3,_⟩
  ·rw [e1] at e;cases e
  ·rw [e1] at e;cases e;rw [hm] at e3;cases e3
 refine ⟨⟨by rw [b8 hr];exact a.at_.cell,a.at_.lt,?_,a.at_.short⟩,a.rB,by unfold MapO;rw [b8 hne];exact a.map,a.mB,a.mlt,a.nd,a.rg,a.len,a.lB⟩
 exact c0m a.at_.lab (Nat.le_refl _) fun id e=>b8 (fun e'=>hl (by rw [e,e']))
theorem m0A {B t hd q:Nat} {h:AH} {lv:AV} {xs:List Rh} {y:Rh} {s:Smp} (H:HeadOk B t h hd lv xs) (hy:xs[q]? = some y) (hs:-9223372036854775808≤s.1∧s.1≤9223372036854775807) :
  ∃ g,b0c P d7 h (.map y.m) (.int .i64 s.1) (.int .u64 (s.2:Int))=.ok g∧FrB B h g∧g.next=h.next∧HeadOk B (t+1) g hd lv (xs.set q { y with zs:=c0n y.zs s })∧∀ i,i≠y.m→g.get i=h.get i:=by
 have hym:=List.mem_of_getElem? hy
 have ho:=H.rows y hym
 have hql:=(List.getElem?_eq_some_iff.1 hy).1
 obtain ⟨l',hl',hup⟩:∃ l':List (Int×AV),l'=(c0n y.zs s).map vS∧b0c P d7 h (.map y.m) (.int .i64 s.1) (.int .u64 (s.2:Int))=.ok (h.set y.m (.map (mk0 0 (kvA kI l')) l'.length)):=by
  have hnd:((y.zs.map vS).map (·.1)).Nodup:=by rw [List.map_map];exact ho.nd
  rcases a0P y.zs s with h0 | ⟨k,u,hk,hu⟩
  ·have:=ho.map.upd_new p0x (a:=s.1) (v:=.int .u64 (s.2:Int)) (by rw [List.map_map];exact h0)
   exact ⟨_,rfl,by rw [b0w h0,List.map_append];exact this⟩
  ·have:=ho.map.upd_old p0x (n:=k) (a:=s.1) (v:=.int .u64 (s.2:Int)) (u:=.int .u64 (u.2:Int)) (by rw [List.getElem?_map,hk];simp [vS,hu]) hnd
   exact ⟨_,rfl,by rw [c0S ho.nd hk hu,List.map_set];exact this⟩
 refine ⟨_,hup,⟨Nat.le_refl _,fun i hi=>b8 (by have:=ho.mB;omega)⟩,rfl,?_,fun i hi=>b8 hi⟩
 have hmm:h.get y.m=some (.map (mk0 0 (kvA kI (y.zs.map vS))) (y.zs.map vS).length):=ho.map
 have hdm:hd≠y.m:=fun e=>by have:=H.cell;rw [e,hmm] at this;cases this
 have hmem:∀ x ∈ xs.set q { y with zs:=c0n y.zs s },x={ y with zs:=c0n y.zs s }∨x ∈ xs∧x.m≠y.m:=fun x hx=>by
  obtain ⟨k,hk⟩:=List.getElem?_of_mem hx
  rw [List.getElem?_set] at hk
  by_cases e:q=k
  ·subst e;rw [if_pos rfl,if_pos hql] at hk;cases hk;exact .inl rfl
  ·rw [if_neg e] at hk
   refine .inr ⟨List.mem_of_getElem? hk,fun em=>?_⟩
   have h1:=List.getElem?_eq_some_iff.1 hk
   have h2:=List.getElem?_eq_some_iff.1 hy
   have hp:=List.pairwise_map.1 H.inj
   rcases Nat.lt_or_gt_of_ne e with hlt | hlt
   ·have:=List.pairwise_iff_getElem.1 hp q k h2.1 h1.1 hlt
    rw [h1.2,h2.2] at this;exact this em.symm
   ·have:=List.pairwise_iff_getElem.1 hp k q h1.1 h2.1 hlt
    rw [h1.2,h2.2] at this;exact this em
 have hmap:∀ {β:Type} (f:Rh→β),f { y with zs:=c0n y.zs s }=f y→(xs.set q { y with zs:=c0n y.zs s }).map f=xs.map f:=fun f e=>by
  rw [List.map_set,e]
  refine List.ext_getElem? fun k=>?_
  rw [List.getElem?_set]
  by_cases e2:q=k
  ·subst e2;rw [if_pos rfl,if_pos (by simpa using hql),List.getElem?_map,hy];rfl
  ·rw [if_neg e2]
 refine ⟨H.hlt,by rw [b8 hdm];exact H.cell,?_,?_,?_,?_,?_,by rw [List.length_set];have:=H.cnt;omega⟩
 ·rcases H.list with ⟨e,_⟩ | ⟨h1,sid,h2,h3,h4,h5,h6,h7⟩
  ·subst e;cases hym
  ·refine .inr ⟨fun e=>h1 (by simpa using congrArg List.length e),sid,by rw [List.length_set];exact h2,h3,h4,?_,h6,fun x hx=>?_⟩
   ·rw [b8 (fun e=>by rw [e,hmm] at h5;cases h5),hmap Rh.p rfl];exact h5
   ·rcases hmem x hx with rfl | ⟨hx,_⟩
    ·exact h7 y hym
    ·exact h7 x hx
 ·intro x hx
  rcases hmem x hx with rfl | ⟨hx,hne⟩
  ·have hr:y.r≠y.m:=fun e=>by have:=ho.at_.cell;rw [e,hmm] at this;cases this
   have hl:s7 y.lv≠some y.m:=fun e=>by
    rcases ho.at_.lab.2 with ⟨e1,_⟩ | ⟨id,off,cap,z,vs,ro,e1,_,_,e3,_⟩
    ·rw [e1] at e;cases e
    ·rw [e1] at e;cases e;rw [hmm] at e3;cases e3
   refine ⟨⟨by rw [b8 hr];exact ho.at_.cell,ho.at_.lt,c0m ho.at_.lab (Nat.le_refl _) fun id e=>b8 (fun e'=>hl (by rw [e,e'])),ho.at_.short⟩,ho.rB,?_,ho.mB,ho.mlt,e02 s ho.nd,fun z hz=>?_,?_,ho.lB⟩
   ·unfold MapO;rw [l6,hl']
   ·rcases (h0T ho.nd).1 hz with rfl | ⟨h1,_⟩
    ·exact hs
    ·exact ho.rg z h1
   ·have h1:=ho.len
    show (c0n y.zs s).length≤t+1
    rcases a0P y.zs s with h0 | ⟨k,u,hk,hu⟩
    ·rw [b0w h0];simp;omega
    ·rw [c0S ho.nd hk hu,List.length_set];omega
  ·exact (l0b (H.rows x hx) hmm hne).le (Nat.le_succ _)
 ·intro x hx
  rcases hmem x hx with rfl | ⟨hx,_⟩
  ·exact H.far y hym
  ·exact H.far x hx
 ·rw [hmap Rh.m rfl];exact H.inj
 ·have:=hmap Rh.ls rfl
  unfold e0i
  have h1:(xs.map Rh.ls).Pairwise fun a b=>t7 a b<0:=List.pairwise_map.2 H.asc
  rw [← this] at h1
  exact List.pairwise_map.1 h1
end Go.Dk
