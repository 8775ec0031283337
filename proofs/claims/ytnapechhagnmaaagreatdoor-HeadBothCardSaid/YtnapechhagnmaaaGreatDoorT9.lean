/-
  Texts joined.
-/
import Derived.Test.YtnapechhagnmaaaGreatDoorT8

namespace Go.Dk
open Go Go.Dr
set_option maxRecDepth 100000
attribute [-simp]  D5
@[simp] theorem k04 (x:CO):D5 (.nilCheck x)=none:=nr rfl
@[simp] theorem k0T (n:Nat) (x:CO):D5 (.fieldAddr n x)=none:=nr rfl
@[simp] theorem n0q (z:List AV) (pl:List (Nat×Nat×CO)):D5 (.build z pl)=none:=nr rfl
@[simp] theorem n0W (x y z:CO):D5 (.pick x y z)=none:=nr rfl
theorem k05 {S:b0e} (hS:S c8=none) {h:AH} {v:AV} {L:List AV} {n:Nat} (hv:Sl h 2 n v L) (hs:b9 L=true) (hn:n≤2 ^ 30):Ev P S (.fn c8) [v] h fun r g=>Own h.next g 2 n r L∧Fr h g:=by
 refine m6 K0 hS rfl ?_
 obtain ⟨b,hb,hb2⟩:=hv.isNil d0t true
 cases b with
 | true =>
  obtain ⟨rfl,rfl,hl⟩:=hb2 rfl
  simp [q0]
  exact ⟨⟨by rw [hl];rfl,.inl ⟨rfl,rfl⟩⟩,.refl _⟩
 | false =>
  have o0:Own h.next (h.push (.cells [] false)) 2 0 (.slice h.next 0 0 0 true 2) []:=⟨by simp,.inr ⟨h.next,0,true,[],rfl,Nat.le_refl _,by simp,a7 _,by simp,by simp⟩⟩
  have f0:=Fr.push (.refl h) (.cells [] false)
  obtain ⟨v1,g1,e1,o1,fb,_⟩:=o0.append (bytes:=32) (hv.fr f0) (by simp) hs (by omega) (by omega)
  simp [q0,hb,e1]
  rw [Nat.zero_add,List.nil_append] at o1
  exact ⟨o1,⟨Nat.le_trans f0.next fb.next,fun i hi=>(fb.get i hi).trans (f0.get i hi)⟩⟩
def kv (e:AEntry):AV×AV:=(e.key,e.val)
def kz (z:Int×Int):AV×AV:=(.int .i64 z.1,.int .u64 z.2)
theorem i0A {es:Nat} {rest:List AV} {D:List AV→List AV→Prop} {h:AH} {id len cap:Nat} {x:Bool} {A A':List AV} (hg:h.get id=some (.cells A false)) (hA:A.length=len*es) (h0:0<len) (hl:len<4611686018427387904) (hD:D A A') (hu:∀ A'',D A A''→A''=A') (hlen:A'.length=A.length) :
  g05 es rest D (.slice id 0 len cap x es::rest) h=.ok (.tuple [],h.set id (.cells A' false)):=by
 have ht:((A.drop 0).take (len*es))=A:=by rw [List.drop_zero,List.take_of_length_le (by omega)]
 have hx:rest=rest∧es=es∧0<len∧0+len*es≤A.length∧len<4611686018427387904∧∃ A',D ((A.drop 0).take (len*es)) A':=⟨rfl,rfl,h0,by omega,hl,A',by rw [ht];exact hD⟩
 unfold g05
 simp only [hg]
 rw [dif_pos hx]
 have hc:=Classical.choose_spec hx.2.2.2.2.2
 generalize Classical.choose hx.2.2.2.2.2=z at hc ⊢
 rw [ht] at hc
 rw [hu z hc]
 have:v6 A 0 A'=A'∨A'.length≠A.length:=by
  by_cases e:A'.length=A.length
  ·left;simp [L5,e]
  ·exact .inr e
 rw [this.resolve_right (by simpa using hlen)]
theorem k06 {es:Nat} {rest:List AV} {D:List AV→List AV→Prop} {h:AH}:g05 es rest D (.nils::rest) h=.ok (.tuple [],h):=by
 unfold g05;simp
structure RS (n0:Nat) (a:AV) (h:AH) (m clock:Nat) (es picked:List AEntry) (ks:List (Int×Int)) (g:AH):Prop where
 sub:∀ e ∈ picked,e ∈ es
 nd:(picked.map AEntry.born).Nodup
 keys:picked.map kv=ks.map kz
 next:g.next=n0+4+2*picked.length
 old:∀ i,i<n0+2→g.get i=h.get i
 cell:g.get (n0+2)=some (.cells [a,sv n0 2 2 picked.length] false)
 it:g.get (n0+3)=some (.miter (some m) clock (picked.map AEntry.born) clock)
 row:picked.length=0∨g.get (n0+3+2*picked.length)=some (.cells (fl2 .i64 .u64 ks) false)
theorem k07:∀ {l r:List Nat},l.Nodup→(∀ x ∈ l,x ∈ r)→l.length≤r.length
 | [],r,_,_=>Nat.zero_le _
 | x::l,r,hn,hs=>by
  have hx:=hs x List.mem_cons_self
  obtain ⟨h1,h2⟩:=List.nodup_cons.1 hn
  have ih:=k07 (l:=l) (r:=r.erase x) h2 (fun y hy=>(List.mem_erase_of_ne (fun e=>by subst e;exact h1 hy)).2 (hs y (List.mem_cons_of_mem _ hy)))
  rw [List.length_erase_of_mem hx] at ih
  have:=List.length_pos_of_mem hx
  simp only [List.length_cons]
  omega
theorem e0s {picked:List AEntry} {e:AEntry} (hn:(picked.map AEntry.born).Nodup) (hb:e.born ∉ picked.map AEntry.born):((picked++[e]).map AEntry.born).Nodup:=by
 rw [List.map_append]
 refine List.nodup_append.2 ⟨hn,by simp,fun a ha b hb'=>?_⟩
 simp only [List.map_cons,List.map_nil,List.mem_singleton] at hb'
 subst hb'
 intro e2
 subst e2
 exact hb ha
theorem k08 {es picked:List AEntry} {e:AEntry} (hs:∀ e ∈ picked,e ∈ es) (hn:(picked.map AEntry.born).Nodup) (he:e ∈ es) (hb:e.born ∉ picked.map AEntry.born):picked.length<es.length:=by
 have:=k07 (r:=es.map AEntry.born) (e0s hn hb) (fun x hx=>by
  obtain ⟨y,hy,rfl⟩:=List.mem_map.1 hx
  refine List.mem_map.2 ⟨y,?_,rfl⟩
  rcases List.mem_append.1 hy with h | h
  ·exact hs y h
  ·rw [List.mem_singleton.1 h];exact he)
 simp at this
 omega
theorem h0o {es picked:List AEntry} (hs:∀ e ∈ picked,e ∈ es) (hn:(picked.map AEntry.born).Nodup) (hd:(es.map AEntry.born).Nodup) (hall:∀ e ∈ es,e.born ∈ picked.map AEntry.born):picked.Perm es:=by
 have nd:∀ l:List AEntry,(l.map AEntry.born).Nodup→l.Nodup:=fun l h=>(List.pairwise_map.1 h).imp fun {a b} hab e=>hab (by rw [e])
 refine (List.perm_ext_iff_of_nodup (nd _ hn) (nd _ hd)).2 fun e=>⟨hs e,fun he=>?_⟩
 obtain ⟨e',he',hb⟩:=List.mem_map.1 (hall e he)
 have inj:∀ l:List AEntry,(l.map AEntry.born).Nodup→∀ x ∈ l,∀ y ∈ l,x.born=y.born→x=y:=by
  intro l
  induction l with
  | nil=>intro _ x hx;cases hx
  | cons a l ih =>
   intro h x hx y hy hxy
   simp only [List.map_cons,List.nodup_cons] at h
   rcases List.mem_cons.1 hx with hx1 | hx1
   ·rcases List.mem_cons.1 hy with hy1 | hy1
    ·rw [hx1,hy1]
    ·exact absurd (List.mem_map.2 ⟨y,hy1,by rw [← hxy,hx1]⟩) h.1
   ·rcases List.mem_cons.1 hy with hy1 | hy1
    ·exact absurd (List.mem_map.2 ⟨x,hx1,by rw [hxy,hy1]⟩) h.1
    ·exact ih h.2 x hx1 y hy1 hxy
 have:=inj es hd e' (hs e' he') e he hb
 rw [← this];exact he'
theorem k09:∀ {a b:List (Int×Int)},a.map kz=b.map kz→a=b
 | [],[],_=>rfl
 | [],_::_,h=>by cases h
 | _::_,[],h=>by cases h
 | (x,x')::a,(y,y')::b,h=>by
  simp only [kz,List.map_cons,List.cons.injEq,Prod.mk.injEq,AV.int.injEq,true_and] at h
  rw [h.1.1,h.1.2,k09 (a:=a) (b:=b) h.2]
theorem n0X {rid m clock n:Nat} {lv:AV} {L:List AV} {h:AH} {es:List AEntry} {zs:List (Int×Int)} {K:AV→AH→Prop} (hr:h.get rid=some (.cells [lv,.map m] false)) (hrn:rid<h.next) (hv:Sl h 2 n lv L) (hs:b9 L=true) (hn:n≤2 ^ 30)
  (hm:h.get m=some (.map es clock)) (hml:m<h.next) (hb:∀ e ∈ es,e.born<clock) (hd:(es.map AEntry.born).Nodup) (hk:es.map kv=zs.map kz) (hlen:es.length≤2 ^ 29)
  (hrg:∀ z ∈ zs,-9223372036854775808≤z.1∧z.1≤9223372036854775807) (htot:l00 cfS zs) {a:AV} {g1:AH} {N:Nat}
  (ha:cl P S0 N (.fn c8) [lv] (h.push (.cells [.nils,.nils] false))=.ok (a,g1)) (ho:Own (h.next+1) g1 2 n a L) (hf:Fr (h.push (.cells [.nils,.nils] false)) g1)
  (hK:∀ g',g'.next=g1.next+2+2*zs.length→(∀ i,i<g1.next→i≠h.next→g'.get i=g1.get i)→(zs.length=0∨g'.get (g1.next+1+2*zs.length)=some (.cells (fl2 .i64 .u64 (R4 cfS zs)) false))→K (.agg [a,sv (g1.next - 2) 2 2 zs.length]) g') :
  EvN P S0 (.fn n9) [.ptr rid 0,.int .i64 (-9223372036854775808),.int .i64 9223372036854775807] h K:=by
 refine o0h e0j rfl rfl ?_
 have l1:load1 (h.push (.cells [.nils,.nils] false)) rid 0=.ok lv:=by
  have:(h.push (.cells [.nils,.nils] false)).get rid=some (.cells [lv,.map m] false):=by rw [c9 (by omega)];exact hr
  rw [d6 this];rfl
 simp [a09,l1]
 refine (Ev.toN (K:=fun r g=>r=a∧g=g1) ⟨N,a,g1,ha,rfl,rfl⟩).mono ?_
 rintro r g ⟨rfl,rfl⟩
 have hgn:h.next+1≤g.next:=hf.next
 obtain ⟨n0,hn0⟩:∃ n0,g.next=n0+2:=⟨g.next - 2,by omega⟩
 have stn:=E0 (h:=g) (n:=2) (z:=[.nils,.nils]) (l:=[r,.nils]) rfl rfl (by simp [b9,ho.sl.oneCell.2])
 have hgr:g.get rid=some (.cells [lv,.map m] false):=by rw [hf.get _ (by show rid<h.next+1;omega),c9 (by omega)];exact hr
 have hgm:g.get m=some (.map es clock):=by rw [hf.get _ (by show m<h.next+1;omega),c9 (by omega)];exact hm
 obtain ⟨g2,hg2⟩:∃ g2,g2=g.push (.cells [r,.nils] false):=⟨_,rfl⟩
 have g2n:g2.next=n0+3:=by rw [hg2];show g.next+1=_;omega
 have g2o:∀ i,i<n0+2→g2.get i=g.get i:=fun i hi=>by rw [hg2,c9 (by omega)]
 have g2c:g2.get (n0+2)=some (.cells [r,.nils] false):=by rw [hg2,← hn0];exact a7 _
 rw [← hg2] at stn
 have l2:load1 g2 rid 1=.ok (.map m):=by
  have:g2.get rid=some (.cells [lv,.map m] false):=by rw [g2o _ (by omega)];exact hgr
  rw [d6 this];rfl
 have rm:R0 g2 (.map m)=okV (.ptr (n0+3) 0) (g2.push (.miter (some m) clock [] clock)):=by
  have:g2.get m=some (.map es clock):=by rw [g2o _ (by omega)];exact hgm
  simp [R0,this,g2n]
 have hzl:zs.length=es.length:=by have:=congrArg List.length hk;simpa using this.symm
 simp [stn,l2,rm,ho.sl.oneCell.1,L5]
 refine o0w (fun k σ ds g=>∃ picked ks,k+picked.length=es.length∧ds=[]∧σ 1=.int .i64 (-9223372036854775808)∧σ 2=.int .i64 9223372036854775807∧σ 6=.ptr h.next 0∧σ 7=.ptr (n0+2) 0∧σ 20=.ptr (n0+3) 0∧RS n0 r g2 m clock es picked ks g) es.length ?_ ?_
 ·refine ⟨[],[],rfl,rfl,by simp,by simp,by simp,by simp [hn0],by simp,⟨fun e he=>(by cases he),by simp,rfl,by simp [g2n],fun i hi=>?_,?_,?_,.inl rfl⟩⟩
  ·rw [c9 (by omega)]
  ·rw [c9 (by omega)];exact g2c
  ·rw [← g2n];exact a7 _
 ·rintro k σ ds gg ⟨picked,ks,hk',rfl,e1,e2,e6,e7,e20,hR⟩
  have hmg:gg.get m=some (.map es clock):=by rw [hR.old _ (by omega),g2o _ (by omega)];exact hgm
  simp [e20]
  refine i03 hR.it hmg hb ?_ ?_
  ·intro hall
   have hp:=h0o hR.sub hR.nd hd hall
   have hpl:picked.length=zs.length:=by rw [hzl];exact hp.length_eq
   have hks:ks.Perm zs:=by
    have e1:(picked.map kv).Perm (es.map kv):=hp.map _
    rw [hR.keys,hk] at e1
    have e2:∀ l:List (Int×Int),(l.map kz).map (fun v=>match v with | (.int _ a,.int _ b)=>(a,b) | _=>(0,0))=l:=by
     intro l;induction l with
     | nil=>rfl
     | cons x l ih=>simp only [List.map_cons] at ih ⊢;rw [ih];rfl
    have:=e1.map (fun v=>match v with | (.int _ a,.int _ b)=>(a,b) | _=>(0,0))
    rwa [e2,e2] at this
   have hkl:ks.length=zs.length:=hks.length_eq
   have l3:load1 gg (n0+2) 1=.ok (sv n0 2 2 zs.length):=by rw [d6 hR.cell,hpl];rfl
   have hrow:=hR.row
   rw [hpl] at hrow
   have hgn':=hR.next
   rw [hpl] at hgn'
   have ln:loadN gg (n0+2) 0 2=.ok [r,sv n0 2 2 zs.length]:=by rw [← hpl];exact G6 hR.cell rfl
   have e0:g.next - 2=n0:=by omega
   rw [e0] at hK
   have g0:gg.get h.next=some (.cells [.nils,.nils] false):=by
    rw [hR.old _ (by omega),g2o _ (by omega),hf.get _ (by show h.next<h.next+1;omega)];exact a7 _
   simp [e7,l3]
   by_cases h0:zs.length=0
   ·have e1:sv n0 2 2 zs.length=.nils:=by simp [sv,h0]
    rw [e1] at ln hK ⊢
    refine j0F (S:=S0) (G:=g05 2 [.func (.func o8) [] []] (g0t .i64 .u64 cfS)) (by simp [S0]) k06 ?_
    have st:B5 gg h.next 0 [r,.nils]=.ok (gg.set h.next (.cells [r,.nils] false)):=by
     rw [B8 g0 (by simp) (by simp [b9,ho.sl.oneCell.2]) (by simp)];rfl
    have ln2:loadN (gg.set h.next (.cells [r,.nils] false)) h.next 0 2=.ok [r,.nils]:=G6 (l6 _ _) rfl
    simp [e7,e6,B4,ln,Y6,st,ln2,a0g]
    refine hK _ (by show gg.next=_;omega) (fun i hi hne=>?_) (.inl h0)
    rw [b8 hne,hR.old _ (by omega),g2o _ (by omega)]
   ·have e1:sv n0 2 2 zs.length=.slice (n0+3+2*zs.length) 0 zs.length zs.length false 2:=by simp [sv,h0]
    rw [e1] at ln hK ⊢
    have hr':=hrow.resolve_left h0
    have hsort:=i0A (es:=2) (rest:=[.func (.func o8) [] []]) (D:=g0t .i64 .u64 cfS) (len:=zs.length) (cap:=zs.length) (x:=false) (A':=fl2 .i64 .u64 (R4 cfS zs)) hr' (by rw [w7,hkl]) (by omega) (by omega)
     ⟨ks,rfl,fun x hx y hy=>htot x (hks.mem_iff.1 hx) y (hks.mem_iff.1 hy),by rw [c07 m0S htot hks]⟩ (by
     rintro A'' ⟨ss',h1,_,rfl⟩
     rw [← j0J h1,c07 m0S htot hks]) (by rw [w7,w7,hkl,b0L])
    refine j0F (S:=S0) (G:=g05 2 [.func (.func o8) [] []] (g0t .i64 .u64 cfS)) (by simp [S0]) hsort ?_
    obtain ⟨g3,hg3⟩:∃ g3,g3=gg.set (n0+3+2*zs.length) (.cells (fl2 .i64 .u64 (R4 cfS zs)) false):=⟨_,rfl⟩
    rw [← hg3]
    have g3o:∀ i,i≠n0+3+2*zs.length→g3.get i=gg.get i:=fun i hi=>by rw [hg3,b8 hi]
    have ln':loadN g3 (n0+2) 0 2=.ok [r,.slice (n0+3+2*zs.length) 0 zs.length zs.length false 2] :=
     G6 (vs:=[r,.slice (n0+3+2*zs.length) 0 zs.length zs.length false 2]) (ro:=false) (by rw [g3o _ (by omega),hR.cell,hpl,e1]) rfl
    have st:B5 g3 h.next 0 [r,.slice (n0+3+2*zs.length) 0 zs.length zs.length false 2]=.ok (g3.set h.next (.cells [r,.slice (n0+3+2*zs.length) 0 zs.length zs.length false 2] false)):=by
     rw [B8 (vs:=[.nils,.nils]) (by rw [g3o _ (by omega)];exact g0) (by simp) (by simp [b9,ho.sl.oneCell.2]) (by simp)];rfl
    have ln2:loadN (g3.set h.next (.cells [r,.slice (n0+3+2*zs.length) 0 zs.length zs.length false 2] false)) h.next 0 2=.ok [r,.slice (n0+3+2*zs.length) 0 zs.length zs.length false 2]:=G6 (l6 _ _) rfl
    simp [e7,e6,B4,ln',Y6,st,ln2,a0g]
    refine hK _ (by show g3.next=_;rw [hg3];show gg.next=_;omega) (fun i hi hne=>?_) (.inr ?_)
    ·rw [b8 hne,g3o _ (by omega),hR.old _ (by omega),g2o _ (by omega)]
    ·rw [b8 (by omega),hg3,show g.next+1+2*zs.length=n0+3+2*zs.length from by omega];exact l6 _ _
  ·intro e he hnew
   obtain ⟨z,hz⟩:∃ z:Int×Int,z ∈ zs∧kv e=kz z:=by
    have:kv e ∈ zs.map kz:=by rw [← hk];exact List.mem_map.2 ⟨e,he,rfl⟩
    obtain ⟨s,h1,h⟩:=List.mem_map.1 this
    exact ⟨s,h1,h.symm⟩
   obtain ⟨hz1,hz⟩:=hz
   have hek:e.key=.int .i64 z.1:=congrArg Prod.fst hz
   have hev:e.val=.int .u64 z.2:=congrArg Prod.snd hz
   have hlt:=k08 hR.sub hR.nd he hnew
   generalize hg1:gg.set (n0+3) _=g1
   have n1:g1.next=gg.next:=by rw [← hg1];rfl
   have o1:∀ i,i≠n0+3→g1.get i=gg.get i:=fun i hi=>by rw [← hg1];exact b8 hi
   have it1:g1.get (n0+3)=some (.miter (some m) clock (picked.map AEntry.born++[e.born]) clock):=by rw [← hg1];exact l6 _ _
   have hm2:g1.get m=some (.map es clock):=by rw [o1 _ (by omega)];exact hmg
   have oe:=h02 it1 hm2 he hd
   rw [hek,hev] at oe
   have hkl:ks.length=picked.length:=by have:=congrArg List.length hR.keys;simpa using this.symm
   have hrn':=hR.next
   have hc1:g1.get (n0+2)=some (.cells [r,sv n0 2 2 picked.length] false):=by rw [o1 _ (by omega)];exact hR.cell
   have l3:load1 g1 (n0+2) 1=.ok (sv n0 2 2 picked.length):=by rw [d6 hc1];rfl
   have hrow1:picked.length=0∨g1.get (n0+3+2*picked.length)=some (.cells (fl2 .i64 .u64 ks) false):=by
    rcases hR.row with h | h
    ·exact .inl h
    ·by_cases h0:picked.length=0
     ·exact .inl h0
     ·exact .inr (by rw [o1 _ (by omega)];exact h)
   obtain ⟨g',a1,a2,a3,a4⟩:=o0s (w:=2) (es:=2) (n0:=n0) (j:=picked.length) (g:=g1) (l:=fl2 .i64 .u64 ks) (x:=[.int .i64 z.1,.int .u64 z.2]) (bytes:=16) rfl rfl (by rw [w7,hkl])
    hrow1 (by omega) (by omega) (by omega)
   have b1:=(hrg z hz1).1
   have b2:=(hrg z hz1).2
   have hc2:g'.get (n0+2)=some (.cells [r,sv n0 2 2 picked.length] false):=by rw [a4 _ (by omega) (by omega)];exact hc1
   have st:B5 g' (n0+2) 1 [.slice (g1.next+1) 0 (picked.length+1) (picked.length+1) false 2]=.ok (g'.set (n0+2) (.cells [r,.slice (g1.next+1) 0 (picked.length+1) (picked.length+1) false 2] false)):=by
    rw [B8 hc2 (by simp) rfl (by simp)];rfl
   simp [hek,hev,e20,oe,e1,e2,e6,e7,b1,b2,l3,a1,L5,st,I0]
   refine ⟨k - 1,by omega,picked++[e],by simp;omega,ks++[z],⟨?_,e0s hR.nd hnew,?_,?_,fun i hi=>?_,?_,?_,.inr ?_⟩⟩
   ·intro x hx
    rcases List.mem_append.1 hx with h | h
    ·exact hR.sub x h
    ·rw [List.mem_singleton.1 h];exact he
   ·rw [List.map_append,List.map_append,hR.keys];simp [hz]
   ·show g'.next=_
    rw [List.length_append,List.length_singleton];omega
   ·rw [b8 (by omega),a4 _ (by omega) (by omega),o1 _ (by omega)];exact hR.old i hi
   ·rw [l6,List.length_append,List.length_singleton]
    have:g1.next+1=n0+3+2*(picked.length+1):=by omega
    simp [sv,this]
   ·rw [b8 (by omega),a4 _ (by omega) (by omega),it1];simp
   ·rw [b8 (by simp;omega),List.length_append,List.length_singleton,show n0+3+2*(picked.length+1)=g1.next+1 from by omega,a3,j0d];rfl
end Go.Dk
