/-
  Texts joined.
-/
import Derived.Test.YtnapechhagnmaaaGreatDoorT5
import Derived.Test.YtnapechhagnmaaaGreatDoorT4
import Derived.Shelf.Strings.Builder1
import Derived.Shelf.Strings.Builder2
import Derived.Shelf.Small.Bits
import Derived.Shelf.Small.Strs
import Derived.Shelf.Strings.BuilderF
import Derived.Shelf.Strings.BuilderK
import Derived.Shelf.Strings.Builder2Cap
import Derived.Shelf.Strconv.Itoa0
import Derived.Shelf.Strings.Search1
import Derived.Shelf.Strings.Search2
import Derived.Shelf.Strings.Search3
import Derived.Shelf.LaysM
import Derived.Shelf.Strings.Shaped
import Derived.Shelf.Unicode.DecodeSlow
import Derived.Shelf.Unicode.DecodeAny
import Derived.Shelf.Strings.MapAny
import Derived.Shelf.Strings.BuilderCap
import Derived.Test.YtnapechhagnmaaaGreatDoorProg
import Derived.Room.Shelf.BuilderFits
import Derived.Lib.MapLaws
import Derived.Laws.DeepStrings4
import Derived.Deep.LoopGhost
import Derived.Deep.DeepCutAuto
import Derived.Deep.DeepFit
import Derived.Deep.DeepMust
import Derived.Test.YtnapechhagnmaaaGreatDoorT3
import Derived.Test.YtnapechhagnmaaaGreatDoorRows
import Derived.Test.YtnapechhagnmaaaGreatDoorCards
import Derived.Test.YtnapechhagnmaaaGreatDoorTie
import Derived.Test.YtnapechhagnmaaaGreatDoorT2
import Derived.Lib.LaidIn
import Derived.SevenTiedAt
import Derived.SizedLaws

namespace Go.Dk
open Go Go.Dr
set_option maxRecDepth 100000
section
variable {B c M N:Nat} {h g:AH} {pv cv:AV} {rs:List Int} {is:List Ins} {bad:Bool}
theorem Q1 (a:Cod B g c pv rs cv is bad M N) (hB:B≤g.next) {x:Ins} (hsp:SpO g c cv x.sv) (htg:TgO M x) (hpot:is.length+1+2*rs.length≤N) :
  Ev P SI (.fn j6) [.ptr c 0,.slice g.next 0 1 1 true 5] (g.push (.cells (inC x) false)) fun r g'=>r=.tuple []∧PuK B g c pv rs cv (is++[x]) bad M N g':=by
 have f:Fr g (g.push (.cells (inC x) false)):=Fr.push (.refl g) _
 have hx:Sl (g.push (.cells (inC x) false)) 5 1 (.slice g.next 0 1 1 true 5) ([x].flatMap inC):=by
  have:[x].flatMap inC=inC x:=by simp
  rw [this];exact (Own.fresh (B:=0) (h:=g) (es:=5) (n:=1) true (Nat.zero_le _) rfl).sl
 refine (e0x (a.fr f) (Nat.le_trans hB f.next) hx (fun y hy=>by rw [List.mem_singleton.1 hy];exact hsp.keep (.of f) (.refl _ _)) (fun y hy=>by rw [List.mem_singleton.1 hy];exact htg) (by simpa using hpot)).mono ?_
 rintro r g2 ⟨rfl,cv2,a2,f2,w2⟩
 exact ⟨rfl,cv2,a2,(FrC.of f).trans (.refl _ _) f2,Nw.trans (.refl _ _) f.next w2⟩
theorem SpO.nil (g:AH) (c:Nat) (cv:AV):SpO g c cv .nils:=⟨[],Nat.zero_le _,⟨rfl,.inl ⟨rfl,rfl⟩⟩,fun i e=>by cases e⟩
theorem StK.of_put {E:Bool→List Int→Prop} {lim:Nat} {x:List Ins} {pv':AV} {rs':List Int} {bad':Bool} (hM:M≤N) (f:FrC c cv h g) {g2:AH} (p:PuK B g c pv' rs' cv (is++x) bad' M N g2) (hl:rs'.length≤rs.length) (hlim:is.length+x.length+2*rs'.length≤lim) (hE:E bad' rs'):StK B h c cv is rs M N lim E g2:=by
 obtain ⟨cv2,a2,f2,w2⟩:=p
 have hp:=a2.pot
 exact ⟨pv',rs',cv2,_,bad',a2.le (Nat.le_max_left _ _) (Nat.max_le.2 ⟨hM,by omega⟩),f.trans (.refl _ _) f2,Nw.trans (.refl _ _) f.next w2,by simp,hl,by rw [List.length_append];exact hlim,hE⟩
theorem StK.of_cod {E:Bool→List Int→Prop} {lim:Nat} {pv':AV} {rs':List Int} {bad':Bool} (a:Cod B g c pv' rs' cv is bad' M N) (f:FrC c cv h g) (hl:rs'.length≤rs.length) (hlim:is.length+2*rs'.length≤lim) (hE:E bad' rs'):StK B h c cv is rs M N lim E g :=
 ⟨pv',rs',cv,is,bad',a.le (Nat.le_max_left _ _) (Nat.max_le.2 ⟨a.MN,by have:=a.pot;omega⟩),f,.refl _ _,Nat.le_refl _,hl,hlim,hE⟩
def s0A (n:Nat):Prop:=∀ (B c M N deep:Nat) (h:AH) (pv cv:AV) (rs:List Int) (is:List Ins) (bad:Bool),deep≤10→B≤h.next→M≤is.length→Cod B h c pv rs cv is bad M N→rs.length≤n →
 Ev P SI (.fn s9) [.ptr c 0,.int .i64 (deep:Int)] h fun r g=>r=.tuple []∧StK B h c cv is rs M N (is.length+2*rs.length) (fun _ _=>True) g
def LtE (rs:List Int) (bad':Bool) (rs':List Int):Prop:=bad'=true∨rs'.length<rs.length
theorem n0P {deep:Nat} (ih:∀ m,m<rs.length→s0A m) (hd:deep≤10) (hB:B≤h.next) (hM:M≤is.length) (a:Cod B h c pv rs cv is bad M N) (hne:rs≠[]) :
  Ev P SI (.fn X0) [.ptr c 0,.int .i64 (deep:Int)] h fun r g=>r=.tuple []∧StK B h c cv is rs M N (is.length+2*rs.length) (LtE rs) g:=by
 refine j9 f0b rfl rfl ?_
 have hpot:=a.pot
 cases hg:amg rs [42,43,63,124,41,93] with
 | true =>
  have st:=g0L a true
  have K:StK B h c cv is rs M N (is.length+2*rs.length) (LtE rs) (h.set c (.cells [pv,cv,.bool true] false)) :=
   StK.of_cod (a.setc (bad':=true) a.run rfl (Nat.le_refl _)) ⟨Nat.le_refl _,fun i _ h2 _=>a6 h2⟩ (Nat.le_refl _) (Nat.le_refl _) (.inl rfl)
  simp [V7,E4 a,hg,st]
  exact K
 | false =>
  simp [V7,E4 a,hg]
  refine (M1 a).mono ?_
  rintro r g1 ⟨z,pv1,rs1,bad1,rfl,a1,n1,o1,l1,s1,b1,i1⟩
  have hlt:=s1 hne
  have f1:FrC c cv h g1:=⟨by omega,fun i _ h2 _=>o1 i h2⟩
  have hB1:B≤g1.next:=by omega
  have hlit:∀ (w:Int) (g2:AH) (pv2:AV) (rs2:List Int) (bad2:Bool),Cod B g2 c pv2 rs2 cv is bad2 M N→FrC c cv h g2→B≤g2.next→rs2.length<rs.length →
    Ev P SI (.fn j6) [.ptr c 0,.slice (g2.push (.cells [.int .i32 w,.int .i32 w] false)).next 0 1 1 true 5] ((g2.push (.cells [.int .i32 w,.int .i32 w] false)).push (.cells [.int .i64 1,.slice g2.next 0 1 1 true 2,.bool false,.int .i64 0,.int .i64 0] false)) fun r g=>r=.tuple []∧StK B h c cv is rs M N (is.length+2*rs.length) (LtE rs) g:=by
   intro w g2 pv2 rs2 bad2 a2 f2 hB2 hl2
   obtain ⟨g3,hg3⟩:∃ g3,g3=g2.push (.cells [.int .i32 w,.int .i32 w] false):=⟨_,rfl⟩
   have f3:Fr g2 g3:=by rw [hg3];exact Fr.push (.refl g2) _
   have hs:SpO g3 c cv (.slice g2.next 0 1 1 true 2):=⟨[(w,w)],by simp,by rw [hg3];exact (Own.fresh (B:=0) (h:=g2) (es:=2) (n:=1) true (Nat.zero_le _) rfl).sl,fun i e=>by
    cases e
    exact ⟨by have:=a2.clt;omega,fun e'=>by have:=Sl.idLt a2.code.sl e';omega⟩⟩
   rw [← hg3]
   refine (Q1 (x:=⟨1,.slice g2.next 0 1 1 true 2,false,0,0⟩) (a2.fr f3) (Nat.le_trans hB2 f3.next) hs ⟨Int.le_refl _,by simp,Int.le_refl _,by simp⟩ (by omega)).mono ?_
   rintro r g4 ⟨rfl,p⟩
   exact ⟨rfl,StK.of_put a.MN (f2.trans (.refl _ _) (.of f3)) p (by omega) (by simp only [List.length_cons,List.length_nil];omega) (.inr hl2)⟩
  by_cases h46:z=46
  ·simp [h46,E3,B5,H6,x9,t7]
   refine (Q1 (x:=⟨1,.nils,true,0,0⟩) a1 hB1 (SpO.nil _ _ _) ⟨Int.le_refl _,by simp,Int.le_refl _,by simp⟩ (by omega)).mono ?_
   rintro r g4 ⟨rfl,p⟩
   simp
   exact StK.of_put a.MN f1 p l1 (by simp only [List.length_cons,List.length_nil];omega) (.inr hlt)
  ·by_cases h91:z=91
   ·simp [h91]
    refine (l0H a1 hB1 (by omega)).mono ?_
    rintro r g4 ⟨rfl,pv4,rs4,cv4,is4,bad4,a4,f4,w4,k1,k2,k3,_⟩
    simp
    exact ⟨pv4,rs4,cv4,is4,bad4,a4,f1.trans (.refl _ _) f4,Nw.trans (.refl _ _) f1.next w4,k1,by omega,by omega,.inr (by omega)⟩
   ·by_cases h40:z=40
    ·have l2:=n0K a1
     have badK:StK B h c cv is rs M N (is.length+2*rs.length) (LtE rs) (g1.set c (.cells [pv1,cv,.bool true] false)) :=
      StK.of_cod (a1.setc (bad':=true) a1.run rfl (Nat.le_refl _)) ⟨by show h.next≤g1.next;omega,fun i _ h2 _=>by rw [a6 h2];exact o1 i h2⟩ l1 (by omega) (.inl rfl)
     have stT:=g0L a1 true
     cases bad1 with
     | true =>
      simp [h40,l2,stT]
      exact badK
     | false =>
      by_cases hdp:10≤deep
      ·have hdi:(10:Int)≤(deep:Int):=by omega
       simp [h40,l2,hdi,stT]
       exact badK
      ·have hdi:¬ (10:Int)≤(deep:Int):=by omega
       have wd:x7 .i64 ((deep:Int)+1)=((deep+1:Nat):Int):=by rw [wrap_i64 (by omega) (by omega)];omega
       have stF:=g0L a1 false
       have a1':=a1.setc (bad':=false) a1.run rfl (Nat.le_refl _)
       simp [h40,l2,hdi,stF,wd]
       refine (ih rs1.length hlt B c M N (deep+1) _ _ _ _ _ _ (by omega) (by show B≤g1.next;omega) hM a1' (Nat.le_refl _)).mono ?_
       rintro r g2 ⟨rfl,pv2,rs2,cv2,is2,bad2,a2,f2,w2,k1,k2,k3,_⟩
       have f02:FrC c cv h g2:=(show FrC c cv h (g1.set c (.cells [pv1,cv,.bool false] false)) from ⟨by show h.next≤g1.next;omega,fun i _ h2 _=>by rw [a6 h2];exact o1 i h2⟩).trans (.refl _ _) f2
       have w02:Nw h cv cv2:=Nw.trans (.refl _ _) (show h.next≤(g1.set c (.cells [pv1,cv,.bool false] false)).next by show h.next≤g1.next;omega) w2
       have fin:∀ {g3:AH} {bad3:Bool},Cod B g3 c pv2 rs2 cv2 is2 bad3 (max M is2.length) N→g3.next=g2.next→(∀ i,i≠c→g3.get i=g2.get i)→Ev P SI (.fn j7) [.ptr c 0] g3 fun r g=>StK B h c cv is rs M N (is.length+2*rs.length) (LtE rs) g:=by
        intro g3 bad3 a3 n3 o3
        refine (M1 a3).mono ?_
        rintro r g4 ⟨z4,pv4,rs4,bad4,rfl,a4,n4,o4,l4,s4,b4,i4⟩
        exact ⟨pv4,rs4,cv2,is2,bad4,a4,f02.trans w02 ⟨by omega,fun i _ h2 _=>(o4 i h2).trans (o3 i h2)⟩,w02,k1,by omega,by omega,.inr (by omega)⟩
       by_cases h41:rhd rs2=41
       ·simp [a0r a2,h41]
        refine (fin a2 rfl fun _ _=>rfl).mono ?_
        intro r g K
        simp
        exact K
       ·have st2:=g0L a2 true
        simp [a0r a2,h41,st2]
        refine (fin (a2.setc (bad':=true) a2.run rfl (Nat.le_refl _)) rfl fun i h2=>a6 h2).mono ?_
        intro r g K
        simp
        exact K
    ·by_cases h92:z=92
     ·simp [h92]
      refine (M1 a1).mono ?_
      rintro r g2 ⟨z2,pv2,rs2,bad2,rfl,a2,n2,o2,l2,s2,b2,i2⟩
      simp [E3,B5,H6,x9,t7]
      refine (hlit z2 g2 pv2 rs2 bad2 a2 ⟨by omega,fun i _ h2 _=>(o2 i h2).trans (o1 i h2)⟩ (by omega) (by omega)).mono ?_
      rintro r g4 ⟨rfl,K⟩
      simp
      exact K
     ·simp [h46,h91,h40,h92,E3,B5,H6,x9,t7]
      refine (hlit z g1 pv1 rs1 bad1 a1 f1 hB1 hlt).mono ?_
      rintro r g4 ⟨rfl,K⟩
      simp
      exact K
theorem Own.sameC {es n:Nat} {B':Nat} {v:AV} {l:List AV} {g2:AH} (o:Own B' g es n v l) (n2:g.next≤g2.next) (hc:c<B') (cl:∀ i,j5 cv=some i→j5 v≠some i) (f:FrC c cv g g2):Own B' g2 es n v l :=
 Own.keep o n2 fun i e=>f.get i (Sl.idLt o.sl e) (by have:=Own.ge o e;omega) fun e'=>cl i e' e
theorem TgO.sh {x:Ins} (a:TgO M x):TgO (M+1) (shI x):=⟨by have:=a.1;show 0≤x.x+1;omega,by have:=a.2.1;show x.x+1≤_;omega,by have:=a.2.2.1;show 0≤x.y+1;omega,by have:=a.2.2.2;show x.y+1≤_;omega⟩
theorem d03 (a:Cod B g c pv rs cv is bad M N) (hB:B≤g.next) {m M0:Nat} {xv:AV} {js:List Ins} (hx:Sl g 5 m xv (js.flatMap inC)) (hsp:∀ x ∈ js,SpO g c cv x.sv) (htg:∀ x ∈ js,TgO M0 x) (hM0:M0+1≤M) (hpot:is.length+js.length+2*rs.length≤N) :
  Ev P SI (.fn L2) [xv,.int .i64 1] g fun v g1=>Ev P SI (.fn j6) [.ptr c 0,v] g1 fun r g'=>r=.tuple []∧PuK B g c pv rs cv (is++js.map shI) bad M N g':=by
 have hN:=a.NN
 have hMN:=a.MN
 have hm:js.length=m:=by have:=hx.1;rw [g0e] at this;omega
 refine (j0I (M:=M0) hx (fun x hxm=>(hsp x hxm).scal) htg (by omega) (by omega)).mono ?_
 rintro v g1 ⟨o,f⟩
 refine (e0x (a.fr f) (Nat.le_trans hB f.next) o.sl (fun y hy=>?_) (fun y hy=>?_) (by rw [List.length_map];exact hpot)).mono ?_
 ·obtain ⟨x,hxm,rfl⟩:=List.mem_map.1 hy
  exact (hsp x hxm).keep (.of f) (.refl _ _)
 ·obtain ⟨x,hxm,rfl⟩:=List.mem_map.1 hy
  exact (htg x hxm).sh.le hM0
 ·rintro r g2 ⟨rfl,cv2,a2,f2,w2⟩
  exact ⟨rfl,cv2,a2,(FrC.of f).trans (.refl _ _) f2,Nw.trans (.refl _ _) f.next w2⟩
def v0J (m:Nat) (bad:Bool) (rs:List Int):Prop:=m=if bad=true then 0 else rs.length+1
def w01 (B:Nat) (h:AH) (c deep:Nat) (cv:AV) (is:List Ins) (rs:List Int) (M N:Nat):Inv:=fun m σ ds g =>
 ds=[]∧σ 0=.ptr c 0∧σ 1=.int .i64 (deep:Int)∧StK B h c cv is rs M N (is.length+2*rs.length) (v0J m) g
theorem Cod.done {E:Bool→List Int→Prop} {js:List Ins} {is0:List Ins} {rs0:List Int} {M0 lim:Nat} {cv0:AV} (f:FrC c cv0 h g) (w:Nw h cv0 cv) (a:Cod B g c pv rs cv js bad M N) (hM:M≤js.length) (hMM:M0≤N) (hl:is0.length≤js.length) (hr:rs.length≤rs0.length) (hlim:js.length+2*rs.length≤lim) (hE:E bad rs):StK B h c cv0 is0 rs0 M0 N lim E g :=
 ⟨pv,rs,cv,js,bad,a.le (Nat.le_trans hM (Nat.le_max_right _ _)) (Nat.max_le.2 ⟨hMM,by have:=a.pot;omega⟩),f,w,hl,hr,hlim,hE⟩
theorem k04 {deep:Nat} (ih:∀ m,m<rs.length→s0A m) (hd:deep≤10) (hB:B≤h.next) (hM:M≤is.length) (a:Cod B h c pv rs cv is bad M N) :
  Ev P SI (.fn S8) [.ptr c 0,.int .i64 (deep:Int)] h fun r g=>r=.tuple []∧StK B h c cv is rs M N (is.length+2*rs.length) (fun _ _=>True) g:=by
 refine j9 d0K rfl rfl ?_
 have hNN:=a.NN
 have hMN:=a.MN
 simp [a0I]
 refine b02 (w01 B h c deep cv is rs M N) (if bad=true then 0 else rs.length+1) ⟨rfl,by simp,by simp,StK.of_cod a (.refl _ _ _) (Nat.le_refl _) (Nat.le_refl _) rfl⟩ ?_
 rintro m σ ds g ⟨rfl,e0,e1,pv1,rs1,cv1,is1,bad1,a1,f1,w1,k1,k2,k3,hm⟩
 have out:StK B h c cv is rs M N (is.length+2*rs.length) (fun _ _=>True) g:=⟨pv1,rs1,cv1,is1,bad1,a1,f1,w1,k1,k2,k3,trivial⟩
 have hmx:max M is1.length=is1.length:=Nat.max_eq_right (by omega)
 rw [hmx] at a1
 cases bad1 with
 | true =>
  simp [e0,T1 a1]
  exact out
 | false =>
  have hm':m=rs1.length+1:=by rw [v0J] at hm;simpa using hm
  by_cases hne:rs1=[]
  ·simp [e0,T1 a1,hne]
   exact out
  ·have hie:rs1.isEmpty=false:=by cases rs1 with
    | nil=>exact absurd rfl hne
    | cons=>rfl
   cases hg1:amg rs1 [124,41] with
   | true =>
    simp [e0,T1 a1,hie,E4 a1,hg1]
    exact out
   | false =>
    have l1:=m0l a1
    have hln:=a1.code.sl.len
    obtain ⟨F,hF⟩:∃ F,F=is1.length:=⟨_,rfl⟩
    rw [← hF] at hln
    simp [e0,e1,T1 a1,hie,E4 a1,hg1,l1,hln]
    refine (n0P (fun m hm=>ih m (by omega)) hd (by have:=f1.next;omega) (Nat.le_refl _) a1 hne).mono ?_
    rintro r g2 ⟨rfl,pv2,rs2,cv2,is2,bad2,a2,f2,w2,j1,j2,j3,jE⟩
    have hmx2:max is1.length is2.length=is2.length:=Nat.max_eq_right j1
    rw [hmx2] at a2
    have f02:=f1.trans w1 f2
    have w02:=w1.trans f1.next w2
    have l2:=n0K a2
    cases bad2 with
    | true =>
     simp [e0,e1,l2,m7]
     exact ⟨0,by omega,rfl,by simp [e0],by simp [e1],Cod.done f02 w02 a2 (Nat.le_refl _) hMN (by omega) (by omega) (by omega) rfl⟩
    | false =>
     have hlt:rs2.length<rs1.length:=by
      rcases jE with h | h
      ·cases h
      ·exact h
     cases hg2:amg rs2 [42,43,63] with
     | false =>
      simp [e0,e1,l2,m7,E4 a2,hg2]
      exact ⟨rs2.length+1,by omega,rfl,by simp [e0],by simp [e1],Cod.done f02 w02 a2 (Nat.le_refl _) hMN (by omega) (by omega) (by omega) rfl⟩
     | true =>
      have hne2:rs2≠[]:=fun e=>by rw [e] at hg2;simp [amg] at hg2
      have hpos2:0<rs2.length:=List.length_pos_iff.2 hne2
      have hpot2:=a2.pot
      simp [e0,e1,l2,E4 a2,hg2]
      refine (i0K a2 (k:=F) (by omega)).mono ?_
      rintro lv g3 ⟨cv3,a3,f3,hid3,o3⟩
      obtain ⟨n,hn⟩:∃ n,n=is2.length - F:=⟨_,rfl⟩
      rw [← hn] at o3
      have w3:Nw g2 cv2 cv3:=Nw.id hid3
      have f03:=f02.trans w02 f3
      have w03:=w02.trans f02.next w3
      have hlvn:=o3.sl.len
      simp [e0,hlvn]
      refine (M1 a3).mono ?_
      rintro r g4 ⟨z,pv4,rs4,bad4,rfl,a4,n4,o4,l4,s4,b4,i4⟩
      have hlt4:=s4 hne2
      have f4:FrC c cv3 g3 g4:=⟨by omega,fun i _ h2 _=>o4 i h2⟩
      have F4:=f03.trans w03 f4
      have W4:Nw h cv cv3:=w03
      have htk:(is2.take F).length=F:=by rw [List.length_take];omega
      have hdl:(is2.drop F).length=n:=by rw [List.length_drop,hn]
      have hlv4:Own g2.next g4 5 n lv ((is2.drop F).flatMap inC):=Own.sameC (cv:=cv3) o3 f4.next (by have:=a2.clt;omega) (fun i e e'=>by
       rw [hid3] at e
       have:=Sl.idLt a2.code.sl e
       have:=Own.ge o3 e';omega) f4
      have hsp4:∀ x ∈ is2.drop F,SpO g4 c cv3 x.sv:=fun x hx=>((a2.sp x (List.mem_of_mem_drop hx)).keep f3 w3).keep f4 (.refl _ _)
      have htg4:∀ x ∈ is2.drop F,TgO is2.length x:=fun x hx=>a2.tg x (List.mem_of_mem_drop hx)
      have hB4:B≤g4.next:=by have:=F4.next;omega
      have wF1:x7 .i64 ((F:Int)+1)=(F:Int)+1:=wrap_i64 (by omega) (by omega)
      have wFn:x7 .i64 ((F:Int)+(n:Int))=(F:Int)+(n:Int):=wrap_i64 (by omega) (by omega)
      have wFn1:x7 .i64 ((F:Int)+(n:Int)+1)=(F:Int)+(n:Int)+1:=wrap_i64 (by omega) (by omega)
      have wFn2:x7 .i64 ((F:Int)+(n:Int)+2)=(F:Int)+(n:Int)+2:=wrap_i64 (by omega) (by omega)
      have lvs:∀ {g5:AH} {cv5:AV},FrC c cv3 g4 g5→Nw g4 cv3 cv5→Sl g5 5 n lv ((is2.drop F).flatMap inC)∧(∀ x ∈ is2.drop F,SpO g5 c cv5 x.sv):=fun f5 w5 =>
       ⟨(Own.sameC (cv:=cv3) hlv4 f5.next (by have:=a2.clt;omega) (fun i e e'=>by
        rw [hid3] at e
        have:=Sl.idLt a2.code.sl e
        have:=Own.ge hlv4 e';omega) f5).sl,fun x hx=>(hsp4 x hx).keep f5 w5⟩
      by_cases h42:z=42
      ·have a4':=a4.le (M':=is2.length+2) (by omega) (by omega)
       simp [e0,h42,wF1,wFn,wFn2,E3,B5,H6,x9,t7]
       refine (Q1 (x:=⟨2,.nils,false,(F:Int)+1,(F:Int)+(n:Int)+2⟩) a4' hB4 (SpO.nil _ _ _) ⟨by show (0:Int)≤(F:Int)+1;omega,by show (F:Int)+1≤_;omega,by show (0:Int)≤(F:Int)+n+2;omega,by show (F:Int)+n+2≤_;omega⟩ (by omega)).mono ?_
       rintro r g5 ⟨rfl,cv5,a5,f5,w5⟩
       obtain ⟨hs5,hp5⟩:=lvs f5 w5
       simp [e0]
       refine (d03 a5 (Nat.le_trans hB4 f5.next) hs5 hp5 htg4 (by omega) (by simp only [List.length_append,List.length_cons,List.length_nil];omega)).mono ?_
       intro v g6 hput
       simp
       refine hput.mono ?_
       rintro r g7 ⟨rfl,cv7,a7,f7,w7⟩
       have f47:=f5.trans w5 f7
       have w47:=w5.trans f5.next w7
       simp [e0,E3,B5,H6,x9,t7]
       refine (Q1 (x:=⟨3,.nils,false,(F:Int),0⟩) a7 (Nat.le_trans hB4 f47.next) (SpO.nil _ _ _) ⟨by show (0:Int)≤(F:Int);omega,by show (F:Int)≤_;omega,by simp,by simp;omega⟩ (by simp only [List.length_append,List.length_map,List.length_cons,List.length_nil];omega)).mono ?_
       rintro r g8 ⟨rfl,cv8,a8,f8,w8⟩
       have f48:=f47.trans w47 f8
       have w48:=w47.trans f47.next w8
       simp [m7]
       refine ⟨if bad4=true then 0 else rs4.length+1,by split <;> omega,rfl,by simp [e0],by simp [e1],Cod.done (F4.trans W4 f48) (W4.trans F4.next w48) a8 ?_ hMN ?_ (by omega) ?_ rfl⟩
       all_goals (simp only [List.length_append,List.length_map,List.length_cons,List.length_nil];omega)
      ·by_cases h43:z=43
       ·have a4':=a4.le (M':=is2.length+1) (by omega) (by omega)
        simp [e0,h43]
        refine (e0x a4' hB4 hlv4.sl hsp4 (fun x hx=>(htg4 x hx).le (by omega)) (by omega)).mono ?_
        rintro r g5 ⟨rfl,cv5,a5,f5,w5⟩
        simp [e0,wFn,wFn1,E3,B5,H6,x9,t7]
        refine (Q1 (x:=⟨2,.nils,false,(F:Int),(F:Int)+(n:Int)+1⟩) a5 (Nat.le_trans hB4 f5.next) (SpO.nil _ _ _) ⟨by show (0:Int)≤(F:Int);omega,by show (F:Int)≤_;omega,by show (0:Int)≤(F:Int)+n+1;omega,by show (F:Int)+n+1≤_;omega⟩ (by simp only [List.length_append];omega)).mono ?_
        rintro r g8 ⟨rfl,cv8,a8,f8,w8⟩
        have f48:=f5.trans w5 f8
        have w48:=w5.trans f5.next w8
        simp [m7]
        refine ⟨if bad4=true then 0 else rs4.length+1,by split <;> omega,rfl,by simp [e0],by simp [e1],Cod.done (F4.trans W4 f48) (W4.trans F4.next w48) a8 ?_ hMN ?_ (by omega) ?_ rfl⟩
        all_goals (simp only [List.length_append,List.length_cons,List.length_nil];omega)
       ·have a4':=a4.le (M':=is2.length+1) (by omega) (by omega)
        simp [e0,h42,h43,wF1,wFn,wFn1,E3,B5,H6,x9,t7]
        refine (Q1 (x:=⟨2,.nils,false,(F:Int)+1,(F:Int)+(n:Int)+1⟩) a4' hB4 (SpO.nil _ _ _) ⟨by show (0:Int)≤(F:Int)+1;omega,by show (F:Int)+1≤_;omega,by show (0:Int)≤(F:Int)+n+1;omega,by show (F:Int)+n+1≤_;omega⟩ (by omega)).mono ?_
        rintro r g5 ⟨rfl,cv5,a5,f5,w5⟩
        obtain ⟨hs5,hp5⟩:=lvs f5 w5
        simp [e0]
        refine (d03 a5 (Nat.le_trans hB4 f5.next) hs5 hp5 htg4 (by omega) (by simp only [List.length_append,List.length_cons,List.length_nil];omega)).mono ?_
        intro v g6 hput
        simp
        refine hput.mono ?_
        rintro r g8 ⟨rfl,cv8,a8,f8,w8⟩
        have f48:=f5.trans w5 f8
        have w48:=w5.trans f5.next w8
        simp [m7]
        refine ⟨if bad4=true then 0 else rs4.length+1,by split <;> omega,rfl,by simp [e0],by simp [e1],Cod.done (F4.trans W4 f48) (W4.trans F4.next w48) a8 ?_ hMN ?_ (by omega) ?_ rfl⟩
        all_goals (simp only [List.length_append,List.length_map,List.length_cons,List.length_nil];omega)
end
end Go.Dk

namespace Go.Dk
open Go Go.Dr
set_option maxRecDepth 100000
section
variable {B c M N:Nat} {h g:AH} {pv cv:AV} {rs:List Int} {is:List Ins} {bad:Bool}
theorem Cod.jump (a:Cod B g c pv rs cv is bad M N) {j:Nat} {x:Ins} (hx:is[j]? = some x) {z:Nat} (hz:z≤M) :
  ∃ id o g2,I3 5 cv (.int .i64 (j:Int))=.ok (.ptr id o)∧v7 g2 id (o+3) []=.ok g2∧v7 g id (o+3) [.int .i64 (z:Int)]=.ok g2∧Cod B g2 c pv rs cv (is.set j { x with x:=z }) bad M N∧FrC c cv g g2:=by
 have hj:=(List.getElem?_eq_some_iff.1 hx).1
 obtain ⟨id,o,g2,e1,e2,s2,n2,o2⟩:=a.code.store (k:=.i64) (i:=(j:Int)) (j:=j) (c:=3) rfl hj (by omega) (x:=.int .i64 (z:Int)) rfl
 have x1:inC { x with x:=z }=(inC x).set 3 (.int .i64 (z:Int)):=rfl
 rw [g0f d0b is j x { x with x:=z } 3 _ hx (by omega) x1] at s2
 have f:FrC c cv g g2:=⟨by omega,fun i _ _ h3=>o2 i h3⟩
 refine ⟨id,o,g2,e1,rfl,e2,⟨by rw [o2 c a.cne];exact a.cell,by rw [n2];exact a.clt,a.cB,J1 a.run (by omega) fun i e=>o2 i (a.pne i e).2,a.pne,by rw [List.length_set];exact s2,a.cne,fun y hy=>?_,fun y hy=>?_,by rw [List.length_set];exact a.pot,a.MN,a.NN⟩,f⟩
 ·obtain ⟨k,hk⟩:=List.getElem?_of_mem hy
  rw [List.getElem?_set] at hk
  by_cases e:j=k
  ·rw [if_pos e,if_pos hj] at hk;cases hk
   exact (a.sp x (List.mem_of_getElem? hx)).keep f (.refl _ _)
  ·rw [if_neg e] at hk
   exact (a.sp y (List.mem_of_getElem? hk)).keep f (.refl _ _)
 ·obtain ⟨k,hk⟩:=List.getElem?_of_mem hy
  rw [List.getElem?_set] at hk
  by_cases e:j=k
  ·rw [if_pos e,if_pos hj] at hk;cases hk
   have t:=a.tg x (List.mem_of_getElem? hx)
   exact ⟨by show (0:Int)≤(z:Int);omega,by show (z:Int)≤_;omega,t.2.2.1,t.2.2.2⟩
  ·rw [if_neg e] at hk
   exact a.tg y (List.mem_of_getElem? hk)
theorem n0m {deep:Nat} (ih:∀ m,m<rs.length→s0A m) (hd:deep≤10) (hB:B≤h.next) (hM:M≤is.length) (a:Cod B h c pv rs cv is bad M N) :
  Ev P SI (.fn s9) [.ptr c 0,.int .i64 (deep:Int)] h fun r g=>r=.tuple []∧StK B h c cv is rs M N (is.length+2*rs.length) (fun _ _=>True) g:=by
 refine j9 b0F rfl rfl ?_
 have hNN:=a.NN
 have hMN:=a.MN
 have l1:=m0l a
 have hln:=a.code.sl.len
 obtain ⟨F,hF⟩:∃ F,F=is.length:=⟨_,rfl⟩
 rw [← hF] at hln
 simp [R9,l1,hln]
 refine (k04 ih hd hB hM a).mono ?_
 rintro r g2 ⟨rfl,pv2,rs2,cv2,is2,bad2,a2,f2,w2,j1,j2,j3,_⟩
 have hmx2:max M is2.length=is2.length:=Nat.max_eq_right (by omega)
 have out:StK B h c cv is rs M N (is.length+2*rs.length) (fun _ _=>True) g2:=⟨pv2,rs2,cv2,is2,bad2,a2,f2,w2,j1,j2,j3,trivial⟩
 rw [hmx2] at a2
 by_cases hne2:rs2=[]
 ·have hie:rs2.isEmpty=true:=by rw [hne2];rfl
  simp [T1 a2,hie]
  exact out
 ·have hie:rs2.isEmpty=false:=by cases rs2 with
   | nil=>exact absurd rfl hne2
   | cons=>rfl
  cases bad2 with
  | true =>
   simp [T1 a2,hie]
   exact out
  | false =>
   by_cases h124:rhd rs2=124
   ·have hpos2:0<rs2.length:=List.length_pos_iff.2 hne2
    have hpot2:=a2.pot
    simp [T1 a2,hie,a0r a2,h124]
    refine (M1 a2).mono ?_
    rintro r g3 ⟨z,pv3,rs3,bad3,rfl,a3,n3,o3,l3,s3,b3,i3⟩
    have hlt3:=s3 hne2
    have f3:FrC c cv2 g2 g3:=⟨by omega,fun i _ h2 _=>o3 i h2⟩
    have F3:=f2.trans w2 f3
    simp
    refine (i0K a3 (k:=F) (by omega)).mono ?_
    rintro lv g4 ⟨cv4,a4,f4,hid4,o4⟩
    obtain ⟨n,hn⟩:∃ n,n=is2.length - F:=⟨_,rfl⟩
    rw [← hn] at o4
    have w4:Nw g3 cv2 cv4:=Nw.id hid4
    have F4:=F3.trans w2 f4
    have W4:=w2.trans F3.next w4
    have hlvn:=o4.sl.len
    have htk:(is2.take F).length=F:=by rw [List.length_take];omega
    have hdl:(is2.drop F).length=n:=by rw [List.length_drop,hn]
    have hsp4:∀ x ∈ is2.drop F,SpO g4 c cv4 x.sv:=fun x hx=>(a3.sp x (List.mem_of_mem_drop hx)).keep f4 w4
    have htg4:∀ x ∈ is2.drop F,TgO is2.length x:=fun x hx=>a2.tg x (List.mem_of_mem_drop hx)
    have hB4:B≤g4.next:=by have:=F4.next;omega
    have wF1:x7 .i64 ((F:Int)+1)=(F:Int)+1:=wrap_i64 (by omega) (by omega)
    have wFn:x7 .i64 ((F:Int)+(n:Int))=(F:Int)+(n:Int):=wrap_i64 (by omega) (by omega)
    have wFn2:x7 .i64 ((F:Int)+(n:Int)+2)=(F:Int)+(n:Int)+2:=wrap_i64 (by omega) (by omega)
    have a4':=a4.le (M':=is2.length+2) (by omega) (by omega)
    simp [hlvn,wF1,wFn,wFn2,E3,B5,H6,x9,t7]
    refine (Q1 (x:=⟨2,.nils,false,(F:Int)+1,(F:Int)+(n:Int)+2⟩) a4' hB4 (SpO.nil _ _ _) ⟨by show (0:Int)≤(F:Int)+1;omega,by show (F:Int)+1≤_;omega,by show (0:Int)≤(F:Int)+n+2;omega,by show (F:Int)+n+2≤_;omega⟩ (by omega)).mono ?_
    rintro r g5 ⟨rfl,cv5,a5,f5,w5⟩
    have hs5:Sl g5 5 n lv ((is2.drop F).flatMap inC):=(Own.sameC (cv:=cv4) o4 f5.next (by have:=a3.clt;omega) (fun i e e'=>by
     rw [hid4] at e
     have:=Sl.idLt a3.code.sl e
     have:=Own.ge o4 e';omega) f5).sl
    simp
    refine (d03 a5 (Nat.le_trans hB4 f5.next) hs5 (fun x hx=>(hsp4 x hx).keep f5 w5) htg4 (by omega) (by simp only [List.length_append,List.length_cons,List.length_nil];omega)).mono ?_
    intro v g6 hput
    simp
    refine hput.mono ?_
    rintro r g7 ⟨rfl,cv7,a7,f7,w7⟩
    have f47:=f5.trans w5 f7
    have w47:=w5.trans f5.next w7
    obtain ⟨js,hjs⟩:∃ js,js=is2.take F++[(⟨2,.nils,false,(F:Int)+1,(F:Int)+(n:Int)+2⟩:Ins)]++(is2.drop F).map shI:=⟨_,rfl⟩
    rw [← hjs] at a7
    have hjl:js.length=is2.length+1:=by rw [hjs];simp only [List.length_append,List.length_map,List.length_cons,List.length_nil];omega
    have l7:=m0l a7
    have hln7:=a7.code.sl.len
    simp [l7,hln7,E3,B5,H6,x9,t7]
    refine (Q1 (x:=⟨3,.nils,false,0,0⟩) a7 (Nat.le_trans hB4 f47.next) (SpO.nil _ _ _) ⟨Int.le_refl _,by simp;omega,Int.le_refl _,by simp;omega⟩ (by omega)).mono ?_
    rintro r g8 ⟨rfl,cv8,a8,f8,w8⟩
    have f48:=f47.trans w47 f8
    have w48:=w47.trans f47.next w8
    have hkl:(js++[(⟨3,.nils,false,0,0⟩:Ins)]).length=is2.length+2:=by rw [List.length_append,hjl];rfl
    simp
    refine (ih rs3.length (by omega) B c (is2.length+2) N deep g8 pv3 cv8 rs3 _ bad3 hd (by have:=f48.next;omega) (by omega) a8 (Nat.le_refl _)).mono ?_
    rintro r g9 ⟨rfl,pv9,rs9,cv9,is9,bad9,a9,f9,w9,m1,m2,m3,_⟩
    rw [hkl] at m1 m3
    have hmx9:max (is2.length+2) is9.length=is9.length:=Nat.max_eq_right m1
    rw [hmx9] at a9
    have l9:=m0l a9
    have hln9:=a9.code.sl.len
    obtain ⟨x,hx⟩:=C6 (l:=is9) (j:=js.length) (by omega)
    obtain ⟨id,o,g10,p1,_,p2,a10,f10⟩:=a9.jump hx (z:=is9.length) (Nat.le_refl _)
    have F9:=(F4.trans W4 f48).trans (W4.trans F4.next w48) f9
    have W9:=(W4.trans F4.next w48).trans (F4.trans W4 f48).next w9
    have K:StK B h c cv is rs M N (is.length+2*rs.length) (fun _ _=>True) g10:=Cod.done (F9.trans W9 f10) W9 a10 (by rw [List.length_set];exact Nat.le_refl _) hMN (by rw [List.length_set];omega) (by omega) (by rw [List.length_set];omega) trivial
    simp [l9,hln9,p1,p2]
    exact ⟨a9.code.sl.same,K⟩
   ·simp [T1 a2,hie,a0r a2,h124]
    exact out
theorem s0a:∀ n,s0A n:=fun n=>by
 induction n using Nat.strongRecOn with
 | _ n ih =>
  intro B c M N deep h pv cv rs is bad hd hB hM a hl
  exact n0m (fun m hm=>ih m (by omega)) hd hB hM a
end
end Go.Dk

namespace Go.Dk
open Go Go.Dr
set_option maxRecDepth 100000
theorem l0Y (s:List UInt8):∀ (f i:Nat),∃ rs:List Int,c0j s f i=ruC rs∧rs.length≤f
 | 0,_=>⟨[],rfl,Nat.le_refl _⟩
 | f+1,i=>by
  rw [c0j]
  cases Nat.blt i s.length with
  | false=>exact ⟨[],rfl,Nat.zero_le _⟩
  | true =>
   simp only [cond_true,o8]
   obtain ⟨rs,h1,h2⟩:=l0Y s f (i+(Utf8.decode ⟨⟨s⟩⟩ i).2)
   exact ⟨(Utf8.decode ⟨⟨s⟩⟩ i).1::rs,by rw [h1];rfl,by simp;exact h2⟩
structure Prg (g:AH) (cv:AV) (is:List Ins):Prop where
 sl:Sl g 5 is.length cv (is.flatMap inC)
 sp:∀ x ∈ is,∃ l:List (Int×Int),l.length≤2 ^ 40∧Sl g 2 l.length x.sv (l.flatMap spC)
 tg:∀ x ∈ is,TgO (is.length - 1) x
 last:∀ x,is[is.length - 1]? = some x→x.op=4
 pos:0<is.length
 len:is.length≤2 ^ 20
theorem Prg.fr {g g2:AH} {cv:AV} {is:List Ins} (p:Prg g cv is) (f:Fr g g2):Prg g2 cv is :=
 ⟨p.sl.fr f,fun x hx=>by
  obtain ⟨l,h1,h2⟩:=p.sp x hx
  exact ⟨l,h1,h2.fr f⟩,p.tg,p.last,p.pos,p.len⟩
def k0U (h:AH) (r:AV) (g:AH):Prop:=Fr h g∧(r=.nils∨∃ is,Prg g r is)
theorem h0w {h:AH} (s:List UInt8):Ev P SI (.fn a0B) [.str s] h (k0U h):=by
 refine j9 j0M rfl rfl ?_
 have nilK:k0U h .nils h:=⟨.refl _,.inl rfl⟩
 by_cases hl:s.length≤60
 ·have hl':¬ ((60:Int)<(s.length:Int)):=by omega
  have hl'':¬ (60<s.length):=by omega
  have ht:=Go.Lib.tvL_len [239,191,189] s.length false s
  simp only [List.length_cons,List.length_nil] at ht
  have hv:=r0H (s:=s) (r:=[239,191,189]) ⟨by omega,by decide⟩
  have hc:=m06 (s:=Go.Lib.tvL [239,191,189] s.length false s) (t:=[239,191,189]) (by omega)
  cases hcc:Go.Lib.contains (Go.Lib.tvL [239,191,189] s.length false s) [239,191,189] with
  | true =>
   simp [a0D,hl',hv,hc,hcc]
   exact nilK
  | false =>
   obtain ⟨rs,hr,hrl⟩:=l0Y s s.length 0
   have hcv:J7 .runes (.str s) h=okV (.slice h.next 0 rs.length rs.length false 1) (h.push (.cells (ruC rs) false)):=by
    simp only [J7,hr,o8]
    rw [if_pos (by omega)]
    simp [ruC]
   obtain ⟨h1,hh1⟩:∃ h1,h1=h.push (.cells (ruC rs) false):=⟨_,rfl⟩
   obtain ⟨pv,hpv⟩:∃ pv,pv=AV.slice h.next 0 rs.length rs.length false 1:=⟨_,rfl⟩
   have sp:Sl h1 1 rs.length pv (ruC rs):=by rw [hh1,hpv];exact (Own.fresh (B:=0) (h:=h) (es:=1) (n:=rs.length) false (Nat.zero_le _) (by simp [ruC])).sl
   rw [← hh1,← hpv] at hcv
   have f1:Fr h h1:=by rw [hh1];exact Fr.push (.refl h) _
   have n1:h1.next=h.next+1:=by rw [hh1];rfl
   obtain ⟨h2,hh2⟩:∃ h2,h2=h1.push (.cells [pv,.nils,.bool false] false):=⟨_,rfl⟩
   have f2:Fr h1 h2:=by rw [hh2];exact Fr.push (.refl h1) _
   have n2:h2.next=h1.next+1:=by rw [hh2];rfl
   have a:Cod h.next h2 h1.next pv rs .nils [] false 0 1000:=⟨by rw [hh2];exact b9 _,by omega,by omega,sp.fr f2,fun i e=>⟨by have:=Sl.idLt sp e;omega,fun e'=>by cases e'⟩,⟨rfl,.inl ⟨rfl,rfl⟩⟩,fun e'=>(by cases e'),fun x hx=>(by cases hx),fun x hx=>(by cases hx),by simp;omega,by omega,by omega⟩
   have hpc:pv.cells=[pv]:=sp.oneCell.1
   simp [a0D,hl',hv,hc,hcc,hcv,E3,B5,H6,t7,hpc,← hh2]
   refine (show Ev P SI (.fn s9) [.ptr h1.next 0,.int .i64 0] h2 _ from s0a rs.length h.next h1.next 0 1000 0 h2 pv .nils rs [] false (by omega) (by omega) (Nat.zero_le _) a (Nat.le_refl _)).mono ?_
   rintro r g ⟨rfl,pv3,rs3,cv3,is3,bad3,a3,f3,w3,m1,m2,m3,_⟩
   have fr:Fr h g:=⟨by have:=f3.next;omega,fun i hi=>by rw [f3.get i (by omega) (by omega) (fun e=>by cases e),f2.get i (by omega),f1.get i hi]⟩
   have badK:k0U h .nils g:=⟨fr,.inl rfl⟩
   have hmx:max 0 is3.length=is3.length:=Nat.max_eq_right (Nat.zero_le _)
   rw [hmx] at a3
   have l2:=n0K a3
   have l0:=p0y a3
   have hn:=a3.run.len
   have hpot:=a3.pot
   cases bad3 with
   | true =>
    simp [l2]
    exact badK
   | false =>
    by_cases hr3:rs3=[]
    ·subst hr3
     simp only [List.length_nil] at hn hpot
     simp only [List.length_nil,Nat.mul_zero,Nat.add_zero] at m3
     simp [l2,l0,hn,E3,B5,H6,x9,t7]
     refine (Q1 (x:=⟨4,.nils,false,0,0⟩) a3 (by have:=f3.next;omega) (SpO.nil _ _ _) ⟨Int.le_refl _,by simp,Int.le_refl _,by simp⟩ (by simp only [List.length_nil];omega)).mono ?_
     rintro r g4 ⟨rfl,cv4,a4,f4,w4⟩
     have l1:=m0l a4
     have fr4:Fr h g4:=⟨by have:=f4.next;have:=fr.next;omega,fun i hi=>by
      rw [f4.get i (by have:=fr.next;omega) (by omega) (fun e=>by have:=a3.code.ge e;omega)];exact fr.get i hi⟩
     have hlen:(is3++[(⟨4,.nils,false,0,0⟩:Ins)]).length - 1=is3.length:=by simp
     have K:k0U h cv4 g4:=by
      refine ⟨fr4,.inr ⟨_,a4.code.sl,fun x hx=>?_,fun x hx=>by rw [hlen];exact a4.tg x hx,fun x hx=>?_,by simp,?_⟩⟩
      ·obtain ⟨l,k1,k2,_⟩:=a4.sp x hx
       exact ⟨l,k1,k2⟩
      ·rw [hlen,List.getElem?_append_right (Nat.le_refl _),Nat.sub_self] at hx
       cases hx;rfl
      ·simp only [List.length_append,List.length_cons,List.length_nil];omega
     simp [l1]
     exact K
    ·have hpos:(0:Int)<(rs3.length:Int):=by have:=List.length_pos_iff.2 hr3;omega
     have hpos':0<rs3.length:=List.length_pos_iff.2 hr3
     simp [l2,l0,hn,hpos']
     exact badK
 ·have hl'':(60:Int)<(s.length:Int):=by omega
  simp [a0D,hl'']
  exact nilK
theorem Prg.notNil {g:AH} {cv:AV} {is:List Ins} (p:Prg g cv is):A0 P .eql Q6 true cv .nils=.ok (.bool false):=by
 obtain ⟨b,hb,hb2⟩:=p.sl.isNil c0h true
 cases b with
 | true =>
  have:=(hb2 rfl).2.1
  have:=p.pos
  omega
 | false=>exact hb
theorem l0Z {h:AH} (s:List UInt8):Ev P SI (.fn c0r) [.str s] h fun r g=>Fr h g∧∃ e:Int,r=.int .i64 e:=by
 refine j9 j0L rfl rfl ?_
 simp [e01]
 refine (h0w s).mono ?_
 rintro r g ⟨f,rfl | ⟨is,p⟩⟩
 ·simp
  exact f
 ·simp [p.notNil]
  exact f
end Go.Dk

namespace Go.Dk
open Go Go.Dr
set_option maxRecDepth 100000
def BK (h:AH) (r:AV) (g:AH):Prop:=(∃ b,r=.bool b)∧Fr h g
theorem v0H {h:AH} {n:Nat} {v:AV} {l:List (Int×Int)} (s:Sl h 2 n v (l.flatMap spC)) {j:Nat} {x:Int×Int} (hx:l[j]? = some x) :
  ∃ id o,I3 2 v (.int .i64 (j:Int))=.ok (.ptr id o)∧loadN h id o 2=.ok (spC x):=by
 obtain ⟨id,o,h1,h2,_⟩:=s.elem (fun _ _=>rfl) (by omega) (k:=.i64) (i:=(j:Int)) rfl hx
 exact ⟨id,o,h1,h2⟩
def inZ (z:Int) (s:Int×Int):Bool:=decide (s.1≤z)&&decide (z≤s.2)
theorem t01 {h:AH} {b:Nat} {z:Int} {ro:Bool} (hb:h.get b=some (.cells [.int .i32 z] ro)) (hlt:b<h.next) (s:Int×Int) :
  Ev P SI (.fn N8) [.agg (spC s),.ptr b 0] h fun r g=>r=.bool (inZ z s)∧Fr h g:=by
 refine j9 e0Q rfl rfl ?_
 obtain ⟨g1,hg1⟩:∃ g1,g1=h.push (.cells [.int .i32 s.1,.int .i32 s.2] false):=⟨_,rfl⟩
 have f1:Fr h g1:=by rw [hg1];exact Fr.push (.refl h) _
 have c1:g1.get h.next=some (.cells [.int .i32 s.1,.int .i32 s.2] false):=by rw [hg1];exact b9 _
 have l0:load1 g1 h.next 0=.ok (.int .i32 s.1):=by rw [c9 c1];rfl
 have l1:load1 g1 h.next 1=.ok (.int .i32 s.2):=by rw [c9 c1];rfl
 have lb:load1 g1 b 0=.ok (.int .i32 z):=by rw [c9 (by rw [f1.get _ hlt];exact hb)];rfl
 by_cases h1:s.1≤z
 ·by_cases h2:z≤s.2 <;> (simp [T9,B7,spC,← hg1,l0,l1,lb,h1,h2,inZ];exact f1)
 ·simp [T9,B7,spC,← hg1,l0,l1,lb,h1,inZ]
  exact f1
theorem q03 {fid:FuncId} {caps:List AV} {h:AH} (hf:∀ (x:Int×Int) (g:AH),Fr h g→Ev P SI (.fn fid) (.agg (spC x)::caps) g (BK g)) {n:Nat} {v:AV} {xs:List (Int×Int)} (s:Sl h 2 n v (xs.flatMap spC)) (hn:n<2 ^ 62) :
  Ev P SI (.fn A7) [v,.func (.func fid) [] caps] h fun r g=>(∃ z:Int,r=.int .i64 z)∧Fr h g:=by
 refine j9 R4 rfl rfl ?_
 have hl:xs.length=n:=by have:=s.1;rw [K0 xs (es:=2) (fun _ _=>rfl)] at this;omega
 simp [E8,s.len]
 refine J9 (n:=n) (by rfl) (fun j σ ds g=>ds=[]∧σ 0=v∧σ 1=.func (.func fid) [] caps∧σ 7=.int .i64 (n:Int)∧Fr h g) (by omega) (by simp)
  ⟨rfl,by simp,by simp,by simp,.refl _⟩ (fun j σ ds g hJ=>by simp [hJ.2.2.2.1]) ?_ ?_
 ·rintro j σ ds g hj hi ⟨rfl,e0,e1,e7,f⟩
  obtain ⟨x,hxj⟩:=C6 (l:=xs) (j:=j) (by omega)
  obtain ⟨id,o,q1,q2⟩:=v0H (s.fr f) hxj
  simp [e0,e1,e7,hi,q1,q2,A5]
  refine (hf x g f).mono ?_
  rintro r g2 ⟨⟨b,rfl⟩,f2⟩
  cases b with
  | true =>
   simp
   exact f.trans f2
  | false =>
   simp [e0,e1,e7,hi]
   exact f.trans f2
 ·rintro σ ds g ⟨rfl,e0,e1,e7,f⟩
  simp
  exact f
theorem m0s {fid:FuncId} {caps:List AV} {h:AH} (hf:∀ (x:Int×Int) (g:AH),Fr h g→Ev P SI (.fn fid) (.agg (spC x)::caps) g (BK g)) {n:Nat} {v:AV} {xs:List (Int×Int)} (s:Sl h 2 n v (xs.flatMap spC)) (hn:n<2 ^ 62) :
  Ev P SI (.fn y8) [v,.func (.func fid) [] caps] h (BK h):=by
 refine j9 O9 rfl rfl ?_
 simp [D9]
 refine (q03 hf s hn).mono ?_
 rintro r g ⟨⟨z,rfl⟩,f⟩
 simp
 exact ⟨⟨_,rfl⟩,f⟩
theorem n0O {h:AH} {x:Ins} {z:Int} (hs:∃ l:List (Int×Int),l.length≤2 ^ 40∧Sl h 2 l.length x.sv (l.flatMap spC)) :
  Ev P SI (.fn Z5) [.agg (inC x),.int .i32 z] h (BK h):=by
 refine j9 f00 rfl rfl ?_
 obtain ⟨l,hl,s⟩:=hs
 obtain ⟨g1,hg1⟩:∃ g1,g1=h.push (.cells (inC x) false):=⟨_,rfl⟩
 obtain ⟨g2,hg2⟩:∃ g2,g2=g1.push (.cells [.int .i32 z] false):=⟨_,rfl⟩
 have f1:Fr h g1:=by rw [hg1];exact Fr.push (.refl h) _
 have f2:Fr g1 g2:=by rw [hg2];exact Fr.push (.refl g1) _
 have n1:g1.next=h.next+1:=by rw [hg1];rfl
 have n2:g2.next=g1.next+1:=by rw [hg2];rfl
 have c1:g2.get h.next=some (.cells (inC x) false):=by rw [f2.get _ (by omega),hg1];exact b9 _
 have c2:g2.get g1.next=some (.cells [.int .i32 z] false):=by rw [hg2];exact b9 _
 have l1:load1 g2 h.next 1=.ok x.sv:=by rw [c9 c1];rfl
 have l2:load1 g2 h.next 2=.ok (.bool x.nt):=by rw [c9 c1];rfl
 have hfr:Fr h g2:=f1.trans f2
 have hsame:=s.same
 have hcon:=m0s (h:=g2) (fid:=N8) (caps:=[.ptr g1.next 0]) (fun y g f=>(t01 (by rw [f.get _ (by omega)];exact c2) (by have:=f.next;omega) y).mono fun r g' h=>⟨⟨_,h.1⟩,h.2⟩) (s.fr hfr) (by omega)
 simp only [inC] at hg1
 simp [b09,B7,inC,← hg1,← hg2,l1,l2]
 refine ⟨hsame,hcon.mono ?_⟩
 rintro r g ⟨⟨b,rfl⟩,f⟩
 have l2':load1 g h.next 2=.ok (.bool x.nt):=by rw [c9 (by rw [f.get _ (by omega)];exact c1)];rfl
 cases hx:x.nt <;> cases b <;> (rw [hx] at l2';simp [l2'];exact ⟨⟨_,rfl⟩,hfr.trans f⟩)
def g03 (bs:List Bool):Nat:=bs.countP (!·)
theorem m0t:∀ {bs:List Bool} {j:Nat},bs[j]? = some false→g03 (bs.set j true)+1=g03 bs
 | [],j,h=>by simp at h
 | b::bs,0,h=>by
  simp at h;subst h
  simp [g03]
 | b::bs,j+1,h=>by
  simp only [List.getElem?_cons_succ] at h
  have:=m0t h
  simp only [g03,List.set_cons_succ,List.countP_cons] at this ⊢
  omega
def boC (bs:List Bool):List AV:=bs.map AV.bool
structure Fol (B:Nat) (h g:AH) (sv:AV) (bs bs':List Bool):Prop where
 len:bs'.length=bs.length
 cnt:g03 bs'≤g03 bs
 own:Own B g 1 bs.length sv (boC bs')
 next:h.next≤g.next
 old:∀ i,i<h.next→j5 sv≠some i→g.get i=h.get i
theorem Fol.trans {B:Nat} {h g k:AH} {sv:AV} {a b c:List Bool} (x:Fol B h g sv a b) (y:Fol B g k sv b c):Fol B h k sv a c :=
 ⟨y.len.trans x.len,Nat.le_trans y.cnt x.cnt,by have:=y.own;rw [x.len] at this;exact this,Nat.le_trans x.next y.next,fun i h1 h2=>(y.old i (Nat.lt_of_lt_of_le h1 x.next) h2).trans (x.old i h1 h2)⟩
def w0Z (n:Nat):Prop:=∀ (B:Nat) (h:AH) (cv sv:AV) (is:List Ins) (bs:List Bool) (at':Nat),Sl h 5 is.length cv (is.flatMap inC)→(∀ i,j5 cv=some i→j5 sv≠some i)→(∀ x ∈ is,TgO (is.length - 1) x)→(∀ x ∈ is,x.sv.scalar=true)→0<is.length→is.length≤2 ^ 20→Own B h 1 bs.length sv (boC bs)→bs.length=is.length→at'<is.length→g03 bs≤n →
 Ev P SI (.fn K8) [cv,sv,.int .i64 (at':Int)] h fun r g=>r=.tuple []∧∃ bs',Fol B h g sv bs bs'
def w00 (B:Nat) (h:AH) (cv sv:AV) (is:List Ins) (bs:List Bool):Inv:=fun m σ ds g=>ds=[]∧σ 0=cv∧σ 1=sv∧∃ (a:Nat) (bs':List Bool),σ 2=.int .i64 (a:Int)∧a<is.length∧Fol B h g sv bs bs'∧m=g03 bs'
theorem s0y:∀ n,w0Z n:=fun n=>by
 induction n using Nat.strongRecOn with
 | _ n ih =>
  intro B h cv sv is bs at' hsl hcs htg hsc hpos hlen own hbl hat hcn
  refine j9 i0t rfl rfl ?_
  simp [d0O]
  refine b02 (w00 B h cv sv is bs) (g03 bs) ⟨rfl,by simp,by simp,at',bs,by simp,hat,⟨rfl,Nat.le_refl _,own,Nat.le_refl _,fun _ _ _=>rfl⟩,rfl⟩ ?_
  rintro m σ ds g ⟨rfl,e0,e1,a,bs',e2,ha,F,rfl⟩
  have hsg:Sl g 5 is.length cv (is.flatMap inC):=J1 hsl F.next fun i e=>F.old i (Sl.idLt hsl e) (hcs i e)
  obtain ⟨b,hb⟩:=C6 (l:=bs') (j:=a) (by rw [F.len];omega)
  obtain ⟨id,o,q1,q2,_⟩:=F.own.sl.get1 (k:=.i64) (i:=(a:Int)) rfl (by omega) (show (boC bs')[a]? = some (.bool b) by rw [boC,List.getElem?_map,hb];rfl)
  cases b with
  | true =>
   simp [e0,e1,e2,q1,q2]
   exact ⟨bs',F⟩
  | false =>
   obtain ⟨id2,o2,g2,r1,r2,own2,fb2,n2,old2⟩:=F.own.store2 (k:=.i64) (i:=(a:Int)) (j:=a) (c:=0) rfl (by omega) (by omega) (x:=.bool true) rfl
   rw [q1] at r1;cases r1
   rw [Nat.add_zero] at r2
   have hset:(boC bs').set (a*1+0) (.bool true)=boC (bs'.set a true):=by rw [boC,boC,List.map_set,Nat.mul_one,Nat.add_zero]
   rw [hset] at own2
   have hcs2:=m0t hb
   have F2:Fol B h g2 sv bs (bs'.set a true):=⟨by rw [List.length_set];exact F.len,by have:=F.cnt;omega,own2,by have:=F.next;omega,fun i h1 h2=>(old2 i h2).trans (F.old i h1 h2)⟩
   have hsg2:Sl g2 5 is.length cv (is.flatMap inC):=J1 hsl F2.next fun i e=>F2.old i (Sl.idLt hsl e) (hcs i e)
   obtain ⟨x,hx⟩:=C6 (l:=is) (j:=a) ha
   obtain ⟨id3,o3,p1,p2,_⟩:=hsg2.elem (fun y _=>d0b y) (by omega) (k:=.i64) (i:=(a:Int)) rfl hx
   obtain ⟨t1,t2,t3,t4⟩:=htg x (List.mem_of_getElem? hx)
   obtain ⟨g3,hg3⟩:∃ g3,g3=g2.push (.cells (inC x) false):=⟨_,rfl⟩
   have f3:Fr g2 g3:=by rw [hg3];exact Fr.push (.refl g2) _
   have F3:Fol B h g3 sv bs (bs'.set a true):=⟨F2.len,F2.cnt,F2.own.fr f3,Nat.le_trans F2.next f3.next,fun i h1 h2=>(f3.get i (by have:=F2.next;omega)).trans (F2.old i h1 h2)⟩
   have c3:g3.get g2.next=some (.cells (inC x) false):=by rw [hg3];exact b9 _
   have k0:load1 g3 g2.next 0=.ok (.int .i64 x.op):=by rw [c9 c3];rfl
   have k3:load1 g3 g2.next 3=.ok (.int .i64 x.x):=by rw [c9 c3];rfl
   have k4:load1 g3 g2.next 4=.ok (.int .i64 x.y):=by rw [c9 c3];rfl
   have st:T6 5 (.ptr g2.next 0) (.agg (inC x)) (g2.push (.cells [.int .i64 0,.nils,.bool false,.int .i64 0,.int .i64 0] false))=a0a (.ok g3):=by rw [hg3];exact K1 rfl rfl (by simp [inC,hsc x (List.mem_of_getElem? hx)])
   obtain ⟨X,hX⟩:∃ X:Nat,(X:Int)=x.x:=⟨x.x.toNat,by omega⟩
   obtain ⟨Y,hY⟩:∃ Y:Nat,(Y:Int)=x.y:=⟨x.y.toNat,by omega⟩
   rw [← hX] at k3
   rw [← hY] at k4
   by_cases h2:x.op=2
   ·simp [e0,e1,e2,q1,q2,r2,p1,p2,A5,st,k0,h2,k3]
    have hsg3:Sl g3 5 is.length cv (is.flatMap inC):=hsg2.fr f3
    have own3:=F3.own
    have hl3:(bs'.set a true).length=bs.length:=F3.len
    rw [← hl3] at own3
    refine (ih (g03 (bs'.set a true)) (by have:=F.cnt;omega) B g3 cv sv is (bs'.set a true) X hsg3 hcs htg hsc hpos hlen own3 (by omega) (by omega) (Nat.le_refl _)).mono ?_
    rintro r g4 ⟨rfl,bs4,F4⟩
    have F5:=F3.trans F4
    have hidsv:j5 sv≠some g2.next:=fun e=>by have:=Sl.idLt F2.own.sl e;omega
    have k4':load1 g4 g2.next 4=.ok (.int .i64 (Y:Int)):=by rw [c9 (by rw [F4.old _ (by rw [hg3];exact Nat.lt_succ_self _) hidsv];exact c3)];show Except.ok (AV.int .i64 x.y)=_;rw [hY]
    simp [k4',m7]
    exact ⟨g03 bs4,by have:=F4.cnt;omega,rfl,by simp [e0],by simp [e1],Y,bs4,by simp,by omega,F5,rfl⟩
   ·by_cases h3:x.op=3
    ·simp [e0,e1,e2,q1,q2,r2,p1,p2,A5,st,k0,h3,k3,m7]
     exact ⟨g03 (bs'.set a true),by omega,rfl,by simp [e0],by simp [e1],X,_,by simp,by omega,F3,rfl⟩
    ·simp [e0,e1,e2,q1,q2,r2,p1,p2,A5,st,k0,h2,h3,m7]
     exact ⟨g03 (bs'.set a true),by omega,rfl,by simp [e0],by simp [e1],a,_,by simp [e2],ha,F3,rfl⟩
end Go.Dk

namespace Go.Dk
open Go Go.Dr
set_option maxRecDepth 100000
theorem Fol.fr1 {h1 h g:AH} {sv:AV} {bs bs':List Bool} (f:Fr h1 h) (F:Fol h1.next h g sv bs bs'):Fr h1 g :=
 ⟨Nat.le_trans f.next F.next,fun i hi=>(F.old i (Nat.lt_of_lt_of_le hi f.next) fun e=>by have:=Own.ge F.own e;omega).trans (f.get i hi)⟩
theorem Prg.scal {g:AH} {cv:AV} {is:List Ins} (p:Prg g cv is):∀ x ∈ is,x.sv.scalar=true:=fun x hx=>by
 obtain ⟨l,_,h2⟩:=p.sp x hx
 exact h2.oneCell.2
theorem o0w {h1 h:AH} {cv sv:AV} {is:List Ins} {bs:List Bool} {a:Nat} (p:Prg h1 cv is) (f:Fr h1 h) (o:Own h1.next h 1 bs.length sv (boC bs)) (hl:bs.length=is.length) (ha:a<is.length) :
  Ev P SI (.fn K8) [cv,sv,.int .i64 (a:Int)] h fun r g=>r=.tuple []∧∃ bs',Fol h1.next h g sv bs bs' :=
 s0y _ h1.next h cv sv is bs a (p.sl.fr f) (fun i e e'=>by have:=Sl.idLt p.sl e;have:=Own.ge o e';omega) p.tg p.scal p.pos p.len o hl ha (Nat.le_refl _)
theorem s0s (n:Nat):a0t [AV.bool false] n=boC (List.replicate n false):=by rw [c0F,boC,List.map_replicate]
structure Mat (h1 g:AH) (cv:AV) (is:List Ins) (s:List UInt8) (sv:AV) (bs:List Bool) (it pos:Nat):Prop where
 fr:Fr h1 g
 hit:h1.next≤it
 iter:g.get it=some (.siter s pos)
 ilt:it<g.next
 own:Own h1.next g 1 bs.length sv (boC bs)
 len:bs.length=is.length
 ne:j5 sv≠some it
def w0V (h1:AH) (cv:AV) (is:List Ins) (s:List UInt8):Inv:=fun m σ ds g=>ds=[]∧σ 6=cv∧∃ (sv:AV) (bs:List Bool) (it pos:Nat),σ 7=sv∧σ 24=.ptr it 0∧Mat h1 g cv is s sv bs it pos∧s.length≤m+pos
def w0W (h1:AH) (cv:AV) (is:List Ins) (s:List UInt8) (sv tv:AV) (bs:List Bool) (it pos n:Nat) (z:Int) (σ:Sg) (ds:List ADef) (g:AH):Prop :=
 ds=[]∧σ 6=cv∧σ 7=sv∧σ 9=.int .i32 z∧σ 10=tv∧σ 24=.ptr it 0∧σ 31=sv∧σ 32=.int .i64 (n:Int)∧Mat h1 g cv is s sv bs it pos∧∃ ts,Own h1.next g 1 ts.length tv (boC ts)∧ts.length=is.length∧j5 tv≠some it∧∀ i,j5 tv=some i→j5 sv≠some i
theorem Mat.fr' {h1 g g2:AH} {cv:AV} {is:List Ins} {s:List UInt8} {sv:AV} {bs:List Bool} {it pos:Nat} (M:Mat h1 g cv is s sv bs it pos) (f:Fr g g2):Mat h1 g2 cv is s sv bs it pos :=
 ⟨M.fr.trans f,M.hit,by rw [f.get _ M.ilt];exact M.iter,Nat.lt_of_lt_of_le M.ilt f.next,M.own.fr f,M.len,M.ne⟩
theorem Mat.fol {h1 g g2:AH} {cv:AV} {is:List Ins} {s:List UInt8} {sv tv:AV} {bs ts ts':List Bool} {it pos:Nat} (M:Mat h1 g cv is s sv bs it pos) (F:Fol h1.next g g2 tv ts ts') (h1':j5 tv≠some it) (h2:∀ i,j5 tv=some i→j5 sv≠some i):Mat h1 g2 cv is s sv bs it pos :=
 ⟨F.fr1 M.fr,M.hit,by rw [F.old _ M.ilt h1'];exact M.iter,Nat.lt_of_lt_of_le M.ilt F.next,Own.keep M.own F.next fun i e=>F.old i (Sl.idLt M.own.sl e) fun e'=>h2 i e' e,M.len,M.ne⟩
theorem Own.same {B es n:Nat} {h g:AH} {v:AV} {l:List AV} (o:Own B h es n v l) (hn:h.next≤g.next) (hk:∀ i,i<h.next→j5 v=some i→g.get i=h.get i):Own B g es n v l :=
 Own.keep o hn fun i e=>hk i (Sl.idLt o.sl e) e
theorem l09 {h:AH} (p s:List UInt8):Ev P SI (.fn a0C) [.str p,.str s] h fun r g=>Fr h g∧∃ (b:Bool) (e:Int),r=.tuple [.bool b,.int .i64 e]:=by
 refine j9 j0A rfl rfl ?_
 simp [e0X]
 refine (h0w p).mono ?_
 rintro cv h1 ⟨f1,rfl | ⟨is,pr⟩⟩
 ·simp
  exact f1
 ·have hln:=pr.sl.len
  have hpos:=pr.pos
  have hlen:=pr.len
  obtain ⟨n,hn⟩:∃ n,n=is.length:=⟨_,rfl⟩
  rw [← hn] at hln
  have hmk:∀ g:AH,d05 1 1 [.bool false] (.int .i64 (n:Int)) (.int .i64 (n:Int)) g=okV (.slice g.next 0 n n true 1) (g.push (.cells (boC (List.replicate n false)) false)):=fun g=>by
   rw [p0q _ _ _ _ _ _ (by omega) (by omega),s0s]
  have hfresh:∀ g:AH,h1.next≤g.next→Own h1.next (g.push (.cells (boC (List.replicate n false)) false)) 1 (List.replicate n false).length (.slice g.next 0 n n true 1) (boC (List.replicate n false)):=fun g hg=>by
   rw [List.length_replicate]
   exact Own.fresh true hg (by simp [boC])
  simp [pr.notNil,hln,hmk]
  have f2:Fr h1 (h1.push (.cells (boC (List.replicate n false)) false)):=Fr.push (.refl h1) _
  refine (show Ev P SI (.fn K8) [cv,.slice h1.next 0 n n true 1,.int .i64 0] _ _ from o0w (a:=0) pr f2 (hfresh h1 (Nat.le_refl _)) (by rw [List.length_replicate,hn]) (by omega)).mono ?_
  rintro r g2 ⟨rfl,bs2,F2⟩
  have fr2:=F2.fr1 f2
  have hop:a0d g2 (.str s)=okV (.ptr g2.next 0) (g2.push (.siter s 0)):=rfl
  have fp:Fr g2 (g2.push (.siter s 0)):=Fr.push (.refl g2) _
  have hb2:bs2.length=is.length:=by rw [F2.len,List.length_replicate,hn]
  have own2:Own h1.next g2 1 bs2.length (.slice h1.next 0 n n true 1) (boC bs2):=by have:=F2.own;rw [List.length_replicate] at this;rw [hb2,← hn];exact this
  have n2:=F2.next
  simp [hop]
  refine b02 (w0V h1 cv is s) s.length ⟨rfl,by simp,.slice h1.next 0 n n true 1,bs2,g2.next,0,by simp,by simp,⟨fr2.trans fp,fr2.next,b9 _,Nat.lt_succ_self _,own2.fr fp,hb2,fun e=>by have:=Sl.idLt own2.sl e;omega⟩,by omega⟩ ?_
  rintro m σ ds g ⟨rfl,e6,sv,bs,it,pos,e7,e24,M,hm⟩
  by_cases hlt:pos<s.length
  ·have hnx:=h0g M.iter hlt
   have hw:=j0b ⟨⟨s⟩⟩ pos
   generalize Utf8.decode ⟨⟨s⟩⟩ pos=d at *
   have hlsv:=M.own.sl.len
   have hbn:bs.length=n:=by rw [M.len,hn]
   rw [hbn] at hlsv
   obtain ⟨g3,hg3⟩:∃ g3,g3=g.set it (.siter s (pos+d.2)):=⟨_,rfl⟩
   have o3:∀ i,i≠it→g3.get i=g.get i:=fun i e=>by rw [hg3];exact a6 e
   have n3:g3.next=g.next:=by rw [hg3];rfl
   have hit:=M.hit
   have M3:Mat h1 g3 cv is s sv bs it (pos+d.2):=⟨⟨by have:=M.fr.next;omega,fun i hi=>(o3 i (by omega)).trans (M.fr.get i hi)⟩,hit,by rw [hg3];exact d9 _ _,by rw [n3];exact M.ilt,Own.same M.own (by omega) fun i _ e=>o3 i fun e'=>M.ne (by rw [← e'];exact e),M.len,M.ne⟩
   obtain ⟨g4,hg4⟩:∃ g4,g4=g3.push (.cells (boC (List.replicate n false)) false):=⟨_,rfl⟩
   have f4:Fr g3 g4:=by rw [hg4];exact Fr.push (.refl g3) _
   have M4:Mat h1 g4 cv is s sv bs it (pos+d.2):=⟨M3.fr.trans f4,hit,by rw [f4.get _ M3.ilt];exact M3.iter,Nat.lt_of_lt_of_le M3.ilt f4.next,M3.own.fr f4,M.len,M.ne⟩
   simp [e6,e7,e24,hnx,← hg3,hln,hmk,← hg4,hlsv]
   refine J9 (n:=n) (by rfl) (fun _ σ ds g=>w0W h1 cv is s sv (.slice g3.next 0 n n true 1) bs it (pos+d.2) n (d.1:Int) σ ds g) (by omega) (by simp)
    ⟨rfl,by simp [e6],by simp [e7],by simp,by simp,by simp [e24],by simp,by simp,M4,List.replicate n false,by rw [hg4];exact hfresh g3 M3.fr.next,by rw [List.length_replicate,hn],fun e=>by cases e;have:=M3.ilt;omega,fun i e e'=>by cases e;have:=Sl.idLt M3.own.sl e';omega⟩ (fun j σ ds g hJ=>by obtain ⟨_,_,_,_,_,_,_,h32,_⟩:=hJ;simp [h32]) ?_ ?_
   ·rintro j σ ds g5 hj hi ⟨rfl,i6,i7,i9,i10,i24,i31,i32,M5,ts,ot,hts,htn,hdis⟩
    obtain ⟨b,hb⟩:=C6 (l:=bs) (j:=j) (by omega)
    obtain ⟨id,o,q1,q2,_⟩:=M5.own.sl.get1 (k:=.i64) (i:=(j:Int)) rfl (by omega) (show (boC bs)[j]? = some (.bool b) by rw [boC,List.getElem?_map,hb];rfl)
    cases b with
    | false =>
     simp [hi,i31,q1,q2]
     exact ⟨rfl,by simp [i6],by simp [i7],by simp [i9],by simp [i10],by simp [i24],by simp [i31],by simp [i32],M5,ts,ot,hts,htn,hdis⟩
    | true =>
     obtain ⟨x,hx⟩:=C6 (l:=is) (j:=j) (by omega)
     have hxm:=List.mem_of_getElem? hx
     have p5:=pr.fr M5.fr
     obtain ⟨id3,o3',p1,p2,p3,_⟩:=p5.sl.elem (fun y _=>d0b y) (by omega) (k:=.i64) (i:=(j:Int)) rfl hx
     have k0:=p3 0 _ rfl
     rw [Nat.add_zero] at k0
     by_cases hop1:x.op=1
     ·have hj1:j+1<is.length:=by
       by_cases e:j=is.length - 1
       ·rw [e] at hx
        have:=pr.last x hx
        omega
       ·omega
      have wj:x7 .i64 ((j:Int)+1)=((j+1:Nat):Int):=by rw [wrap_i64 (by omega) (by omega)];omega
      simp [hi,i6,i9,i31,q1,q2,p1,p2,k0,hop1,A5]
      refine (n0O (p5.sp x hxm)).mono ?_
      rintro r g6 ⟨⟨b2,rfl⟩,f6⟩
      have M6:=M5.fr' f6
      have ot6:=ot.fr f6
      cases b2 with
      | false =>
       simp [hi]
       exact ⟨rfl,by simp [i6],by simp [i7],by simp [i9],by simp [i10],by simp [i24],by simp [i31],by simp [i32],M6,ts,ot6,hts,htn,hdis⟩
      | true =>
       simp [i6,i10,hi,wj]
       refine (o0w (a:=j+1) pr M6.fr ot6 hts hj1).mono ?_
       rintro r g7 ⟨rfl,ts7,F7⟩
       have ot7:=F7.own
       rw [← F7.len] at ot7
       simp [hi]
       exact ⟨rfl,by simp [i6],by simp [i7],by simp [i9],by simp [i10],by simp [i24],by simp [i31],by simp [i32],M6.fol F7 htn hdis,ts7,ot7,F7.len.trans hts,htn,hdis⟩
     ·simp [hi,i6,i31,q1,q2,p1,k0,hop1]
      exact ⟨rfl,by simp [i6],by simp [i7],by simp [i9],by simp [i10],by simp [i24],by simp [i31],by simp [i32],M5,ts,ot,hts,htn,hdis⟩
   ·rintro σ ds g5 ⟨rfl,i6,i7,i9,i10,i24,i31,i32,M5,ts,ot,hts,htn,hdis⟩
    simp [i10,m7]
    exact ⟨m - 1,by omega,rfl,by simp [i6],_,ts,it,pos+d.2,by simp,by simp [i24],⟨M5.fr,M5.hit,M5.iter,M5.ilt,ot,hts,htn⟩,by omega⟩
  ·have hnx:=h0h M.iter hlt
   have hbn:bs.length=n:=by rw [M.len,hn]
   obtain ⟨b,hb⟩:=C6 (l:=bs) (j:=n - 1) (by omega)
   obtain ⟨id,o,q1,q2,_⟩:=M.own.sl.get1 (k:=.i64) (i:=(n:Int) - 1) (j:=n - 1) (by omega) (by omega) (show (boC bs)[n - 1]? = some (.bool b) by rw [boC,List.getElem?_map,hb];rfl)
   have wn:x7 .i64 ((n:Int) - 1)=(n:Int) - 1:=wrap_i64 (by omega) (by omega)
   simp [e6,e7,e24,hnx,hln,wn,q1,q2]
   exact f1.trans M.fr
end Go.Dk

namespace Go.Dk
open Go Go.Dr
set_option maxRecDepth 100000
def w0M (h:AH) (r:AV) (g:AH):Prop:=(∃ t,r=.str t)∧Fr h g
theorem o0t {h:AH} {n:Nat} {v:AV} {l:List Lab} (s:Sl h 2 n v (l.flatMap J0)) {j:Nat} {x:Lab} (hx:l[j]? = some x) :
  ∃ id o,I3 2 v (.int .i64 (j:Int))=.ok (.ptr id o)∧loadN h id o 2=.ok (J0 x)∧load1 h id (o+1)=.ok (.str x.2):=by
 obtain ⟨id,o,h1,h2,h3,_⟩:=s.elem (fun _ _=>rfl) (by omega) (k:=.i64) (i:=(j:Int)) rfl hx
 exact ⟨id,o,h1,h2,h3 1 _ rfl⟩
theorem v0u {h:AH} {b:Nat} {t:List UInt8} {ro:Bool} (hb:h.get b=some (.cells [.str t] ro)) (hlt:b<h.next) (x:Lab) :
  Ev P SI (.fn b0N) [.agg (J0 x),.ptr b 0] h (BK h):=by
 refine j9 i0s rfl rfl ?_
 obtain ⟨g1,hg1⟩:∃ g1,g1=h.push (.cells [.str x.1,.str x.2] false):=⟨_,rfl⟩
 have f1:Fr h g1:=by rw [hg1];exact Fr.push (.refl h) _
 have c1:g1.get h.next=some (.cells [.str x.1,.str x.2] false):=by rw [hg1];exact b9 _
 have l0:load1 g1 h.next 0=.ok (.str x.1):=by rw [c9 c1];rfl
 have lb:load1 g1 b 0=.ok (.str t):=by rw [c9 (by rw [f1.get _ hlt];exact hb)];rfl
 simp [d0N,B7,J0,← hg1,l0,lb]
 exact ⟨⟨_,rfl⟩,f1⟩
def IxK (n:Nat) (h:AH) (r:AV) (g:AH):Prop:=(∃ z:Int,r=.int .i64 z∧z<(n:Int))∧Fr h g
theorem p0b {fid:FuncId} {caps:List AV} {h:AH} (hf:∀ (x:Lab) (g:AH),Fr h g→Ev P SI (.fn fid) (.agg (J0 x)::caps) g (BK g)) {n:Nat} {v:AV} {xs:List Lab} (s:Sl h 2 n v (xs.flatMap J0)) (hn:n<2 ^ 62) :
  Ev P SI (.fn A9) [v,.func (.func fid) [] caps] h (IxK n h):=by
 refine j9 S3 rfl rfl ?_
 have hl:xs.length=n:=by have:=s.1;rw [K0 xs (es:=2) (fun _ _=>rfl)] at this;omega
 simp [G5,s.len]
 refine J9 (n:=n) (by rfl) (fun j σ ds g=>ds=[]∧σ 0=v∧σ 1=.func (.func fid) [] caps∧σ 7=.int .i64 (n:Int)∧Fr h g) (by omega) (by simp)
  ⟨rfl,by simp,by simp,by simp,.refl _⟩ (fun j σ ds g hJ=>by simp [hJ.2.2.2.1]) ?_ ?_
 ·rintro j σ ds g hj hi ⟨rfl,e0,e1,e7,f⟩
  obtain ⟨x,hxj⟩:=C6 (l:=xs) (j:=j) (by omega)
  obtain ⟨id,o,q1,q2,_⟩:=o0t (s.fr f) hxj
  simp [e0,e1,e7,hi,q1,q2,A5]
  refine (hf x g f).mono ?_
  rintro r g2 ⟨⟨b,rfl⟩,f2⟩
  cases b with
  | true =>
   simp
   exact ⟨⟨_,rfl,by omega⟩,f.trans f2⟩
  | false =>
   simp [e0,e1,e7,hi]
   exact f.trans f2
 ·rintro σ ds g ⟨rfl,e0,e1,e7,f⟩
  simp
  exact ⟨⟨_,rfl,by omega⟩,f⟩
theorem n0x {h:AH} {n:Nat} {v:AV} {l:List Lab} (s:Sl h 2 n v (l.flatMap J0)) (hn:n<2 ^ 62) (t:List UInt8):Ev P SI (.fn c08) [v,.str t] h (w0M h):=by
 refine j9 k0N rfl rfl ?_
 have hl:l.length=n:=by have:=s.1;rw [K0 l (es:=2) (fun _ _=>rfl)] at this;omega
 obtain ⟨g1,hg1⟩:∃ g1,g1=h.push (.cells [.str t] false):=⟨_,rfl⟩
 have f1:Fr h g1:=by rw [hg1];exact Fr.push (.refl h) _
 have n1:g1.next=h.next+1:=by rw [hg1];rfl
 have c1:g1.get h.next=some (.cells [.str t] false):=by rw [hg1];exact b9 _
 simp [f0Z,B7,← hg1]
 refine (p0b (caps:=[.ptr h.next 0]) (fun x g f=>v0u (by rw [f.get _ (by omega)];exact c1) (by have:=f.next;omega) x) (s.fr f1) hn).mono ?_
 rintro r g ⟨⟨z,rfl,hz⟩,f⟩
 by_cases h0:0≤z
 ·obtain ⟨j,rfl⟩:∃ j:Nat,z=(j:Int):=⟨z.toNat,by omega⟩
  obtain ⟨x,hx⟩:=C6 (l:=l) (j:=j) (by omega)
  obtain ⟨id,o,q1,q2,q3⟩:=o0t ((s.fr f1).fr f) hx
  simp [h0,q1,q3]
  exact ⟨⟨_,rfl⟩,f1.trans f⟩
 ·simp [h0]
  exact ⟨⟨_,rfl⟩,f1.trans f⟩
structure Mc where
 kind:Int
 name:List UInt8
 val:List UInt8
def maC (m:Mc):List AV:=[.int .i64 m.kind,.str m.name,.str m.val]
def l0O (m:Mc):Prop:=m.name.length<2 ^ 62
theorem v0v {h:AH} {n:Nat} {v:AV} {l:List Mc} (s:Sl h 3 n v (l.flatMap maC)) {j:Nat} {x:Mc} (hx:l[j]? = some x) :
  ∃ id o,I3 3 v (.int .i64 (j:Int))=.ok (.ptr id o)∧loadN h id o 3=.ok (maC x):=by
 obtain ⟨id,o,h1,h2,_⟩:=s.elem (fun _ _=>rfl) (by omega) (k:=.i64) (i:=(j:Int)) rfl hx
 exact ⟨id,o,h1,h2⟩
theorem h0u {fid:FuncId} {caps:List AV} {h:AH} {n:Nat} {v:AV} {xs:List Mc} (hf:∀ (x:Mc) (g:AH),x ∈ xs→Fr h g→Ev P SI (.fn fid) (.agg (maC x)::caps) g (BK g)) (s:Sl h 3 n v (xs.flatMap maC)) (hn:n<2 ^ 62) :
  Ev P SI (.fn m8) [v,.func (.func fid) [] caps] h (BK h):=by
 have hix:Ev P SI (.fn r8) [v,.func (.func fid) [] caps] h (IxK n h):=by
  refine j9 E2 rfl rfl ?_
  have hl:xs.length=n:=by have:=s.1;rw [K0 xs (es:=3) (fun _ _=>rfl)] at this;omega
  simp [z7,s.len]
  refine J9 (n:=n) (by rfl) (fun j σ ds g=>ds=[]∧σ 0=v∧σ 1=.func (.func fid) [] caps∧σ 7=.int .i64 (n:Int)∧Fr h g) (by omega) (by simp)
   ⟨rfl,by simp,by simp,by simp,.refl _⟩ (fun j σ ds g hJ=>by simp [hJ.2.2.2.1]) ?_ ?_
  ·rintro j σ ds g hj hi ⟨rfl,e0,e1,e7,f⟩
   obtain ⟨x,hxj⟩:=C6 (l:=xs) (j:=j) (by omega)
   obtain ⟨id,o,q1,q2⟩:=v0v (s.fr f) hxj
   simp [e0,e1,e7,hi,q1,q2,A5]
   refine (hf x g (List.mem_of_getElem? hxj) f).mono ?_
   rintro r g2 ⟨⟨b,rfl⟩,f2⟩
   cases b with
   | true =>
    simp
    exact ⟨⟨_,rfl,by omega⟩,f.trans f2⟩
   | false =>
    simp [e0,e1,e7,hi]
    exact f.trans f2
  ·rintro σ ds g ⟨rfl,e0,e1,e7,f⟩
   simp
   exact ⟨⟨_,rfl,by omega⟩,f⟩
 refine j9 C8 rfl rfl ?_
 simp [x3]
 refine hix.mono ?_
 rintro r g ⟨⟨z,rfl,_⟩,f⟩
 simp
 exact ⟨⟨_,rfl⟩,f⟩
theorem p0c {h:AH} {n:Nat} {v:AV} {l:List Lab} (m:Mc) (s:Sl h 2 n v (l.flatMap J0)) (hn:n<2 ^ 62):Ev P SI (.fn c0f) [.agg (maC m),v] h (BK h):=by
 refine j9 l0K rfl rfl ?_
 obtain ⟨g1,hg1⟩:∃ g1,g1=h.push (.cells [.int .i64 m.kind,.str m.name,.str m.val] false):=⟨_,rfl⟩
 have f1:Fr h g1:=by rw [hg1];exact Fr.push (.refl h) _
 have n1:g1.next=h.next+1:=by rw [hg1];rfl
 have c1:g1.get h.next=some (.cells [.int .i64 m.kind,.str m.name,.str m.val] false):=by rw [hg1];exact b9 _
 have ld:∀ g,Fr g1 g→load1 g h.next 0=.ok (.int .i64 m.kind)∧load1 g h.next 1=.ok (.str m.name)∧load1 g h.next 2=.ok (.str m.val):=fun g f=>by
  have c:=f.get h.next (by omega)
  rw [c1] at c
  exact ⟨by rw [c9 c];rfl,by rw [c9 c];rfl,by rw [c9 c];rfl⟩
 simp [h0r,B7,maC,← hg1,(ld g1 (.refl _)).2.1]
 refine (n0x (s.fr f1) hn m.name).mono ?_
 rintro r g2 ⟨⟨t,rfl⟩,f2⟩
 obtain ⟨a0,a1,a2⟩:=ld g2 f2
 have f02:=f1.trans f2
 by_cases k1:m.kind=1
 ·simp [a0,a2,k1]
  exact ⟨⟨_,rfl⟩,f02⟩
 ·by_cases k2:m.kind=2
  ·simp [a0,a2,k2]
   exact ⟨⟨_,rfl⟩,f02⟩
  ·have reg:Ev P SI (.fn a0C) [.str m.val,.str t] g2 fun r g=>Fr g2 g∧∃ (b:Bool) (e:Int),r=.tuple [.bool b,.int .i64 e]:=l09 m.val t
   by_cases k3:m.kind=3
   ·simp [a0,a2,k3]
    refine reg.mono ?_
    rintro r g3 ⟨f3,b,e,rfl⟩
    obtain ⟨b0,b1,b2⟩:=ld g3 (f2.trans f3)
    simp [b0,k3]
    exact ⟨⟨_,rfl⟩,f02.trans f3⟩
   ·by_cases k4:m.kind=4
    ·simp [a0,a2,k4]
     refine reg.mono ?_
     rintro r g3 ⟨f3,b,e,rfl⟩
     obtain ⟨b0,b1,b2⟩:=ld g3 (f2.trans f3)
     simp [b0,k4]
     exact ⟨⟨_,rfl⟩,f02.trans f3⟩
    ·simp [a0,k1,k2,k3,k4]
     exact ⟨⟨_,rfl⟩,f02⟩
theorem l0P {h:AH} {b n:Nat} {v:AV} {l:List Lab} {ro:Bool} (m:Mc) (hb:h.get b=some (.cells [v] ro)) (hlt:b<h.next) (s:Sl h 2 n v (l.flatMap J0)) (hn:n<2 ^ 62):Ev P SI (.fn c0s) [.agg (maC m),.ptr b 0] h (BK h):=by
 refine j9 j0z rfl rfl ?_
 obtain ⟨g1,hg1⟩:∃ g1,g1=h.push (.cells [.int .i64 m.kind,.str m.name,.str m.val] false):=⟨_,rfl⟩
 have f1:Fr h g1:=by rw [hg1];exact Fr.push (.refl h) _
 have c1:g1.get h.next=some (.cells [.int .i64 m.kind,.str m.name,.str m.val] false):=by rw [hg1];exact b9 _
 have ln:loadN g1 h.next 0 3=.ok (maC m):=E1 c1 rfl
 have lb:load1 g1 b 0=.ok v:=by rw [c9 (by rw [f1.get _ hlt];exact hb)];rfl
 simp only [maC] at ln
 simp [e0W,B7,maC,← hg1,ln,A5,lb]
 refine (show Ev P SI (.fn c0f) [.agg [.int .i64 m.kind,.str m.name,.str m.val],v] g1 (BK g1) from p0c m (s.fr f1) hn).mono ?_
 rintro r g2 ⟨⟨b,rfl⟩,f2⟩
 simp
 exact ⟨⟨_,rfl⟩,f1.trans f2⟩
theorem p0d {h:AH} {n k:Nat} {mv lv:AV} {ms:List Mc} {l:List Lab} (sm:Sl h 3 k mv (ms.flatMap maC)) (hk:k<2 ^ 62) (s:Sl h 2 n lv (l.flatMap J0)) (hn:n<2 ^ 62):Ev P SI (.fn K3) [mv,lv] h (BK h):=by
 refine j9 h0q rfl rfl ?_
 have hlc:=s.oneCell
 obtain ⟨g1,hg1⟩:∃ g1,g1=h.push (.cells [lv] false):=⟨_,rfl⟩
 have f1:Fr h g1:=by rw [hg1];exact Fr.push (.refl h) _
 have n1:g1.next=h.next+1:=by rw [hg1];rfl
 have c1:g1.get h.next=some (.cells [lv] false):=by rw [hg1];exact b9 _
 simp [d0M,B7,hlc.1,← hg1]
 refine (h0u (caps:=[.ptr h.next 0]) (fun x g _ f=>l0P x (by rw [f.get _ (by omega)];exact c1) (by have:=f.next;omega) ((s.fr f1).fr f) hn) (sm.fr f1) hk).mono ?_
 rintro r g2 ⟨⟨b,rfl⟩,f2⟩
 simp
 exact ⟨⟨_,rfl⟩,f1.trans f2⟩
theorem p0e {h:AH} (m:Mc) (hm:l0O m):Ev P SI (.fn c0e) [.agg (maC m)] h (BK h):=by
 refine j9 m0p rfl rfl ?_
 obtain ⟨g1,hg1⟩:∃ g1,g1=h.push (.cells [.int .i64 m.kind,.str m.name,.str m.val] false):=⟨_,rfl⟩
 have f1:Fr h g1:=by rw [hg1];exact Fr.push (.refl h) _
 have n1:g1.next=h.next+1:=by rw [hg1];rfl
 have c1:g1.get h.next=some (.cells [.int .i64 m.kind,.str m.name,.str m.val] false):=by rw [hg1];exact b9 _
 have ld:∀ g,Fr g1 g→load1 g h.next 0=.ok (.int .i64 m.kind)∧load1 g h.next 1=.ok (.str m.name)∧load1 g h.next 2=.ok (.str m.val):=fun g f=>by
  have c:=f.get h.next (by omega)
  rw [c1] at c
  exact ⟨by rw [c9 c];rfl,by rw [c9 c];rfl,by rw [c9 c];rfl⟩
 have name:∀ g,Fr g1 g→Ev P SI (.fn U8) [.str m.name] g (BK h):=fun g f=>(h0M hm g).mono fun r g' hr=>⟨⟨_,hr.1⟩,(f1.trans f).trans hr.2⟩
 obtain ⟨a0,a1,a2⟩:=ld g1 (.refl _)
 have value:(m.kind=1∨m.kind=2)→Ev P SI (.fn S7) [.str m.val] g1 fun r g=>Fr g1 g∧∃ b,r=.bool b:=fun _=>(g0s g1).mono fun r g' hr=>⟨hr.2,_,hr.1⟩
 simp [h0C,B7,maC,← hg1,a0]
 by_cases k12:m.kind=1∨m.kind=2
 ·by_cases hv:m.val=[]
  ·rcases k12 with k | k
   all_goals
    rw [hv] at a2
    simp [k,a2,a1]
    refine (name g1 (.refl _)).mono ?_
    rintro r g2 ⟨⟨b,rfl⟩,f2⟩
    simp
    exact ⟨⟨_,rfl⟩,f2⟩
  ·rcases k12 with k | k
   all_goals
    simp [k,a2,hv]
    refine (value (by omega)).mono ?_
    rintro r g2 ⟨f2,b,rfl⟩
    obtain ⟨b0,b1,b2⟩:=ld g2 f2
    cases b with
    | false =>
     simp
     exact ⟨⟨_,rfl⟩,f1.trans f2⟩
    | true =>
     simp [b1]
     refine (name g2 f2).mono ?_
     rintro r g3 ⟨⟨b,rfl⟩,f3⟩
     simp
     exact ⟨⟨_,rfl⟩,f3⟩
 ·have k1:¬ m.kind=1:=fun e=>k12 (.inl e)
  have k2:¬ m.kind=2:=fun e=>k12 (.inr e)
  by_cases k34:m.kind=3∨m.kind=4
  ·have hop:a0d g1 (.str m.val)=okV (.ptr g1.next 0) (g1.push (.siter m.val 0)):=rfl
   rcases k34 with k | k
   all_goals
    simp [k,a2,hop]
    refine b02 (fun q σ ds g=>∃ pos,m.val.length≤q+pos∧ds=[]∧σ 1=.ptr h.next 0∧σ 24=.ptr g1.next 0∧g=g1.push (.siter m.val pos)) m.val.length ⟨0,by omega,rfl,by simp,by simp,rfl⟩ ?_
    rintro q σ ds g ⟨pos,hq,rfl,e1,e24,rfl⟩
    have hg:(g1.push (.siter m.val pos)).get g1.next=some (.siter m.val pos):=b9 _
    have fp:Fr g1 (g1.push (.siter m.val pos)):=Fr.push (.refl g1) _
    by_cases hlt:pos<m.val.length
    ·have hn:=h0g hg hlt
     have hw:=j0b ⟨⟨m.val⟩⟩ pos
     rw [AH.set_push] at hn
     generalize Utf8.decode ⟨⟨m.val⟩⟩ pos=d at *
     have fd:Fr g1 (g1.push (.siter m.val (pos+d.2))):=Fr.push (.refl g1) _
     by_cases h32:(d.1:Int)<32
     ·simp [e1,e24,hn,h32]
      exact ⟨⟨_,rfl⟩,f1.trans fd⟩
     ·by_cases h127:(d.1:Int)=127
      ·simp [e1,e24,hn,h32,h127]
       exact ⟨⟨_,rfl⟩,f1.trans fd⟩
      ·simp [e1,e24,hn,h32,h127,m7]
       exact ⟨q - 1,by omega,pos+d.2,by omega,rfl⟩
    ·have hn:=h0h hg hlt
     obtain ⟨b0,b1,b2⟩:=ld _ fp
     simp [e1,e24,hn,b2]
     refine (l0Z m.val).mono ?_
     rintro r g3 ⟨f3,e,rfl⟩
     obtain ⟨d0,d1,d2⟩:=ld g3 (fp.trans f3)
     by_cases he:e=0
     ·simp [he,e1,d1]
      refine (name g3 (fp.trans f3)).mono ?_
      rintro r g4 ⟨⟨b,rfl⟩,f4⟩
      simp
      exact ⟨⟨_,rfl⟩,f4⟩
     ·simp [he]
      exact ⟨⟨_,rfl⟩,f1.trans (fp.trans f3)⟩
  ·have k3:¬ m.kind=3:=fun e=>k34 (.inl e)
   have k4:¬ m.kind=4:=fun e=>k34 (.inr e)
   simp [k1,k2,k3,k4]
   exact ⟨⟨_,rfl⟩,f1⟩
end Go.Dk

namespace Go.Dr
variable {P:Program}
def o0M (S S':a0o):Prop:=∀ f,S f=S' f∨∃ g,S f=some g∧∀ args h r,g args h≠.ok r
theorem r0G {S S':a0o} {c c':E0} (hs:o0M S S') (hc:N9 c c'):N9 (b0a S c) (b0a S' c'):=by
 intro t args h r he
 unfold b0a at he ⊢
 cases t with
 | fn f =>
  simp only at he ⊢
  rcases hs f with e | ⟨g,e,_⟩
  ·rw [← e]
   split at he
   ·cases he
   ·exact hc _ _ _ _ he
  ·rw [e] at he;cases he
 | yield l=>exact hc _ _ _ _ he
theorem k0D {S S':a0o} {lf lf':Nat} (hs:o0M S S') (hl:lf≤lf'):∀ {n n':Nat},n≤n'→N9 (A3 P S lf n) (A3 P S' lf' n')
 | 0,_,_=>fun t args h r he=>by cases t <;> cases he
 | n+1,0,hn=>absurd hn (by omega)
 | n+1,n'+1,hn=>fun t args h r he=>by
  have ih:=k0D hs hl (n:=n) (n':=n') (by omega)
  cases t with
  | fn f =>
   unfold A3 at he ⊢
   rcases hs f with e | ⟨g,e,hg⟩
   ·rw [← e]
    split at he
    ·exact he
    ·split at he
     ·split at he
      ·rename_i fn _ _ k _
       cases hb:Nat.ble args.length fn.ntmps with
       | false=>rw [hb] at he;cases he
       | true =>
        rw [hb] at he
        simp only [cond_true] at he ⊢
        exact d0v (r0G hs ih) (fun r hr=>x4 ih hl _ hr) he
      ·cases he
     ·cases he
   ·rw [e] at he
    exact absurd he (hg _ _ _)
  | yield l =>
   unfold A3 at he ⊢
   split at he
   ·exact h0v ih hl he
   ·cases he
theorem Ev.up {S S':a0o} (hs:o0M S S') {t:Tgt} {args:List AV} {h:AH} {K:AV→AH→Prop} (e:Ev P S t args h K):Ev P S' t args h K:=by
 obtain ⟨N,v,h',e1,k⟩:=e
 exact ⟨N,v,h',k0D hs (Nat.le_refl _) (Nat.le_refl _) _ _ _ _ e1,k⟩
end Go.Dr

namespace Go.Dk
open Go Go.Dr
set_option maxRecDepth 100000
noncomputable def nG:Nat:=P.globals.size
noncomputable def H0 (L R:List AV):AH:=((⟨nG,.leaf⟩:AH).push (.cells L true)).push (.cells R true)
def j0r (v:AV) (id es:Nat) (L:List AV):AV:=match v with
 | .nils=>.nils
 | _=>.slice id 0 (L.length/es) (L.length/es) false es
open Classical in
noncomputable def BB (mv lv:AV) (L R:List AV):Bool:=decide (Ev P SI (.fn K3) [j0r mv nG 3 L,j0r lv (nG+1) 2 R] (H0 L R) fun r _=>r=.bool true)
def MsC (h:AH) (mv:AV) (L:List AV):Prop:=∃ (k:Nat) (ms:List Mc),Sl h 3 k mv L∧L=ms.flatMap maC∧k<2 ^ 62
def LsC (h:AH) (lv:AV) (R:List AV):Prop:=∃ (n:Nat) (ls:List Lab),Sl h 2 n lv R∧R=ls.flatMap J0∧n<2 ^ 62
theorem t0A {h:AH} {es n n':Nat} {v:AV} {l l':List AV} (a:Sl h es n v l) (b:Sl h es n' v l'):n=n'∧l=l':=by
 obtain ⟨a1,a2⟩:=a
 obtain ⟨b1,b2⟩:=b
 rcases a2 with ⟨rfl,rfl⟩ | ⟨id,off,cap,x,vs,ro,rfl,_,_,h4,_,h6⟩
 ·rcases b2 with ⟨_,rfl⟩ | ⟨_,_,_,_,_,_,e,_⟩
  ·exact ⟨rfl,by rw [List.eq_nil_of_length_eq_zero (show l.length=0 by omega),List.eq_nil_of_length_eq_zero (show l'.length=0 by omega)]⟩
  ·cases e
 ·rcases b2 with ⟨e,_⟩ | ⟨id',off',cap',x',vs',ro',e,_,_,k4,_,k6⟩
  ·cases e
  ·cases e
   rw [h4] at k4;cases k4
   exact ⟨rfl,by rw [← h6,← k6]⟩
theorem MsC.un {h:AH} {mv:AV} {L L':List AV} (a:MsC h mv L) (b:MsC h mv L'):L=L':=by
 obtain ⟨_,_,s,_⟩:=a
 obtain ⟨_,_,s',_⟩:=b
 exact (t0A s s').2
theorem LsC.un {h:AH} {mv:AV} {L L':List AV} (a:LsC h mv L) (b:LsC h mv L'):L=L':=by
 obtain ⟨_,_,s,_⟩:=a
 obtain ⟨_,_,s',_⟩:=b
 exact (t0A s s').2
theorem l0t (L R:List AV):(H0 L R).next=nG+2:=rfl
theorem w0a (L R:List AV):(H0 L R).get nG=some (.cells L true):=by
 unfold H0
 rw [j0 (by show nG≠nG+1;omega)]
 exact b9 (h:=⟨nG,.leaf⟩) _
theorem w0b (L R:List AV):(H0 L R).get (nG+1)=some (.cells R true):=b9 (h:=(⟨nG,.leaf⟩:AH).push (.cells L true)) _
theorem w0c {L R:List AV} {i:Nat} (hi:i<nG):(H0 L R).get i=none:=by
 unfold H0
 rw [j0 (by show i≠nG+1;omega),j0 (by show i≠nG;omega)]
 have:∀ n,(PT.leaf:PT AObj).get n=none:=fun _=>rfl
 exact this i
theorem r0N {h:AH} {es n id:Nat} {v:AV} {l X Y:List AV} (hes:0<es) (s:Sl h es n v l) (hid:id<(H0 X Y).next) (hg:(H0 X Y).get id=some (.cells l true)):Sl (H0 X Y) es n (j0r v id es l) l:=by
 have hl:=s.1
 rcases s.2 with ⟨rfl,rfl⟩ | ⟨id',off,cap,x,vs,ro,rfl,_,_,h4,_,h6⟩
 ·exact ⟨hl,.inl ⟨rfl,rfl⟩⟩
 ·have hd:l.length/es=n:=by rw [hl,Nat.mul_div_cancel _ hes]
  refine ⟨hl,.inr ⟨id,0,n,false,l,true,?_,hid,Nat.le_refl _,hg,by omega,by rw [List.drop_zero];exact List.take_of_length_le (by omega)⟩⟩
  simp only [j0r,hd]
theorem w0d {h:AH} {mv lv:AV} {L R:List AV} (a:MsC h mv L) (b:LsC h lv R):Ev P SI (.fn K3) [j0r mv nG 3 L,j0r lv (nG+1) 2 R] (H0 L R) fun r g=>r=.bool (BB mv lv L R)∧Fr (H0 L R) g:=by
 obtain ⟨k,ms,s1,e1,hk⟩:=a
 obtain ⟨n,ls,s2,e2,hn⟩:=b
 have c1:=r0N (X:=L) (Y:=R) (id:=nG) (by omega) s1 (by rw [l0t];omega) (w0a L R)
 have c2:=r0N (X:=L) (Y:=R) (id:=nG+1) (by omega) s2 (by rw [l0t];omega) (w0b L R)
 have d1:Sl (H0 L R) 3 k (j0r mv nG 3 L) (ms.flatMap maC):=by rw [← e1];exact c1
 have d2:Sl (H0 L R) 2 n (j0r lv (nG+1) 2 R) (ls.flatMap J0):=by rw [← e2];exact c2
 obtain ⟨N,v,g,he,⟨b,rfl⟩,f⟩:=p0d d1 hk d2 hn
 refine ⟨N,_,g,he,?_,f⟩
 have hb:BB mv lv L R=b:=by
  unfold BB
  cases b with
  | true=>exact @decide_eq_true _ (Classical.propDecidable _) ⟨N,_,g,he,rfl⟩
  | false =>
   refine @decide_eq_false _ (Classical.propDecidable _) ?_
   rintro ⟨M,u,g',he',rfl⟩
   have h1:=N6 (Nat.le_max_left N M) _ _ _ _ he
   have h2:=N6 (Nat.le_max_right N M) _ _ _ _ he'
   rw [h1] at h2
   cases h2
 rw [hb]
open Classical in
noncomputable def r0O (args:List AV) (h:AH):R (AV×AH):=match args with
 | [mv,lv]=>if hx:∃ x:List AV×List AV,MsC h mv x.1∧LsC h lv x.2 then .ok (.bool (BB mv lv (Classical.choose hx).1 (Classical.choose hx).2),h) else .error "match.All"
 | _=>.error "match.All"
noncomputable def SK:a0o:=fun g=>if g=K3 then some r0O else none
theorem u0C {h:AH} {mv lv:AV} {L R:List AV} (a:MsC h mv L) (b:LsC h lv R) (K:AV→AH→Prop):Ev P SK (.fn K3) [mv,lv] h K=K (.bool (BB mv lv L R)) h:=by
 have hx:∃ x:List AV×List AV,MsC h mv x.1∧LsC h lv x.2:=⟨(L,R),a,b⟩
 have hg:r0O [mv,lv] h=.ok (.bool (BB mv lv L R),h):=by
  unfold r0O
  simp only []
  rw [dif_pos hx]
  have:=Classical.choose_spec hx
  generalize Classical.choose hx=x at this ⊢
  rw [a.un this.1,b.un this.2]
 exact Ev.eq ⟨1,.bool (BB mv lv L R),h,by simp [cl,A3,SK,hg],rfl,rfl⟩ K
theorem s0Y {h:AH} {b r:Nat} {t floor:Int} {ro:Bool} (hb:h.get b=some (.cells [.int .i64 floor] ro)):Ev P SK (.fn U2) [.ptr r 0,.int .i64 t,.ptr b 0] h fun v g=>v=.bool (decide (t<floor))∧g=h:=by
 refine j9 e0U rfl rfl ?_
 have l1:load1 h b 0=.ok (.int .i64 floor):=by rw [c9 hb];rfl
 simp [b0d,l1]
theorem r0P {h:AH} {r m fb tb mb:Nat} {t lo hi:Int} {lv mv:AV} {L R:List AV} {r1 r2 r3:Bool} (hr:h.get r=some (.cells [lv,.map m] false))
  (h1:h.get fb=some (.cells [.int .i64 lo] r1)) (h2:h.get tb=some (.cells [.int .i64 hi] r2)) (h3:h.get mb=some (.cells [mv] r3)) (a:MsC h mv L) (b:LsC h lv R) :
  Ev P SK (.fn S9) [.ptr r 0,.int .i64 t,.ptr fb 0,.ptr tb 0,.ptr mb 0] h fun v g=>v=.bool (decide (lo≤t)&&decide (t≤hi)&&BB mv lv L R)∧g=h:=by
 refine j9 e0g rfl rfl ?_
 have l0:load1 h r 0=.ok lv:=by rw [c9 hr];rfl
 have l1:load1 h fb 0=.ok (.int .i64 lo):=by rw [c9 h1];rfl
 have l2:load1 h tb 0=.ok (.int .i64 hi):=by rw [c9 h2];rfl
 have l3:load1 h mb 0=.ok mv:=by rw [c9 h3];rfl
 have e1:R8 12 lv lv=true:=by obtain ⟨_,_,s,_⟩:=b;exact s.same
 have e2:R8 12 mv mv=true:=by obtain ⟨_,_,s,_⟩:=a;exact s.same
 by_cases c1:lo≤t
 ·by_cases c2:t≤hi
  ·simp [L7,l0,l1,l2,l3,c1,c2,u0C a b,e1,e2]
  ·simp [L7,l1,l2,l3,c1,c2]
 ·simp [L7,l1,l2,l3,c1]
end Go.Dk

namespace Go.Dk
open Go Go.Dr
set_option maxRecDepth 100000
noncomputable def c0H:DC :=
 (.seq
 (.seq
  (.ops [
  .row ⟨(some 7),none,.move (.t 0)⟩,
  .row ⟨(some 8),none,.nilCheck (.t 7)⟩,
  .row ⟨(some 9),none,.fieldAddr 1 (.t 8)⟩,
  .row ⟨(some 10),none,.load1 (.t 9)⟩,
  .row ⟨(some 11),none,.lenV (.t 10)⟩,
  .row ⟨(some 12),none,.move (.c (.int .i64 0))⟩])
  (.block 0
  (.loop
   (.seq
   (.ops [
    .row ⟨(some 13),none,.bin .lss d8 false (.t 12) (.t 11)⟩])
   (.seq
    (.cond (.t 13)
    .skip
    (.exit 0))
    (.seq
    (.block 1
     (.seq
     (.ops [
      .row ⟨(some 14),none,.idxV 1 (.t 10) (.t 12)⟩,
      .row ⟨(some 15),none,.load1 (.t 14)⟩,
      .row ⟨(some 5),none,.move (.t 15)⟩])
     (.seq
      (.ops [
      .row ⟨(some 16),none,.move (.t 5)⟩,
      .row ⟨(some 17),none,.nilCheck (.t 16)⟩,
      .row ⟨(some 18),none,.fieldAddr 1 (.t 17)⟩,
      .row ⟨(some 19),none,.load1 (.t 18)⟩,
      .row ⟨(some 20),none,.rangeM (.t 19)⟩])
      (.block 2
      (.loop
       (.seq
       (.ops [
        .row ⟨(some 21),none,.next (.t 20) false⟩,
        .row ⟨(some 22),none,.extract (.t 21) 0⟩])
       (.seq
        (.cond (.t 22)
        .skip
        (.exit 2))
        (.block 3
        (.seq
         (.ops [
         .row ⟨(some 23),none,.entry (.t 20)⟩,
         .row ⟨(some 24),none,.extract (.t 23) 0⟩,
         .row ⟨(some 6),none,.move (.t 24)⟩])
         (.seq
         (.ops [
          .row ⟨(some 25),none,.move (.t 1)⟩,
          .row ⟨(some 26),none,.move (.t 5)⟩,
          .row ⟨(some 27),none,.move (.t 6)⟩,
          .row ⟨(some 28),none,.callV (.t 25) [(.t 26),(.t 27)]⟩])
         (.cond (.t 28)
          (.ops [
          .row ⟨(some 29),none,.move (.t 5)⟩,
          .row ⟨(some 30),none,.nilCheck (.t 29)⟩,
          .row ⟨(some 31),none,.fieldAddr 1 (.t 30)⟩,
          .row ⟨(some 32),none,.load1 (.t 31)⟩,
          .row ⟨(some 33),none,.move (.t 6)⟩,
          .row ⟨none,none,.delete d8 (.t 32) (.t 33)⟩])
          .skip)))))))))))
    (.ops [
     .row ⟨(some 34),none,.bin .add d8 true (.t 12) (.c (.int .i64 1))⟩,
     .row ⟨(some 12),none,.move (.t 34)⟩])))))))
 (.ops [
  .row ⟨(some 35),none,.move (.t 0)⟩,
  .row ⟨(some 36),none,.move (.t 0)⟩,
  .row ⟨(some 37),none,.nilCheck (.t 36)⟩,
  .row ⟨(some 38),none,.fieldAddr 1 (.t 37)⟩,
  .row ⟨(some 39),none,.load1 (.t 38)⟩,
  .row ⟨(some 40),none,.callV (.c (.func (.func v8) [] [])) [(.t 39),(.c (.func (.func v6) [] []))]⟩,
  .row ⟨(some 41),none,.nilCheck (.t 35)⟩,
  .row ⟨(some 42),none,.fieldAddr 1 (.t 41)⟩,
  .row ⟨none,none,.store 1 (.t 42) (.t 40)⟩]))
theorem g0X:i0N P y6=.ok ⟨43,[],c0H⟩:=by kernel_rfl
end Go.Dk

namespace Go.Dk
open Go Go.Dr
set_option maxRecDepth 100000
attribute [-simp]  K4
@[simp] theorem s0q (t:TypeId) (x y:CO):K4 (.delete t x y)=none:=nr rfl
def wE (w:Int→Bool) (e:AEntry):Bool:=match e.key with | .int _ t=>w t | _=>false
theorem g0c:∀ {cur:List AEntry} {n:Nat} {e:AEntry},cur[n]? = some e→(cur.map AEntry.born).Nodup→a0F n cur=cur.filter fun x=>!(x.born == e.born)
 | [],n,e,h,_=>by simp at h
 | x::l,0,e,h,hn=>by
  simp at h;subst h
  simp only [List.map_cons,List.nodup_cons] at hn
  rw [a0F,List.filter_cons,if_neg (by simp)]
  refine (List.filter_eq_self.2 fun y hy=>?_).symm
  have:y.born≠x.born:=fun e=>hn.1 (by rw [← e];exact List.mem_map.2 ⟨y,hy,rfl⟩)
  simpa using this
 | x::l,n+1,e,h,hn=>by
  simp only [List.getElem?_cons_succ] at h
  simp only [List.map_cons,List.nodup_cons] at hn
  have hne:x.born≠e.born:=fun e'=>hn.1 (by rw [e'];exact List.mem_map.2 ⟨e,List.mem_of_getElem? h,rfl⟩)
  rw [a0F,List.filter_cons,if_pos (by simpa using hne),g0c h hn.2]
theorem i0F:∀ {l:List AEntry},(l.map AEntry.born).Nodup→∀ x ∈ l,∀ y ∈ l,x.born=y.born→x=y
 | [],_,x,hx,_,_,_=>by cases hx
 | a::l,h,x,hx,y,hy,hxy=>by
  simp only [List.map_cons,List.nodup_cons] at h
  rcases List.mem_cons.1 hx with hx1 | hx1
  ·rcases List.mem_cons.1 hy with hy1 | hy1
   ·rw [hx1,hy1]
   ·exact absurd (List.mem_map.2 ⟨y,hy1,by rw [← hxy,hx1]⟩) h.1
  ·rcases List.mem_cons.1 hy with hy1 | hy1
   ·exact absurd (List.mem_map.2 ⟨x,hx1,by rw [hxy,hy1]⟩) h.1
   ·exact i0F h.2 x hx1 y hy1 hxy
theorem o0v (p:AEntry→Bool):∀ {es:List AEntry} {l:List (Int×AV)},es.map kve=kvA kI l→∃ lc,(es.filter p).map kve=kvA kI lc∧lc.Sublist l
 | [],l,_=>⟨[],rfl,List.nil_sublist _⟩
 | x::es,[],e=>by simp [kvA] at e
 | x::es,y::l,e=>by
  simp only [List.map_cons,kvA,List.cons.injEq] at e
  obtain ⟨lc,h1,h2⟩:=o0v p (es:=es) (l:=l) e.2
  cases hp:p x with
  | true =>
   refine ⟨y::lc,?_,h2.cons_cons _⟩
   rw [List.filter_cons,if_pos hp,List.map_cons,h1,e.1];rfl
  | false =>
   exact ⟨lc,by rw [List.filter_cons,if_neg (by rw [hp];simp),h1],h2.cons _⟩
structure DI (q m clock:Nat) (w:Int→Bool) (g0:AH) (es picked:List AEntry) (g:AH):Prop where
 sub:∀ e ∈ picked,e ∈ es
 nd:(picked.map AEntry.born).Nodup
 next:g.next=q+1
 it:g.get q=some (.miter (some m) clock (picked.map AEntry.born) clock)
 map:g.get m=some (.map (es.filter fun e=>!((picked.map AEntry.born).contains e.born&&wE w e)) clock)
 old:∀ i,i<q→i≠m→g.get i=g0.get i
noncomputable def l0X:DC :=
      (.loop
       (.seq
       (.ops [
        .row ⟨(some 21),none,.next (.t 20) false⟩,
        .row ⟨(some 22),none,.extract (.t 21) 0⟩])
       (.seq
        (.cond (.t 22)
        .skip
        (.exit 2))
        (.block 3
        (.seq
         (.ops [
         .row ⟨(some 23),none,.entry (.t 20)⟩,
         .row ⟨(some 24),none,.extract (.t 23) 0⟩,
         .row ⟨(some 6),none,.move (.t 24)⟩])
         (.seq
         (.ops [
          .row ⟨(some 25),none,.move (.t 1)⟩,
          .row ⟨(some 26),none,.move (.t 5)⟩,
          .row ⟨(some 27),none,.move (.t 6)⟩,
          .row ⟨(some 28),none,.callV (.t 25) [(.t 26),(.t 27)]⟩])
         (.cond (.t 28)
          (.ops [
          .row ⟨(some 29),none,.move (.t 5)⟩,
          .row ⟨(some 30),none,.nilCheck (.t 29)⟩,
          .row ⟨(some 31),none,.fieldAddr 1 (.t 30)⟩,
          .row ⟨(some 32),none,.load1 (.t 31)⟩,
          .row ⟨(some 33),none,.move (.t 6)⟩,
          .row ⟨none,none,.delete d8 (.t 32) (.t 33)⟩])
          .skip)))))))
def v0z (σ σ':Sg):Prop:=∀ i,i≠6→i<21→σ' i=σ i
theorem t0Q {Q:G4} {σ:Sg} {ds:List ADef} {g g0:AH} {q m clock rid:Nat} {lv:AV} {fid:FuncId} {caps:List AV} {w:Int→Bool} {es:List AEntry} {l:List (Int×AV)}
  (e1:σ 1=.func (.func fid) [] caps) (e5:σ 5=.ptr rid 0) (e20:σ 20=.ptr q 0) (hr:g0.get rid=some (.cells [lv,.map m] false)) (hrq:rid<q) (hmq:m<q) (hrm:rid≠m)
  (hkv:es.map kve=kvA kI l) (hb:∀ e ∈ es,e.born<clock) (hd:(es.map AEntry.born).Nodup) (hln:(l.map (·.1)).Nodup)
  (hw:∀ t g',g'.next=q+1→(∀ i,i<q→i≠m→g'.get i=g0.get i)→∀ K,K (.bool (w t)) g'→EvN P SK (.fn fid) (.ptr rid 0::.int .i64 t::caps) g' K)
  (h0:DI q m clock w g0 es [] g) (hQ:∀ σ' g',v0z σ σ'→g'.next=q+1→g'.get m=some (.map (es.filter fun e=>!wE w e) clock)→(∀ i,i<q→i≠m→g'.get i=g0.get i)→Q (.exit 2) σ' ds g') :
  wqC P SK l0X Q σ ds g:=by
 refine n06 (fun k σ' ds' g'=>∃ picked,k+picked.length=es.length∧ds'=ds∧v0z σ σ'∧DI q m clock w g0 es picked g') es.length ⟨[],rfl,rfl,fun _ _ _=>rfl,h0⟩ ?_
 rintro k σ' ds' g' ⟨picked,hk,rfl,hσ,hI⟩
 have e1':=(hσ 1 (by omega) (by omega)).trans e1
 have e5':=(hσ 5 (by omega) (by omega)).trans e5
 have e20':=(hσ 20 (by omega) (by omega)).trans e20
 obtain ⟨cur,hcur⟩:∃ cur,cur=es.filter fun e=>!((picked.map AEntry.born).contains e.born&&wE w e):=⟨_,rfl⟩
 have hm:=hI.map
 rw [← hcur] at hm
 have hcs:cur.Sublist es:=by rw [hcur];exact List.filter_sublist
 have hcb:∀ e ∈ cur,e.born<clock:=fun e he=>hb e (hcs.mem he)
 have hcd:(cur.map AEntry.born).Nodup:=(hcs.map AEntry.born).nodup hd
 simp [e20']
 refine i0Z hI.it hm hcb ?_ ?_
 ·intro hall
  have hfin:cur=es.filter fun e=>!wE w e:=by
   rw [hcur]
   refine List.filter_congr fun e he=>?_
   cases hc:(picked.map AEntry.born).contains e.born with
   | true=>simp
   | false =>
    have hmem:e ∈ cur:=by rw [hcur];exact List.mem_filter.2 ⟨he,by rw [hc];rfl⟩
    have:=hall e hmem
    rw [List.contains_eq_mem] at hc
    simp only [decide_eq_false_iff_not] at hc
    exact absurd this hc
  simp
  refine hQ _ _ (fun i h1 h2=>?_) hI.next (by rw [← hfin];exact hm) hI.old
  rw [a0H,a0H,if_neg (by omega),if_neg (by omega)]
  exact hσ i h1 h2
 ·intro e he hnew
  have hees:=hcs.mem he
  obtain ⟨t,hek⟩:∃ t,e.key=.int .i64 t:=by
   have:kve e ∈ kvA kI l:=by rw [← hkv];exact List.mem_map.2 ⟨e,hees,rfl⟩
   obtain ⟨y,_,hy⟩:=List.mem_map.1 this
   exact ⟨y.1,(congrArg Prod.fst hy).symm⟩
  have hwe:wE w e=w t:=by simp [wE,hek]
  have hlt:=l0y hI.sub hI.nd hees hnew
  obtain ⟨g1,hg1⟩:∃ g1,g1=g'.set q (.miter (some m) clock (picked.map AEntry.born++[e.born]) clock):=⟨_,rfl⟩
  have n1:g1.next=q+1:=by rw [hg1];exact hI.next
  have o1:∀ i,i≠q→g1.get i=g'.get i:=fun i hi=>by rw [hg1];exact a6 hi
  have it1:g1.get q=some (.miter (some m) clock (picked.map AEntry.born++[e.born]) clock):=by rw [hg1];exact d9 _ _
  have hm1:g1.get m=some (.map cur clock):=by rw [o1 _ (by omega)];exact hm
  have old1:∀ i,i<q→i≠m→g1.get i=g0.get i:=fun i h1 h2=>by rw [o1 i (by omega)];exact hI.old i h1 h2
  have oe:=h0E it1 hm1 he hcd
  rw [hek] at oe
  rw [← hg1]
  have hpick:∀ x ∈ picked++[e],x ∈ es:=fun x hx=>by
   rcases List.mem_append.1 hx with h | h
   ·exact hI.sub x h
   ·rw [List.mem_singleton.1 h];exact hees
  have hcon:∀ x ∈ es,((picked++[e]).map AEntry.born).contains x.born=((picked.map AEntry.born).contains x.born||x.born == e.born):=fun x _=>by
   rw [List.map_append,List.contains_eq_mem,List.contains_eq_mem]
   by_cases h1:x.born ∈ picked.map AEntry.born <;> by_cases h2:x.born=e.born <;> simp [h1,h2]
  simp [e20',oe,e1',e5']
  refine hw t g1 n1 old1 _ ?_
  cases hwt:w t with
  | true =>
   obtain ⟨lc,hlc,hls⟩:=o0v (fun e=>!((picked.map AEntry.born).contains e.born&&wE w e)) hkv
   rw [← hcur] at hlc
   obtain ⟨n,hn⟩:=List.getElem?_of_mem he
   have hln':lc[n]? = some (t,e.val):=by
    have h1:(cur.map kve)[n]? = some (kve e):=by rw [List.getElem?_map,hn];rfl
    rw [hlc,kvA,List.getElem?_map] at h1
    cases hq:lc[n]? with
    | none=>rw [hq] at h1;cases h1
    | some y =>
     rw [hq] at h1
     simp only [Option.map_some,Option.some.injEq,kve,Prod.mk.injEq,hek,kI,AV.int.injEq,true_and] at h1
     rw [← h1.1,← h1.2]
   have hlcn:(lc.map (·.1)).Nodup:=(hls.map _).nodup hln
   have hdel:=p05 t0E hm1 hlc hln' hlcn
   have l2:load1 g1 rid 1=.ok (.map m):=by rw [c9 (by rw [old1 _ hrq hrm];exact hr)];rfl
   have hnext:DI q m clock w g0 es (picked++[e]) (g1.set m (.map (a0F n cur) clock)):=by
    refine ⟨hpick,b0A hI.nd hnew,n1,by rw [a6 (by omega),it1];simp,?_,fun i h1 h2=>by rw [a6 h2];exact old1 i h1 h2⟩
    rw [d9,g0c hn hcd,hcur,List.filter_filter]
    congr 2
    refine List.filter_congr fun x hx=>?_
    rw [hcon x hx]
    by_cases hxe:x.born=e.born
    ·have:x=e:=i0F hd x hx e hees hxe
     rw [this,hwe,hwt];simp
    ·have:(x.born == e.born)=false:=by simpa using hxe
     rw [this];simp
   simp only [kI] at hdel
   simp [e5',l2,hdel,m7]
   refine ⟨k - 1,by omega,picked++[e],by simp;omega,fun i h1 h2=>?_,hnext⟩
   simp only [a0H]
   repeat rw [if_neg (by omega)]
   exact hσ i h1 h2
  | false =>
   have hnext:DI q m clock w g0 es (picked++[e]) g1:=by
    refine ⟨hpick,b0A hI.nd hnew,n1,by rw [it1];simp,?_,old1⟩
    rw [hm1,hcur]
    congr 2
    refine List.filter_congr fun x hx=>?_
    rw [hcon x hx]
    by_cases hxe:x.born=e.born
    ·have:x=e:=i0F hd x hx e hees hxe
     rw [this,hwe,hwt];simp
    ·have:(x.born == e.born)=false:=by simpa using hxe
     rw [this];simp
   simp [m7]
   refine ⟨k - 1,by omega,picked++[e],by simp;omega,fun i h1 h2=>?_,hnext⟩
   simp only [a0H]
   repeat rw [if_neg (by omega)]
   exact hσ i h1 h2
end Go.Dk

namespace Go.Dk
open Go Go.Dr
set_option maxRecDepth 100000
attribute [-simp]  K4
@[simp] theorem t09 (x:CO):K4 (.lenV x)=none:=nr rfl
@[simp] theorem u0a (n:Nat) (x y:CO):K4 (.idxV n x y)=none:=nr rfl
theorem f0B {B t hd:Nat} {h:AH} {lv:AV} {xs:List Rh} (H:HeadOk B t h hd lv xs) {i:Nat} (e:j5 lv=some i):∃ vs,h.get i=some (.cells vs false)∧i<h.next∧i≠hd∧B≤i:=by
 rcases H.list with ⟨_,e2⟩ | ⟨sid,mm,vs,e2,_,hB,hlt,hg,_,hne,_⟩
 ·rw [e2] at e;cases e
 ·rw [e2] at e
  have:sid=i:=by simpa [j5] using e
  subst this;exact ⟨vs,hg,hlt,hne,hB⟩
theorem g0t {B t hd:Nat} {h:AH} {lv:AV} {xs:List Rh} (H:HeadOk B t h hd lv xs) {i:Nat} (hi:∃ vs ro,h.get i=some (.cells vs ro)):∀ y ∈ xs,y.m≠i:=fun y hy e=>by
 obtain ⟨es,c,e'⟩:=(H.rows y hy).map.got
 obtain ⟨vs,ro,e2⟩:=hi
 rw [e,e2] at e';cases e'
def y7 (w:Nat→Int→Bool):List Rh→AH→AH
 | [],H=>H
 | x::xs,H=>y7 w xs (match H.get x.m with
  | some (.map es c)=>H.set x.m (.map (es.filter fun e=>!wE (w x.m) e) c)
  | _=>H)
theorem C7 (w:Nat→Int→Bool) {i:Nat}:∀ (xs:List Rh) (H:AH),(∀ x ∈ xs,x.m≠i)→(y7 w xs H).get i=H.get i
 | [],_,_=>rfl
 | x::xs,H,h=>by
  rw [y7,C7 w xs _ fun y hy=>h y (List.mem_cons_of_mem _ hy)]
  have:=h x List.mem_cons_self
  split
  ·rw [a6 (fun e=>this e.symm)]
  ·rfl
theorem e04 (w:Nat→Int→Bool):∀ (xs:List Rh) (x:Rh) (H:AH),y7 w (xs++[x]) H=y7 w [x] (y7 w xs H)
 | [],_,_=>rfl
 | y::xs,x,H=>by rw [List.cons_append,y7,e04 w xs x];rfl
theorem e0j {w w':Nat→Int→Bool}:∀ (xs:List Rh) (H:AH),(∀ x ∈ xs,w x.m=w' x.m)→y7 w xs H=y7 w' xs H
 | [],_,_=>rfl
 | x::xs,H,h=>by
  rw [y7,y7,h x List.mem_cons_self]
  exact e0j xs _ fun y hy=>h y (List.mem_cons_of_mem _ hy)
theorem e0k (w:Nat→Int→Bool):∀ {xs:List Rh} {x:Rh} {H:AH} {es:List AEntry} {c:Nat},x ∈ xs→(xs.map Rh.m).Nodup→H.get x.m=some (.map es c)→(y7 w xs H).get x.m=some (.map (es.filter fun e=>!wE (w x.m) e) c)
 | [],_,_,_,_,h,_,_=>by cases h
 | y::xs,x,H,es,c,h,hn,hg=>by
  simp only [List.map_cons,List.nodup_cons] at hn
  rcases List.mem_cons.1 h with rfl | h'
  ·rw [y7,C7 w _ _ (fun z hz e=>hn.1 (by rw [← e];exact List.mem_map.2 ⟨z,hz,rfl⟩)),hg]
   exact d9 _ _
  ·have hne:x.m≠y.m:=fun e=>hn.1 (by rw [← e];exact List.mem_map.2 ⟨x,h',rfl⟩)
   rw [y7]
   refine e0k w h' hn.2 ?_
   split
   ·rw [a6 hne];exact hg
   ·exact hg
def e0l (w:Nat→Int→Bool) (x:Rh):Rh:={ x with zs:=x.zs.filter fun s=>!w x.m s.1 }
theorem l0c (w:Int→Bool):∀ {es:List AEntry} {zs:List Smp},es.map kve=kvA kI (zs.map vS)→(es.filter fun e=>!wE w e).map kve=kvA kI ((zs.filter fun s=>!w s.1).map vS)
 | [],[],_=>rfl
 | [],y::l,e=>by simp [kvA] at e
 | x::es,[],e=>by simp [kvA] at e
 | x::es,y::l,e=>by
  simp only [List.map_cons,kvA,List.cons.injEq] at e
  have ih:=l0c w (es:=es) (zs:=l) e.2
  have hk:x.key=.int .i64 y.1:=congrArg Prod.fst e.1
  have hw:wE w x=w y.1:=by simp [wE,hk]
  rw [List.filter_cons,List.filter_cons,hw]
  cases w y.1 with
  | true=>simpa using ih
  | false =>
   simp only [Bool.not_false,if_true,List.map_cons,kvA,List.cons.injEq]
   exact ⟨e.1,ih⟩
theorem u0b {K:AV→AH→Prop} {B t hd n:Nat} {h:AH} {lv:AV} {xs:List Rh} {fid:FuncId} {caps:List AV} {w:Nat→Int→Bool} (H:HeadOk B t h hd lv xs) (hnn:xs.length=n) (hn:n≤2 ^ 30)
  (hw:∀ x ∈ xs,∀ (t:Int) (g':AH),h.next≤g'.next→(∀ i,i<h.next→(∀ y ∈ xs,y.m≠i)→g'.get i=h.get i)→∀ K:AV→AH→Prop,K (.bool (w x.m t)) g'→EvN P SK (.fn fid) (.ptr x.r 0::.int .i64 t::caps) g' K)
  (hK:∀ g:AH,g.next=h.next+n→(∀ i,i<h.next→i≠hd→j5 lv≠some i→g.get i=(y7 w xs h).get i) →
   (∀ i vs,j5 lv=some i→h.get i=some (.cells vs false)→g.get i=some (.cells (i0E vs (xs.map (e0l w))) false))→g.get hd=some (.cells [.bool true,g0b lv (xs.map (e0l w))] false)→K (.tuple []) g) :
  EvN P SK (.fn y6) [.ptr hd 0,.func (.func fid) [] caps] h K:=by
 refine q0Y g0X rfl rfl ?_
 have l1:load1 h hd 1=.ok lv:=by rw [c9 H.cell];rfl
 have hln:O1 lv=.ok (.int .i64 (n:Int)):=by rw [← hnn];exact H.list.sl.len
 simp [c0H,l1,hln]
 refine s0L (n:=n) (by rfl) (fun j σ ds g=>ds=[]∧σ 0=.ptr hd 0∧σ 1=.func (.func fid) [] caps∧σ 10=lv∧σ 11=.int .i64 (n:Int)∧g.next=h.next+j∧∀ i,i<h.next→g.get i=(y7 w (xs.take j) h).get i) (by omega) (by simp)
  ⟨rfl,by simp,by simp,by simp,by simp,rfl,fun i _=>rfl⟩ (fun j σ ds g hJ=>by simp [hJ.2.2.2.2.1]) ?_ ?_
 ·rintro j σ ds g hj hi ⟨rfl,e0,e1,e10,e11,gn,gg⟩
  obtain ⟨x,hxj⟩:=C6 (l:=xs) (j:=j) (by omega)
  have hxm:=List.mem_of_getElem? hxj
  have hok:=H.rows x hxm
  obtain ⟨es,clock,m1,m2,m3,m4⟩:=hok.map
  have hne:∀ y ∈ xs.take j,y.m≠x.m:=fun y hy e=>by
   obtain ⟨i,hi'⟩:=List.getElem?_of_mem hy
   have hil:=(List.getElem?_eq_some_iff.1 hi').1
   rw [List.length_take] at hil
   rw [List.getElem?_take_of_lt (by omega)] at hi'
   have a1:=List.getElem?_eq_some_iff.1 hi'
   have a2:=List.getElem?_eq_some_iff.1 hxj
   have:=List.pairwise_iff_getElem.1 (List.pairwise_map.1 H.inj) i j a1.1 a2.1 (by omega)
   rw [a1.2,a2.2] at this
   exact this e
  have hnm:∀ (i:Nat),(∀ es c,h.get i≠some (.map es c))→∀ y ∈ xs,y.m≠i:=fun i hi' y hy e=>by
   obtain ⟨es',c',e'⟩:=(H.rows y hy).map.got
   rw [e] at e';exact hi' _ _ e'
  have hrow:∀ y ∈ xs,y.m≠x.r:=hnm x.r fun es c e=>by rw [hok.at_.cell] at e;cases e
  have gr:g.get x.r=some (.cells [x.lv,.map x.m] false):=by rw [gg _ hok.at_.lt,C7 w _ _ fun y hy=>hrow y (List.mem_of_mem_take hy)];exact hok.at_.cell
  have gm:g.get x.m=some (.map es clock):=by rw [gg _ hok.mlt,C7 w _ _ hne];exact m1
  have hlist:∀ i,j5 lv=some i→∀ y ∈ xs,y.m≠i:=fun i e=>hnm i fun es c e'=>by
   rcases H.list with ⟨_,e2⟩ | ⟨sid,mm,vs,e2,_,_,_,hg,_⟩
   ·rw [e2] at e;cases e
   ·rw [e2] at e
    have:sid=i:=by simpa [j5] using e
    rw [← this,hg] at e';cases e'
  have hsl:Sl g 1 xs.length lv (xs.map Rh.p):=J1 H.list.sl (by omega) fun i e=>by rw [gg i (Sl.idLt H.list.sl e),C7 w _ _ fun y hy=>hlist i e y (List.mem_of_mem_take hy)]
  obtain ⟨id,o,q1,q2,_⟩:=hsl.get1 (k:=.i64) (i:=(j:Int)) rfl (by omega) (show (xs.map Rh.p)[j]? = some (.ptr x.r 0) by rw [List.getElem?_map,hxj];rfl)
  have l2:load1 g x.r 1=.ok (.map x.m):=by rw [c9 gr];rfl
  have rm:U9 g (.map x.m)=okV (.ptr g.next 0) (g.push (.miter (some x.m) clock [] clock)):=by simp [U9,gm]
  have hrl:=hok.at_.lt
  have hml:=hok.mlt
  simp [e10,hi,q1,q2,l2,rm]
  change wqC P SK l0X _ _ _ _
  have hlnd:((x.zs.map vS).map (·.1)).Nodup:=by rw [List.map_map];exact hok.nd
  have hpq:∀ i,i<g.next→(g.push (.miter (some x.m) clock [] clock)).get i=g.get i:=fun i hi=>j0 (by omega)
  refine t0Q (g0:=g) (q:=g.next) (m:=x.m) (clock:=clock) (rid:=x.r) (lv:=x.lv) (fid:=fid) (caps:=caps) (w:=w x.m) (es:=es) (l:=x.zs.map vS) (by simp [e1]) (by simp) (by simp) gr (by omega) (by omega) (fun e=>hrow x hxm e.symm) m2 m3 m4 hlnd ?_ ?_ ?_
  ·intro t g' hg'n hg'o K' hK'
   refine hw x hxm t g' (by omega) (fun i hi1 hi2=>?_) K' hK'
   rw [hg'o i (by omega) (fun e=>hi2 x hxm e.symm),gg i hi1,C7 w _ _ fun y hy=>hi2 y (List.mem_of_mem_take hy)]
  ·refine ⟨fun e he=>(by cases he),by simp,rfl,by rw [b9];rfl,?_,fun i h1 _=>hpq i h1⟩
   rw [hpq _ (by omega),gm]
   congr 2
   exact (List.filter_eq_self.2 fun e _=>by simp).symm
  ·intro σ' g' hkept hn' hm' ho'
   simp [hkept 0 (by omega) (by omega),hkept 1 (by omega) (by omega),hkept 10 (by omega) (by omega),hkept 11 (by omega) (by omega),hkept 12 (by omega) (by omega),e0,e1,e10,e11,hi]
   refine ⟨by omega,fun i hi1=>?_⟩
   rw [e0s _ _ _ hxj,e04]
   have hgx:(y7 w (xs.take j) h).get x.m=some (.map es clock):=by rw [C7 w _ _ hne];exact m1
   simp only [y7,hgx]
   by_cases him:i=x.m
   ·subst him;rw [d9];exact hm'
   ·rw [a6 him,ho' i (by omega) him];exact gg i hi1
 ·rintro σ ds g ⟨rfl,e0,e1,e10,e11,gn,gg⟩
  have htk:xs.take n=xs:=List.take_of_length_le (by omega)
  rw [htk] at gg
  have hnm:∀ (i:Nat),(∀ es c,h.get i≠some (.map es c))→∀ y ∈ xs,y.m≠i:=fun i hi' y hy e=>by
   obtain ⟨es',c',e'⟩:=(H.rows y hy).map.got
   rw [e] at e';exact hi' _ _ e'
  have hlist:∀ i,j5 lv=some i→∀ y ∈ xs,y.m≠i:=fun i e=>hnm i fun es c e'=>by
   rcases H.list with ⟨_,e2⟩ | ⟨sid,mm,vs,e2,_,_,_,hg,_⟩
   ·rw [e2] at e;cases e
   ·rw [e2] at e
    have:sid=i:=by simpa [j5] using e
    rw [← this,hg] at e';cases e'
  have hdm:∀ y ∈ xs,y.m≠hd:=hnm hd fun es c e=>by rw [H.cell] at e;cases e
  have ghd:g.get hd=some (.cells [.bool true,lv] false):=by rw [gg _ H.hlt,C7 w _ _ hdm];exact H.cell
  have l1':load1 g hd 1=.ok lv:=by rw [c9 ghd];rfl
  simp [e0,l1']
  have hsame:∀ i,i<h.next→(∀ y ∈ xs,y.m≠i)→g.get i=h.get i:=fun i h1 h2=>by rw [gg i h1,C7 w _ _ h2]
  have hps:(xs.map (e0l w)).map Rh.p=xs.map Rh.p:=by rw [List.map_map];rfl
  have hlx:LisO B g hd lv (xs.map (e0l w)):=by
   rcases H.list with ⟨e,e2⟩ | ⟨sid,mm,vs,k1,k2,k3,k4,k5,k6,k7,k8⟩
   ·exact .inl ⟨by rw [e];rfl,e2⟩
   ·refine .inr ⟨sid,mm,vs,by rw [List.length_map];exact k1,by rw [List.length_map];exact k2,k3,by omega,by rw [hsame sid k4 (hlist sid (by rw [k1];rfl))];exact k5,by rw [List.length_map,hps];exact k6,k7,fun x hx=>?_⟩
    obtain ⟨y,hy,rfl⟩:=List.mem_map.1 hx
    exact k8 y hy
  have hrx:∀ x ∈ xs.map (e0l w),RowOk B t g x:=fun x hx=>by
   obtain ⟨y,hy,rfl⟩:=List.mem_map.1 hx
   have a:=H.rows y hy
   obtain ⟨es,clock,m1,m2,m3,m4⟩:=a.map
   have hnot:∀ i,(∃ vs ro,h.get i=some (.cells vs ro))→∀ z ∈ xs,z.m≠i:=fun i ⟨vs,ro,e⟩=>hnm i fun es c e'=>by rw [e] at e';cases e'
   have hsub:(y.zs.filter fun s=>!w y.m s.1).Sublist y.zs:=List.filter_sublist
   refine ⟨⟨?_,by show y.r<g.next;have:=a.at_.lt;omega,?_,a.at_.short⟩,a.rB,⟨_,clock,by show g.get y.m=_;rw [gg _ a.mlt];exact e0k w hy H.inj m1,l0c (w y.m) m2,fun e he=>m3 e (List.mem_filter.1 he).1,(List.filter_sublist.map _).nodup m4⟩,a.mB,by show y.m<g.next;have:=a.mlt;omega,(hsub.map _).nodup a.nd,fun z hz=>a.rg z (hsub.mem hz),Nat.le_trans hsub.length_le a.len,a.lB⟩
   ·show g.get y.r=_
    rw [hsame _ a.at_.lt (hnot _ ⟨_,_,a.at_.cell⟩)];exact a.at_.cell
   ·refine J1 a.at_.lab (by omega) fun id e=>hsame id (Sl.idLt a.at_.lab e) (hnot id ?_)
    have e:j5 y.lv=some id:=e
    rcases a.at_.lab.2 with ⟨e1,_⟩ | ⟨id',off,cap,z,vs,ro,e1,_,_,e3,_⟩
    ·rw [e1] at e;cases e
    ·rw [e1] at e;have:id'=id:=by simpa [j5] using e
     rw [← this];exact ⟨_,_,e3⟩
  refine (Ev.toN (l0W (S:=SK) rfl rfl rfl hlx hrx (by rw [List.length_map];omega))).mono ?_
  rintro r g2 ⟨d1,d2,d3,_,d5,d6⟩
  have hlvd:j5 lv≠some hd:=fun e=>by
   rcases H.list with ⟨_,e2⟩ | ⟨sid,mm,vs,e2,_,_,_,_,_,hne,_⟩
   ·rw [e2] at e;cases e
   ·rw [e2] at e;exact hne (by simpa [j5] using e)
  have g2hd:g2.get hd=some (.cells [.bool true,lv] false):=by rw [d2 hd hlvd];exact ghd
  have hrc:=d3.sl.oneCell
  have st:v7 g2 hd 1 [r]=.ok (g2.set hd (.cells [.bool true,r] false)):=by
   rw [B8 g2hd (by simp) (by simp [i5,hrc.2]) (by simp)];rfl
  simp [e0,hrc.1,st]
  refine hK _ (by show g2.next=_;omega) (fun i h1 h2 h3=>?_) (fun i vs e e2=>?_) (by rw [d9,d5])
  ·rw [a6 h2,d2 i h3];exact gg i h1
  ·have hih:i≠hd:=fun e'=>hlvd (by rw [e,e'])
   rw [a6 hih]
   refine d6 i vs e ?_
   rw [hsame i (Sl.idLt H.list.sl e) (hlist i e)];exact e2
end Go.Dk

namespace Go.Dk
open Go Go.Dr
set_option maxRecDepth 100000
theorem n0a:∀ {a b:List Lab},a.flatMap J0=b.flatMap J0→a=b
 | [],[],_=>rfl
 | [],_::_,h=>by cases h
 | _::_,[],h=>by cases h
 | (x,x')::a,(y,y')::b,h=>by
  simp only [List.flatMap_cons,J0,List.cons_append,List.nil_append,List.cons.injEq,AV.str.injEq] at h
  rw [h.1,h.2.1,n0a (a:=a) (b:=b) h.2.2]
theorem r0K:∀ {a b:List Smp},kvA kI (a.map vS)=kvA kI (b.map vS)→a=b
 | [],[],_=>rfl
 | [],_::_,h=>by cases h
 | _::_,[],h=>by cases h
 | (x,x')::a,(y,y')::b,h=>by
  simp only [kvA,kI,vS,List.map_cons,List.cons.injEq,Prod.mk.injEq,AV.int.injEq,true_and,Int.natCast_inj] at h
  have:a=b:=r0K (a:=a) (b:=b) (by simp only [kvA];exact h.2)
  rw [h.1.1,h.1.2,this]
theorem r0L {B t B' t':Nat} {h:AH} {x y:Rh} (a:RowOk B t h x) (b:RowOk B' t' h y) (e:x.r=y.r):x=y:=by
 have h1:=a.at_.cell
 rw [e,b.at_.cell] at h1
 simp only [Option.some.injEq,AObj.cells.injEq,List.cons.injEq,AV.map.injEq,and_true] at h1
 obtain ⟨h2,h3⟩:=h1
 have hl:=b.at_.lab
 rw [h2] at hl
 have hls:=n0a (k0Y a.at_.lab hl).2
 obtain ⟨es,c,m1,m2,_,_⟩:=a.map
 obtain ⟨es',c',m1',m2',_,_⟩:=b.map
 rw [h3,m1] at m1'
 simp only [Option.some.injEq,AObj.map.injEq] at m1'
 rw [← m1'.1,m2] at m2'
 have hz:=r0K m2'
 cases x;cases y
 simp only [Rh.mk.injEq] at *
 exact ⟨e,h2.symm,h3.symm,hls,hz⟩
theorem p02 {B t B' t' hd:Nat} {h:AH} {lv lv':AV} {xs ys:List Rh} (a:HeadOk B t h hd lv xs) (b:HeadOk B' t' h hd lv' ys):lv=lv'∧xs=ys:=by
 have h1:=a.cell
 rw [b.cell] at h1
 simp only [Option.some.injEq,AObj.cells.injEq,List.cons.injEq,and_true,true_and] at h1
 subst h1
 refine ⟨rfl,?_⟩
 have hp:=(k0Y a.list.sl b.list.sl).2
 have hl:xs.length=ys.length:=by have:=congrArg List.length hp;rwa [List.length_map,List.length_map] at this
 refine List.ext_getElem hl fun i h1 h2=>r0L (a.rows _ (List.getElem_mem h1)) (b.rows _ (List.getElem_mem h2)) ?_
 have:(xs.map Rh.p)[i]? = (ys.map Rh.p)[i]?:=by rw [hp]
 rw [List.getElem?_map,List.getElem?_map,List.getElem?_eq_getElem h1,List.getElem?_eq_getElem h2] at this
 simp only [Option.map_some,Option.some.injEq,Rh.p,AV.ptr.injEq,and_true] at this
 exact this
end Go.Dk

namespace Go.Dk
open Go Go.Dr
set_option maxRecDepth 100000
theorem e06 (w:Nat→Int→Bool):∀ (xs:List Rh) (H:AH),(y7 w xs H).next=H.next
 | [],_=>rfl
 | x::xs,H=>by
  rw [y7,e06 w xs]
  split <;> rfl
theorem e07 (w:Nat→Int→Bool) {n:Nat}:∀ (xs:List Rh) {H1 H2:AH},(∀ i,i<n→H1.get i=H2.get i)→(∀ x ∈ xs,x.m<n)→∀ i,i<n→(y7 w xs H1).get i=(y7 w xs H2).get i
 | [],_,_,h,_,i,hi=>h i hi
 | x::xs,H1,H2,h,hm,i,hi=>by
  rw [y7,y7]
  refine e07 w xs (fun k hk=>?_) (fun y hy=>hm y (List.mem_cons_of_mem _ hy)) i hi
  rw [h x.m (hm x List.mem_cons_self)]
  split
  ·by_cases e:k=x.m
   ·subst e;rw [d9,d9]
   ·rw [a6 e,a6 e];exact h k hk
  ·exact h k hk
structure Desc (W:Nat→Int→Bool) (h:AH) (hd:Nat) (lv:AV) (xs:List Rh) (g:AH):Prop where
 next:g.next=h.next+xs.length
 old:∀ i,i<h.next→i≠hd→j5 lv≠some i→g.get i=(y7 W xs h).get i
 row:∀ i vs,j5 lv=some i→h.get i=some (.cells vs false)→g.get i=some (.cells (i0E vs (xs.map (e0l W))) false)
 head:g.get hd=some (.cells [.bool true,g0b lv (xs.map (e0l W))] false)
theorem p00 {B t hd:Nat} {h:AH} {lv:AV} {xs:List Rh} (w:Nat→Int→Bool) (H:HeadOk B t h hd lv xs):∃ D:AH,Desc w h hd lv xs D∧∀ i,h.next≤i→i<h.next+xs.length→D.get i=none:=by
 obtain ⟨n,hn⟩:∃ n,n=xs.length:=⟨_,rfl⟩
 obtain ⟨D0,hD0⟩:∃ D0,D0=y7 w xs (i01 h (h.next+n)):=⟨_,rfl⟩
 have k1:D0.next=h.next+n:=by rw [hD0,e06,f0q]
 have k2:∀ i,i<h.next→D0.get i=(y7 w xs h).get i:=fun i hi=>by
  rw [hD0]
  exact e07 w xs (n:=h.next) (fun i hi=>by rw [g05 (by omega) (by omega),if_pos hi]) (fun x hx=>(H.rows x hx).mlt) i hi
 have k3:∀ i,h.next≤i→i<h.next+n→D0.get i=none:=fun i h1 h2=>by
  rw [hD0,C7 w _ _ fun x hx e=>by have:=(H.rows x hx).mlt;omega,g05 (by omega) h2,if_neg (by omega)]
 have hlt:=H.hlt
 rw [← hn]
 cases hid:j5 lv with
 | none =>
  refine ⟨D0.set hd (.cells [.bool true,g0b lv (xs.map (e0l w))] false),⟨by rw [← hn];exact k1,fun i h1 h2 _=>by rw [a6 h2];exact k2 i h1,fun i vs e=>(by rw [hid] at e;cases e),d9 _ _⟩,fun i h1 h2=>by rw [a6 (by omega)];exact k3 i h1 h2⟩
 | some sid =>
  obtain ⟨vs,hg,hs,hne,_⟩:=f0B H hid
  refine ⟨(D0.set sid (.cells (i0E vs (xs.map (e0l w))) false)).set hd (.cells [.bool true,g0b lv (xs.map (e0l w))] false),⟨by rw [← hn];exact k1,fun i h1 h2 h3=>?_,fun i us e eu=>?_,d9 _ _⟩,fun i h1 h2=>by rw [a6 (by omega),a6 (by omega)];exact k3 i h1 h2⟩
  ·rw [a6 h2,a6 (fun e=>h3 (by rw [e,hid]))];exact k2 i h1
  ·rw [hid] at e;cases e
   rw [hg] at eu;cases eu
   rw [a6 hne,d9]
def RuleOk (h:AH) (fid:FuncId) (caps:List AV) (xs:List Rh) (W:Nat→Int→Bool):Prop :=
 ∀ x ∈ xs,∀ (t:Int) (g':AH),h.next≤g'.next→(∀ i,i<h.next→(∀ y ∈ xs,y.m≠i)→g'.get i=h.get i)→Ev P SK (.fn fid) (.ptr x.r 0::.int .i64 t::caps) g' fun r g=>r=.bool (W x.m t)∧g=g'
theorem RuleOk.un {h:AH} {fid:FuncId} {caps:List AV} {xs:List Rh} {W W':Nat→Int→Bool} (a:RuleOk h fid caps xs W) (b:RuleOk h fid caps xs W'):∀ x ∈ xs,W x.m=W' x.m:=fun x hx=>by
 funext t
 obtain ⟨N,v,g,e,rfl,_⟩:=a x hx t h (Nat.le_refl _) (fun _ _ _=>rfl)
 obtain ⟨M,u,k,e',rfl,_⟩:=b x hx t h (Nat.le_refl _) (fun _ _ _=>rfl)
 have h1:=N6 (Nat.le_max_left N M) _ _ _ _ e
 have h2:=N6 (Nat.le_max_right N M) _ _ _ _ e'
 rw [h1] at h2
 simp only [Except.ok.injEq,Prod.mk.injEq,AV.bool.injEq] at h2
 exact h2.1
def m03 (args:List AV) (h:AH) (v:AV) (h':AH):Prop :=
 ∀ (hd:Nat) (fid:FuncId) (caps:List AV) (B t:Nat) (lv:AV) (xs:List Rh) (W:Nat→Int→Bool),args=[.ptr hd 0,.func (.func fid) [] caps]→HeadOk B t h hd lv xs→RuleOk h fid caps xs W→v=.tuple []∧Desc W h hd lv xs h'
noncomputable abbrev SF:a0o:=fun g=>if g=y6 then some (n02 P SK y6 m03) else SI g
theorem a05:o0M SI SF:=fun f=>by
 by_cases e:f=y6
 ·exact .inr ⟨fun _ _=>.error "drop",by subst e;rfl,fun _ _ _ h=>by cases h⟩
 ·refine .inl ?_
  unfold SF
  rw [if_neg e]
theorem k0B {W W':Nat→Int→Bool} {xs:List Rh} (h:∀ x ∈ xs,W x.m=W' x.m):xs.map (e0l W)=xs.map (e0l W') :=
 List.map_congr_left fun x hx=>by unfold e0l;rw [h x hx]
theorem o0L {K:AV→AH→Prop} {B t hd:Nat} {h:AH} {lv:AV} {xs:List Rh} {fid:FuncId} {caps:List AV} {W:Nat→Int→Bool} (H:HeadOk B t h hd lv xs) (hn:xs.length≤2 ^ 30) (R:RuleOk h fid caps xs W)
  (hK:∀ g:AH,Desc W h hd lv xs g→K (.tuple []) g):Ev P SF (.fn y6) [.ptr hd 0,.func (.func fid) [] caps] h K:=by
 obtain ⟨D,dD,dN⟩:=p00 W H
 refine o0G (S0:=SK) (Spec:=m03) (v:=.tuple []) (h':=D) (by unfold SF;rw [if_pos rfl]) ?_ ?_ ?_
 ·refine u0b (n:=xs.length) (w:=W) H rfl hn (fun x hx t g' h1 h2 K' hK'=>?_) ?_
  ·refine Ev.toN ((R x hx t g' h1 h2).mono ?_)
   rintro r g ⟨rfl,rfl⟩
   exact hK'
  ·intro g d1 d2 d3 d4
   have key:∀ i,i<h.next→D.get i=g.get i:=fun i hi=>by
    by_cases e1:i=hd
    ·rw [e1,dD.head,d4]
    ·by_cases e2:j5 lv=some i
     ·obtain ⟨vs,hg,_⟩:=f0B H e2
      rw [dD.row i vs e2 hg,d3 i vs e2 hg]
     ·rw [dD.old i hi e1 e2,d2 i hi e1 e2]
   refine ⟨rfl,⟨by rw [dD.next,d1],fun i o hi e=>?_⟩,key⟩
   rw [d1] at hi
   by_cases h1:i<h.next
   ·rw [← key i h1];exact e
   ·rw [dN i (by omega) hi] at e;cases e
 ·intro hd' fid' caps' B' t' lv' xs' W' e H' R'
  simp only [List.cons.injEq,AV.ptr.injEq,AV.func.injEq,Fn.func.injEq,true_and,and_true] at e
  obtain ⟨rfl,rfl,rfl⟩:=e
  obtain ⟨rfl,rfl⟩:=p02 H H'
  have hw:=R.un R'
  refine ⟨rfl,⟨dD.next,fun i h1 h2 h3=>by rw [← e0j (w:=W) xs h hw];exact dD.old i h1 h2 h3,fun i vs e1 e2=>by rw [← k0B hw];exact dD.row i vs e1 e2,by rw [← k0B hw];exact dD.head⟩⟩
 ·intro v g s
  obtain ⟨rfl,d⟩:=s hd fid caps B t lv xs W rfl H R
  exact hK g d
end Go.Dk

namespace Go.Dk
open Go Go.Dr
set_option maxRecDepth 100000
theorem m0q {h:AH} (m:Mc) (hm:l0O m):Ev P SI (.fn c0q) [.agg (maC m)] h (BK h):=by
 refine j9 j0K rfl rfl ?_
 obtain ⟨g1,hg1⟩:∃ g1,g1=h.push (.cells [.int .i64 m.kind,.str m.name,.str m.val] false):=⟨_,rfl⟩
 have f1:Fr h g1:=by rw [hg1];exact Fr.push (.refl h) _
 have c1:g1.get h.next=some (.cells [.int .i64 m.kind,.str m.name,.str m.val] false):=by rw [hg1];exact b9 _
 have ln:loadN g1 h.next 0 3=.ok (maC m):=E1 c1 rfl
 simp only [maC] at ln
 simp [e00,B7,maC,← hg1,ln,A5]
 refine (show Ev P SI (.fn c0e) [.agg [.int .i64 m.kind,.str m.name,.str m.val]] g1 (BK g1) from p0e m hm).mono ?_
 rintro r g2 ⟨⟨b,rfl⟩,f2⟩
 simp
 exact ⟨⟨_,rfl⟩,f1.trans f2⟩
def MsOk (h:AH) (mv:AV):Prop:=∃ (k:Nat) (ms:List Mc),Sl h 3 k mv (ms.flatMap maC)∧k<2 ^ 62∧∀ m ∈ ms,l0O m
theorem MsOk.fr {h g:AH} {mv:AV} (a:MsOk h mv) (f:Fr h g):MsOk g mv:=by
 obtain ⟨k,ms,s,h1,h2⟩:=a
 exact ⟨k,ms,s.fr f,h1,h2⟩
theorem k0j {h:AH} {mv:AV} (a:MsOk h mv):Ev P SI (.fn S6) [mv] h (BK h):=by
 obtain ⟨k,ms,s,hk,hm⟩:=a
 refine j9 h0B rfl rfl ?_
 have hln:=s.len
 by_cases h6:(k:Int)≤6
 ·simp [c0i,hln,h6]
  refine (h0u (caps:=[]) (fun x g hx f=>m0q x (hm x hx)) s hk).mono ?_
  rintro r g ⟨⟨b,rfl⟩,f⟩
  simp
  exact ⟨⟨_,rfl⟩,f⟩
 ·simp [c0i,hln,h6]
  exact ⟨⟨_,rfl⟩,.refl _⟩
end Go.Dk

namespace Go.Dk
open Go Go.Dr
set_option maxRecDepth 100000
theorem index_none {h:AH} {f:AV}:Ev P SI (.fn r8) [.nils,f] h fun r g=>r=.int .i64 (-1)∧g=h:=by
 refine j9 E2 rfl rfl ?_
 have l0:O1 .nils=.ok (.int .i64 0):=rfl
 simp [z7,l0]
 refine b02 (fun k σ ds g=>ds=[]∧g=h∧σ 7=.int .i64 0∧σ 8=.int .i64 0) 0 ⟨rfl,rfl,by simp,by simp⟩ ?_
 rintro k σ ds g ⟨rfl,rfl,e7,e8⟩
 simp [e7,e8]
theorem contains_none {h:AH} {f:AV}:Ev P SI (.fn m8) [.nils,f] h fun r g=>r=.bool false∧g=h:=by
 refine j9 C8 rfl rfl ?_
 simp [x3]
 refine index_none.mono ?_
 rintro r g ⟨rfl,rfl⟩
 simp
theorem can_none {h:AH}:Ev P SI (.fn S6) [.nils] h fun r g=>r=.bool true∧g=h:=by
 refine j9 h0B rfl rfl ?_
 have l0:O1 .nils=.ok (.int .i64 0):=rfl
 simp [c0i,l0]
 refine contains_none.mono ?_
 rintro r g ⟨rfl,rfl⟩
 simp
theorem l07 {h:AH} {v:AV} (hv:v.cells=[v]):Ev P SI (.fn K3) [.nils,v] h fun r g=>r=.bool true∧Fr h g:=by
 refine j9 h0q rfl rfl ?_
 simp [d0M,hv,B7]
 refine contains_none.mono ?_
 rintro r g ⟨rfl,rfl⟩
 simp
 exact Fr.push (.refl h) _
theorem q0L {B t:Nat} {h:AH} {x:Rh} (a:RowOk B t h x) (ht:t≤2 ^ 22) (K:AV→AH→Prop)
  (hK:∀ a b g,Own h.next g 2 x.ls.length a (x.ls.flatMap J0)→Own h.next g 2 x.zs.length b ((Z8 x.zs).flatMap smC)→Fr h g→K (.agg [a,b]) g) :
  Ev P SI (.fn p7) [.ptr x.r 0,.int .i64 (-9223372036854775808),.int .i64 9223372036854775807] h K:=by
 have hl:=a.len
 refine s0t (zs:=x.zs.map toI) a.at_.cell a.at_.lt a.at_.lab (g0q _) a.at_.short (by rw [q0R];exact a.map) a.mlt (by rw [List.length_map];omega) (fun z hz=>?_) (by rw [k0Z];exact a.nd) K fun u v g h1 h2 h3=>?_
 ·obtain ⟨s,hs,rfl⟩:=List.mem_map.1 hz
  exact a.rg s hs
 ·rw [m0i,List.length_map] at h2
  exact hK u v g h1 h2 h3
theorem q0M {B t b5 b6 b7:Nat} {r5 r6 r7:Bool} {h:AH} {x:Rh} (a:RowOk B t h x) (ht:t≤2 ^ 22) (h5:h.get b5=some (.cells [.nils] r5)) (h6:h.get b6=some (.cells [.int .i64 (-9223372036854775808)] r6)) (h7:h.get b7=some (.cells [.int .i64 9223372036854775807] r7))
  (n5:b5<h.next) (n6:b6<h.next) (n7:b7<h.next) (K:AV→AH→Prop)
  (hK:∀ a b g,Own h.next g 2 x.ls.length a (x.ls.flatMap J0)→Own h.next g 2 x.zs.length b ((Z8 x.zs).flatMap smC)→Fr h g→K (.agg [a,b]) g) :
  Ev P SI (.fn y9) [.ptr x.r 0,.ptr b5 0,.ptr b6 0,.ptr b7 0] h K:=by
 refine j9 a0J rfl rfl ?_
 obtain ⟨g1,hg1⟩:∃ g1,g1=h.push (.cells [.nils,.nils] false):=⟨_,rfl⟩
 have f1:Fr h g1:=by rw [hg1];exact Fr.push (.refl h) _
 have c1:load1 g1 b5 0=.ok .nils:=by rw [c9 (by rw [f1.get _ n5];exact h5)];rfl
 have c2:load1 g1 x.r 0=.ok x.lv:=by rw [c9 (by rw [f1.get _ a.at_.lt];exact a.at_.cell)];rfl
 have hsame:=a.at_.lab.same
 have hcl:=a.at_.lab.oneCell
 simp [S2,B7,← hg1,c1,c2,hsame]
 refine (l07 hcl.1).mono ?_
 rintro r g2 ⟨rfl,f2⟩
 have f12:=f1.trans f2
 have n1:g1.next=h.next+1:=by rw [hg1];rfl
 have f2n:=f2.next
 have c3:load1 g2 b6 0=.ok (.int .i64 (-9223372036854775808)):=by rw [c9 (by rw [f12.get _ n6];exact h6)];rfl
 have c4:load1 g2 b7 0=.ok (.int .i64 9223372036854775807):=by rw [c9 (by rw [f12.get _ n7];exact h7)];rfl
 simp [c3,c4]
 refine q0L (a.fr f12) ht _ ?_
 intro u v g3 ou ov f3
 have hc3:g3.get h.next=some (.cells [.nils,.nils] false):=by rw [f3.get _ (by omega),f2.get _ (by omega),hg1];exact b9 _
 have hu:=ou.sl.oneCell
 have hv:=ov.sl.oneCell
 have st:v7 g3 h.next 0 [u,v]=.ok (g3.set h.next (.cells [u,v] false)):=by
  rw [B8 hc3 (by simp) (by simp [i5,hu.2,hv.2]) (by simp)];rfl
 have ln:loadN (g3.set h.next (.cells [u,v] false)) h.next 0 2=.ok [u,v]:=E1 (d9 _ _) rfl
 have f3n:=f3.next
 have keep:∀ {n:Nat} {w:AV} {l:List AV},Own g2.next g3 2 n w l→Own h.next (g3.set h.next (.cells [u,v] false)) 2 n w l:=by
  intro n w l o
  refine ⟨o.1,?_⟩
  rcases o.2 with e | ⟨id,off,y,vs,e1,e2,e3,e4,e5⟩
  ·exact .inl e
  ·exact .inr ⟨id,off,y,vs,e1,by omega,e3,by rw [a6 (by omega)];exact e4,e5⟩
 simp [Y5,st,b0E,ln]
 exact hK u v _ (keep ou) (keep ov) ⟨by show h.next≤g3.next;omega,fun i hi=>by rw [a6 (by omega),f3.get i (by omega),f12.get i hi]⟩
end Go.Dk

namespace Go.Dk
open Go Go.Dr
set_option maxRecDepth 100000
def w0J (h:AH) (xs:List Rh) (r:AV) (g:AH):Prop:=Fr h g∧∃ ys:List Sj,Own h.next g 2 ys.length r (ys.flatMap sjC)∧ys.map plJ=xs.map f0P∧∀ y ∈ ys,SjOk g y
theorem w0K {B t b5 b6 b7:Nat} {r5 r6 r7:Bool} {h:AH} {lv:AV} {xs:List Rh} (hl:Sl h 1 xs.length lv (xs.map Rh.p)) (hx:∀ x ∈ xs,RowOk B t h x) (hne:∀ x ∈ xs,x.zs≠[]) (ht:t≤2 ^ 22) (hn:xs.length≤2 ^ 22)
  (h5:h.get b5=some (.cells [.nils] r5)) (h6:h.get b6=some (.cells [.int .i64 (-9223372036854775808)] r6)) (h7:h.get b7=some (.cells [.int .i64 9223372036854775807] r7)) (n5:b5<h.next) (n6:b6<h.next) (n7:b7<h.next) :
  Ev P SI (.fn J4) [lv,.func (.func y9) [] [.ptr b5 0,.ptr b6 0,.ptr b7 0]] h (w0J h xs):=by
 refine j9 Z1 rfl rfl ?_
 simp [P2,hl.len]
 refine J9 (n:=xs.length) (by rfl) (fun j σ ds g=>ds=[]∧σ 1=.func (.func y9) [] [.ptr b5 0,.ptr b6 0,.ptr b7 0]∧σ 9=lv∧σ 10=.int .i64 (xs.length:Int)∧Fr h g ∧
   ∃ ys:List Sj,Own h.next g 2 ys.length (σ 5) (ys.flatMap sjC)∧ys.length=j∧ys.map plJ=(xs.take j).map f0P∧∀ y ∈ ys,SjOk g y∧(∀ i,j5 y.1.1=some i→j5 (σ 5)≠some i)∧(∀ i,j5 y.2.1=some i→j5 (σ 5)≠some i)) (by omega) (by simp)
  ⟨rfl,by simp,by simp,by simp,.refl _,[],by simpa using Own.nil _ _,rfl,by simp,fun y hy=>by simp at hy⟩ (fun j σ ds g hJ=>by simp [hJ.2.2.2.1]) ?_ ?_
 ·rintro j σ ds g hj hi ⟨rfl,e1,e9,e10,f,ys,ho,hyl,hyc,hys⟩
  obtain ⟨x,hxj⟩:=C6 (l:=xs) (j:=j) hj
  have hxm:=List.mem_of_getElem? hxj
  have hok:=(hx x hxm).fr f
  obtain ⟨id,o,q1,q2,_⟩:=(hl.fr f).get1 (k:=.i64) (i:=(j:Int)) rfl hj (show (xs.map Rh.p)[j]? = some (.ptr x.r 0) by rw [List.getElem?_map,hxj];rfl)
  obtain ⟨ov,hov⟩:∃ ov,σ 5=ov:=⟨_,rfl⟩
  rw [hov] at ho hys
  simp [e1,e9,e10,hi,q1,q2]
  refine q0M hok ht (by rw [f.get _ n5];exact h5) (by rw [f.get _ n6];exact h6) (by rw [f.get _ n7];exact h7) (Nat.lt_of_lt_of_le n5 f.next) (Nat.lt_of_lt_of_le n6 f.next) (Nat.lt_of_lt_of_le n7 f.next) _ ?_
  intro a b g1 oa ob f1
  have ha:=oa.sl.oneCell
  have hb:=ob.sl.oneCell
  have stn:=K1 (h:=g1) (n:=2) (z:=[.nils,.nils]) (l:=[a,b]) rfl rfl (by simp [i5,ha.2,hb.2])
  obtain ⟨g2,hg2⟩:∃ g2,g2=g1.push (.cells [a,b] false):=⟨_,rfl⟩
  have f2:Fr g1 g2:=by rw [hg2];exact Fr.push (.refl g1) _
  have c2:g2.get g1.next=some (.cells [a,b] false):=by rw [hg2];exact b9 _
  have n2:g2.next=g1.next+1:=by rw [hg2];rfl
  rw [← hg2] at stn
  have l1:load1 g2 g1.next 1=.ok b:=by rw [c9 c2];rfl
  have ln:loadN g2 g1.next 0 2=.ok [a,b]:=E1 c2 rfl
  have hzl:(Z8 x.zs).length=x.zs.length:=i0L _
  have hpos:0<x.zs.length:=List.length_pos_iff.2 (hne x hxm)
  have hposI:(0:Int)<(x.zs.length:Int):=by omega
  have ho2:=(ho.fr f1).fr f2
  have hys':∀ y ∈ ys,SjOk g2 y:=fun y hy=>((hys y hy).1.fr f1).fr f2
  have hfn:=f.next
  have f1n:=f1.next
  obtain ⟨ov',g3,ap,ho3,fb,keep,newid⟩:=ho2.snoc2 (bytes:=48) (x:=[a,b]) (by omega) rfl (by simp [i5,ha.2,hb.2]) (by omega) (by omega)
  have hovid:∀ i,j5 ov=some i→i<g.next:=fun i e=>Sl.idLt ho.sl e
  have hage:∀ i,j5 a=some i→g.next≤i:=fun i e=>by
   by_cases hlt:i<g.next
   ·exact absurd e (oa.ne hlt)
   ·omega
  have hbge:∀ i,j5 b=some i→g.next≤i:=fun i e=>by
   by_cases hlt:i<g.next
   ·exact absurd e (ob.ne hlt)
   ·omega
  have halt:∀ i,j5 a=some i→i<g1.next:=fun i e=>Sl.idLt oa.sl e
  have hblt:∀ i,j5 b=some i→i<g1.next:=fun i e=>Sl.idLt ob.sl e
  have hn3:g2.next≤g3.next:=fb.next
  simp [B7,hg2.symm,stn,l1,ob.sl.len,hposI,hpos,ln,A5,hov,t7,ap,e1,e9,e10,hi]
  refine ⟨⟨by omega,fun i hi=>by rw [fb.get i hi,f2.get i (by omega),f1.get i (by omega),f.get i hi]⟩,ys++[((a,x.ls),(b,Z8 x.zs))],?_,by simp [hyl],?_,?_⟩
  ·rw [List.length_append,List.flatMap_append]
   simpa [sjC] using ho3
  ·have hcx:(xs.map f0P)[j]? = some (f0P x):=by rw [List.getElem?_map,hxj];rfl
   rw [List.map_append,hyc,List.map_take,List.take_add_one,hcx];rfl
  ·have sok:∀ {n:Nat} {w:AV} {l:List AV},Sl g2 2 n w l→(∀ i,j5 w=some i→j5 ov≠some i)→Sl g3 2 n w l:=fun sw hw=>J1 sw hn3 fun i e=>keep i (Sl.idLt sw e) (hw i e)
   intro u lu w lw hm
   rcases List.mem_append.1 hm with hm | hm
   ·obtain ⟨k1,k2,k3⟩:=hys _ hm
    have k1':=(k1.fr f1).fr f2
    refine ⟨⟨sok k1'.lab k2,sok k1'.smp k3⟩,fun i e e'=>?_,fun i e e'=>?_⟩
    ·rcases newid i e' with h | h
     ·exact k2 i e h
     ·have:=Sl.idLt k1'.lab e;omega
    ·rcases newid i e' with h | h
     ·exact k3 i e h
     ·have:=Sl.idLt k1'.smp e;omega
   ·simp at hm
    obtain ⟨⟨rfl,rfl⟩,rfl,rfl⟩:=hm
    have sa:Sl g2 2 x.ls.length u (x.ls.flatMap J0):=oa.sl.fr f2
    have sb:Sl g2 2 x.zs.length w ((Z8 x.zs).flatMap smC):=ob.sl.fr f2
    refine ⟨⟨sok sa fun i e e'=>by have:=hage i e;have:=hovid i e';omega,by show Sl g3 2 (Z8 x.zs).length w _;rw [hzl];exact sok sb fun i e e'=>by have:=hbge i e;have:=hovid i e';omega⟩,fun i e e'=>?_,fun i e e'=>?_⟩
    ·rcases newid i e' with h | h
     ·have:=hage i e;have:=hovid i h;omega
     ·have:=halt i e;omega
    ·rcases newid i e' with h | h
     ·have:=hbge i e;have:=hovid i h;omega
     ·have:=hblt i e;omega
 ·rintro σ ds g ⟨rfl,e1,e9,e10,f,ys,ho,hyl,hyc,hys⟩
  simp
  exact ⟨f,ys,ho,by rw [hyc,List.take_length],fun y hy=>(hys y hy).1⟩
theorem g0J {h:AH} {hd:Nat} {lv:AV} {ro:Bool} (hc:h.get hd=some (.cells [.bool true,lv] ro)) (K:AV→AH→Prop):Ev P SI (.fn F6) [.ptr hd 0] h K=K (.bool false) h:=by
 refine Ev.eq (j9 g00 rfl rfl ?_) K
 have l1:load1 h hd 0=.ok (.bool true):=by rw [c9 hc];rfl
 simp [c0J,l1]
end Go.Dk

namespace Go.Dk
open Go Go.Dr
set_option maxRecDepth 100000
theorem s0E {B t hd:Nat} {h g:AH} {lv:AV} {xs:List Rh} {w:Nat→Int→Bool} (H:HeadOk B t h hd lv xs) (d:Desc w h hd lv xs g) :
  HeadOk B t g hd (g0b lv (xs.map (e0l w))) ((xs.map (e0l w)).filter U4):=by
 obtain ⟨n,hn0⟩:∃ n,n=xs.length:=⟨_,rfl⟩
 have hn:xs.length≤n:=Nat.le_of_eq hn0.symm
 have g1:g.next=h.next+n:=by rw [hn0];exact d.next
 have g2:=d.old
 have g3:=d.row
 have g4:=d.head
 obtain ⟨X,hX⟩:∃ X,X=xs.map (e0l w):=⟨_,rfl⟩
 have hps:X.map Rh.p=xs.map Rh.p:=by rw [hX,List.map_map];rfl
 have hms:X.map Rh.m=xs.map Rh.m:=by rw [hX,List.map_map];rfl
 have hlen:X.length=xs.length:=by rw [hX,List.length_map]
 have hsub:(X.filter U4).Sublist X:=List.filter_sublist
 have hmemX:∀ x ∈ X.filter U4,∃ y ∈ xs,x=e0l w y:=fun x hx=>by
  have:=hsub.mem hx
  rw [hX] at this
  obtain ⟨y,hy,e⟩:=List.mem_map.1 this
  exact ⟨y,hy,e.symm⟩
 have hkl:(X.filter U4).length≤X.length:=hsub.length_le
 have same:∀ i,i<h.next→i≠hd→j5 lv≠some i→(∀ y ∈ xs,y.m≠i)→g.get i=h.get i:=fun i h1 h2 h3 h4=>by rw [g2 i h1 h2 h3,C7 w _ _ h4]
 have far2:∀ y ∈ xs,j5 lv≠some y.r∧∀ i,j5 y.lv=some i→j5 lv≠some i:=fun y hy=>by
  rcases H.list with ⟨e,_⟩ | ⟨sid,mm,vs,e,_,_,_,_,_,_,hall⟩
  ·rw [e] at hy;cases hy
  ·obtain ⟨a1,a2⟩:=hall y hy
   rw [e]
   exact ⟨fun e'=>a1 (by simpa [j5] using e'.symm),fun i e1 e2=>a2 (by rw [e1];exact e2.symm)⟩
 have hrows:∀ x ∈ X.filter U4,RowOk B t g x:=fun x hx=>by
  obtain ⟨y,hy,rfl⟩:=hmemX x hx
  have a:=H.rows y hy
  obtain ⟨es,clock,m1,m2,m3,m4⟩:=a.map
  have hz:(y.zs.filter fun s=>!w y.m s.1).Sublist y.zs:=List.filter_sublist
  have hmd:y.m≠hd:=g0t H ⟨_,_,H.cell⟩ y hy
  have hml:j5 lv≠some y.m:=fun e=>by
   obtain ⟨vs,hg,_⟩:=f0B H e
   rw [m1] at hg;cases hg
  refine ⟨⟨?_,by show y.r<g.next;have:=a.at_.lt;omega,?_,a.at_.short⟩,a.rB,⟨_,clock,by show g.get y.m=_;rw [g2 _ a.mlt hmd hml];exact e0k w hy H.inj m1,l0c (w y.m) m2,fun e he=>m3 e (List.mem_filter.1 he).1,(List.filter_sublist.map _).nodup m4⟩,a.mB,by show y.m<g.next;have:=a.mlt;omega,(hz.map _).nodup a.nd,fun z hz'=>a.rg z (hz.mem hz'),Nat.le_trans hz.length_le a.len,a.lB⟩
  ·show g.get y.r=_
   rw [same _ a.at_.lt (H.far y hy).1 (far2 y hy).1 (g0t H ⟨_,_,a.at_.cell⟩)];exact a.at_.cell
  ·refine J1 a.at_.lab (by omega) fun id e=>?_
   have e:j5 y.lv=some id:=e
   refine same id (Sl.idLt a.at_.lab e) (fun e'=>(H.far y hy).2 (by rw [e,e'])) ((far2 y hy).2 id e) (g0t H ?_)
   rcases a.at_.lab.2 with ⟨e1,_⟩ | ⟨id',off,cap,z,vs,ro,e1,_,_,e3,_⟩
   ·rw [e1] at e;cases e
   ·rw [e1] at e;have:id'=id:=by simpa [j5] using e
    rw [← this];exact ⟨_,_,e3⟩
 rw [← hX] at g3 g4 ⊢
 refine ⟨by have:=H.hlt;omega,g4,?_,hrows,fun x hx=>?_,(hsub.map _).nodup (by rw [hms];exact H.inj),?_,by have:=H.cnt;omega⟩
 ·rcases H.list with ⟨e,e2⟩ | ⟨sid,mm,vs,k1,k2,k3,k4,k5,⟨k6,k7⟩,k8,k9⟩
  ·have:X=[]:=by rw [hX,e];rfl
   left
   rw [this]
   exact ⟨rfl,by unfold g0b;rw [e2];rfl⟩
  ·right
   have hg:=g3 sid vs (by rw [k1];rfl) k5
   have far:∀ x ∈ X.filter U4,x.r≠sid∧j5 x.lv≠some sid:=fun x hx=>by
    obtain ⟨y,hy,rfl⟩:=hmemX x hx
    exact k9 y hy
   by_cases hal:X.all U4=true
   ·have hf:X.filter U4=X:=List.filter_eq_self.2 (List.all_eq_true.1 hal)
    refine ⟨sid,mm,vs,by unfold g0b;rw [if_pos hal,hf,hlen];exact k1,by omega,k3,by omega,by rw [hg,i0E,if_pos hal],⟨by omega,by rw [hf,hlen,hps];exact k7⟩,k8,far⟩
   ·refine ⟨sid,mm,i0E vs X,by unfold g0b;rw [if_neg hal,k1],by omega,k3,by omega,hg,⟨?_,?_⟩,k8,far⟩
    ·rw [i0E,if_neg hal,List.length_append,List.length_map];omega
    ·rw [i0E,if_neg hal,List.take_left' (by rw [List.length_map])]
 ·obtain ⟨y,hy,rfl⟩:=hmemX x hx
  exact H.far y hy
 ·refine List.Pairwise.sublist hsub ?_
  rw [hX,List.pairwise_map]
  exact H.asc
theorem b01 {B t hd:Nat} {h g':AH} {lv:AV} {xs:List Rh} (H:HeadOk B t h hd lv xs) (h2:∀ i,i<h.next→(∀ y ∈ xs,y.m≠i)→g'.get i=h.get i) {i:Nat} {vs:List AV} {ro:Bool} (hi:i<h.next) (hc:h.get i=some (.cells vs ro)):g'.get i=some (.cells vs ro):=by
 rw [h2 i hi (g0t H ⟨_,_,hc⟩)];exact hc
theorem m0E {B t hd:Nat} {h g':AH} {lv:AV} {xs:List Rh} (H:HeadOk B t h hd lv xs) (h1:h.next≤g'.next) (h2:∀ i,i<h.next→(∀ y ∈ xs,y.m≠i)→g'.get i=h.get i) {es n:Nat} {v:AV} {l:List AV} (s:Sl h es n v l):Sl g' es n v l:=by
 refine J1 s h1 fun i e=>h2 i (Sl.idLt s e) (g0t H ?_)
 rcases s.2 with ⟨e1,_⟩ | ⟨id',off,cap,z,vs,ro,e1,_,_,e3,_⟩
 ·rw [e1] at e;cases e
 ·rw [e1] at e;have:id'=i:=by simpa [j5] using e
  rw [← this];exact ⟨_,_,e3⟩
def NF (hd:Nat) (h g:AH) (lv:AV) (xs:List Rh) (lv':AV) (xs':List Rh):Prop:=h.next≤g.next∧∀ i,i<h.next→O5 hd lv xs i→g.get i=h.get i∧O5 hd lv' xs' i
theorem NF.trans {hd:Nat} {h g k:AH} {a b c:AV} {xs ys zs:List Rh} (x:NF hd h g a xs b ys) (y:NF hd g k b ys c zs):NF hd h k a xs c zs :=
 ⟨Nat.le_trans x.1 y.1,fun i h1 h2=>by
  obtain ⟨e1,n1⟩:=x.2 i h1 h2
  obtain ⟨e2,n2⟩:=y.2 i (Nat.lt_of_lt_of_le h1 x.1) n1
  exact ⟨e2.trans e1,n2⟩⟩
theorem NF.of {hd:Nat} {h g:AH} {lv:AV} {xs:List Rh} (f:Fr h g):NF hd h g lv xs lv xs:=⟨f.next,fun i h1 h2=>⟨f.get i h1,h2⟩⟩
theorem p0J (lv:AV) (xs:List Rh):j5 (g0b lv xs)=j5 lv:=by
 unfold g0b
 split
 ·rfl
 ·cases lv <;> rfl
def r0f (B t:Nat) (h:AH) (hd:Nat) (lv:AV) (xs:List Rh) (ok:Int→Prop) (g:AH):Prop :=
 ∃ lv' xs',NF hd h g lv xs lv' xs'∧HeadOk B t g hd lv' xs'∧∀ x' ∈ xs',∃ x ∈ xs,∀ s ∈ x'.zs,s ∈ x.zs∧ok s.1
theorem m0F {B t hd:Nat} {h h1 g:AH} {lv:AV} {xs:List Rh} {w:Nat→Int→Bool} {ok:Int→Prop} (H:HeadOk B t h1 hd lv xs) (f:Fr h h1) (d:Desc w h1 hd lv xs g) (hok:∀ x ∈ xs,∀ s ∈ x.zs,w x.m s.1=false→ok s.1):r0f B t h hd lv xs ok g:=by
 have hn:=d.next
 have hfn:=f.next
 refine ⟨_,_,⟨by omega,fun i hi ⟨n1,n2,n3⟩=>⟨?_,n1,by rw [p0J];exact n2,fun x' hx'=>?_⟩⟩,s0E H d,fun x' hx'=>?_⟩
 ·rw [d.old i (by omega) n1 n2,C7 w _ _ n3,f.get i hi]
 ·obtain ⟨x,hx,rfl⟩:=List.mem_map.1 (List.mem_filter.1 hx').1
  exact n3 x hx
 ·have:=(List.mem_filter.1 hx').1
  obtain ⟨x,hx,rfl⟩:=List.mem_map.1 this
  refine ⟨x,hx,fun s hs=>?_⟩
  have hs:=List.mem_filter.1 (show s ∈ x.zs.filter fun s=>!w x.m s.1 from hs)
  exact ⟨hs.1,hok x hx s hs.1 (by simpa using hs.2)⟩
theorem j0d {h:AH} {hd:Nat} {lv:AV} {ro:Bool} (hc:h.get hd=some (.cells [.bool true,lv] ro)) (K:AV→AH→Prop):Ev P SF (.fn F6) [.ptr hd 0] h K=K (.bool false) h :=
 Ev.eq (Ev.up a05 (by rw [g0J hc];exact ⟨rfl,rfl⟩)) K
theorem n0Z {B t hd:Nat} {h:AH} {lv:AV} {xs:List Rh} {floor:Int} (H:HeadOk B t h hd lv xs) (hB:B≤h.next) (ht:t≤2 ^ 22) :
  Ev P SF (.fn R6) [.ptr hd 0,.int .i64 floor] h fun r g=>r=.int .i64 0∧r0f B t h hd lv xs (fun z=>floor≤z) g:=by
 refine j9 g0p rfl rfl ?_
 obtain ⟨g1,hg1⟩:∃ g1,g1=h.push (.cells [.int .i64 floor] false):=⟨_,rfl⟩
 have f1:Fr h g1:=by rw [hg1];exact Fr.push (.refl h) _
 have H1:=H.fr f1
 have n1:g1.next=h.next+1:=by rw [hg1];rfl
 have c1:g1.get h.next=some (.cells [.int .i64 floor] false):=by rw [hg1];exact b9 _
 have hcnt:=H.cnt
 simp [c0n,B7,← hg1]
 simp [j0d H1.cell]
 refine o0L (W:=fun _ t=>decide (t<floor)) H1 (by omega) (fun x hx t g' h1 h2=>s0Y (b01 (i:=h.next) H1 h2 (by omega) c1)) fun g d=>?_
 simp
 exact m0F H1 f1 d fun x _ s _ hw=>by simpa using hw
theorem m0G:∀ {xs:List Rh},(xs.map Rh.m).Nodup→∀ x ∈ xs,∀ y ∈ xs,x.m=y.m→x=y
 | [],_,x,hx,_,_,_=>by cases hx
 | a::l,h,x,hx,y,hy,hxy=>by
  simp only [List.map_cons,List.nodup_cons] at h
  rcases List.mem_cons.1 hx with hx1 | hx1
  ·rcases List.mem_cons.1 hy with hy1 | hy1
   ·rw [hx1,hy1]
   ·exact absurd (List.mem_map.2 ⟨y,hy1,by rw [← hxy,hx1]⟩) h.1
  ·rcases List.mem_cons.1 hy with hy1 | hy1
   ·exact absurd (List.mem_map.2 ⟨x,hx1,by rw [hxy,hy1]⟩) h.1
   ·exact m0G h.2 x hx1 y hy1 hxy
noncomputable def t06 (mv:AV) (L:List AV) (lo hi:Int) (xs:List Rh) (m:Nat) (t:Int):Bool:=match xs.find? fun x=>x.m == m with
 | some x=>decide (lo≤t)&&decide (t≤hi)&&BB mv x.lv L (x.ls.flatMap J0)
 | none=>false
theorem s0F {mv:AV} {L:List AV} {lo hi:Int} {xs:List Rh} (hn:(xs.map Rh.m).Nodup) {x:Rh} (hx:x ∈ xs) (t:Int):t06 mv L lo hi xs x.m t=(decide (lo≤t)&&decide (t≤hi)&&BB mv x.lv L (x.ls.flatMap J0)):=by
 unfold t06
 cases e:xs.find? fun y=>y.m == x.m with
 | none =>
  have:=List.find?_eq_none.1 e x hx
  simp at this
 | some y =>
  have h1:=List.find?_some e
  have h2:=List.mem_of_find?_eq_some e
  have:y=x:=m0G hn y h2 x hx (by simpa using h1)
  rw [this]
theorem m0H {B t hd:Nat} {h:AH} {lv mv:AV} {xs:List Rh} {lo hi:Int} (H:HeadOk B t h hd lv xs) (hB:B≤h.next) (ht:t≤2 ^ 22) (hms:∃ (k:Nat) (ms:List Mc),Sl h 3 k mv (ms.flatMap maC)∧k<2 ^ 62∧∀ m ∈ ms,l0O m) :
  Ev P SF (.fn Q0) [.ptr hd 0,mv,.int .i64 lo,.int .i64 hi] h fun r g=>(∃ e:Int,r=.int .i64 e)∧r0f B t h hd lv xs (fun _=>True) g:=by
 refine j9 f0y rfl rfl ?_
 obtain ⟨k,ms,sm,hk,hm⟩:=id hms
 have hmc:=sm.oneCell
 obtain ⟨g1,hg1⟩:∃ g1,g1=h.push (.cells [mv] false):=⟨_,rfl⟩
 obtain ⟨g2,hg2⟩:∃ g2,g2=g1.push (.cells [.int .i64 lo] false):=⟨_,rfl⟩
 obtain ⟨g3,hg3⟩:∃ g3,g3=g2.push (.cells [.int .i64 hi] false):=⟨_,rfl⟩
 have n1:g1.next=h.next+1:=by rw [hg1];rfl
 have n2:g2.next=g1.next+1:=by rw [hg2];rfl
 have n3:g3.next=g2.next+1:=by rw [hg3];rfl
 have f1:Fr h g1:=by rw [hg1];exact Fr.push (.refl h) _
 have f2:Fr g1 g2:=by rw [hg2];exact Fr.push (.refl g1) _
 have f3:Fr g2 g3:=by rw [hg3];exact Fr.push (.refl g2) _
 have f03:=(f1.trans f2).trans f3
 have c1:g3.get h.next=some (.cells [mv] false):=by rw [f3.get _ (by omega),f2.get _ (by omega),hg1];exact b9 _
 have c2:g3.get g1.next=some (.cells [.int .i64 lo] false):=by rw [f3.get _ (by omega),hg2];exact b9 _
 have c3:g3.get g2.next=some (.cells [.int .i64 hi] false):=by rw [hg3];exact b9 _
 have lm:load1 g3 h.next 0=.ok mv:=by rw [c9 c1];rfl
 have H3:=H.fr f03
 have hcnt:=H.cnt
 simp [b0Z,B7,hmc.1,← hg1,← hg2,← hg3]
 simp [j0d H3.cell,lm]
 refine (Ev.up a05 (k0j (MsOk.fr ⟨k,ms,sm,hk,hm⟩ f03))).mono ?_
 rintro r g4 ⟨⟨b,rfl⟩,f4⟩
 have f04:=f03.trans f4
 cases b with
 | false =>
  simp
  exact ⟨lv,xs,.of f04,H.fr f04,fun x hx=>⟨x,hx,fun s hs=>⟨hs,trivial⟩⟩⟩
 | true =>
  simp
  have H4:=H.fr f04
  have hn4:=f4.next
  refine o0L (W:=t06 mv (ms.flatMap maC) lo hi xs) H4 (by omega) (fun x hx t g' h1 h2=>?_) fun g d=>?_
  ·have hr:=H4.rows x hx
   have k1:=b01 (i:=h.next) H4 h2 (by omega) (by rw [f4.get _ (by omega)];exact c1)
   have k2:=b01 (i:=g1.next) H4 h2 (by omega) (by rw [f4.get _ (by omega)];exact c2)
   have k3:=b01 (i:=g2.next) H4 h2 (by omega) (by rw [f4.get _ (by omega)];exact c3)
   have kr:=b01 H4 h2 hr.at_.lt hr.at_.cell
   rw [s0F H4.inj hx]
   exact r0P kr k2 k3 k1 ⟨k,ms,m0E H4 h1 h2 (sm.fr f04),rfl,hk⟩ ⟨_,x.ls,m0E H4 h1 h2 hr.at_.lab,rfl,by have:=hr.at_.short;omega⟩
  ·simp
   exact m0F H4 f04 d fun _ _ _ _ _=>trivial
end Go.Dk

namespace Go.Dk
open Go Go.Dr
set_option maxRecDepth 100000
end Go.Dk

namespace Go.Dk
open Go Go.Dr
set_option maxRecDepth 100000
theorem q0G {h:AH} (K:AV→AH→Prop):Ev P SI (.fn f0j) [] h K=K (.ptr h.next 0) (h.push (.cells [.bool true,.nils] false)):=by
 refine Ev.eq (j9 n0L rfl rfl ?_) K
 simp [i0S,B7,t7]
theorem n0y (h:AH):HeadOk h.next 0 (h.push (.cells [.bool true,.nils] false)) h.next .nils [] :=
 ⟨Nat.lt_succ_self _,b9 _,.inl ⟨rfl,rfl⟩,fun x hx=>(by cases hx),fun x hx=>(by cases hx),List.nodup_nil,List.Pairwise.nil,Nat.le_refl _⟩
structure MgIn (h:AH) (x:Sj):Prop where
 ok:SjOk h x
 lab:x.1.2.length≤2 ^ 20
 rg:∀ s ∈ x.2.2,-9223372036854775808≤s.1∧s.1≤9223372036854775807
end Go.Dk

namespace Go.Dk
open Go Go.Dr
set_option maxRecDepth 100000
end Go.Dk

namespace Go.Dk
open Go Go.Dr
set_option maxRecDepth 100000
end Go.Dk

namespace Go.Dk
open Go Go.Dr
set_option maxRecDepth 100000
abbrev Rr:=AV×(List Lab×Smp)
def rrC (x:Rr):List AV:=[x.1,.int .i64 x.2.2.1,.int .u64 (x.2.2.2:Int)]
structure RrIn (h:AH) (x:Rr):Prop where
 lab:Sl h 2 x.2.1.length x.1 (x.2.1.flatMap J0)
 short:l0A x.2.1
 rg:-9223372036854775808≤x.2.2.1∧x.2.2.1≤9223372036854775807
 len:x.2.1.length<2 ^ 62
theorem RrIn.fr {h g:AH} {x:Rr} (a:RrIn h x) (f:Fr h g):RrIn g x:=⟨a.lab.fr f,a.short,a.rg,a.len⟩
theorem g0U (xs:List Rr):(xs.flatMap rrC).length=xs.length*3:=K0 xs (fun _ _=>rfl)
theorem l0U {h:AH} {n:Nat} {v:AV} {xs:List Rr} (s:Sl h 3 n v (xs.flatMap rrC)) {j:Nat} {x:Rr} (hx:xs[j]? = some x) :
  ∃ id o,I3 3 v (.int .i64 (j:Int))=.ok (.ptr id o)∧loadN h id o 3=.ok (rrC x):=by
 obtain ⟨id,o,h1,h2,_⟩:=s.elem (fun _ _=>rfl) (by omega) (k:=.i64) (i:=(j:Int)) rfl hx
 exact ⟨id,o,h1,h2⟩
def c03 (x:Rr):Bool:=!j0w x.2.1
theorem q0I {h:AH} {x:Rr} (hx:RrIn h x):Ev P SI (.fn D6) [.agg (rrC x)] h fun r g=>r=.bool (c03 x)∧Fr h g:=by
 refine j9 e0e rfl rfl ?_
 obtain ⟨g1,hg1⟩:∃ g1,g1=h.push (.cells [x.1,.int .i64 x.2.2.1,.int .u64 (x.2.2.2:Int)] false):=⟨_,rfl⟩
 have f1:Fr h g1:=by rw [hg1];exact Fr.push (.refl h) _
 have c1:g1.get h.next=some (.cells [x.1,.int .i64 x.2.2.1,.int .u64 (x.2.2.2:Int)] false):=by rw [hg1];exact b9 _
 have l1:load1 g1 h.next 0=.ok x.1:=by rw [c9 c1];rfl
 simp [a0U,B7,rrC,← hg1,l1]
 refine (i0e (hx.lab.fr f1) hx.short).mono ?_
 rintro r g ⟨rfl,f⟩
 simp [c03]
 exact f1.trans f
def w0O (h:AH) (xs:List Rr) (r:AV) (g:AH):Prop:=Fr h g∧∃ z:Int,r=.int .i64 z∧(0≤z↔xs.any c03=true)
def t0c (xs:List Rr) (j:Nat):Prop:=∀ i x,i<j→xs[i]? = some x→c03 x=false
theorem n0D {h:AH} {n:Nat} {v:AV} {xs:List Rr} (s:Sl h 3 n v (xs.flatMap rrC)) (hn:n<2 ^ 62) (hx:∀ x ∈ xs,RrIn h x) :
  Ev P SI (.fn t6) [v,.func (.func D6) [] []] h (w0O h xs):=by
 refine j9 D4 rfl rfl ?_
 have hl:xs.length=n:=by have:=s.1;rw [g0U] at this;omega
 simp [z8,s.len]
 refine J9 (n:=n) (by rfl) (fun j σ ds g=>ds=[]∧σ 0=v∧σ 1=.func (.func D6) [] []∧σ 7=.int .i64 (n:Int)∧Fr h g∧t0c xs j) (by omega) (by simp)
  ⟨rfl,by simp,by simp,by simp,.refl _,fun i x hi=>by omega⟩ (fun j σ ds g hJ=>by simp [hJ.2.2.2.1]) ?_ ?_
 ·rintro j σ ds g hj hi ⟨rfl,e0,e1,e7,f,hb⟩
  obtain ⟨x,hxj⟩:=C6 (l:=xs) (j:=j) (by omega)
  obtain ⟨id,o,q1,q2⟩:=l0U (s.fr f) hxj
  simp [e0,e1,e7,hi,q1,q2,A5]
  refine (q0I ((hx x (List.mem_of_getElem? hxj)).fr f)).mono ?_
  rintro r g2 ⟨rfl,f2⟩
  cases hc:c03 x with
  | true =>
   simp
   refine ⟨f.trans f2,(j:Int),rfl,?_⟩
   have:xs.any c03=true:=List.any_eq_true.2 ⟨x,List.mem_of_getElem? hxj,hc⟩
   simp [this]
  | false =>
   have hb':t0c xs (j+1):=fun i y hij hy=>by
    by_cases e:i=j
    ·subst e;rw [hxj] at hy;cases hy;exact hc
    ·exact hb i y (by omega) hy
   simp [e0,e1,e7,hi]
   exact ⟨f.trans f2,hb'⟩
 ·rintro σ ds g ⟨rfl,e0,e1,e7,f,hb⟩
  simp
  refine ⟨f,-1,rfl,?_⟩
  have:¬ xs.any c03=true:=fun e=>by
   obtain ⟨x,hx,hc⟩:=List.any_eq_true.1 e
   obtain ⟨i,hi⟩:=List.getElem?_of_mem hx
   have:=(List.getElem?_eq_some_iff.1 hi).1
   rw [hb i x (by omega) hi] at hc;cases hc
  constructor
  ·intro h;omega
  ·intro h;exact absurd h this
theorem j0B {h:AH} {n:Nat} {v:AV} {xs:List Rr} (s:Sl h 3 n v (xs.flatMap rrC)) (hn:n<2 ^ 62) (hx:∀ x ∈ xs,RrIn h x) :
  Ev P SI (.fn i8) [v,.func (.func D6) [] []] h fun r g=>r=.bool (xs.any c03)∧Fr h g:=by
 refine j9 B2 rfl rfl ?_
 simp [w6]
 refine (n0D s hn hx).mono ?_
 rintro r g ⟨f,z,rfl,hz⟩
 have:decide (0≤z)=xs.any c03:=by
  cases hb:xs.any c03 with
  | true=>simp [hz.2 hb]
  | false =>
   have:¬ 0≤z:=fun h0=>by have:=hz.1 h0;rw [hb] at this;cases this
   simp;omega
 simp [this]
 exact f
end Go.Dk

namespace Go.Dk
open Go Go.Dr
set_option maxRecDepth 100000
end Go.Dk

namespace Go.Dk
open Go Go.Dr
set_option maxRecDepth 100000
def d0n (floor newest keep:Int):Int:=if keep≤0∨newest = -9223372036854775808∨newest < -9223372036854775808+keep then floor else max floor (newest - keep)
theorem n0Y {floor newest keep:Int} {h:AH} (hk:keep≤4611686018427387904) (hn:-9223372036854775808≤newest∧newest≤9223372036854775807) (K:AV→AH→Prop) :
  Ev P SI (.fn Z6) [.int .i64 floor,.int .i64 newest,.int .i64 keep] h K=K (.int .i64 (d0n floor newest keep)) h:=by
 refine Ev.eq (j9 l0b rfl rfl ?_) K
 by_cases c1:keep≤0
 ·simp [a0g,c1,d0n]
 ·by_cases c2:newest = -9223372036854775808
  ·simp [a0g,c1,c2,d0n]
  ·have w1:x7 .i64 (-9223372036854775808+keep) = -9223372036854775808+keep:=wrap_i64 (by omega) (by omega)
   by_cases c3:newest < -9223372036854775808+keep
   ·simp [a0g,c1,c2,c3,w1,d0n]
   ·have w2:x7 .i64 (newest - keep)=newest - keep:=wrap_i64 (by omega) (by omega)
    simp [a0g,c1,c2,c3,w1,w2,d0n]
theorem p0I (floor newest keep:Int):floor≤d0n floor newest keep:=by
 unfold d0n
 split
 ·exact Int.le_refl _
 ·exact Int.le_max_left _ _
end Go.Dk

namespace Go.Dk
open Go Go.Dr
set_option maxRecDepth 100000
def b05 (hd:Nat) (floor newest keep:Int):List AV:=[.ptr hd 0,.int .i64 floor,.int .i64 newest,.int .i64 keep]
theorem p0H {h:AH} (K:AV→AH→Prop):Ev P SI (.fn c0g) [] h K=K (.ptr (h.next+1) 0) ((h.push (.cells [.bool true,.nils] false)).push (.cells (b05 h.next (-9223372036854775808) (-9223372036854775808) 0) false)):=by
 refine Ev.eq (j9 m0B rfl rfl ?_) K
 simp [h0I,q0G]
 simp [B7,t7,b05]
theorem f0A {h:AH} {md hd:Nat} {floor newest keep:Int} {ro:Bool} (hc:h.get md=some (.cells (b05 hd floor newest keep) ro)) (K:AV→AH→Prop):Ev P SI (.fn D1) [.ptr md 0] h K=K (.bool false) h:=by
 refine Ev.eq (j9 f0w rfl rfl ?_) K
 have l1:load1 h md 0=.ok (.ptr hd 0):=by rw [c9 hc];rfl
 simp [b0X,l1]
theorem m0D {h:AH} {md hd:Nat} {floor newest keep:Int} {ro:Bool} (hc:h.get md=some (.cells (b05 hd floor newest keep) ro)) (K:AV→AH→Prop):Ev P SI (.fn I6) [.ptr md 0] h K=K (.int .i64 floor) h:=by
 refine Ev.eq (j9 e0T rfl rfl ?_) K
 have l1:load1 h md 1=.ok (.int .i64 floor):=by rw [c9 hc];rfl
 simp [b0c,f0A hc,l1]
end Go.Dk

namespace Go.Dk
open Go Go.Dr
set_option maxRecDepth 100000
def inS (lo hi:Int) (s:Smp):Bool:=decide (lo≤s.1)&&decide (s.1≤hi)
theorem i0v (lo hi:Int):∀ zs:List Smp,(zs.map toI).filter (inR lo hi)=(zs.filter (inS lo hi)).map toI
 | []=>rfl
 | s::zs=>by
  rw [List.map_cons,List.filter_cons,List.filter_cons,i0v lo hi zs]
  have:inR lo hi (toI s)=inS lo hi s:=rfl
  rw [this]
  cases inS lo hi s <;> rfl
theorem l0M {B t:Nat} {lo hi:Int} {h:AH} {x:Rh} (a:RowOk B t h x) (ht:t≤2 ^ 22) (K:AV→AH→Prop)
  (hK:∀ a b g,Own h.next g 2 x.ls.length a (x.ls.flatMap J0)→Own h.next g 2 (x.zs.filter (inS lo hi)).length b ((Z8 (x.zs.filter (inS lo hi))).flatMap smC)→Fr h g→K (.agg [a,b]) g) :
  Ev P SI (.fn p7) [.ptr x.r 0,.int .i64 lo,.int .i64 hi] h K:=by
 have hl:=a.len
 refine o0y (zs:=x.zs.map toI) a.at_.cell a.at_.lt a.at_.lab (g0q _) a.at_.short (by rw [q0R];exact a.map) a.mlt (by rw [List.length_map];omega) (by rw [k0Z];exact a.nd) K fun u v g h1 h2 h3=>?_
 rw [i0v,m0i,List.length_map] at h2
 exact hK u v g h1 h2 h3
theorem l0N {B t b5 b6 b7:Nat} {lo hi:Int} {r5 r6 r7:Bool} {h:AH} {x:Rh} (a:RowOk B t h x) (ht:t≤2 ^ 22) (h5:h.get b5=some (.cells [.nils] r5)) (h6:h.get b6=some (.cells [.int .i64 lo] r6)) (h7:h.get b7=some (.cells [.int .i64 hi] r7))
  (n5:b5<h.next) (n6:b6<h.next) (n7:b7<h.next) (K:AV→AH→Prop)
  (hK:∀ a b g,Own h.next g 2 x.ls.length a (x.ls.flatMap J0)→Own h.next g 2 (x.zs.filter (inS lo hi)).length b ((Z8 (x.zs.filter (inS lo hi))).flatMap smC)→Fr h g→K (.agg [a,b]) g) :
  Ev P SI (.fn y9) [.ptr x.r 0,.ptr b5 0,.ptr b6 0,.ptr b7 0] h K:=by
 refine j9 a0J rfl rfl ?_
 obtain ⟨g1,hg1⟩:∃ g1,g1=h.push (.cells [.nils,.nils] false):=⟨_,rfl⟩
 have f1:Fr h g1:=by rw [hg1];exact Fr.push (.refl h) _
 have c1:load1 g1 b5 0=.ok .nils:=by rw [c9 (by rw [f1.get _ n5];exact h5)];rfl
 have c2:load1 g1 x.r 0=.ok x.lv:=by rw [c9 (by rw [f1.get _ a.at_.lt];exact a.at_.cell)];rfl
 have hsame:=a.at_.lab.same
 have hcl:=a.at_.lab.oneCell
 simp [S2,B7,← hg1,c1,c2,hsame]
 refine (l07 hcl.1).mono ?_
 rintro r g2 ⟨rfl,f2⟩
 have f12:=f1.trans f2
 have n1:g1.next=h.next+1:=by rw [hg1];rfl
 have f2n:=f2.next
 have c3:load1 g2 b6 0=.ok (.int .i64 lo):=by rw [c9 (by rw [f12.get _ n6];exact h6)];rfl
 have c4:load1 g2 b7 0=.ok (.int .i64 hi):=by rw [c9 (by rw [f12.get _ n7];exact h7)];rfl
 simp [c3,c4]
 refine l0M (a.fr f12) ht _ ?_
 intro u v g3 ou ov f3
 have hc3:g3.get h.next=some (.cells [.nils,.nils] false):=by rw [f3.get _ (by omega),f2.get _ (by omega),hg1];exact b9 _
 have hu:=ou.sl.oneCell
 have hv:=ov.sl.oneCell
 have st:v7 g3 h.next 0 [u,v]=.ok (g3.set h.next (.cells [u,v] false)):=by
  rw [B8 hc3 (by simp) (by simp [i5,hu.2,hv.2]) (by simp)];rfl
 have ln:loadN (g3.set h.next (.cells [u,v] false)) h.next 0 2=.ok [u,v]:=E1 (d9 _ _) rfl
 have f3n:=f3.next
 have keep:∀ {n:Nat} {w:AV} {l:List AV},Own g2.next g3 2 n w l→Own h.next (g3.set h.next (.cells [u,v] false)) 2 n w l:=by
  intro n w l o
  refine ⟨o.1,?_⟩
  rcases o.2 with e | ⟨id,off,y,vs,e1,e2,e3,e4,e5⟩
  ·exact .inl e
  ·exact .inr ⟨id,off,y,vs,e1,by omega,e3,by rw [a6 (by omega)];exact e4,e5⟩
 simp [Y5,st,b0E,ln]
 exact hK u v _ (keep ou) (keep ov) ⟨by show h.next≤g3.next;omega,fun i hi=>by rw [a6 (by omega),f3.get i (by omega),f12.get i hi]⟩
end Go.Dk

namespace Go.Dk
open Go Go.Dr
set_option maxRecDepth 100000
def e0i (lo hi:Int) (x:Rh):Pt2:=(x.ls,Z8 (x.zs.filter (inS lo hi)))
def j0P (x:Pt2):Bool:=decide (x.2.length≠0)
def t07 (lo hi:Int) (h:AH) (xs:List Rh) (r:AV) (g:AH):Prop:=Fr h g∧∃ ys:List Sj,Own h.next g 2 ys.length r (ys.flatMap sjC)∧ys.map plJ=(xs.map (e0i lo hi)).filter j0P∧∀ y ∈ ys,SjOk g y
def t08 (lo hi:Int) (h:AH) (xs:List Rh) (ov:AV) (j:Nat) (g:AH):Prop:=Fr h g ∧
   ∃ ys:List Sj,Own h.next g 2 ys.length ov (ys.flatMap sjC)∧ys.length≤j∧ys.map plJ=((xs.take j).map (e0i lo hi)).filter j0P∧∀ y ∈ ys,SjOk g y∧(∀ i,j5 y.1.1=some i→j5 ov≠some i)∧(∀ i,j5 y.2.1=some i→j5 ov≠some i)
theorem p0K {B t b5 b6 b7:Nat} {lo hi:Int} {r5 r6 r7:Bool} {h:AH} {lv:AV} {xs:List Rh} (hl:Sl h 1 xs.length lv (xs.map Rh.p)) (hx:∀ x ∈ xs,RowOk B t h x) (ht:t≤2 ^ 22) (hn:xs.length≤2 ^ 22)
  (h5:h.get b5=some (.cells [.nils] r5)) (h6:h.get b6=some (.cells [.int .i64 lo] r6)) (h7:h.get b7=some (.cells [.int .i64 hi] r7)) (n5:b5<h.next) (n6:b6<h.next) (n7:b7<h.next) :
  Ev P SI (.fn J4) [lv,.func (.func y9) [] [.ptr b5 0,.ptr b6 0,.ptr b7 0]] h (t07 lo hi h xs):=by
 refine j9 Z1 rfl rfl ?_
 simp [P2,hl.len]
 refine J9 (n:=xs.length) (by rfl) (fun j σ ds g=>ds=[]∧σ 1=.func (.func y9) [] [.ptr b5 0,.ptr b6 0,.ptr b7 0]∧σ 9=lv∧σ 10=.int .i64 (xs.length:Int)∧t08 lo hi h xs (σ 5) j g) (by omega) (by simp)
  ⟨rfl,by simp,by simp,by simp,.refl _,[],by simpa using Own.nil _ _,by simp,by simp,fun y hy=>by simp at hy⟩ (fun j σ ds g hJ=>by simp [hJ.2.2.2.1]) ?_ ?_
 ·rintro j σ ds g hj hiJ ⟨rfl,e1,e9,e10,f,ys,ho,hyl,hyc,hys⟩
  obtain ⟨x,hxj⟩:=C6 (l:=xs) (j:=j) hj
  have hxm:=List.mem_of_getElem? hxj
  have hok:=(hx x hxm).fr f
  obtain ⟨id,o,q1,q2,_⟩:=(hl.fr f).get1 (k:=.i64) (i:=(j:Int)) rfl hj (show (xs.map Rh.p)[j]? = some (.ptr x.r 0) by rw [List.getElem?_map,hxj];rfl)
  obtain ⟨ov,hov⟩:∃ ov,σ 5=ov:=⟨_,rfl⟩
  rw [hov] at ho hys
  simp [e1,e9,e10,hiJ,q1,q2]
  refine l0N hok ht (by rw [f.get _ n5];exact h5) (by rw [f.get _ n6];exact h6) (by rw [f.get _ n7];exact h7) (Nat.lt_of_lt_of_le n5 f.next) (Nat.lt_of_lt_of_le n6 f.next) (Nat.lt_of_lt_of_le n7 f.next) _ ?_
  intro a b g1 oa ob f1
  have ha:=oa.sl.oneCell
  have hb:=ob.sl.oneCell
  have stn:=K1 (h:=g1) (n:=2) (z:=[.nils,.nils]) (l:=[a,b]) rfl rfl (by simp [i5,ha.2,hb.2])
  obtain ⟨g2,hg2⟩:∃ g2,g2=g1.push (.cells [a,b] false):=⟨_,rfl⟩
  have f2:Fr g1 g2:=by rw [hg2];exact Fr.push (.refl g1) _
  have c2:g2.get g1.next=some (.cells [a,b] false):=by rw [hg2];exact b9 _
  have n2:g2.next=g1.next+1:=by rw [hg2];rfl
  rw [← hg2] at stn
  have l1:load1 g2 g1.next 1=.ok b:=by rw [c9 c2];rfl
  have ln:loadN g2 g1.next 0 2=.ok [a,b]:=E1 c2 rfl
  obtain ⟨zf,hzf⟩:∃ zf,zf=x.zs.filter (inS lo hi):=⟨_,rfl⟩
  rw [← hzf] at ob
  have hzl:(Z8 zf).length=zf.length:=i0L _
  have hcr:e0i lo hi x=(x.ls,Z8 zf):=by rw [hzf];rfl
  have hcx:(xs.map (e0i lo hi))[j]? = some (x.ls,Z8 zf):=by rw [List.getElem?_map,hxj,← hcr];rfl
  have hts:((xs.take (j+1)).map (e0i lo hi)).filter j0P=((xs.take j).map (e0i lo hi)).filter j0P++if zf.length=0 then [] else [(x.ls,Z8 zf)]:=by
   rw [e0s _ _ _ hxj,List.map_append,List.filter_append]
   congr 1
   show (([x].map (e0i lo hi)).filter j0P)=_
   rw [List.map_cons,List.map_nil,hcr,List.filter_cons]
   unfold j0P
   rw [hzl]
   by_cases h0:zf.length=0 <;> simp [h0]
  have ho2:=(ho.fr f1).fr f2
  have hys':∀ y ∈ ys,SjOk g2 y:=fun y hy=>((hys y hy).1.fr f1).fr f2
  have hfn:=f.next
  have f1n:=f1.next
  obtain ⟨ov',g3,ap,ho3,fb,keep,newid⟩:=ho2.snoc2 (bytes:=48) (x:=[a,b]) (by omega) rfl (by simp [i5,ha.2,hb.2]) (by omega) (by omega)
  have hovid:∀ i,j5 ov=some i→i<g.next:=fun i e=>Sl.idLt ho.sl e
  have hage:∀ i,j5 a=some i→g.next≤i:=fun i e=>by
   by_cases hlt:i<g.next
   ·exact absurd e (oa.ne hlt)
   ·omega
  have hbge:∀ i,j5 b=some i→g.next≤i:=fun i e=>by
   by_cases hlt:i<g.next
   ·exact absurd e (ob.ne hlt)
   ·omega
  have halt:∀ i,j5 a=some i→i<g1.next:=fun i e=>Sl.idLt oa.sl e
  have hblt:∀ i,j5 b=some i→i<g1.next:=fun i e=>Sl.idLt ob.sl e
  have hn3:g2.next≤g3.next:=fb.next
  by_cases hz0:zf.length=0
  ·have hn0:¬ ((0:Int)<(zf.length:Int)):=by omega
   rw [if_pos hz0,List.append_nil] at hts
   have J2:t08 lo hi h xs ov (j+1) g2:=⟨⟨by omega,fun i hii=>by rw [f2.get i (by omega),f1.get i (by omega),f.get i hii]⟩,ys,ho2,by omega,by rw [hts];exact hyc,fun y hy=>⟨hys' y hy,(hys y hy).2⟩⟩
   simp [B7,hg2.symm,stn,l1,ob.sl.len,hz0,hov,e1,e9,e10,hiJ]
   exact J2
  have hpos:0<zf.length:=by omega
  have hposI:(0:Int)<(zf.length:Int):=by omega
  rw [if_neg hz0] at hts
  simp [B7,hg2.symm,stn,l1,ob.sl.len,hposI,hpos,ln,A5,hov,t7,ap,e1,e9,e10,hiJ]
  have J3:t08 lo hi h xs ov' (j+1) g3:=by
   refine ⟨⟨by omega,fun i hii=>by rw [fb.get i hii,f2.get i (by omega),f1.get i (by omega),f.get i hii]⟩,ys++[((a,x.ls),(b,Z8 zf))],?_,by simp;omega,?_,?_⟩
   ·rw [List.length_append,List.flatMap_append]
    simpa [sjC] using ho3
   ·rw [List.map_append,hyc,hts];rfl
   ·have sok:∀ {n:Nat} {w:AV} {l:List AV},Sl g2 2 n w l→(∀ i,j5 w=some i→j5 ov≠some i)→Sl g3 2 n w l:=fun sw hw=>J1 sw hn3 fun i e=>keep i (Sl.idLt sw e) (hw i e)
    rintro ⟨⟨u,lu⟩,w,lw⟩ hm
    rcases List.mem_append.1 hm with hm | hm
    ·obtain ⟨k1,k2,k3⟩:=hys _ hm
     have k1':=(k1.fr f1).fr f2
     refine ⟨⟨sok k1'.lab k2,sok k1'.smp k3⟩,fun i e e'=>?_,fun i e e'=>?_⟩
     ·rcases newid i e' with h | h
      ·exact k2 i e h
      ·have:=Sl.idLt k1'.lab e;omega
     ·rcases newid i e' with h | h
      ·exact k3 i e h
      ·have:=Sl.idLt k1'.smp e;omega
    ·simp at hm
     obtain ⟨⟨rfl,rfl⟩,rfl,rfl⟩:=hm
     have sa:Sl g2 2 x.ls.length u (x.ls.flatMap J0):=oa.sl.fr f2
     have sb:Sl g2 2 zf.length w ((Z8 zf).flatMap smC):=ob.sl.fr f2
     refine ⟨⟨sok sa fun i e e'=>by have:=hage i e;have:=hovid i e';omega,by show Sl g3 2 (Z8 zf).length w _;rw [hzl];exact sok sb fun i e e'=>by have:=hbge i e;have:=hovid i e';omega⟩,fun i e e'=>?_,fun i e e'=>?_⟩
     ·rcases newid i e' with h | h
      ·have:=hage i e;have:=hovid i h;omega
      ·have:=halt i e;omega
     ·rcases newid i e' with h | h
      ·have:=hbge i e;have:=hovid i h;omega
      ·have:=hblt i e;omega
  exact J3
 ·rintro σ ds g ⟨rfl,e1,e9,e10,f,ys,ho,hyl,hyc,hys⟩
  simp
  exact ⟨f,ys,ho,by rw [hyc,List.take_length],fun y hy=>(hys y hy).1⟩
theorem j0e {B t hd:Nat} {lo hi:Int} {h:AH} {lv:AV} {xs:List Rh} (H:HeadOk B t h hd lv xs) (ht:t≤2 ^ 22):Ev P SI (.fn W2) [.ptr hd 0,.nils,.int .i64 lo,.int .i64 hi] h (t07 lo hi h xs):=by
 refine j9 f0o rfl rfl ?_
 obtain ⟨g1,hg1⟩:∃ g1,g1=h.push (.cells [.nils] false):=⟨_,rfl⟩
 obtain ⟨g2,hg2⟩:∃ g2,g2=g1.push (.cells [.int .i64 lo] false):=⟨_,rfl⟩
 obtain ⟨g3,hg3⟩:∃ g3,g3=g2.push (.cells [.int .i64 hi] false):=⟨_,rfl⟩
 have f1:Fr h g1:=by rw [hg1];exact Fr.push (.refl h) _
 have f2:Fr g1 g2:=by rw [hg2];exact Fr.push (.refl g1) _
 have f3:Fr g2 g3:=by rw [hg3];exact Fr.push (.refl g2) _
 have n1:g1.next=h.next+1:=by rw [hg1];rfl
 have n2:g2.next=g1.next+1:=by rw [hg2];rfl
 have n3:g3.next=g2.next+1:=by rw [hg3];rfl
 have f:=f1.trans (f2.trans f3)
 have H3:=H.fr f
 have c5:g3.get h.next=some (.cells [.nils] false):=by rw [f3.get _ (by omega),f2.get _ (by omega),hg1];exact b9 _
 have c6:g3.get g1.next=some (.cells [.int .i64 lo] false):=by rw [f3.get _ (by omega),hg2];exact b9 _
 have c7:g3.get g2.next=some (.cells [.int .i64 hi] false):=by rw [hg3];exact b9 _
 have l5:load1 g3 h.next 0=.ok .nils:=by rw [c9 c5];rfl
 have lh:load1 g3 hd 1=.ok lv:=by rw [c9 H3.cell];rfl
 simp [b0R,B7,← hg1,← hg2,← hg3]
 simp [g0J H3.cell,l5]
 refine can_none.mono ?_
 rintro r g ⟨rfl,rfl⟩
 simp [lh]
 refine (p0K H3.list.sl H3.rows ht (by have:=H.cnt;omega) c5 c6 c7 (by omega) (by omega) (by omega)).mono ?_
 rintro r g ⟨f4,hK⟩
 simp
 exact ⟨f.trans f4,by
  obtain ⟨ys,o,hc,hs⟩:=hK
  refine ⟨ys,⟨o.1,?_⟩,hc,hs⟩
  rcases o.2 with e | ⟨id,off,y,vs,e1,e2,e3⟩
  ·exact .inl e
  ·exact .inr ⟨id,off,y,vs,e1,by omega,e3⟩⟩
end Go.Dk

namespace Go.Dk
open Go Go.Dr
set_option maxRecDepth 100000
def w05 (p:Rr→Bool) (h:AH) (xs:List Rr) (r:AV) (g:AH):Prop:=Fr h g∧∃ z:Int,r=.int .i64 z∧(0≤z↔xs.any p=true)
def t0q (p:Rr→Bool) (xs:List Rr) (j:Nat):Prop:=∀ i x,i<j→xs[i]? = some x→p x=false
theorem l0k {fid:FuncId} {p:Rr→Bool} (hf:∀ (x:Rr) (g:AH),RrIn g x→Ev P SI (.fn fid) [.agg (rrC x)] g fun r g'=>r=.bool (p x)∧Fr g g') {h:AH} {n:Nat} {v:AV} {xs:List Rr} (s:Sl h 3 n v (xs.flatMap rrC)) (hn:n<2 ^ 62) (hx:∀ x ∈ xs,RrIn h x) :
  Ev P SI (.fn t6) [v,.func (.func fid) [] []] h (w05 p h xs):=by
 refine j9 D4 rfl rfl ?_
 have hl:xs.length=n:=by have:=s.1;rw [g0U] at this;omega
 simp [z8,s.len]
 refine J9 (n:=n) (by rfl) (fun j σ ds g=>ds=[]∧σ 0=v∧σ 1=.func (.func fid) [] []∧σ 7=.int .i64 (n:Int)∧Fr h g∧t0q p xs j) (by omega) (by simp)
  ⟨rfl,by simp,by simp,by simp,.refl _,fun i x hi=>by omega⟩ (fun j σ ds g hJ=>by simp [hJ.2.2.2.1]) ?_ ?_
 ·rintro j σ ds g hj hi ⟨rfl,e0,e1,e7,f,hb⟩
  obtain ⟨x,hxj⟩:=C6 (l:=xs) (j:=j) (by omega)
  obtain ⟨id,o,q1,q2⟩:=l0U (s.fr f) hxj
  simp [e0,e1,e7,hi,q1,q2,A5]
  refine (hf x g ((hx x (List.mem_of_getElem? hxj)).fr f)).mono ?_
  rintro r g2 ⟨rfl,f2⟩
  cases hc:p x with
  | true =>
   simp
   refine ⟨f.trans f2,(j:Int),rfl,?_⟩
   have:xs.any p=true:=List.any_eq_true.2 ⟨x,List.mem_of_getElem? hxj,hc⟩
   simp [this]
  | false =>
   have hb':t0q p xs (j+1):=fun i y hij hy=>by
    by_cases e:i=j
    ·subst e;rw [hxj] at hy;cases hy;exact hc
    ·exact hb i y (by omega) hy
   simp [e0,e1,e7,hi]
   exact ⟨f.trans f2,hb'⟩
 ·rintro σ ds g ⟨rfl,e0,e1,e7,f,hb⟩
  simp
  refine ⟨f,-1,rfl,?_⟩
  have:¬ xs.any p=true:=fun e=>by
   obtain ⟨x,hx,hc⟩:=List.any_eq_true.1 e
   obtain ⟨i,hi⟩:=List.getElem?_of_mem hx
   have:=(List.getElem?_eq_some_iff.1 hi).1
   rw [hb i x (by omega) hi] at hc;cases hc
  constructor
  ·intro h;omega
  ·intro h;exact absurd h this
theorem h0Y {fid:FuncId} {p:Rr→Bool} (hf:∀ (x:Rr) (g:AH),RrIn g x→Ev P SI (.fn fid) [.agg (rrC x)] g fun r g'=>r=.bool (p x)∧Fr g g') {h:AH} {n:Nat} {v:AV} {xs:List Rr} (s:Sl h 3 n v (xs.flatMap rrC)) (hn:n<2 ^ 62) (hx:∀ x ∈ xs,RrIn h x) :
  Ev P SI (.fn i8) [v,.func (.func fid) [] []] h fun r g=>r=.bool (xs.any p)∧Fr h g:=by
 refine j9 B2 rfl rfl ?_
 simp [w6]
 refine (l0k hf s hn hx).mono ?_
 rintro r g ⟨f,z,rfl,hz⟩
 have:decide (0≤z)=xs.any p:=by
  cases hb:xs.any p with
  | true=>simp [hz.2 hb]
  | false =>
   have:¬ 0≤z:=fun h0=>by have:=hz.1 h0;rw [hb] at this;cases this
   simp;omega
 simp [this]
 exact f
theorem l0l {h:AH} {x:Rr} (hx:RrIn h x):Ev P SI (.fn b0O) [.agg (rrC x)] h fun r g=>r=.bool (c03 x)∧Fr h g:=by
 refine j9 i09 rfl rfl ?_
 obtain ⟨g1,hg1⟩:∃ g1,g1=h.push (.cells [x.1,.int .i64 x.2.2.1,.int .u64 (x.2.2.2:Int)] false):=⟨_,rfl⟩
 have f1:Fr h g1:=by rw [hg1];exact Fr.push (.refl h) _
 have c1:g1.get h.next=some (.cells [x.1,.int .i64 x.2.2.1,.int .u64 (x.2.2.2:Int)] false):=by rw [hg1];exact b9 _
 have l1:load1 g1 h.next 0=.ok x.1:=by rw [c9 c1];rfl
 simp [e0f,B7,rrC,← hg1,l1]
 refine (i0e (hx.lab.fr f1) hx.short).mono ?_
 rintro r g ⟨rfl,f⟩
 simp [c03]
 exact f1.trans f
end Go.Dk

namespace Go.Dk
open Go Go.Dr
set_option maxRecDepth 100000
def opC (kind:Int) (rv mv:AV) (lo hi keep:Int):List AV:=[.int .i64 kind,rv,mv,.int .i64 lo,.int .i64 hi,.int .i64 keep]
theorem o0e {h:AH} {rv mv:AV} {lo hi keep:Int} {n:Nat} {rs:List Rr} (s:Sl h 3 n rv (rs.flatMap rrC)) (hn:n<2 ^ 62) (hx:∀ x ∈ rs,RrIn h x) :
  Ev P SI (.fn J5) [.agg (opC 1 rv mv lo hi keep)] h fun r g=>r=.bool (decide (0<n)&&decide (n≤200)&&!rs.any c03)∧Fr h g:=by
 refine j9 b0q rfl rfl ?_
 obtain ⟨g1,hg1⟩:∃ g1,g1=h.push (.cells [.int .i64 1,rv,mv,.int .i64 lo,.int .i64 hi,.int .i64 keep] false):=⟨_,rfl⟩
 have f1:Fr h g1:=by rw [hg1];exact Fr.push (.refl h) _
 have c1:g1.get h.next=some (.cells [.int .i64 1,rv,mv,.int .i64 lo,.int .i64 hi,.int .i64 keep] false):=by rw [hg1];exact b9 _
 have l0:load1 g1 h.next 0=.ok (.int .i64 1):=by rw [c9 c1];rfl
 have l1:load1 g1 h.next 1=.ok rv:=by rw [c9 c1];rfl
 simp only [opC]
 by_cases h0:0<n
 ·have h0':(0:Int)<(n:Int):=by omega
  by_cases h2:n≤200
  ·have h2':(n:Int)≤200:=by omega
   simp [L6,B7,← hg1,l0,l1,s.len,h0,h0',h2,h2']
   refine (h0Y (p:=c03) (fun x g hx=>l0l hx) (s.fr f1) hn fun x hxm=>(hx x hxm).fr f1).mono ?_
   rintro r g ⟨rfl,f⟩
   simp
   exact f1.trans f
  ·have h2':¬ (n:Int)≤200:=by omega
   simp [L6,B7,← hg1,l0,l1,s.len,h0,h0',h2,h2']
   exact f1
 ·have h0':¬ (0:Int)<(n:Int):=by omega
  simp [L6,B7,← hg1,l0,l1,s.len,h0,h0']
  exact f1
theorem can_keep {h:AH} {rv mv:AV} {lo hi keep:Int}:Ev P SI (.fn J5) [.agg (opC 3 rv mv lo hi keep)] h fun r g=>r=.bool (decide (0≤keep)&&decide (keep≤4611686018427387904))∧Fr h g:=by
 refine j9 b0q rfl rfl ?_
 obtain ⟨g1,hg1⟩:∃ g1,g1=h.push (.cells [.int .i64 3,rv,mv,.int .i64 lo,.int .i64 hi,.int .i64 keep] false):=⟨_,rfl⟩
 have f1:Fr h g1:=by rw [hg1];exact Fr.push (.refl h) _
 have c1:g1.get h.next=some (.cells [.int .i64 3,rv,mv,.int .i64 lo,.int .i64 hi,.int .i64 keep] false):=by rw [hg1];exact b9 _
 have l0:load1 g1 h.next 0=.ok (.int .i64 3):=by rw [c9 c1];rfl
 have l5:load1 g1 h.next 5=.ok (.int .i64 keep):=by rw [c9 c1];rfl
 simp only [opC]
 by_cases h0:0≤keep
 ·by_cases h2:keep≤4611686018427387904 <;> (simp [L6,B7,← hg1,l0,l5,h0,h2];exact f1)
 ·simp [L6,B7,← hg1,l0,l5,h0]
  exact f1
theorem p01 {h:AH} {rv mv:AV} {kind lo hi keep:Int} (k1:kind≠1) (k2:kind≠2) (k3:kind≠3):Ev P SI (.fn J5) [.agg (opC kind rv mv lo hi keep)] h fun r g=>r=.bool false∧Fr h g:=by
 refine j9 b0q rfl rfl ?_
 obtain ⟨g1,hg1⟩:∃ g1,g1=h.push (.cells [.int .i64 kind,rv,mv,.int .i64 lo,.int .i64 hi,.int .i64 keep] false):=⟨_,rfl⟩
 have f1:Fr h g1:=by rw [hg1];exact Fr.push (.refl h) _
 have c1:g1.get h.next=some (.cells [.int .i64 kind,rv,mv,.int .i64 lo,.int .i64 hi,.int .i64 keep] false):=by rw [hg1];exact b9 _
 have l0:load1 g1 h.next 0=.ok (.int .i64 kind):=by rw [c9 c1];rfl
 simp only [opC]
 simp [L6,B7,← hg1,l0,k1,k2,k3]
 exact f1
end Go.Dk

namespace Go.Dk
open Go Go.Dr
set_option maxRecDepth 100000
def v0a (lo hi:Int) (h:AH) (xs:List Rh) (r:AV) (g:AH):Prop:=∃ v,r=.tuple [v,.int .i64 0]∧t07 lo hi h xs v g
theorem k0G {B t md hd:Nat} {h:AH} {lv:AV} {xs:List Rh} {floor newest keep lo hi:Int} {ro:Bool} (hc:h.get md=some (.cells (b05 hd floor newest keep) ro)) (H:HeadOk B t h hd lv xs) (ht:t≤2 ^ 22) :
  Ev P SI (.fn T0) [.ptr md 0,.nils,.int .i64 lo,.int .i64 hi] h (v0a lo hi h xs):=by
 refine j9 e0h rfl rfl ?_
 have l0:load1 h md 0=.ok (.ptr hd 0):=by rw [c9 hc];rfl
 simp [a0V,f0A hc]
 refine can_none.mono ?_
 rintro r g ⟨rfl,rfl⟩
 simp [l0]
 refine (j0e H ht).mono ?_
 intro v g hK
 simp
 exact ⟨v,rfl,hK⟩
theorem o0Q {h:AH} {rv mv:AV} {kind lo hi keep:Int} {n:Nat} {rs:List Rr} (s:Sl h 3 n rv (rs.flatMap rrC)) (hmv:mv.cells=[mv]∧mv.scalar=true) :
  Ev P SI (.fn d0W) [.agg (opC kind rv mv lo hi keep)] h fun r g=>Fr h g∧∃ u,r=.agg (opC kind u mv lo hi keep)∧Sl h 3 (min n 15) u ((rs.take (min n 15)).flatMap rrC)∧j5 u=j5 rv:=by
 refine j9 m0C rfl rfl ?_
 have hl:rs.length=n:=by have:=s.1;rw [g0U] at this;omega
 obtain ⟨m,hm⟩:∃ m,min n 15=m:=⟨_,rfl⟩
 have hmi:min (n:Int) 15=(m:Int):=by omega
 obtain ⟨u,eu,su⟩:=s.slice (lo:=none) (hi:=some (.int .i64 (m:Int))) (a:=0) (b:=m) (.inl ⟨rfl,rfl⟩) (.inr ⟨.i64,rfl⟩) (by omega) (by omega)
 rw [Nat.zero_mul,List.drop_zero,Nat.sub_zero,c0Y (es:=3) (f:=rrC) rs (fun _ _=>rfl)] at su
 obtain ⟨g1,hg1⟩:∃ g1,g1=h.push (.cells [.int .i64 kind,rv,mv,.int .i64 lo,.int .i64 hi,.int .i64 keep] false):=⟨_,rfl⟩
 obtain ⟨g2,hg2⟩:∃ g2,g2=g1.push (.cells [.int .i64 0,.nils,.nils,.int .i64 0,.int .i64 0,.int .i64 0] false):=⟨_,rfl⟩
 have n1:g1.next=h.next+1:=by rw [hg1];rfl
 have n2:g2.next=g1.next+1:=by rw [hg2];rfl
 have f1:Fr h g1:=by rw [hg1];exact Fr.push (.refl h) _
 have f2:Fr g1 g2:=by rw [hg2];exact Fr.push (.refl g1) _
 have c1:g2.get h.next=some (.cells [.int .i64 kind,rv,mv,.int .i64 lo,.int .i64 hi,.int .i64 keep] false):=by rw [f2.get _ (by omega),hg1];exact b9 _
 have c2:g2.get g1.next=some (.cells [.int .i64 0,.nils,.nils,.int .i64 0,.int .i64 0,.int .i64 0] false):=by rw [hg2];exact b9 _
 have l1:load1 g2 h.next 1=.ok rv:=by rw [c9 c1];rfl
 have hu:=su.oneCell
 have st1:v7 g2 h.next 1 [u]=.ok (g2.set h.next (.cells [.int .i64 kind,u,mv,.int .i64 lo,.int .i64 hi,.int .i64 keep] false)):=by
  rw [B8 c1 (by simp) (by simp [i5,hu.2]) (by simp)];rfl
 obtain ⟨g3,hg3⟩:∃ g3,g3=g2.set h.next (.cells [.int .i64 kind,u,mv,.int .i64 lo,.int .i64 hi,.int .i64 keep] false):=⟨_,rfl⟩
 rw [← hg3] at st1
 have ln:loadN g3 h.next 0 6=.ok (opC kind u mv lo hi keep):=E1 (vs:=opC kind u mv lo hi keep) (ro:=false) (by rw [hg3];exact d9 _ _) rfl
 have c3:g3.get g1.next=some (.cells [.int .i64 0,.nils,.nils,.int .i64 0,.int .i64 0,.int .i64 0] false):=by rw [hg3,a6 (by omega)];exact c2
 have st2:v7 g3 g1.next 0 (opC kind u mv lo hi keep)=.ok (g3.set g1.next (.cells (opC kind u mv lo hi keep) false)):=by
  rw [B8 c3 (by simp [opC]) (by simp [opC,i5,hu.2,hmv.2]) (by simp [opC])];rfl
 have ln2:loadN (g3.set g1.next (.cells (opC kind u mv lo hi keep) false)) g1.next 0 6=.ok (opC kind u mv lo hi keep):=E1 (d9 _ _) rfl
 have fin:Fr h (g3.set g1.next (.cells (opC kind u mv lo hi keep) false)):=⟨by show h.next≤g3.next;rw [hg3];show h.next≤g2.next;omega,fun i hi=>by rw [a6 (by omega),hg3,a6 (by omega),f2.get i (by omega),f1.get i hi]⟩
 have hlen:(opC kind u mv lo hi keep).length=6:=rfl
 simp only [show opC kind rv mv lo hi keep=[.int .i64 kind,rv,mv,.int .i64 lo,.int .i64 hi,.int .i64 keep] from rfl]
 simp [h0J,B7,← hg1,← hg2,l1,s.len,hmi,eu,hu.1,st1,A5,ln,Y5,hlen,st2,b0E,ln2]
 exact ⟨fin,u,rfl,by rw [hm];exact su,i0G eu⟩
end Go.Dk

namespace Go.Dk
open Go Go.Dr
set_option maxRecDepth 100000
theorem Sl.nf {hd es n:Nat} {h g:AH} {lv lv' v:AV} {xs xs':List Rh} {l:List AV} (s:Sl h es n v l) (f:NF hd h g lv xs lv' xs') (a:∀ i,j5 v=some i→O5 hd lv xs i):Sl g es n v l :=
 J1 s f.1 fun i e=>(f.2 i (Sl.idLt s e) (a i e)).1
def NoV (hd:Nat) (lv:AV) (xs:List Rh) (v:AV):Prop:=∀ i,j5 v=some i→O5 hd lv xs i
def t0B (B t:Nat) (h:AH) (hd:Nat) (lv:AV) (xs:List Rh) (rs:List Rr) (g:AH):Prop :=
 ∃ lv' xs',NF hd h g lv xs lv' xs'∧HeadOk B (t+2*rs.length) g hd lv' xs'
theorem o0T {B t hd n:Nat} {h:AH} {lv v:AV} {xs:List Rh} {rs:List Rr} (H:HeadOk B t h hd lv xs) (hB:B≤h.next) (ht:t+2*rs.length≤2 ^ 20) (s:Sl h 3 n v (rs.flatMap rrC)) (hn:n≤2 ^ 18) (hx:∀ x ∈ rs,RrIn h x)
  (hv:NoV hd lv xs v) (hxv:∀ x ∈ rs,NoV hd lv xs x.1):Ev P SI (.fn P9) [.ptr hd 0,v] h fun r g=>(∃ e:Int,r=.int .i64 e)∧t0B B t h hd lv xs rs g:=by
 refine j9 f0v rfl rfl ?_
 have hl:rs.length=n:=by have:=s.1;rw [g0U] at this;omega
 simp [b0W]
 simp [g0J H.cell]
 refine (j0B s (by omega) hx).mono ?_
 rintro r g ⟨rfl,f⟩
 cases hbad:rs.any c03 with
 | true =>
  have K:t0B B t h hd lv xs rs g:=⟨lv,xs,.of f,(H.fr f).le (by omega)⟩
  simp
  exact K
 | false =>
  have s1:=s.fr f
  simp [s1.len]
  refine J9 (n:=n) (by rfl) (fun j σ ds g'=>ds=[]∧σ 0=.ptr hd 0∧σ 13=v∧σ 14=.int .i64 (n:Int)∧∃ lv' xs',NF hd h g' lv xs lv' xs'∧HeadOk B (t+2*j) g' hd lv' xs') (by omega) (by simp)
   ⟨rfl,by simp,by simp,by simp,lv,xs,.of f,H.fr f⟩ (fun j σ ds g hJ=>by simp [hJ.2.2.2.1]) ?_ ?_
  ·rintro j σ ds g' hj hi ⟨rfl,e0,e13,e14,lv',xs',f',H'⟩
   obtain ⟨x,hxj⟩:=C6 (l:=rs) (j:=j) (by omega)
   have hxm:=List.mem_of_getElem? hxj
   have hxi:=hx x hxm
   obtain ⟨id,o,q1,q2⟩:=l0U (Sl.nf s f' hv) hxj
   have hlab:=Sl.nf hxi.lab f' (hxv x hxm)
   have hcan:j0w x.2.1=true:=by
    have:c03 x=false:=by
     cases hb:c03 x with
     | false=>rfl
     | true =>
      have:rs.any c03=true:=List.any_eq_true.2 ⟨x,hxm,hb⟩
      rw [hbad] at this;cases this
    simpa [c03] using this
   have hll:x.2.1.length≤8:=by
    simp only [j0w,Bool.and_eq_true,decide_eq_true_eq] at hcan
    exact hcan.1.2
   have stn:=K1 (h:=g') (n:=3) (z:=[.nils,.int .i64 0,.int .u64 0]) (l:=rrC x) rfl rfl (by simp [rrC,i5,hlab.oneCell.2])
   obtain ⟨g2,hg2⟩:∃ g2,g2=g'.push (.cells (rrC x) false):=⟨_,rfl⟩
   have f2:Fr g' g2:=by rw [hg2];exact Fr.push (.refl g') _
   have c2:g2.get g'.next=some (.cells (rrC x) false):=by rw [hg2];exact b9 _
   rw [← hg2] at stn
   have l0:load1 g2 g'.next 0=.ok x.1:=by rw [c9 c2];rfl
   have l1:load1 g2 g'.next 1=.ok (.int .i64 x.2.2.1):=by rw [c9 c2];rfl
   have l2:load1 g2 g'.next 2=.ok (.int .u64 (x.2.2.2:Int)):=by rw [c9 c2];rfl
   simp [e0,e13,e14,hi,q1,q2,A5,stn,l0,l1,l2]
   have hBg:B≤g'.next:=by have:=f'.1;omega
   refine (r0e (H'.fr f2) (by have:=f2.next;omega) (by omega) (hlab.fr f2) (by omega) hxi.rg).mono ?_
   rintro r' g3 ⟨rfl,f3,lv3,xs3,H3,hc3,hno⟩
   have nf3:NF hd g2 g3 lv' xs' lv3 xs3:=⟨f3.next,hno⟩
   have K:NF hd h g3 lv xs lv3 xs3:=f'.trans (NF.trans (NF.of f2) nf3)
   simp [e0,e13,e14,hi]
   exact ⟨lv3,xs3,K,H3.le (by omega)⟩
  ·rintro σ ds g' ⟨rfl,e0,e13,e14,lv',xs',f',H'⟩
   have K:t0B B t h hd lv xs rs g':=⟨lv',xs',f',by rw [hl];exact H'⟩
   simp
   exact K
end Go.Dk

namespace Go.Dk
open Go Go.Dr
set_option maxRecDepth 100000
theorem l03 {fid:FuncId} {caps:List AV} {h:AH} {n:Nat} {v:AV} {xs:List Rr} (hf:∀ (x:Rr) (g:AH),x ∈ xs→Fr h g→Ev P SI (.fn fid) (.agg (rrC x)::caps) g (BK g)) (s:Sl h 3 n v (xs.flatMap rrC)) (hn:n<2 ^ 62) :
  Ev P SI (.fn i8) [v,.func (.func fid) [] caps] h (BK h):=by
 have hix:Ev P SI (.fn t6) [v,.func (.func fid) [] caps] h (IxK n h):=by
  refine j9 D4 rfl rfl ?_
  have hl:xs.length=n:=by have:=s.1;rw [g0U] at this;omega
  simp [z8,s.len]
  refine J9 (n:=n) (by rfl) (fun j σ ds g=>ds=[]∧σ 0=v∧σ 1=.func (.func fid) [] caps∧σ 7=.int .i64 (n:Int)∧Fr h g) (by omega) (by simp)
   ⟨rfl,by simp,by simp,by simp,.refl _⟩ (fun j σ ds g hJ=>by simp [hJ.2.2.2.1]) ?_ ?_
  ·rintro j σ ds g hj hi ⟨rfl,e0,e1,e7,f⟩
   obtain ⟨x,hxj⟩:=C6 (l:=xs) (j:=j) (by omega)
   obtain ⟨id,o,q1,q2⟩:=l0U (s.fr f) hxj
   simp [e0,e1,e7,hi,q1,q2,A5]
   refine (hf x g (List.mem_of_getElem? hxj) f).mono ?_
   rintro r g2 ⟨⟨b,rfl⟩,f2⟩
   cases b with
   | true =>
    simp
    exact ⟨⟨_,rfl,by omega⟩,f.trans f2⟩
   | false =>
    simp [e0,e1,e7,hi]
    exact f.trans f2
  ·rintro σ ds g ⟨rfl,e0,e1,e7,f⟩
   simp
   exact ⟨⟨_,rfl,by omega⟩,f⟩
 refine j9 B2 rfl rfl ?_
 simp [w6]
 refine hix.mono ?_
 rintro r g ⟨⟨z,rfl,_⟩,f⟩
 simp
 exact ⟨⟨_,rfl⟩,f⟩
theorem v0B {h:AH} {md hd bm:Nat} {floor newest keep:Int} {r1 r2:Bool} (hc:h.get md=some (.cells (b05 hd floor newest keep) r1)) (hb:h.get bm=some (.cells [.ptr md 0] r2)) (h1:md<h.next) (h2:bm<h.next) (x:Rr):Ev P SI (.fn K9) [.agg (rrC x),.ptr bm 0] h (BK h):=by
 refine j9 f0x rfl rfl ?_
 obtain ⟨g1,hg1⟩:∃ g1,g1=h.push (.cells [x.1,.int .i64 x.2.2.1,.int .u64 (x.2.2.2:Int)] false):=⟨_,rfl⟩
 have f1:Fr h g1:=by rw [hg1];exact Fr.push (.refl h) _
 have c1:g1.get h.next=some (.cells [x.1,.int .i64 x.2.2.1,.int .u64 (x.2.2.2:Int)] false):=by rw [hg1];exact b9 _
 have l1:load1 g1 h.next 1=.ok (.int .i64 x.2.2.1):=by rw [c9 c1];rfl
 have l2:load1 g1 bm 0=.ok (.ptr md 0):=by rw [c9 (by rw [f1.get _ h2];exact hb)];rfl
 have l3:load1 g1 md 1=.ok (.int .i64 floor):=by rw [c9 (by rw [f1.get _ h1];exact hc)];rfl
 simp [b0Y,B7,rrC,← hg1,l1,l2,l3]
 exact ⟨⟨_,rfl⟩,f1⟩
structure ModOk (B t:Nat) (h:AH) (md hd:Nat) (lv:AV) (xs:List Rh) (floor newest keep:Int):Prop where
 head:HeadOk B t h hd lv xs
 cell:h.get md=some (.cells (b05 hd floor newest keep) false)
 mlt:md<h.next
 no:O5 hd lv xs md
 mB:md<B
 nr:-9223372036854775808≤newest∧newest≤9223372036854775807
 kr:keep≤4611686018427387904
 low:∀ x ∈ xs,∀ s ∈ x.zs,floor≤s.1
structure OpIn (h:AH) (hd:Nat) (lv:AV) (xs:List Rh) (md n:Nat) (rv mv:AV) (rs:List Rr):Prop where
 rows:Sl h 3 n rv (rs.flatMap rrC)
 few:n≤15
 row:∀ x ∈ rs,RrIn h x
 rno:NoV hd lv xs rv
 lno:∀ x ∈ rs,NoV hd lv xs x.1
 rmd:j5 rv≠some md
 ms:∃ (k:Nat) (ms:List Mc),Sl h 3 k mv (ms.flatMap maC)∧k<2 ^ 62∧∀ m ∈ ms,l0O m
def DoK (B t:Nat) (h:AH) (md hd:Nat) (lv:AV) (xs:List Rh) (floor:Int) (r:AV) (g:AH):Prop :=
 ∃ (e:Int) (lv':AV) (xs':List Rh) (floor' newest' keep':Int),r=.int .i64 e∧ModOk B t g md hd lv' xs' floor' newest' keep'∧floor≤floor'∧(e≠0→floor'=floor) ∧
  h.next≤g.next∧∀ i,i<h.next→i≠md→O5 hd lv xs i→g.get i=h.get i∧O5 hd lv' xs' i
theorem ModOk.fr {B t:Nat} {h g:AH} {md hd:Nat} {lv:AV} {xs:List Rh} {floor newest keep:Int} (m:ModOk B t h md hd lv xs floor newest keep) (f:Fr h g):ModOk B t g md hd lv xs floor newest keep :=
 ⟨m.head.fr f,by rw [f.get _ m.mlt];exact m.cell,Nat.lt_of_lt_of_le m.mlt f.next,m.no,m.mB,m.nr,m.kr,m.low⟩
theorem ModOk.le {B t t':Nat} {h:AH} {md hd:Nat} {lv:AV} {xs:List Rh} {floor newest keep:Int} (m:ModOk B t h md hd lv xs floor newest keep) (ht:t≤t'):ModOk B t' h md hd lv xs floor newest keep :=
 ⟨m.head.le ht,m.cell,m.mlt,m.no,m.mB,m.nr,m.kr,m.low⟩
theorem HeadOk.setm {B t md:Nat} {h:AH} {hd:Nat} {lv:AV} {xs:List Rh} {o:AObj} (H:HeadOk B t h hd lv xs) (hmd:md<B) (hne:md≠hd):HeadOk B t (h.set md o) hd lv xs:=by
 have old:∀ i,i≠md→(h.set md o).get i=h.get i:=fun i e=>a6 e
 refine ⟨H.hlt,by rw [old hd (fun e=>hne e.symm)];exact H.cell,?_,fun x hx=>?_,H.far,H.inj,H.asc,H.cnt⟩
 ·rcases H.list with e | ⟨sid,mm,vs,k1,k2,k3,k4,k5,k6⟩
  ·exact .inl e
  ·exact .inr ⟨sid,mm,vs,k1,k2,k3,k4,by rw [old sid (by omega)];exact k5,k6⟩
 ·have a:=H.rows x hx
  refine j0a (bad:=fun i=>i=md) a (Nat.le_refl _) (fun i _ hb=>old i hb) (fun e=>?_) (fun i e e'=>?_) (fun e=>?_)
  ·have:=a.rB;omega
  ·have:=a.lB i e;omega
  ·have:=a.mB;omega
end Go.Dk

namespace Go.Dk
open Go Go.Dr
set_option maxRecDepth 100000
noncomputable def q0p:CC :=
 (.ops [
  .row ⟨(some 2),none,.box (.t 0)⟩,
  .row ⟨(some 3),none,.box (.t 1)⟩,
  .row ⟨(some 4),none,.move (.c (.int .i64 0))⟩])
noncomputable def q0q:CC :=
 (.ops [
  .row ⟨(some 8),none,.mkF K9 [] [(.t 2)]⟩,
  .row ⟨(some 5),none,.move (.t 8)⟩])
noncomputable def q0r:CC :=
 (.block 0
   (.seq
   (.ops [
    .row ⟨(some 10),none,.load1 (.t 2)⟩,
    .row ⟨(some 11),none,.callV (.c (.func (.func D1) [] [])) [(.t 10)]⟩,
    .row ⟨(some 9),none,.move (.t 11)⟩])
   (.cond (.t 9)
    (.seq
    (.ops [
     .row ⟨(some 4),none,.move (.c (.int .i64 2))⟩])
    .ret)
    (.seq
    (.ops [
     .row ⟨(some 13),none,.loadN 6 (.t 3)⟩,
     .row ⟨(some 14),none,.callV (.c (.func (.func J5) [] [])) [(.t 13)]⟩,
     .row ⟨(some 15),none,.un .not (.t 14)⟩,
     .row ⟨(some 12),none,.move (.t 15)⟩])
    (.cond (.t 12)
     (.seq
     (.ops [
      .row ⟨(some 4),none,.move (.c (.int .i64 1))⟩])
     .ret)
     (.seq
     (.ops [
      .row ⟨(some 17),none,.fieldAddr 0 (.t 3)⟩,
      .row ⟨(some 18),none,.load1 (.t 17)⟩,
      .row ⟨(some 19),none,.bin .eql d8 true (.t 18) (.c (.int .i64 1))⟩,
      .row ⟨(some 20),none,.move (.t 19)⟩,
      .row ⟨(some 21),(some (20,true)),.fieldAddr 1 (.t 3)⟩,
      .row ⟨(some 22),(some (20,true)),.load1 (.t 21)⟩,
      .row ⟨(some 23),(some (20,true)),.move (.t 5)⟩,
      .row ⟨(some 24),(some (20,true)),.callV (.c (.func (.func i8) [] [])) [(.t 22),(.t 23)]⟩,
      .row ⟨(some 25),none,.pick (.t 20) (.t 24) (.c (.bool false))⟩,
      .row ⟨(some 16),none,.move (.t 25)⟩])
     (.cond (.t 16)
      (.seq
      (.ops [
       .row ⟨(some 4),none,.move (.c (.int .i64 220))⟩])
      .ret)
      .skip)))))))
noncomputable def i0j:CC :=
 (.seq
   (.ops [
    .row ⟨(some 26),none,.fieldAddr 0 (.t 3)⟩,
    .row ⟨(some 27),none,.load1 (.t 26)⟩])
   (.block 1
    (.seq
    (.ops [
     .row ⟨(some 29),none,.bin .eql d8 true (.t 27) (.c (.int .i64 1))⟩,
     .row ⟨(some 28),none,.move (.t 29)⟩])
    (.cond (.t 28)
     (.seq
     (.ops [
      .row ⟨(some 30),none,.load1 (.t 2)⟩,
      .row ⟨(some 31),none,.nilCheck (.t 30)⟩,
      .row ⟨(some 32),none,.fieldAddr 0 (.t 31)⟩,
      .row ⟨(some 33),none,.load1 (.t 32)⟩,
      .row ⟨(some 34),none,.fieldAddr 1 (.t 3)⟩,
      .row ⟨(some 35),none,.load1 (.t 34)⟩,
      .stage [⟨(some 35),none,.load1 (.t 34)⟩,⟨(some 33),none,.load1 (.t 32)⟩,⟨(some 30),none,.load1 (.t 2)⟩],
      .row ⟨(some 36),none,.callV (.c (.func (.func P9) [] [])) [(.t 33),(.t 35)]⟩])
     (.seq
      (.ops [
      .row ⟨(some 37),none,.fieldAddr 1 (.t 3)⟩,
      .row ⟨(some 38),none,.load1 (.t 37)⟩,
      .row ⟨(some 39),none,.lenV (.t 38)⟩,
      .row ⟨(some 40),none,.move (.c (.int .i64 0))⟩])
      (.block 2
      (.loop
       (.seq
       (.ops [
        .row ⟨(some 41),none,.bin .lss d8 false (.t 40) (.t 39)⟩])
       (.seq
        (.cond (.t 41)
        .skip
        (.exit 2))
        (.seq
        (.block 3
         (.seq
         (.ops [
          .row ⟨(some 42),none,.idxV 3 (.t 38) (.t 40)⟩,
          .row ⟨(some 43),none,.loadN 3 (.t 42)⟩,
          .row ⟨(some 7),none,.new [.nils,(.int .i64 0),(.int .u64 0)]⟩,
          .row ⟨none,none,.store 3 (.t 7) (.t 43)⟩])
         (.ops [
          .row ⟨(some 44),none,.load1 (.t 2)⟩,
          .row ⟨(some 45),none,.load1 (.t 2)⟩,
          .row ⟨(some 46),none,.nilCheck (.t 45)⟩,
          .row ⟨(some 47),none,.fieldAddr 2 (.t 46)⟩,
          .row ⟨(some 48),none,.load1 (.t 47)⟩,
          .row ⟨(some 49),none,.fieldAddr 1 (.t 7)⟩,
          .row ⟨(some 50),none,.load1 (.t 49)⟩,
          .row ⟨(some 51),none,.mm true (.t 48) [(.t 50)]⟩,
          .row ⟨(some 52),none,.nilCheck (.t 44)⟩,
          .row ⟨(some 53),none,.fieldAddr 2 (.t 52)⟩,
          .stage [⟨(some 50),none,.load1 (.t 49)⟩,⟨(some 48),none,.load1 (.t 47)⟩,⟨(some 45),none,.load1 (.t 2)⟩,⟨(some 44),none,.load1 (.t 2)⟩],
          .row ⟨none,none,.store 1 (.t 53) (.t 51)⟩])))
        (.ops [
         .row ⟨(some 54),none,.bin .add d8 true (.t 40) (.c (.int .i64 1))⟩,
         .row ⟨(some 40),none,.move (.t 54)⟩]))))))))
     (.seq
     (.ops [
      .row ⟨(some 56),none,.bin .eql d8 true (.t 27) (.c (.int .i64 2))⟩,
      .row ⟨(some 55),none,.move (.t 56)⟩])
     (.cond (.t 55)
      (.ops [
      .row ⟨(some 57),none,.load1 (.t 2)⟩,
      .row ⟨(some 58),none,.nilCheck (.t 57)⟩,
      .row ⟨(some 59),none,.fieldAddr 0 (.t 58)⟩,
      .row ⟨(some 60),none,.load1 (.t 59)⟩,
      .row ⟨(some 61),none,.fieldAddr 2 (.t 3)⟩,
      .row ⟨(some 62),none,.load1 (.t 61)⟩,
      .row ⟨(some 63),none,.fieldAddr 3 (.t 3)⟩,
      .row ⟨(some 64),none,.load1 (.t 63)⟩,
      .row ⟨(some 65),none,.fieldAddr 4 (.t 3)⟩,
      .row ⟨(some 66),none,.load1 (.t 65)⟩,
      .stage [⟨(some 66),none,.load1 (.t 65)⟩,⟨(some 64),none,.load1 (.t 63)⟩,⟨(some 62),none,.load1 (.t 61)⟩,⟨(some 60),none,.load1 (.t 59)⟩,⟨(some 57),none,.load1 (.t 2)⟩],
      .row ⟨(some 67),none,.callV (.c (.func (.func Q0) [] [])) [(.t 60),(.t 62),(.t 64),(.t 66)]⟩])
      (.seq
      (.ops [
       .row ⟨(some 69),none,.bin .eql d8 true (.t 27) (.c (.int .i64 3))⟩,
       .row ⟨(some 68),none,.move (.t 69)⟩])
      (.cond (.t 68)
       (.ops [
       .row ⟨(some 70),none,.load1 (.t 2)⟩,
       .row ⟨(some 71),none,.fieldAddr 5 (.t 3)⟩,
       .row ⟨(some 72),none,.load1 (.t 71)⟩,
       .row ⟨(some 73),none,.nilCheck (.t 70)⟩,
       .row ⟨(some 74),none,.fieldAddr 3 (.t 73)⟩,
       .row ⟨none,none,.store 1 (.t 74) (.t 72)⟩])
       .skip))))))))
noncomputable def n0h:CC :=
 (.seq
   (.ops [
    .row ⟨(some 75),none,.load1 (.t 2)⟩,
    .row ⟨(some 76),none,.load1 (.t 2)⟩,
    .row ⟨(some 77),none,.nilCheck (.t 76)⟩,
    .row ⟨(some 78),none,.fieldAddr 1 (.t 77)⟩,
    .row ⟨(some 79),none,.load1 (.t 78)⟩,
    .row ⟨(some 80),none,.load1 (.t 2)⟩,
    .row ⟨(some 81),none,.nilCheck (.t 80)⟩,
    .row ⟨(some 82),none,.fieldAddr 2 (.t 81)⟩,
    .row ⟨(some 83),none,.load1 (.t 82)⟩,
    .row ⟨(some 84),none,.load1 (.t 2)⟩,
    .row ⟨(some 85),none,.nilCheck (.t 84)⟩,
    .row ⟨(some 86),none,.fieldAddr 3 (.t 85)⟩,
    .row ⟨(some 87),none,.load1 (.t 86)⟩,
    .stage [⟨(some 87),none,.load1 (.t 86)⟩,⟨(some 84),none,.load1 (.t 2)⟩,⟨(some 83),none,.load1 (.t 82)⟩,⟨(some 80),none,.load1 (.t 2)⟩,⟨(some 79),none,.load1 (.t 78)⟩,⟨(some 76),none,.load1 (.t 2)⟩,⟨(some 75),none,.load1 (.t 2)⟩],
    .row ⟨(some 88),none,.callV (.c (.func (.func Z6) [] [])) [(.t 79),(.t 83),(.t 87)]⟩,
    .row ⟨(some 89),none,.nilCheck (.t 75)⟩,
    .row ⟨(some 90),none,.fieldAddr 1 (.t 89)⟩,
    .stage [⟨(some 75),none,.load1 (.t 2)⟩],
    .row ⟨none,none,.store 1 (.t 90) (.t 88)⟩])
   (.seq
    (.ops [
    .row ⟨(some 91),none,.load1 (.t 2)⟩,
    .row ⟨(some 92),none,.nilCheck (.t 91)⟩,
    .row ⟨(some 93),none,.fieldAddr 0 (.t 92)⟩,
    .row ⟨(some 94),none,.load1 (.t 93)⟩,
    .row ⟨(some 95),none,.load1 (.t 2)⟩,
    .row ⟨(some 96),none,.nilCheck (.t 95)⟩,
    .row ⟨(some 97),none,.fieldAddr 1 (.t 96)⟩,
    .row ⟨(some 98),none,.load1 (.t 97)⟩,
    .stage [⟨(some 98),none,.load1 (.t 97)⟩,⟨(some 95),none,.load1 (.t 2)⟩,⟨(some 94),none,.load1 (.t 93)⟩,⟨(some 91),none,.load1 (.t 2)⟩],
    .row ⟨(some 99),none,.callV (.c (.func (.func R6) [] [])) [(.t 94),(.t 98)]⟩,
    .row ⟨(some 4),none,.move (.t 99)⟩])
    .ret))
theorem r04:c0Q=.seq q0p (.seq q0q (.seq q0r (.seq i0j n0h))):=rfl
structure Mid (B t:Nat) (h:AH) (md hd bm:Nat) (lv:AV) (xs:List Rh) (floor:Int) (g:AH) (lv1:AV) (xs1:List Rh) (newest keep:Int):Prop where
 head:HeadOk B t g hd lv1 xs1
 cell:g.get md=some (.cells (b05 hd floor newest keep) false)
 bmc:g.get bm=some (.cells [.ptr md 0] false)
 mlt:md<g.next
 blt:bm<g.next
 no:O5 hd lv1 xs1 md
 nob:O5 hd lv1 xs1 bm
 mB:md<B
 bme:bm≠md
 nr:-9223372036854775808≤newest∧newest≤9223372036854775807
 kr:keep≤4611686018427387904
 next:h.next≤g.next
 df:∀ i,i<h.next→i≠md→O5 hd lv xs i→g.get i=h.get i∧O5 hd lv1 xs1 i
theorem l0D {floor newest keep:Int} {h:AH} (hk:keep≤4611686018427387904) (hn:-9223372036854775808≤newest∧newest≤9223372036854775807) (K:AV→AH→Prop) :
  Ev P SF (.fn Z6) [.int .i64 floor,.int .i64 newest,.int .i64 keep] h K=K (.int .i64 (d0n floor newest keep)) h :=
 Ev.eq (Ev.up a05 (by rw [n0Y hk hn];exact ⟨rfl,rfl⟩)) K
theorem h00 {B t:Nat} {h g:AH} {md hd bm:Nat} {lv lv1:AV} {xs xs1:List Rh} {floor newest keep:Int} {σ:Sg} (e2:σ 2=.ptr bm 0) (hB:B≤h.next) (ht:t≤2 ^ 22) (M:Mid B t h md hd bm lv xs floor g lv1 xs1 newest keep) :
  wpC P SF n0h (q0w P SF [.tmp 4] (DoK B t h md hd lv xs floor)) σ [] g:=by
 have lb:load1 g bm 0=.ok (.ptr md 0):=by rw [c9 M.bmc];rfl
 have l0:load1 g md 0=.ok (.ptr hd 0):=by rw [c9 M.cell];rfl
 have l1:load1 g md 1=.ok (.int .i64 floor):=by rw [c9 M.cell];rfl
 have l2:load1 g md 2=.ok (.int .i64 newest):=by rw [c9 M.cell];rfl
 have l3:load1 g md 3=.ok (.int .i64 keep):=by rw [c9 M.cell];rfl
 obtain ⟨F,hF⟩:∃ F,F=d0n floor newest keep:=⟨_,rfl⟩
 have st:v7 g md 1 [.int .i64 F]=.ok (g.set md (.cells (b05 hd F newest keep) false)):=by rw [A8 M.cell (by simp [b05]) rfl];rfl
 obtain ⟨g1,hg1⟩:∃ g1,g1=g.set md (.cells (b05 hd F newest keep) false):=⟨_,rfl⟩
 rw [← hg1] at st
 have c1:g1.get md=some (.cells (b05 hd F newest keep) false):=by rw [hg1];exact d9 _ _
 have o1:∀ i,i≠md→g1.get i=g.get i:=fun i e=>by rw [hg1];exact a6 e
 have n1:g1.next=g.next:=by rw [hg1];rfl
 have lb':load1 g1 bm 0=.ok (.ptr md 0):=by rw [c9 (by rw [o1 bm M.bme];exact M.bmc)];rfl
 have l0':load1 g1 md 0=.ok (.ptr hd 0):=by rw [c9 c1];rfl
 have l1':load1 g1 md 1=.ok (.int .i64 F):=by rw [c9 c1];rfl
 have H1:HeadOk B t g1 hd lv1 xs1:=by rw [hg1];exact M.head.setm M.mB M.no.1
 simp [n0h,e2,lb,l0,l1,l2,l3,l0D M.kr M.nr,← hF,st,lb',l0',l1']
 refine (n0Z H1 (by have:=M.next;omega) ht).mono ?_
 rintro r g2 ⟨rfl,lv2,xs2,nf,H2,hlow⟩
 have hno1:O5 hd lv1 xs1 md:=M.no
 obtain ⟨e1,no2⟩:=nf.2 md (by rw [n1];exact M.mlt) hno1
 have K:DoK B t h md hd lv xs floor (.int .i64 0) g2:=by
  refine ⟨0,lv2,xs2,F,newest,keep,rfl,⟨H2,by rw [e1];exact c1,by have:=nf.1;have:=M.mlt;omega,no2,M.mB,M.nr,M.kr,fun x' hx' s hs=>?_⟩,by rw [hF];exact p0I _ _ _,fun h=>absurd rfl h,by have:=nf.1;have:=M.next;omega,fun i hi hm hn=>?_⟩
  ·obtain ⟨x,_,hx⟩:=hlow x' hx'
   exact (hx s hs).2
  ·obtain ⟨q1,q2⟩:=M.df i hi hm hn
   obtain ⟨q3,q4⟩:=nf.2 i (by have:=M.next;omega) q2
   exact ⟨by rw [q3,o1 i hm,q1],q4⟩
 simp
 exact K
theorem n0i {h:AH} {rv mv:AV} {lo hi keep:Int} (hm:MsOk h mv):Ev P SI (.fn J5) [.agg (opC 2 rv mv lo hi keep)] h (BK h):=by
 refine j9 b0q rfl rfl ?_
 obtain ⟨g1,hg1⟩:∃ g1,g1=h.push (.cells [.int .i64 2,rv,mv,.int .i64 lo,.int .i64 hi,.int .i64 keep] false):=⟨_,rfl⟩
 have f1:Fr h g1:=by rw [hg1];exact Fr.push (.refl h) _
 have c1:g1.get h.next=some (.cells [.int .i64 2,rv,mv,.int .i64 lo,.int .i64 hi,.int .i64 keep] false):=by rw [hg1];exact b9 _
 have l0:load1 g1 h.next 0=.ok (.int .i64 2):=by rw [c9 c1];rfl
 have l2:load1 g1 h.next 2=.ok mv:=by rw [c9 c1];rfl
 simp only [opC]
 simp [L6,B7,← hg1,l0,l2]
 refine (k0j (hm.fr f1)).mono ?_
 rintro r g ⟨⟨b,rfl⟩,f⟩
 simp
 exact ⟨⟨_,rfl⟩,f1.trans f⟩
def v0d (h:AH) (kind kp:Int) (r:AV) (g:AH):Prop:=(∃ b,r=.bool b∧(b=true→kind=3→kp≤4611686018427387904))∧Fr h g
theorem t0G {h:AH} {n:Nat} {rv mv:AV} {rs:List Rr} {kind lo hi keep:Int} (s:Sl h 3 n rv (rs.flatMap rrC)) (hn:n<2 ^ 62) (hx:∀ x ∈ rs,RrIn h x) (hm:MsOk h mv):Ev P SI (.fn J5) [.agg (opC kind rv mv lo hi keep)] h (v0d h kind keep):=by
 by_cases k1:kind=1
 ·subst k1
  refine (o0e s hn hx).mono ?_
  rintro r g ⟨rfl,f⟩
  exact ⟨⟨_,rfl,fun _ h=>by omega⟩,f⟩
 ·by_cases k2:kind=2
  ·subst k2
   refine (n0i hm).mono ?_
   rintro r g ⟨⟨b,rfl⟩,f⟩
   exact ⟨⟨_,rfl,fun _ h=>by omega⟩,f⟩
  ·by_cases k3:kind=3
   ·subst k3
    refine can_keep.mono ?_
    rintro r g ⟨rfl,f⟩
    refine ⟨⟨_,rfl,fun h _=>?_⟩,f⟩
    simp only [Bool.and_eq_true,decide_eq_true_eq] at h
    exact h.2
   ·refine (p01 k1 k2 k3).mono ?_
    rintro r g ⟨rfl,f⟩
    exact ⟨⟨_,rfl,fun h=>by cases h⟩,f⟩
theorem q0s {B t:Nat} {h:AH} {md hd n:Nat} {lv rv mv:AV} {xs:List Rh} {rs:List Rr} {floor newest keep kind lo hi kp:Int} (m:ModOk B t h md hd lv xs floor newest keep) (hB:B≤h.next) (ht:t≤2 ^ 19) (o:OpIn h hd lv xs md n rv mv rs) :
  Ev P SF (.fn a0q) [.ptr md 0,.agg (opC kind rv mv lo hi kp)] h (DoK B (t+30) h md hd lv xs floor):=by
 refine j9 h0f rfl rfl ?_
 obtain ⟨k,ms,sm,hk,hm⟩:=id o.ms
 have hrc:=o.rows.oneCell
 have hmc:=sm.oneCell
 obtain ⟨bm,hbm⟩:∃ bm,bm=h.next:=⟨_,rfl⟩
 obtain ⟨g1,hg1⟩:∃ g1,g1=h.push (.cells [.ptr md 0] false):=⟨_,rfl⟩
 have f1:Fr h g1:=by rw [hg1];exact Fr.push (.refl h) _
 have n1:g1.next=h.next+1:=by rw [hg1];rfl
 obtain ⟨bo,hbo⟩:∃ bo,bo=g1.next:=⟨_,rfl⟩
 obtain ⟨g2,hg2⟩:∃ g2,g2=g1.push (.cells (opC kind rv mv lo hi kp) false):=⟨_,rfl⟩
 have f2:Fr g1 g2:=by rw [hg2];exact Fr.push (.refl g1) _
 have n2:g2.next=g1.next+1:=by rw [hg2];rfl
 have f02:=f1.trans f2
 have cb:g2.get bm=some (.cells [.ptr md 0] false):=by rw [f2.get _ (by omega),hg1,hbm];exact b9 _
 have co:g2.get bo=some (.cells (opC kind rv mv lo hi kp) false):=by rw [hg2,hbo];exact b9 _
 have m2:=m.fr f02
 have lb:load1 g2 bm 0=.ok (.ptr md 0):=by rw [c9 cb];rfl
 have lo6:loadN g2 bo 0 6=.ok (opC kind rv mv lo hi kp):=E1 co rfl
 simp only [r04,e0G]
 simp only [opC] at hg2 co lo6
 simp [q0p,q0q,B7,opC,← hg1,← hg2,← hbm,← hbo]
 have erK:∀ (e:Int) (g:AH),e≠0→Fr h g→DoK B (t+30) h md hd lv xs floor (.int .i64 e) g:=fun e g he f =>
  ⟨e,lv,xs,floor,newest,keep,rfl,(m.fr f).le (by omega),Int.le_refl _,fun _=>rfl,f.next,fun i hi _ hn=>⟨f.get i hi,hn⟩⟩
 have hnoneF:∀ K:AV→AH→Prop,Ev P SF (.fn D1) [.ptr md 0] g2 K=K (.bool false) g2:=fun K=>Ev.eq (Ev.up a05 (by rw [f0A m2.cell];exact ⟨rfl,rfl⟩)) K
 have hcan:Ev P SF (.fn J5) [.agg [.int .i64 kind,rv,mv,.int .i64 lo,.int .i64 hi,.int .i64 kp]] g2 (v0d g2 kind kp) :=
  Ev.up a05 (t0G (o.rows.fr f02) (by have:=o.few;omega) (fun x hx=>(o.row x hx).fr f02) (MsOk.fr ⟨k,ms,sm,hk,hm⟩ f02))
 simp [q0r,lb,hnoneF,lo6]
 refine hcan.mono ?_
 rintro r g3 ⟨⟨b,rfl,hkp⟩,f3⟩
 have f03:=f02.trans f3
 cases b with
 | false =>
  simp
  exact erK 1 g3 (by omega) f03
 | true =>
  have cb3:g3.get bm=some (.cells [.ptr md 0] false):=by rw [f3.get _ (by omega)];exact cb
  have co3:g3.get bo=some (.cells [.int .i64 kind,rv,mv,.int .i64 lo,.int .i64 hi,.int .i64 kp] false):=by rw [f3.get _ (by omega)];exact co
  have hmd:=m.mlt
  have hhd:=m.head.hlt
  have hlvl:∀ i,j5 lv=some i→i<h.next:=fun i e=>Sl.idLt m.head.list.sl e
  have nob:O5 hd lv xs bm:=⟨by omega,fun e=>by have:=hlvl _ e;omega,fun x hx e=>by have:=(m.head.rows x hx).mlt;omega⟩
  have nobo:O5 hd lv xs bo:=⟨by omega,fun e=>by have:=hlvl _ e;omega,fun x hx e=>by have:=(m.head.rows x hx).mlt;omega⟩
  have mid:∀ g,Fr h g→bm<g.next→g.get bm=some (.cells [.ptr md 0] false)→Mid B (t+30) h md hd bm lv xs floor g lv xs newest keep:=fun g f hb c =>
   ⟨(m.head.fr f).le (by omega),by rw [f.get _ hmd];exact m.cell,c,Nat.lt_of_lt_of_le hmd f.next,hb,m.no,nob,m.mB,by omega,m.nr,m.kr,f.next,fun i hi _ hn=>⟨f.get i hi,hn⟩⟩
  have hf3:=f3.next
  have M3:=mid g3 f03 (by omega) cb3
  have k0:load1 g3 bo 0=.ok (.int .i64 kind):=by rw [c9 co3];rfl
  have k1:load1 g3 bo 1=.ok rv:=by rw [c9 co3];rfl
  have kb:load1 g3 bm 0=.ok (.ptr md 0):=by rw [c9 cb3];rfl
  by_cases hk1:kind=1
  ·subst hk1
   simp [k0,k1]
   have hold:Ev P SI (.fn i8) [rv,.func (.func K9) [] [.ptr bm 0]] g3 (BK g3) :=
    l03 (caps:=[.ptr bm 0]) (fun x g _ f=>v0B (h:=g) (by rw [f.get _ M3.mlt];exact M3.cell) (by rw [f.get _ M3.blt];exact cb3) (Nat.lt_of_lt_of_le M3.mlt f.next) (Nat.lt_of_lt_of_le M3.blt f.next) x) (o.rows.fr f03) (by have:=o.few;omega)
   refine (Ev.up a05 hold).mono ?_
   rintro r g4 ⟨⟨b,rfl⟩,f4⟩
   have f04:=f03.trans f4
   have hf4:=f4.next
   cases b with
   | true =>
    simp
    exact erK 220 g4 (by omega) f04
   | false =>
    have cb4:g4.get bm=some (.cells [.ptr md 0] false):=by rw [f4.get _ M3.blt];exact cb3
    have co4:g4.get bo=some (.cells [.int .i64 1,rv,mv,.int .i64 lo,.int .i64 hi,.int .i64 kp] false):=by rw [f4.get _ (by omega)];exact co3
    have M4:=mid g4 f04 (by omega) cb4
    have q0:load1 g4 bo 0=.ok (.int .i64 1):=by rw [c9 co4];rfl
    have q1:load1 g4 bo 1=.ok rv:=by rw [c9 co4];rfl
    have qb:load1 g4 bm 0=.ok (.ptr md 0):=by rw [c9 cb4];rfl
    have q2:load1 g4 md 0=.ok (.ptr hd 0):=by rw [c9 M4.cell];rfl
    have hsame:=o.rows.same
    have hrl:rs.length=n:=by have:=o.rows.1;rw [g0U] at this;omega
    have hfew:=o.few
    simp [i0j,q0,q1,qb,q2,hsame]
    refine (Ev.up a05 (o0T (m.head.fr f04) (by omega) (by omega) (o.rows.fr f04) (by omega) (fun x hx=>(o.row x hx).fr f04) o.rno o.lno)).mono ?_
    rintro r g5 ⟨⟨e,rfl⟩,lv5,xs5,nf,H5⟩
    have hn5:=nf.1
    obtain ⟨e5,no5⟩:=nf.2 md M4.mlt m.no
    obtain ⟨e5b,no5b⟩:=nf.2 bm M4.blt nob
    obtain ⟨e5o,no5o⟩:=nf.2 bo (by omega) nobo
    have M5:Mid B (t+30) h md hd bm lv xs floor g5 lv5 xs5 newest keep:=⟨H5.le (by omega),by rw [e5];exact M4.cell,by rw [e5b];exact cb4,by have:=M4.mlt;omega,by have:=M4.blt;omega,no5,no5b,m.mB,by omega,m.nr,m.kr,by omega,fun i hi hm hn=>by
     obtain ⟨r1,r2⟩:=nf.2 i (by omega) hn
     exact ⟨by rw [r1];exact f04.get i hi,r2⟩⟩
    have co5:g5.get bo=some (.cells [.int .i64 1,rv,mv,.int .i64 lo,.int .i64 hi,.int .i64 kp] false):=by rw [e5o];exact co4
    have p1:load1 g5 bo 1=.ok rv:=by rw [c9 co5];rfl
    have s5:Sl g5 3 n rv (rs.flatMap rrC):=Sl.nf (o.rows.fr f04) nf o.rno
    simp [p1,s5.len]
    refine J9 (n:=n) (by rfl) (fun j σ ds g=>ds=[]∧σ 2=.ptr bm 0∧σ 38=rv∧σ 39=.int .i64 (n:Int)∧Sl g 3 n rv (rs.flatMap rrC)∧∃ newest',Mid B (t+30) h md hd bm lv xs floor g lv5 xs5 newest' keep) (by omega) (by simp)
     ⟨rfl,by simp,by simp,by simp,s5,newest,M5⟩ (fun j σ ds g hJ=>by simp [hJ.2.2.2.1]) ?_ ?_
    ·rintro j σ ds g hj hi ⟨rfl,i2,i38,i39,s,nw,M⟩
     obtain ⟨x,hxj⟩:=C6 (l:=rs) (j:=j) (by omega)
     have hxi:=o.row x (List.mem_of_getElem? hxj)
     obtain ⟨id,oo,r1,r2⟩:=l0U s hxj
     have stn:=K1 (h:=g) (n:=3) (z:=[.nils,.int .i64 0,.int .u64 0]) (l:=rrC x) rfl rfl (by simp [rrC,i5,hxi.lab.oneCell.2])
     obtain ⟨g6,hg6⟩:∃ g6,g6=g.push (.cells (rrC x) false):=⟨_,rfl⟩
     have f6:Fr g g6:=by rw [hg6];exact Fr.push (.refl g) _
     rw [← hg6] at stn
     have c6:g6.get g.next=some (.cells (rrC x) false):=by rw [hg6];exact b9 _
     have t1:load1 g6 g.next 1=.ok (.int .i64 x.2.2.1):=by rw [c9 c6];rfl
     have cm6:g6.get md=some (.cells (b05 hd floor nw keep) false):=by rw [f6.get _ M.mlt];exact M.cell
     have t2:load1 g6 md 2=.ok (.int .i64 nw):=by rw [c9 cm6];rfl
     have tb:load1 g6 bm 0=.ok (.ptr md 0):=by rw [c9 (by rw [f6.get _ M.blt];exact M.bmc)];rfl
     obtain ⟨N,hN⟩:∃ N,N=max nw x.2.2.1:=⟨_,rfl⟩
     have st:v7 g6 md 2 [.int .i64 N]=.ok (g6.set md (.cells (b05 hd floor N keep) false)):=by rw [A8 cm6 (by simp [b05]) rfl];rfl
     obtain ⟨g7,hg7⟩:∃ g7,g7=g6.set md (.cells (b05 hd floor N keep) false):=⟨_,rfl⟩
     have o7:∀ i,i≠md→g7.get i=g6.get i:=fun i e=>by rw [hg7];exact a6 e
     rw [← hg7] at st
     have hn7:g7.next=g6.next:=by rw [hg7];rfl
     have hf6:=f6.next
     have M7:Mid B (t+30) h md hd bm lv xs floor g7 lv5 xs5 N keep:=⟨by rw [hg7];exact (M.head.fr f6).setm M.mB M.no.1,by rw [hg7];exact d9 _ _,by rw [o7 bm M.bme,f6.get _ M.blt];exact M.bmc,by have:=M.mlt;omega,by have:=M.blt;omega,M.no,M.nob,M.mB,M.bme,by
      have h1:=M.nr;have h2:=hxi.rg;rw [hN];omega,M.kr,by have:=M.next;omega,fun i hi hm hn=>by
      obtain ⟨u1,u2⟩:=M.df i hi hm hn
      exact ⟨by rw [o7 i hm,f6.get i (by have:=M.next;omega),u1],u2⟩⟩
     have s7:Sl g7 3 n rv (rs.flatMap rrC):=J1 (s.fr f6) (by omega) fun i e=>o7 i fun e'=>o.rmd (by rw [← e'];exact e)
     simp [i2,i38,i39,hi,r1,r2,A5,stn,t1,t2,tb,← hN,st]
     exact ⟨s7,N,M7⟩
    ·rintro σ ds g ⟨rfl,i2,i38,i39,s,nw,M⟩
     simp
     exact h00 i2 hB (by omega) M
  ·have kmd0:load1 g3 md 0=.ok (.ptr hd 0):=by rw [c9 M3.cell];rfl
   have k2:load1 g3 bo 2=.ok mv:=by rw [c9 co3];rfl
   have k3:load1 g3 bo 3=.ok (.int .i64 lo):=by rw [c9 co3];rfl
   have k4:load1 g3 bo 4=.ok (.int .i64 hi):=by rw [c9 co3];rfl
   have k5:load1 g3 bo 5=.ok (.int .i64 kp):=by rw [c9 co3];rfl
   have hms:=sm.same
   by_cases hk2:kind=2
   ·subst hk2
    simp [k0,i0j,kb,kmd0,k2,k3,k4,hms]
    refine (m0H (m.head.fr f03) (by have:=f03.next;omega) (by omega) ⟨k,ms,sm.fr f03,hk,hm⟩).mono ?_
    rintro r g5 ⟨⟨e,rfl⟩,lv5,xs5,nf,H5,_⟩
    have hn5:=nf.1
    obtain ⟨e5,no5⟩:=nf.2 md M3.mlt m.no
    obtain ⟨e5b,no5b⟩:=nf.2 bm M3.blt nob
    have M5:Mid B (t+30) h md hd bm lv xs floor g5 lv5 xs5 newest keep:=⟨H5.le (by omega),by rw [e5];exact M3.cell,by rw [e5b];exact cb3,by have:=M3.mlt;omega,by have:=M3.blt;omega,no5,no5b,m.mB,by omega,m.nr,m.kr,by have:=f03.next;omega,fun i hi hm hn=>by
     obtain ⟨r1,r2⟩:=nf.2 i (by have:=f03.next;omega) hn
     exact ⟨by rw [r1];exact f03.get i hi,r2⟩⟩
    simp
    exact h00 (by simp) hB (by omega) M5
   ·by_cases hk3:kind=3
    ·subst hk3
     have st:v7 g3 md 3 [.int .i64 kp]=.ok (g3.set md (.cells (b05 hd floor newest kp) false)):=by rw [A8 M3.cell (by simp [b05]) rfl];rfl
     have M5:Mid B (t+30) h md hd bm lv xs floor (g3.set md (.cells (b05 hd floor newest kp) false)) lv xs newest kp:=⟨M3.head.setm M3.mB M3.no.1,d9 _ _,by rw [a6 M3.bme];exact cb3,M3.mlt,M3.blt,M3.no,M3.nob,M3.mB,M3.bme,M3.nr,hkp rfl rfl,M3.next,fun i hi hm hn=>by
      rw [a6 hm];exact M3.df i hi hm hn⟩
     simp [k0,i0j,kb,k5,st]
     exact h00 (by simp) hB (by omega) M5
    ·simp [k0,hk1,hk2,hk3,i0j]
     exact h00 (by simp) hB (by omega) M3
end Go.Dk

namespace Go.Dk
open Go Go.Dr
set_option maxRecDepth 100000
structure Opd where
 kind:Int
 rv:AV
 rs:List Rr
 mv:AV
 ms:List Mc
 lo:Int
 hi:Int
 kp:Int
def opL (o:Opd):List AV:=opC o.kind o.rv o.mv o.lo o.hi o.kp
theorem s0U (o:Opd):(opL o).length=6:=rfl
structure OpOk (h:AH) (o:Opd):Prop where
 rows:Sl h 3 o.rs.length o.rv (o.rs.flatMap rrC)
 row:∀ x ∈ o.rs,RrIn h x
 ms:Sl h 3 o.ms.length o.mv (o.ms.flatMap maC)
 len:o.ms.length<2 ^ 62
 ok:∀ m ∈ o.ms,l0O m
def Low (h0 g:AH):Prop:=h0.next≤g.next∧∀ i,i<h0.next→g.get i=h0.get i
theorem Low.sl {h0 g:AH} {es n:Nat} {v:AV} {l:List AV} (a:Low h0 g) (s:Sl h0 es n v l):Sl g es n v l:=J1 s a.1 fun i e=>a.2 i (Sl.idLt s e)
theorem Low.op {h0 g:AH} {o:Opd} (a:Low h0 g) (s:OpOk h0 o):OpOk g o :=
 ⟨a.sl s.rows,fun x hx=>⟨a.sl (s.row x hx).lab,(s.row x hx).short,(s.row x hx).rg,(s.row x hx).len⟩,a.sl s.ms,s.len,s.ok⟩
theorem d0r {h:AH} {md hd:Nat} {floor newest keep:Int} {ro:Bool} (hc:h.get md=some (.cells (b05 hd floor newest keep) ro)) (K:AV→AH→Prop):Ev P SF (.fn I6) [.ptr md 0] h K=K (.int .i64 floor) h :=
 Ev.eq (Ev.up a05 (by rw [m0D hc];exact ⟨rfl,rfl⟩)) K
theorem k0C (h:AH) (K:AV→AH→Prop):Ev P SF (.fn G2) [] h K=K (.bool true) h :=
 Ev.eq (Ev.up a05 (by rw [o0d];exact ⟨rfl,rfl⟩)) K
theorem u0B {B t:Nat} {h:AH} {xs:List Rh} {lo floor:Int} (hx:∀ x ∈ xs,RowOk B t h x) (hlow:∀ x ∈ xs,∀ s ∈ x.zs,floor≤s.1) {y:Pt2} (hy:y ∈ (xs.map (e0i lo floor)).filter j0P):∃ v,y.2=[(floor,v)]:=by
 obtain ⟨h1,h2⟩:=List.mem_filter.1 hy
 obtain ⟨x,hxm,rfl⟩:=List.mem_map.1 h1
 have hp:(Z8 (x.zs.filter (inS lo floor))).length≠0:=by simpa [j0P,e0i] using h2
 rw [i0L] at hp
 have hall:∀ z ∈ x.zs.filter (inS lo floor),z.1=floor:=fun z hz=>by
  obtain ⟨a,b⟩:=List.mem_filter.1 hz
  have:=hlow x hxm z a
  have hb:z.1≤floor:=by
   simp only [inS,Bool.and_eq_true,decide_eq_true_eq] at b
   exact b.2
  omega
 have hnd:((x.zs.filter (inS lo floor)).map (·.1)).Nodup:=(List.filter_sublist.map _).nodup (hx x hxm).nd
 have hperm:=e0y (x.zs.filter (inS lo floor))
 show ∃ v,Z8 (x.zs.filter (inS lo floor))=[(floor,v)]
 cases hz:x.zs.filter (inS lo floor) with
 | nil=>rw [hz] at hp;exact absurd rfl hp
 | cons a l =>
  rw [hz] at hall hnd
  cases l with
  | nil =>
   have ha:=hall a List.mem_cons_self
   refine ⟨a.2,?_⟩
   rw [m0k]
   rw [← ha]
  | cons b l =>
   have ha:=hall a List.mem_cons_self
   have hb:=hall b (List.mem_cons_of_mem _ List.mem_cons_self)
   simp only [List.map_cons,List.nodup_cons,List.mem_cons] at hnd
   exact absurd (.inl (by rw [ha,hb])) hnd.1
def x0d (h0:AH) (lv0:AV) (n hd md:Nat) (j:Nat) (σ:Sg) (ds:List ADef) (g:AH):Prop :=
 j≤26∧ds=[]∧σ 3=.ptr md 0∧σ 16=lv0∧σ 17=.int .i64 (n:Int)∧∃ (lvh:AV) (xs:List Rh) (floor newest keep:Int),σ 4=.int .i64 floor∧ModOk (h0.next+2) (30*j) g md hd lvh xs floor newest keep ∧
  h0.next+2≤g.next∧∀ i,i<h0.next→g.get i=h0.get i∧O5 hd lvh xs i
theorem h0Z {h:AH} {n:Nat} {lv:AV} {os:List Opd} (s:Sl h 6 n lv (os.flatMap opL)) (hn:n<2 ^ 62) (ho:∀ o ∈ os,OpOk h o):Ev P SF (.fn U1) [lv] h fun r _=>r=.bool true:=by
 refine j9 e0S rfl rfl ?_
 have hl:os.length=n:=by have:=s.1;rw [K0 os (es:=6) (fun _ _=>rfl)] at this;omega
 obtain ⟨hd,hhd⟩:∃ hd,hd=h.next:=⟨_,rfl⟩
 obtain ⟨md,hmd⟩:∃ md,md=h.next+1:=⟨_,rfl⟩
 obtain ⟨g1,hg1⟩:∃ g1,g1=h.push (.cells [.bool true,.nils] false):=⟨_,rfl⟩
 have f1:Fr h g1:=by rw [hg1];exact Fr.push (.refl h) _
 have n1:g1.next=h.next+1:=by rw [hg1];rfl
 obtain ⟨g2,hg2⟩:∃ g2,g2=g1.push (.cells (b05 hd (-9223372036854775808) (-9223372036854775808) 0) false):=⟨_,rfl⟩
 have f2:Fr g1 g2:=by rw [hg2];exact Fr.push (.refl g1) _
 have n2:g2.next=g1.next+1:=by rw [hg2];rfl
 have ch:g2.get hd=some (.cells [.bool true,.nils] false):=by rw [f2.get _ (by omega),hg1,hhd];exact b9 _
 have cm:g2.get md=some (.cells (b05 hd (-9223372036854775808) (-9223372036854775808) 0) false):=by rw [hg2,hmd,← n1];exact b9 _
 have hnew:∀ K:AV→AH→Prop,Ev P SF (.fn c0g) [] h K=K (.ptr md 0) g2:=fun K=>by
  rw [hmd,hg2,hg1,hhd]
  exact Ev.eq (Ev.up a05 (by rw [p0H];exact ⟨rfl,rfl⟩)) K
 have M0:ModOk (h.next+2) 0 g2 md hd .nils [] (-9223372036854775808) (-9223372036854775808) 0:=⟨⟨by omega,ch,.inl ⟨rfl,rfl⟩,fun x hx=>(by cases hx),fun x hx=>(by cases hx),List.nodup_nil,List.Pairwise.nil,Nat.zero_le _⟩,cm,by omega,⟨by omega,fun e=>(by cases e),fun x hx=>(by cases hx)⟩,by omega,by omega,by omega,fun x hx=>(by cases hx)⟩
 simp [b0b,hnew,d0r cm,s.len]
 refine J9 (n:=n) (by rfl) (x0d h lv n hd md) (by omega) (by simp)
  ⟨by omega,rfl,by simp,by simp,by simp,.nils,[],_,_,_,by simp,M0,by omega,fun i hi=>⟨by rw [f2.get i (by omega),f1.get i hi],by omega,fun e=>(by cases e),fun x hx=>(by cases hx)⟩⟩
  (fun j σ ds g hJ=>by obtain ⟨_,_,_,_,h17,_⟩:=hJ;simp [h17]) ?_ ?_
 ·rintro j σ ds g hj hi ⟨hj26,rfl,i3,i16,i17,lvh,xs,floor,newest,keep,i4,M,hgn,hlow⟩
  have low:Low h g:=⟨by omega,fun i hi=>(hlow i hi).1⟩
  obtain ⟨o,hoj⟩:=C6 (l:=os) (j:=j) (by omega)
  have hom:=List.mem_of_getElem? hoj
  obtain ⟨id,oo,q1,q2,_⟩:=(low.sl s).elem (fun y _=>s0U y) (by omega) (k:=.i64) (i:=(j:Int)) rfl hoj
  have O:=low.op (ho o hom)
  have stn:=K1 (h:=g) (n:=6) (z:=[.int .i64 0,.nils,.nils,.int .i64 0,.int .i64 0,.int .i64 0]) (l:=opL o) rfl rfl (by simp [opL,opC,i5,O.rows.oneCell.2,O.ms.oneCell.2])
  obtain ⟨g3,hg3⟩:∃ g3,g3=g.push (.cells (opL o) false):=⟨_,rfl⟩
  have f3:Fr g g3:=by rw [hg3];exact Fr.push (.refl g) _
  rw [← hg3] at stn
  have c3:g3.get g.next=some (.cells (opL o) false):=by rw [hg3];exact b9 _
  have l3:loadN g3 g.next 0 6=.ok (opL o):=E1 c3 rfl
  by_cases h25:(25:Int)<(j:Int)
  ·simp [i3,i16,i17,hi,q1,q2,A5,stn,h25]
   simp [k0C]
  ·simp [i3,i16,i17,hi,q1,q2,A5,stn,h25,l3]
   have C:=o0Q (h:=g3) (kind:=o.kind) (lo:=o.lo) (hi:=o.hi) (keep:=o.kp) (O.rows.fr f3) O.ms.oneCell
   refine (Ev.up a05 C).mono ?_
   rintro r g4 ⟨f4,u,rfl,su,hid⟩
   have f34:=f3.trans f4
   have hn34:=f34.next
   have hop:=ho o hom
   have hnv:∀ v,(∀ i,j5 v=some i→i<h.next)→NoV hd lvh xs v:=fun v hv i e=>(hlow i (hv i e)).2
   have oi:OpIn g4 hd lvh xs md (min o.rs.length 15) u o.mv (o.rs.take (min o.rs.length 15)) :=
    ⟨su.fr f4,by omega,fun x hx=>(O.row x (List.mem_of_mem_take hx)).fr f34,hnv u fun i e=>Sl.idLt hop.rows (by rw [← hid];exact e),
     fun x hx=>hnv x.1 fun i e=>Sl.idLt (hop.row x (List.mem_of_mem_take hx)).lab e,fun e=>by have:=Sl.idLt hop.rows (by rw [← hid];exact e);omega,_,o.ms,O.ms.fr f34,O.len,O.ok⟩
   have D:=q0s (kind:=o.kind) (lo:=o.lo) (hi:=o.hi) (kp:=o.kp) (M.fr f34) (by omega) (by omega) oi
   simp [i3]
   refine D.mono ?_
   rintro r g5 ⟨e,lv5,xs5,floor5,newest5,keep5,rfl,M5,hle,heq,hn5,df5⟩
   have hlt:¬ floor5<floor:=by omega
   have S5:=k0G (lo:=-9223372036854775808) (hi:=floor5) M5.cell M5.head (by omega)
   have hlow5:∀ i,i<h.next→g5.get i=h.get i∧O5 hd lv5 xs5 i:=fun i hi=>by
    obtain ⟨q1,q2⟩:=hlow i hi
    obtain ⟨r1,r2⟩:=df5 i (by omega) (by omega) q2
    exact ⟨by rw [r1,f34.get i (by omega),q1],r2⟩
   have hys:∀ ys:List Sj,ys.map plJ=(xs5.map (e0i (-9223372036854775808) floor5)).filter j0P→ys.length<2 ^ 62∧∀ y ∈ ys,∃ w,y.2.2=[(floor5,w)]:=fun ys hpl=>by
    refine ⟨?_,fun y hy=>?_⟩
    ·have h1:=congrArg List.length hpl
     have h2:=List.length_filter_le j0P (xs5.map (e0i (-9223372036854775808) floor5))
     have h3:=M5.head.cnt
     simp only [List.length_map] at h1 h2
     omega
    ·have h1:plJ y ∈ ys.map plJ:=List.mem_map_of_mem hy
     rw [hpl] at h1
     exact u0B M5.head.rows M5.low h1
   by_cases he:e=0
   all_goals first
    | (subst he;simp [i3,i4,d0r M5.cell,hlt])
    | (have heq':=heq he;subst heq';simp [i3,i4,d0r M5.cell,hlt,he])
   all_goals
    refine (Ev.up a05 S5).mono ?_
    rintro r g6 ⟨v,rfl,f6,ys,ow,hpl,hsj⟩
    obtain ⟨hyl,hy1⟩:=hys ys hpl
    have hn6:=f6.next
    simp [ow.sl.len,i16,i17,hi]
    refine J9 (n:=ys.length) (by rfl) (fun k σ' ds g7=>ds=[]∧σ' 3=.ptr md 0∧σ' 16=lv∧σ' 17=.int .i64 (n:Int)∧σ' 18=.int .i64 (j:Int)∧σ' 4=.int .i64 floor5∧σ' 8=.int .i64 floor5∧σ' 10=.int .i64 0∧σ' 50=v∧σ' 51=.int .i64 (ys.length:Int)∧Fr g6 g7) (by omega) (by simp)
     ⟨rfl,by simp [i3],by simp [i16],by simp [i17],by simp [hi],by simp,by simp,by simp,by simp,by simp,.refl _⟩ (fun k σ' ds g7 hJ=>by simp [hJ.2.2.2.2.2.2.2.2.2.1]) ?_ ?_
    ·rintro k σ' ds g7 hk hk1 ⟨rfl,j3,j16,j17,j18,j4,j8,j10,j50,j51,f7⟩
     obtain ⟨y,hyk⟩:=C6 (l:=ys) (j:=k) hk
     obtain ⟨w,hw⟩:=hy1 y (List.mem_of_getElem? hyk)
     have sy:=(hsj y (List.mem_of_getElem? hyk)).fr f7
     obtain ⟨iy,oy,r1,r2,_⟩:=v0A (ow.sl.fr f7) hyk
     have stn:=K1 (h:=g7) (n:=2) (z:=[.nils,.nils]) (l:=sjC y) rfl rfl (by simp [sjC,i5,sy.lab.oneCell.2,sy.smp.oneCell.2])
     obtain ⟨g8,hg8⟩:∃ g8,g8=g7.push (.cells (sjC y) false):=⟨_,rfl⟩
     have f8:Fr g7 g8:=by rw [hg8];exact Fr.push (.refl g7) _
     rw [← hg8] at stn
     have c8:g8.get g7.next=some (.cells (sjC y) false):=by rw [hg8];exact b9 _
     have t1:load1 g8 g7.next 1=.ok y.2.1:=by rw [c9 c8];rfl
     have ss:=sy.smp.fr f8
     have sl:y.2.2.length=1:=by rw [hw];rfl
     obtain ⟨is,os',u1,_,u2,_⟩:=v0E ss (j:=0) (show y.2.2[0]? = some (floor5,w) by rw [hw];rfl)
     have slen:=ss.len
     rw [sl] at slen
     simp at u1
     simp [j3,j16,j17,j18,j4,j8,j10,j50,j51,hk1,r1,r2,A5,stn,t1,slen,u1,u2]
     exact f7.trans f8
    ·rintro σ' ds g7 ⟨rfl,j3,j16,j17,j18,j4,j8,j10,j50,j51,f7⟩
     simp [j3,j16,j17,j18,j4,j10]
     refine ⟨by omega,rfl,by simp [j3],by simp [j16],by simp [j17],lv5,xs5,floor5,newest5,keep5,by simp [j4],?_,?_,?_⟩
     ·rw [show 30*(j+1)=30*j+30 by omega]
      exact M5.fr (f6.trans f7)
     ·have:=f7.next;omega
     ·intro i hi
      obtain ⟨q1,q2⟩:=hlow5 i hi
      exact ⟨by rw [f7.get i (by omega),f6.get i (by omega),q1],q2⟩
 ·rintro σ ds g ⟨hj26,rfl,_⟩
  simp [k0C]
end Go.Dk

namespace Go.Proofs
open Go.Shelf
def Tryz.lays169_ren:Go.Shelf.Ren:=⟨fun | 169=>127 | n=>n,fun | 70=>171 | 9=>9 | 0=>0 | 72=>173 | 37=>110 | 127=>189 | 3=>3 | 5=>5 | n=>n,fun | n=>n⟩
theorem Tryz.lays169:Go.Proofs.Lays.n169 Tryz.prog Tryz.lays169_ren:={
 mixed:=by kernel_rfl
 f169:=Tryz.func127.trans (congrArg some (by kernel_rfl))
 t0:=Tryz.underlying0
 a0:=Tryz.isAgg0
 z0:=Tryz.sizeOf0
 v0:=Tryz.zeroValue0
 t3:=Tryz.underlying3
 a3:=Tryz.isAgg3
 z3:=Tryz.sizeOf3
 v3:=Tryz.zeroValue3
 t9:=Tryz.underlying9
 a9:=Tryz.isAgg9
 z9:=Tryz.sizeOf9
 v9:=Tryz.zeroValue9
 t37:=Tryz.underlying110
 a37:=Tryz.isAgg110
 z37:=Tryz.sizeOf110
 v37:=Tryz.zeroValue110
 t70:=Tryz.underlying171
 a70:=Tryz.isAgg171
 z70:=Tryz.sizeOf171
 v70:=Tryz.zeroValue171
 t72:=Tryz.underlying173
 a72:=Tryz.isAgg173
 z72:=Tryz.sizeOf173
 v72:=Tryz.zeroValue173
 t127:=Tryz.underlying189
 a127:=Tryz.isAgg189
 z127:=Tryz.sizeOf189
 v127:=Tryz.zeroValue189 }
theorem Tryz.Builder_Extra_169:Builder.Extra Tryz.prog Tryz.lays169_ren:={
 sizeBuilder:=by kernel_rfl
 liesBuilder:=by kernel_rfl
 t5:=Tryz.underlying5
 a5:=Tryz.isAgg5
 z5:=Tryz.sizeOf5
 v5:=Tryz.zeroValue5
 infoByte:=by kernel_rfl
 cellsByte:=by kernel_rfl
 sizeByte:=by kernel_rfl
 neB5:=by decide }
open Go.RowKit in
theorem Tryz.Builder_String_any (B b:Nat) (l:List UInt8) (w:World) (h:Lib.IsBuilder 173 5 B b (Lib.byteCells l) w) (hBw:B≤w.heap.size) :
  Calls Tryz.prog 127 #[.pointer (some ⟨b,0,none⟩)] w fun e w'=>e=.returned (.string ⟨l.toArray⟩)∧Below B w w':=Any.Builder_String_any Tryz.lays169 Tryz.Builder_Extra_169 B b l w h hBw
def Tryz.lays165_ren:Go.Shelf.Ren:=⟨fun | 165=>123 | 240=>138 | 241=>139 | 276=>147 | 277=>148 | n=>n,fun | 70=>171 | 3=>3 | 0=>0 | 4=>4 | 9=>9 | 20=>20 | 72=>173 | 37=>110 | 164=>197 | 5=>5 | n=>n,fun | n=>n⟩
theorem Tryz.lays165:Go.Proofs.Lays.n165 Tryz.prog Tryz.lays165_ren:={
 mixed:=by kernel_rfl
 f165:=Tryz.func123.trans (congrArg some (by kernel_rfl))
 f240:=Tryz.func138.trans (congrArg some (by kernel_rfl))
 f241:=Tryz.func139.trans (congrArg some (by kernel_rfl))
 f276:=Tryz.func147.trans (congrArg some (by kernel_rfl))
 f277:=Tryz.func148.trans (congrArg some (by kernel_rfl))
 t0:=Tryz.underlying0
 a0:=Tryz.isAgg0
 z0:=Tryz.sizeOf0
 v0:=Tryz.zeroValue0
 t3:=Tryz.underlying3
 a3:=Tryz.isAgg3
 z3:=Tryz.sizeOf3
 v3:=Tryz.zeroValue3
 t4:=Tryz.underlying4
 a4:=Tryz.isAgg4
 z4:=Tryz.sizeOf4
 v4:=Tryz.zeroValue4
 t9:=Tryz.underlying9
 a9:=Tryz.isAgg9
 z9:=Tryz.sizeOf9
 v9:=Tryz.zeroValue9
 t20:=Tryz.underlying20
 a20:=Tryz.isAgg20
 z20:=Tryz.sizeOf20
 v20:=Tryz.zeroValue20
 t37:=Tryz.underlying110
 a37:=Tryz.isAgg110
 z37:=Tryz.sizeOf110
 v37:=Tryz.zeroValue110
 t70:=Tryz.underlying171
 a70:=Tryz.isAgg171
 z70:=Tryz.sizeOf171
 v70:=Tryz.zeroValue171
 t72:=Tryz.underlying173
 a72:=Tryz.isAgg173
 z72:=Tryz.sizeOf173
 v72:=Tryz.zeroValue173
 t164:=Tryz.underlying197
 a164:=Tryz.isAgg197
 z164:=Tryz.sizeOf197
 v164:=Tryz.zeroValue197 }
theorem Tryz.Builder_Extra_165:Builder.Extra Tryz.prog Tryz.lays165_ren:={
 sizeBuilder:=by kernel_rfl
 liesBuilder:=by kernel_rfl
 t5:=Tryz.underlying5
 a5:=Tryz.isAgg5
 z5:=Tryz.sizeOf5
 v5:=Tryz.zeroValue5
 infoByte:=by kernel_rfl
 cellsByte:=by kernel_rfl
 sizeByte:=by kernel_rfl
 neB5:=by decide }
def Tryz.lays137_ren:Go.Shelf.Ren:=⟨fun | 137=>149 | 217=>143 | 266=>151 | n=>n,fun | 9=>9 | 5=>5 | 3=>3 | n=>n,fun | n=>n⟩
theorem Tryz.lays137:Go.Proofs.Lays.n137 Tryz.prog Tryz.lays137_ren:={
 mixed:=by kernel_rfl
 f137:=Tryz.func149.trans (congrArg some (by kernel_rfl))
 f217:=Tryz.func143.trans (congrArg some (by kernel_rfl))
 f266:=Tryz.func151.trans (congrArg some (by kernel_rfl))
 t3:=Tryz.underlying3
 a3:=Tryz.isAgg3
 z3:=Tryz.sizeOf3
 v3:=Tryz.zeroValue3
 t5:=Tryz.underlying5
 a5:=Tryz.isAgg5
 z5:=Tryz.sizeOf5
 v5:=Tryz.zeroValue5
 t9:=Tryz.underlying9
 a9:=Tryz.isAgg9
 z9:=Tryz.sizeOf9
 v9:=Tryz.zeroValue9 }
open Go.RowKit in
theorem Tryz.strings_IndexByte (s:ByteArray) (c:Int) (w:World) :
  Calls Tryz.prog 149 #[.string s,.int .u8 c] w fun e w'=>e=.returned (.int .i64 (Lib.indexByte s.data.toList c.toNat.toUInt8))∧w'=w:=Any.strings_IndexByte Tryz.lays137 s c w
open Go.RowKit in
theorem Tryz.Builder_Grow_fresh_cap (B b n:Nat) (w:World) (hB:B≤b) (hbk:w.heap[b]? = some (.cells #[.pointer none,.slice none 0 0] 173 (0,0))) (hBw:B≤w.heap.size) (hn:n≤281474976710656) :
  Calls Tryz.prog 123 #[.pointer (some ⟨b,0,none⟩),.int .i64 n] w fun e w'=>e=.returned (.tuple #[])∧(Lib.BuilderAt 173 5 B b (.pointer (some ⟨b,0,none⟩)) [] w'∧Below B w w')∧∃ p cap,w'.cell? ⟨b,1,none⟩=some (.slice p 0 cap)∧n≤cap:=Any.Builder_Grow_fresh_cap Tryz.lays165 Tryz.Builder_Extra_165 B b n w hB hbk hBw hn
def Tryz.lays144_ren:Go.Shelf.Ren:=⟨fun | 144=>110 | 143=>121 | 219=>136 | 217=>143 | 225=>144 | 224=>145 | 267=>146 | 266=>151 | 314=>152 | n=>n,fun | 9=>9 | 4=>4 | 3=>3 | 5=>5 | 46=>120 | 146=>200 | 51=>151 | n=>n,fun | 1=>0 | n=>n⟩
theorem Tryz.lays144:Go.Proofs.Lays.n144 Tryz.prog Tryz.lays144_ren:={
 mixed:=by kernel_rfl
 f143:=Tryz.func121.trans (congrArg some (by kernel_rfl))
 f144:=Tryz.func110.trans (congrArg some (by kernel_rfl))
 f217:=Tryz.func143.trans (congrArg some (by kernel_rfl))
 f219:=Tryz.func136.trans (congrArg some (by kernel_rfl))
 f224:=Tryz.func145.trans (congrArg some (by kernel_rfl))
 f225:=Tryz.func144.trans (congrArg some (by kernel_rfl))
 f266:=Tryz.func151.trans (congrArg some (by kernel_rfl))
 f267:=Tryz.func146.trans (congrArg some (by kernel_rfl))
 f314:=Tryz.func152.trans (congrArg some (by kernel_rfl))
 t3:=Tryz.underlying3
 a3:=Tryz.isAgg3
 z3:=Tryz.sizeOf3
 v3:=Tryz.zeroValue3
 t4:=Tryz.underlying4
 a4:=Tryz.isAgg4
 z4:=Tryz.sizeOf4
 v4:=Tryz.zeroValue4
 t5:=Tryz.underlying5
 a5:=Tryz.isAgg5
 z5:=Tryz.sizeOf5
 v5:=Tryz.zeroValue5
 t9:=Tryz.underlying9
 a9:=Tryz.isAgg9
 z9:=Tryz.sizeOf9
 v9:=Tryz.zeroValue9
 t46:=Tryz.underlying120
 a46:=Tryz.isAgg120
 z46:=Tryz.sizeOf120
 v46:=Tryz.zeroValue120
 t51:=Tryz.underlying151
 a51:=Tryz.isAgg151
 z51:=Tryz.sizeOf151
 v51:=Tryz.zeroValue151
 t146:=Tryz.underlying200
 a146:=Tryz.isAgg200
 z146:=Tryz.sizeOf200
 v146:=Tryz.zeroValue200
 g1:=by kernel_rfl }
open Go.RowKit Go.Lib in
theorem Tryz.strings_Contains (s sub:ByteArray) (m:Int) (w:World) (hs:s.size<4294967281) (hm:w.cell? ⟨0,0,none⟩=some (.int .i64 m)) :
  Calls Tryz.prog 110 #[.string s,.string sub] w fun e w'=>e=.returned (.bool (Lib.contains s.data.toList sub.data.toList))∧w'=w:=Any.strings_Contains Tryz.lays144 s sub m w hs hm
def Tryz.lays197_ren:Go.Shelf.Ren:=⟨fun | 197=>122 | 260=>137 | n=>n,fun | 9=>9 | 21=>21 | 3=>3 | 4=>4 | 5=>5 | 105=>174 | 119=>193 | 0=>0 | 46=>120 | 139=>196 | 138=>195 | n=>n,fun | 3=>1 | 4=>2 | n=>n⟩
theorem Tryz.lays197:Go.Proofs.Lays.n197 Tryz.prog Tryz.lays197_ren:={
 mixed:=by kernel_rfl
 f197:=Tryz.func122.trans (congrArg some (by kernel_rfl))
 f260:=Tryz.func137.trans (congrArg some (by kernel_rfl))
 t0:=Tryz.underlying0
 a0:=Tryz.isAgg0
 z0:=Tryz.sizeOf0
 v0:=Tryz.zeroValue0
 t3:=Tryz.underlying3
 a3:=Tryz.isAgg3
 z3:=Tryz.sizeOf3
 v3:=Tryz.zeroValue3
 t4:=Tryz.underlying4
 a4:=Tryz.isAgg4
 z4:=Tryz.sizeOf4
 v4:=Tryz.zeroValue4
 t5:=Tryz.underlying5
 a5:=Tryz.isAgg5
 z5:=Tryz.sizeOf5
 v5:=Tryz.zeroValue5
 t9:=Tryz.underlying9
 a9:=Tryz.isAgg9
 z9:=Tryz.sizeOf9
 v9:=Tryz.zeroValue9
 t21:=Tryz.underlying21
 a21:=Tryz.isAgg21
 z21:=Tryz.sizeOf21
 v21:=Tryz.zeroValue21
 t46:=Tryz.underlying120
 a46:=Tryz.isAgg120
 z46:=Tryz.sizeOf120
 v46:=Tryz.zeroValue120
 t105:=Tryz.underlying174
 a105:=Tryz.isAgg174
 z105:=Tryz.sizeOf174
 v105:=Tryz.zeroValue174
 t119:=Tryz.underlying193
 a119:=Tryz.isAgg193
 z119:=Tryz.sizeOf193
 t138:=Tryz.underlying195
 a138:=Tryz.isAgg195
 z138:=Tryz.sizeOf195
 v138:=Tryz.zeroValue195
 t139:=Tryz.underlying196
 a139:=Tryz.isAgg196
 z139:=Tryz.sizeOf196
 v139:=Tryz.zeroValue196
 g3:=by kernel_rfl
 g4:=by kernel_rfl }
open Go.RowKit Go.Lib in
theorem Tryz.utf8_DecodeRuneInString (s:ByteArray) (w:World) (hT:Lib.Utf8Tabs 1 2 w) :
  Calls Tryz.prog 122 #[.string s] w fun e w'=>e=.returned (.tuple #[.int .i32 (Lib.decodeGo s).1,.int .i64 (Lib.decodeGo s).2])∧Below w.heap.size w w':=Any.utf8_DecodeRuneInString Tryz.lays197 s w hT
def Tryz.lays270_ren:Go.Shelf.Ren:=⟨fun | 270=>125 | n=>n,fun | 70=>171 | 3=>3 | 0=>0 | 72=>173 | 37=>110 | 5=>5 | n=>n,fun | n=>n⟩
theorem Tryz.lays270:Go.Proofs.Lays.n270 Tryz.prog Tryz.lays270_ren:={
 mixed:=by kernel_rfl
 f270:=Tryz.func125.trans (congrArg some (by kernel_rfl))
 t0:=Tryz.underlying0
 a0:=Tryz.isAgg0
 z0:=Tryz.sizeOf0
 v0:=Tryz.zeroValue0
 t3:=Tryz.underlying3
 a3:=Tryz.isAgg3
 z3:=Tryz.sizeOf3
 v3:=Tryz.zeroValue3
 t37:=Tryz.underlying110
 a37:=Tryz.isAgg110
 z37:=Tryz.sizeOf110
 v37:=Tryz.zeroValue110
 t70:=Tryz.underlying171
 a70:=Tryz.isAgg171
 z70:=Tryz.sizeOf171
 v70:=Tryz.zeroValue171
 t72:=Tryz.underlying173
 a72:=Tryz.isAgg173
 z72:=Tryz.sizeOf173
 v72:=Tryz.zeroValue173 }
open Go.RowKit Go.Lib in
theorem Tryz.Builder_Cap_cell (b:Nat) (p:Option Addr) (n cap:Nat) (w:World) (c1:w.cell? ⟨b,1,none⟩=some (.slice p n cap)) :
  Calls Tryz.prog 125 #[.pointer (some ⟨b,0,none⟩)] w fun e w'=>e=.returned (.int .i64 cap)∧w'=w:=Any.Builder_Cap_cell Tryz.lays270 b p n cap w c1
end Go.Proofs

namespace Go.Proofs
open Go.Shelf
def Tryz.bldRen:Go.Shelf.Ren:=⟨fun | 165=>123 | 166=>124 | 167=>126 | 240=>138 | 241=>139 | 276=>147 | 277=>148 | n=>n,fun | 70=>171 | 3=>3 | 0=>0 | 4=>4 | 9=>9 | 20=>20 | 72=>173 | 37=>110 | 164=>197 | 5=>5 | 75=>177 | 80=>181 | n=>n,fun | n=>n⟩
theorem Tryz.lays166:Go.Proofs.Lays.n166 Tryz.prog Tryz.bldRen:={
 mixed:=by kernel_rfl
 f166:=Tryz.func124.trans (congrArg some (by kernel_rfl))
 f240:=Tryz.func138.trans (congrArg some (by kernel_rfl))
 f276:=Tryz.func147.trans (congrArg some (by kernel_rfl))
 t0:=Tryz.underlying0
 a0:=Tryz.isAgg0
 z0:=Tryz.sizeOf0
 v0:=Tryz.zeroValue0
 t3:=Tryz.underlying3
 a3:=Tryz.isAgg3
 z3:=Tryz.sizeOf3
 v3:=Tryz.zeroValue3
 t4:=Tryz.underlying4
 a4:=Tryz.isAgg4
 z4:=Tryz.sizeOf4
 v4:=Tryz.zeroValue4
 t9:=Tryz.underlying9
 a9:=Tryz.isAgg9
 z9:=Tryz.sizeOf9
 v9:=Tryz.zeroValue9
 t20:=Tryz.underlying20
 a20:=Tryz.isAgg20
 z20:=Tryz.sizeOf20
 v20:=Tryz.zeroValue20
 t37:=Tryz.underlying110
 a37:=Tryz.isAgg110
 z37:=Tryz.sizeOf110
 v37:=Tryz.zeroValue110
 t70:=Tryz.underlying171
 a70:=Tryz.isAgg171
 z70:=Tryz.sizeOf171
 v70:=Tryz.zeroValue171
 t72:=Tryz.underlying173
 a72:=Tryz.isAgg173
 z72:=Tryz.sizeOf173
 v72:=Tryz.zeroValue173
 t75:=Tryz.underlying177
 a75:=Tryz.isAgg177
 z75:=Tryz.sizeOf177
 v75:=Tryz.zeroValue177
 t164:=Tryz.underlying197
 a164:=Tryz.isAgg197
 z164:=Tryz.sizeOf197
 v164:=Tryz.zeroValue197 }
theorem Tryz.lays167:Go.Proofs.Lays.n167 Tryz.prog Tryz.bldRen:={
 mixed:=by kernel_rfl
 f167:=Tryz.func126.trans (congrArg some (by kernel_rfl))
 f240:=Tryz.func138.trans (congrArg some (by kernel_rfl))
 f276:=Tryz.func147.trans (congrArg some (by kernel_rfl))
 t0:=Tryz.underlying0
 a0:=Tryz.isAgg0
 z0:=Tryz.sizeOf0
 v0:=Tryz.zeroValue0
 t4:=Tryz.underlying4
 a4:=Tryz.isAgg4
 z4:=Tryz.sizeOf4
 v4:=Tryz.zeroValue4
 t5:=Tryz.underlying5
 a5:=Tryz.isAgg5
 z5:=Tryz.sizeOf5
 v5:=Tryz.zeroValue5
 t9:=Tryz.underlying9
 a9:=Tryz.isAgg9
 z9:=Tryz.sizeOf9
 v9:=Tryz.zeroValue9
 t20:=Tryz.underlying20
 a20:=Tryz.isAgg20
 z20:=Tryz.sizeOf20
 v20:=Tryz.zeroValue20
 t37:=Tryz.underlying110
 a37:=Tryz.isAgg110
 z37:=Tryz.sizeOf110
 v37:=Tryz.zeroValue110
 t70:=Tryz.underlying171
 a70:=Tryz.isAgg171
 z70:=Tryz.sizeOf171
 v70:=Tryz.zeroValue171
 t72:=Tryz.underlying173
 a72:=Tryz.isAgg173
 z72:=Tryz.sizeOf173
 v72:=Tryz.zeroValue173
 t75:=Tryz.underlying177
 a75:=Tryz.isAgg177
 z75:=Tryz.sizeOf177
 v75:=Tryz.zeroValue177
 t164:=Tryz.underlying197
 a164:=Tryz.isAgg197
 z164:=Tryz.sizeOf197
 v164:=Tryz.zeroValue197 }
theorem Tryz.bldExtra:Builder.Extra Tryz.prog Tryz.bldRen:={
 sizeBuilder:=by kernel_rfl
 liesBuilder:=by kernel_rfl
 t5:=Tryz.underlying5
 a5:=Tryz.isAgg5
 z5:=Tryz.sizeOf5
 v5:=Tryz.zeroValue5
 infoByte:=by kernel_rfl
 cellsByte:=by kernel_rfl
 sizeByte:=by kernel_rfl
 neB5:=by decide }
open Go.RowKit in
theorem Tryz.Builder_WriteByte (B b:Nat) (bs:List Value) (c:Int) (w:World) (h:Lib.IsBuilder 173 5 B b bs w) (hlen:bs.length+1≤140737488355328) (hBw:B≤w.heap.size) :
  Calls Tryz.prog 126 #[.pointer (some ⟨b,0,none⟩),.int .u8 c] w fun e w'=>e=.returned .nilIface∧(Lib.BuilderAt 173 5 B b (.pointer (some ⟨b,0,none⟩)) (bs++[.int .u8 c]) w'∧Below B w w'):=Any.Builder_WriteByte Tryz.lays167 Tryz.bldExtra B b bs c w h hlen hBw
open Go.RowKit in
theorem Tryz.Builder_WriteString (B b:Nat) (bs:List Value) (s:ByteArray) (w:World) (h:Lib.IsBuilder 173 5 B b bs w) (hlen:bs.length+s.size≤140737488355328) (hBw:B≤w.heap.size) :
  Calls Tryz.prog 124 #[.pointer (some ⟨b,0,none⟩),.string s] w fun e w'=>e=.returned (.tuple #[.int .i64 s.size,.nilIface])∧(Lib.BuilderAt 173 5 B b (.pointer (some ⟨b,0,none⟩)) (bs++Lib.strCells s) w'∧Below B w w'):=Any.Builder_WriteString Tryz.lays166 Tryz.bldExtra B b bs s w h hlen hBw
open Go.RowKit in
theorem Tryz.Builder_WriteString_fits (B b N:Nat) (bs:List Value) (s:ByteArray) (w:World) (h:Lib.IsBuilder 173 5 B b bs w) (hroom:Lib.BldRoom b bs.length N w) (h0:0<N) (hN:bs.length+s.size≤N) (hBw:B≤w.heap.size) :
  Calls Tryz.prog 124 #[.pointer (some ⟨b,0,none⟩),.string s] w fun e w'=>e=.returned (.tuple #[.int .i64 s.size,.nilIface])∧(Lib.BuilderAt 173 5 B b (.pointer (some ⟨b,0,none⟩)) (bs++Lib.strCells s) w'∧Below B w w')∧Lib.BldRoom b (bs.length+s.size) N w':=Any.Builder_WriteString_fits Tryz.lays166 Tryz.bldExtra B b N bs s w h hroom h0 hN hBw
end Go.Proofs

set_option linter.unusedVariables false
namespace Go.Proofs
open Go.Shelf Go.RowKit Go.Lib
theorem g0I {T e:TypeId} {B b:Nat} {bs:List Value} {w w':World} (h:Lib.IsBuilder T e B b bs w) (hb:Below w.heap.size w w'):Lib.IsBuilder T e B b bs w':=by
 have key:∀ p,Lib.BuilderAt T e B b p bs w→Lib.BuilderAt T e B b p bs w':=fun p ⟨h1,v,h2,h3,h4⟩=>by
  refine ⟨h1,v,(hb.block b (Array.getElem?_eq_some_iff.1 h2).1).trans h2,⟨h3.1,?_⟩,h4⟩
  rcases h3.2 with h | ⟨g,cap,cur,e1,e2,e3,e4⟩
  ·exact Or.inl h
  ·exact Or.inr ⟨g,cap,cur,e1,e2,(hb.block g (Array.getElem?_eq_some_iff.1 e3).1).trans e3,e4⟩
 rcases h with h | h
 ·exact Or.inl (key _ h)
 ·exact Or.inr (key _ h)
set_option maxHeartbeats 16000000 in
set_option maxRecDepth 1000000 in
theorem Tryz.strings_ToValidUTF8 (s rep:ByteArray) (w:World) (hs:s.size<1048576) (hrp:rep.size<1048576) (hT:Lib.Utf8Tabs 1 2 w) :
  Calls Tryz.prog 111 #[.string s,.string rep] w fun e w'=>e=.returned (.string ⟨(Lib.tvL rep.data.toList s.size false s.data.toList).toArray⟩)∧Below w.heap.size w w':=by
 obtain ⟨ANS,hANS⟩:∃ ANS,Lib.tvL rep.data.toList s.size false s.data.toList=ANS:=⟨_,rfl⟩
 rw [hANS]
 have hlen:s.data.toList.length=s.size:=(Lib.size_eq s).symm
 go_enter Tryz.func111,Tryz.ntmps111
 go_wp2
 go_loopg [0] s.size (fun gk s0 wx=>s0=.string s∧∃ pos:Nat,wx.heap[w.heap.size]? = some (.cells #[.pointer none,.slice none 0 0] 173 (0,0))∧wx.heap[w.heap.size+1]? = some (.stringIter s pos)∧Below w.heap.size w wx ∧
  s.data.toList.take pos++Lib.tvL rep.data.toList gk false (s.data.toList.drop pos)=ANS∧s.size≤pos+gk∧pos≤s.size)
 case atStart =>
  refine ⟨rfl,0,?_,?_,((Below.refl _ w).alloc (Nat.le_refl _) _).alloc (by simp) _,by simpa using hANS,by omega,by omega⟩
  ·have h1:=heap_alloc_new w (.cells #[.pointer none,.slice none 0 0] 173)
   exact (Below.heap_alloc _ _ _ (by simp)).trans h1
  ·have:=World.iter_heap (w.alloc (.cells #[.pointer none,.slice none 0 0] 173)) s 0
   simpa using this
 case round =>
  obtain ⟨rfl,pos,hfr,hit,hbw,hsp,hfu,hps⟩:=hrel
  by_cases hlt:pos<s.size
  ·obtain ⟨g',rfl⟩:∃ g',gk=g'+1:=⟨gk - 1,by omega⟩
   have hnx:∀ ty,(Instr.next (.pointer (some ⟨w.heap.size+1,0,none⟩)) true ty).run Tryz.prog wr=_:=fun ty=>Lib.run_next_any_at wr (w.heap.size+1) s pos ty hit hlt
   have hne:s.data.toList.drop pos≠[]:=by
    intro h0
    have:=congrArg List.length h0
    rw [List.length_drop,hlen] at this
    simp at this
    omega
   have hwd:=Lib.width_pos s pos
   have hwn:pos+(Utf8.decode s pos).2≤s.size:=by
    have:=Lib.decodeL_le _ hne
    rw [Lib.decodeL_drop,List.length_drop,hlen] at this
    omega
   have hstep:=fun h=>Lib.tvL_keep (rep:=rep.data.toList) (f:=g') hne h
   have hdg:=Lib.decodeGo_extract s pos hlt
   rw [Lib.decodeL_drop] at hstep
   obtain ⟨R,hR⟩:∃ R,(Utf8.decode s pos).1=R:=⟨_,rfl⟩
   obtain ⟨K,hK⟩:∃ K,(Utf8.decode s pos).2=K:=⟨_,rfl⟩
   rw [hR,hK] at hnx hstep
   rw [hK] at hwd hwn
   rw [List.drop_drop] at hstep
   have hit2:=Lib.iterAt_heap wr (w.heap.size+1) s pos (pos+K) hit
   have hbw2:=Lib.below_iterAt hbw (k:=w.heap.size+1) (by omega) s (pos+K)
   have hfr2:(wr.iterAt (w.heap.size+1) s (pos+K)).heap[w.heap.size]? = _:=(Lib.iterAt_other wr (w.heap.size+1) w.heap.size s (pos+K) (by omega)).trans hfr
   obtain ⟨W,hWd⟩:∃ W,wr.iterAt (w.heap.size+1) s (pos+K)=W:=⟨_,rfl⟩
   rw [hWd] at hnx hit2 hbw2 hfr2
   clear hit hbw hfr hWd
   have hszW:w.heap.size+1<W.heap.size:=(Array.getElem?_eq_some_iff.1 hit2).1
   have HS:Aside (¬ (R=65533∧K=1)→s.data.toList.take (pos+K)++Lib.tvL rep.data.toList g' false (s.data.toList.drop (pos+K))=ANS):=by
    show _→_
    intro h
    rw [← hsp,hstep h,← List.append_assoc,← List.take_add]
   have HP:Aside (s.data.toList.take pos++Lib.tvL rep.data.toList (g'+1) false (s.data.toList.drop pos)=ANS):=hsp
   clear hstep hsp
   by_cases h5:R=65533
   ·have h5z:(R:Int)=65533:=by omega
    have cD:=Tryz.utf8_DecodeRuneInString (s.extract pos s.size) W (Utf8Tabs_below hT hbw2)
    rw [hdg,hR,hK] at cD
    by_cases hk:K=1
    ·have hkz:(K:Int)=1:=by omega
     go_wp2_with (go_at_call 122;go_must (refine cD.mono ?_;rintro e W3 ⟨rfl,b3⟩))
     clear cD hnx hdg HS
     have hBC:w.heap.size≤W3.heap.size:=Nat.le_trans (by omega) b3.size
     have cG:=Tryz.Builder_Grow_fresh_cap w.heap.size w.heap.size (s.size+rep.size) W3 (Nat.le_refl _) ((b3.block _ (by omega)).trans hfr2) hBC (by omega)
     rw [Int.natCast_add] at cG
     have hxs:(s.extract 0 pos).size=pos:=by rw [Lib.size_eq,Lib.extract_data,List.length_take,List.length_drop,hlen];omega
     have hxd:(s.extract 0 pos).data.toList=s.data.toList.take pos:=by rw [Lib.extract_data];simp
     refine cG.mono ?_
     rintro e W4 ⟨rfl,⟨h4,b4⟩,p4,cap4,hc4,hcap4⟩
     clear cG
     have cW:=Tryz.Builder_WriteString_fits w.heap.size w.heap.size (s.size+rep.size) [] (s.extract 0 pos) W4 (Or.inr h4) ⟨p4,cap4,hc4,hcap4⟩ (by omega) (by rw [hxs];simp;omega) (Nat.le_trans hBC b4.size)
     go_wp2_with (go_at_call 124;go_must (refine cW.mono ?_;rintro e W5 ⟨rfl,⟨h5w,b5⟩,p5,cap5,hc5,hcap5⟩))
     clear cW
     have hb5:Below w.heap.size w W5:=(((hbw2.trans (b3.mono (by omega))).trans b4).trans b5)
     have hcells:[]++Lib.strCells (s.extract 0 pos)=Lib.byteCells (s.data.toList.take pos):=by rw [List.nil_append,Lib.strCells_eq,hxd]
     rw [hcells] at h5w
     have hcapz:¬ ((cap5:Int)=0):=by omega
     have hcapb:((cap5:Int) == 0)=false:=by simp;omega
     refine (Tryz.Builder_Cap_cell w.heap.size _ _ cap5 W5 hc5).mono ?_
     rintro e W5' ⟨rfl,rfl⟩
     obtain ⟨s2,hs2⟩:∃ s2,s.extract pos s.size=s2:=⟨_,rfl⟩
     have hl2:s2.data.toList=s.data.toList.drop pos:=by
      rw [← hs2,Lib.extract_data,List.take_of_length_le (by rw [List.length_drop,hlen];omega)]
     have hz2:s2.size=s.size - pos:=by rw [Lib.size_eq,hl2,List.length_drop,hlen]
     have hHP:=HP.out
     rw [← hl2] at hHP
     have hAL:ANS.length≤1099511627776:=by
      have h1:=Lib.tvL_len rep.data.toList s.size false s.data.toList
      rw [hANS] at h1
      have h2:s.data.toList.length*(rep.data.toList.length+1)≤1048576*1048576:=Nat.mul_le_mul (by omega) (by rw [← Lib.size_eq];omega)
      omega
     have hsz5:w.heap.size≤W5'.heap.size:=hb5.size
     clear hc5 hcap5 hc4 hcap4 h4 b4 b5 hxs hxd hcells
     go_wp2
     have HZ:Aside (s2.size=s.size - pos):=hz2
     have hs2b:s2.size<1048576:=by omega
     clear hz2
     go_loopg [10,11] (g'+1) (fun gk s10 s11 wx=>∃ (i:Nat) (bad:Bool) (acc:List UInt8),s10=.bool bad∧s11=.int .i64 i∧Lib.IsBuilder 173 5 w.heap.size w.heap.size (Lib.byteCells acc) wx∧Below w.heap.size w wx ∧
      acc++Lib.tvL rep.data.toList gk bad (s2.data.toList.drop i)=ANS∧s2.size≤i+gk∧i≤s2.size)
     case atStart =>
      have hz2:=HZ.out
      exact ⟨0,false,s.data.toList.take pos,rfl,rfl,Or.inr h5w,hb5,by simpa using hHP,by omega,by omega⟩
     case round =>
      obtain ⟨i,bad,acc,rfl,rfl,hI,hbw,hacc,hfu2,hi2⟩:=hrel
      by_cases hlt2:i<s2.size
      ·obtain ⟨g2,rfl⟩:∃ g2,gk=g2+1:=⟨gk - 1,by omega⟩
       have hlt3:(i:Int)<(s2.size:Int):=by omega
       have hlL:i<s2.data.toList.length:=by rw [← Lib.size_eq];exact hlt2
       have hgc:s2.data.toList[i]=s2[i]:=rfl
       have hdr:s2.data.toList.drop i=s2[i]::s2.data.toList.drop (i+1):=by rw [List.drop_eq_getElem_cons hlL,hgc]
       have hal:acc.length≤1099511627776:=by
        have:=congrArg List.length hacc
        rw [List.length_append] at this
        omega
       have HA:Aside (acc++Lib.tvL rep.data.toList (g2+1) bad (s2[i]::s2.data.toList.drop (i+1))=ANS):=by
        show _=_
        rw [← hdr];exact hacc
       clear hacc
       by_cases h128:s2[i].toNat<128
       ·have hc128:((s2[i].toNat:Nat):Int)<128:=by omega
        go_wp2_with (go_at_call 126;go_must (refine (Tryz.Builder_WriteByte w.heap.size w.heap.size _ _ wr hI (by rw [Lib.byteCells_length];omega) hbw.size).mono ?_;rintro e W7 ⟨rfl,h7,b7⟩))
        go_roundg g2
        case measure=>omega
        case rel =>
         refine ⟨i+1,false,acc++[s2[i]],rfl,by rfl,Or.inr ?_,hbw.trans b7,?_,by omega,by omega⟩
         ·rw [Lib.byteCells_append];exact h7
         ·have:=HA.out
          rw [Lib.tvL_ascii h128] at this
          rw [List.append_assoc];exact this
       ·have hc128:¬ (((s2[i].toNat:Nat):Int)<128):=by omega
        have hdg2:=Lib.decodeGo_extract s2 i hlt2
        have hdL:=Lib.decodeL_drop s2 i
        rw [hdr] at hdL
        have hle2:=Lib.decodeL_le (s2[i]::s2.data.toList.drop (i+1)) (by simp)
        rw [hdL,List.length_cons,List.length_drop,← Lib.size_eq] at hle2
        have hwd2:=Lib.width_pos s2 i
        obtain ⟨R2,hR2⟩:∃ R2,(Utf8.decode s2 i).1=R2:=⟨_,rfl⟩
        obtain ⟨K2,hK2⟩:∃ K2,(Utf8.decode s2 i).2=K2:=⟨_,rfl⟩
        have hdK:(Lib.decodeL (s2[i]::s2.data.toList.drop (i+1))).2=K2:=by rw [hdL,hK2]
        rw [hK2] at hle2 hwd2
        have cD2:=Tryz.utf8_DecodeRuneInString (s2.extract i s2.size) wr (Utf8Tabs_below hT hbw)
        rw [hdg2,hR2,hK2] at cD2
        clear hdL hdg2 hR2 hK2
        have HD:Aside ((Lib.decodeL (s2[i]::s2.data.toList.drop (i+1))).2=K2):=hdK
        have HR:Aside (s2.data.toList.drop i=s2[i]::s2.data.toList.drop (i+1)):=hdr
        clear hdK hdr hgc
        by_cases hk1:K2=1
        ·have hkz:(K2:Int)=1:=by omega
         cases bad with
         | true =>
          go_wp2_with (go_at_call 122;go_must (go_fit cD2;rintro e W6 ⟨rfl,b6⟩))
          go_roundg g2
          case measure=>omega
          case rel =>
           refine ⟨i+1,true,acc,rfl,by rfl,?_,hbw.trans (b6.mono hbw.size),?_,by omega,by omega⟩
           ·exact g0I hI b6
           ·have:=HA.out
            rw [Lib.tvL_bad h128 (HD.out.trans hk1),if_pos rfl,List.nil_append] at this
            exact this
         | false =>
          go_wp2_with (go_at_call 122;go_must (go_fit cD2;rintro e W6 ⟨rfl,b6⟩))
          refine (Tryz.Builder_WriteString w.heap.size w.heap.size _ rep W6 (g0I hI b6) (by rw [Lib.byteCells_length];omega) (Nat.le_trans hbw.size b6.size)).mono ?_
          rintro e W7 ⟨rfl,h7,b7⟩
          go_wp2
          go_roundg g2
          case measure=>omega
          case rel =>
           refine ⟨i+1,true,acc++rep.data.toList,rfl,by rfl,Or.inr ?_,(hbw.trans (b6.mono hbw.size)).trans b7,?_,by omega,by omega⟩
           ·rw [Lib.byteCells_append,← Lib.strCells_eq];exact h7
           ·have:=HA.out
            rw [Lib.tvL_bad h128 (HD.out.trans hk1),if_neg (by simp)] at this
            rw [List.append_assoc];exact this
        ·have hkz:¬ ((K2:Int)=1):=by omega
         have hik:((i:Int)+(K2:Int)).toNat=i+K2:=by omega
         have hxs2:(s2.extract i (i+K2)).data.toList=(s2.data.toList.drop i).take K2:=by rw [Lib.extract_data];simp
         have hx2:(s2.extract i (i+K2)).size≤K2:=by rw [Lib.size_eq,hxs2,List.length_take];omega
         have hk5:K2≤1048576:=by omega
         have HX:Aside ((s2.extract i (i+K2)).data.toList=(s2.data.toList.drop i).take K2):=hxs2
         clear hxs2
         go_wp2_with (go_at_call 122;go_must (go_fit cD2;rintro e W6 ⟨rfl,b6⟩))
         refine (Tryz.Builder_WriteString w.heap.size w.heap.size _ (s2.extract i (i+K2)) W6 (g0I hI b6) (by rw [Lib.byteCells_length];omega) (Nat.le_trans hbw.size b6.size)).mono ?_
         rintro e W7 ⟨rfl,h7,b7⟩
         go_wp2
         go_roundg g2
         case measure=>omega
         case rel =>
          refine ⟨i+K2,false,acc++(s2.data.toList.drop i).take K2,rfl,by rfl,Or.inr ?_,(hbw.trans (b6.mono hbw.size)).trans b7,?_,by omega,by omega⟩
          ·rw [Lib.byteCells_append,← HX.out,← Lib.strCells_eq];exact h7
          ·have:=HA.out
           rw [Lib.tvL_rune h128 (fun h=>hk1 (HD.out.symm.trans h)),HD.out,← HR.out,List.drop_drop] at this
           rw [List.append_assoc];exact this
      ·obtain rfl:i=s2.size:=by omega
       have hlt3:¬ ((s2.size:Int)<(s2.size:Int)):=by omega
       go_wp2_with (go_at_call 127;go_must (refine (Tryz.Builder_String_any w.heap.size w.heap.size acc wr hI hbw.size).mono ?_;rintro e W8 ⟨rfl,b8⟩))
       go_ret
       refine ⟨?_,hbw.trans b8⟩
       rw [Lib.size_eq,List.drop_length,Lib.tvL_nil,List.append_nil] at hacc
       subst hacc
       rfl
    ·have hkz:¬ ((K:Int)=1):=by omega
     go_wp2_with (go_at_call 122;go_must (refine cD.mono ?_;rintro e W3 ⟨rfl,b3⟩))
     go_roundg g'
     case measure=>omega
     case rel=>exact ⟨rfl,pos+K,(b3.block _ (by omega)).trans hfr2,(b3.block _ (by omega)).trans hit2,hbw2.trans (b3.mono (by omega)),HS.out (fun h=>hk h.2),by omega,hwn⟩
   ·have h5z:¬ ((R:Int)=65533):=by omega
    go_wp2
    go_roundg g'
    case measure=>omega
    case rel=>exact ⟨rfl,pos+K,hfr2,hit2,hbw2,HS.out (fun h=>h5 h.1),by omega,hwn⟩
  ·obtain rfl:pos=s.size:=by omega
   have hnx:∀ ty,(Instr.next (.pointer (some ⟨w.heap.size+1,0,none⟩)) true ty).run Tryz.prog wr=_:=fun ty=>Lib.run_next_end_at wr (w.heap.size+1) s s.size ty hit hlt
   have cC:=Tryz.Builder_Cap_cell w.heap.size none 0 0 wr (by rw [Lib.cell_of_heap hfr];rfl)
   go_wp2_with (go_at_call 125;go_must (refine cC.mono ?_;rintro e W' ⟨rfl,rfl⟩))
   go_ret
   refine ⟨?_,hbw⟩
   rw [← hsp,← hlen,List.drop_length,List.take_length,Lib.tvL_nil,List.append_nil]
   rfl
end Go.Proofs

namespace Go.Dk
open Go Go.Dr Go.RowKit
set_option maxRecDepth 100000
theorem v0e:l0o (Z3 P (fun _=>none) 100000 1000 (.fn G2) [] ⟨P.globals.size,.leaf⟩)=true:=by kernel_rfl
theorem r06:Go.Proofs.Tryz.f110.body.isSome=true:=by kernel_rfl
theorem r07:Go.Proofs.Tryz.f111.body.isSome=true:=by kernel_rfl
theorem r08:Go.Proofs.Tryz.f149.body.isSome=true:=by kernel_rfl
structure W3 (w:World):Prop where
 len:∃ m,w.cell? ⟨0,0,none⟩=some (.int .i64 m)
 tabs:Lib.Utf8Tabs 1 2 w
theorem W3.below {w w':World} (a:W3 w) (hb:Below w.heap.size w w'):W3 w':=by
 obtain ⟨m,hm⟩:=a.len
 refine ⟨⟨m,(hb.cell ?_).trans hm⟩,Go.Proofs.Utf8Tabs_below a.tabs hb⟩
 rcases Nat.lt_or_ge (0:Nat) w.heap.size with h' | h'
 ·exact h'
 ·simp [World.cell?,Array.getElem?_eq_none h'] at hm
def One (B:Nat) (w0:World) (f:FuncId) (g:List AV→AH→R (AV×AH)):Prop :=
 ∀ args h v h',g args h=.ok (v,h')→∀ φ w args',ConL φ args args'→GlobRel P φ→Rel B w0 φ h w →
  (∀ w,(callFunc f ⟨args'⟩).run P w=.ok (.enter f ⟨args'⟩) w) ∧
  CallsK P .normal f ⟨args'⟩ w (fun v' w'=>∃ φ',Con φ' v v'∧Rel B w0 φ' h' w'∧Ext φ h φ' h')
theorem v0f (B:Nat) (w0:World):One B w0 u6 ixG:=by
 intro args h v h' he φ w args' ha hG hR
 unfold ixG at he
 split at he
 ·rename_i s c
  cases he
  cases ha with
  | cons h1 h2=>cases h2 with
   | cons h2 h3 =>
    cases h3;cases h1;cases h2
    refine ⟨fun w=>P5 (c0E d0C) Go.Proofs.Tryz.func149 r08 w,?_⟩
    exact .of_calls (Go.Proofs.Tryz.strings_IndexByte ⟨⟨s⟩⟩ c w) fun e w' hh=>⟨_,hh.1,φ,.int .i64 _,by rw [hh.2];exact hR,.refl _ _⟩
 ·cases he
theorem v0g {B:Nat} {w0:World} (hW:W3 w0) (hB:w0.heap.size=B):One B w0 z6 coG:=by
 intro args h v h' he φ w args' ha hG hR
 subst hB
 unfold coG at he
 split at he
 ·rename_i s t
  split at he
  ·rename_i hs
   cases he
   cases ha with
   | cons h1 h2=>cases h2 with
    | cons h2 h3 =>
     cases h3;cases h1;cases h2
     obtain ⟨m,hm⟩:=(hW.below hR.below).len
     refine ⟨fun w=>P5 (c0E d0C) Go.Proofs.Tryz.func110 r06 w,?_⟩
     exact .of_calls (Go.Proofs.Tryz.strings_Contains ⟨⟨s⟩⟩ ⟨⟨t⟩⟩ m w hs hm) fun e w' hh=>⟨_,hh.1,φ,.bool _,by rw [hh.2];exact hR,.refl _ _⟩
  ·cases he
 ·cases he
theorem v0h {B:Nat} {w0:World} (hW:W3 w0) (hB:w0.heap.size=B):One B w0 x6 tvG:=by
 intro args h v h' he φ w args' ha hG hR
 subst hB
 unfold tvG at he
 split at he
 ·rename_i s t
  split at he
  ·rename_i hs
   cases he
   cases ha with
   | cons h1 h2=>cases h2 with
    | cons h2 h3 =>
     cases h3;cases h1;cases h2
     refine ⟨fun w=>P5 (c0E d0C) Go.Proofs.Tryz.func111 r07 w,?_⟩
     refine .of_calls (Go.Proofs.Tryz.strings_ToValidUTF8 ⟨⟨s⟩⟩ ⟨⟨t⟩⟩ w hs.1 hs.2 (hW.below hR.below).tabs) fun e w' hh=>⟨_,hh.1,φ,.str _,?_,.refl _ _⟩
     exact hR.world (hh.2.mono hR.size) fun i p o hi ho=>hh.2.block _ (hR.obj i p o hi ho).lt
  ·cases he
 ·cases he
theorem v0i (B:Nat) (w0:World):One B w0 G2 awG:=by
 intro args h v h' he φ w args' ha hG hR
 cases args with
 | cons a l=>cases he
 | nil =>
  cases he
  cases ha
  obtain ⟨hh,hr⟩:=o0c v0e
  obtain ⟨h1,h2⟩:=(j0o (B:=w.heap.size) (w0:=w) Go.Proofs.Tryz.pSort.mixed (c0E d0C) f0h 1000).1 _ _ _ _ hr (o05 P.globals.size) w [] .nil (q0z P) (t0L w _)
  refine ⟨h1,fun cs=>?_⟩
  obtain ⟨v',w',fr,fn',⟨v,h3,φ',hm,hv,hR',_⟩,rest⟩:=h2 cs
  cases List.mem_singleton.1 hm
  refine ⟨v',w',fr,fn',⟨φ,?_,?_,.refl _ _⟩,rest⟩
  ·cases hv;exact .bool true
  ·exact hR.world (hR'.below.mono hR.size) fun i p o hi ho=>hR'.below.block _ (hR.obj i p o hi ho).lt
theorem t0b {B:Nat} {w0:World} (hW:W3 w0) (hB:w0.heap.size=B):c0a P B w0 SI:=by
 intro f g hs args h v h' he φ w args' ha hG hR
 unfold SI at hs
 split at hs
 ·rename_i e;subst e;cases hs
  exact o0F Go.Proofs.Tryz.pSort.mixed (c0E d0C) (v0F B w0) he ha hG hR
 ·split at hs
  ·rename_i e;subst e;cases hs
   exact s00 he ha hG hR
  ·split at hs
   ·rename_i e;subst e;cases hs
    exact v0f B w0 _ _ _ _ he _ _ _ ha hG hR
   ·split at hs
    ·rename_i e;subst e;cases hs
     exact v0g hW hB _ _ _ _ he _ _ _ ha hG hR
    ·split at hs
     ·rename_i e;subst e;cases hs
      exact v0h hW hB _ _ _ _ he _ _ _ ha hG hR
     ·split at hs
      ·rename_i e;subst e;cases hs
       exact v0i B w0 _ _ _ _ he _ _ _ ha hG hR
      ·split at hs
       ·cases hs;cases he
       ·exact p0p Go.Proofs.Tryz.pSort.mixed d0C v0G B w0 f g hs args h v h' he φ w args' ha hG hR
def txt (x:AV):Prop:=(∃ s,x=.str s)∨∃ k z,x=.int k z
theorem Con.txt {φ ψ:Phi} {x:AV} {y:Value} (hx:txt x) (h:Con φ x y):Con ψ x y:=by
 rcases hx with ⟨s,rfl⟩ | ⟨k,z,rfl⟩
 ·cases h;exact .str s
 ·cases h;exact .int k z
theorem o0n {B:Nat} {w0 w:World} {φ:Phi} {h:AH} {es n id:Nat} {v:AV} {v':Value} {L:List AV} (s:Sl h es n v L) (hes:0<es) (hc:Con φ v v') (hR:Rel B w0 φ h w) (hL:∀ x ∈ L,txt x) :
  ∃ q:Option Pl,(∀ ψ:Phi,ψ id=q→Con ψ (j0r v id es L) v')∧∀ (ψ:Phi) (p:Pl),q=some p→ObjRel ψ w p (.cells L true):=by
 have hl:=s.1
 rcases s.2 with ⟨rfl,rfl⟩ | ⟨id',off,cap,x,vs,ro,rfl,_,hcap,h4,h5,h6⟩
 ·refine ⟨none,fun ψ _=>?_,fun ψ p e=>by cases e⟩
  cases hc
  exact .nils
 ·have hd:L.length/es=n:=by rw [hl,Nat.mul_div_cancel _ hes]
  cases hc with
  | @slice _ _ _ _ c _ _ p ad hp hx hc hle hr =>
   obtain ⟨cc,e,lo,hi,g1,g2,g3,g4,g5⟩:=hR.obj _ _ _ hp h4
   by_cases hc0:c=0
   ·have hn:n=0:=by omega
    have hL0:L=[]:=List.eq_nil_of_length_eq_zero (by rw [hl,hn,Nat.zero_mul])
    refine ⟨some ⟨p.blk,p.off,0⟩,fun ψ e=>?_,fun ψ q e=>?_⟩
    ·simp only [j0r,hd]
     exact .slice e (fun h=>by cases h) (by omega) hle (.inl hc0)
    ·cases e
     subst hL0
     exact ⟨cc,_,lo,hi,g1,Nat.le_refl _,by show p.off+0≤cc.size;omega,fun i x hx=>by simp at hx,fun h=>by cases h⟩
   ·obtain ⟨hr,rfl⟩:=hr.resolve_left hc0
    refine ⟨some ⟨p.blk,p.off+off,c*es⟩,fun ψ e=>?_,fun ψ q e=>?_⟩
    ·simp only [j0r,hd]
     exact .slice e (fun h=>by cases h) hle hle (.inr ⟨by show 0+c*es≤c*es;omega,by rw [Nat.add_zero]⟩)
    ·cases e
     refine ⟨cc,_,lo,hi,g1,?_,?_,fun i x hx=>?_,fun h=>by cases h⟩
     ·rw [hl];exact Nat.mul_le_mul_right _ hle
     ·show p.off+off+c*es≤cc.size
      omega
     ·have hi:i<n*es:=by have:=(List.getElem?_eq_some_iff.1 hx).1;omega
      have hx':vs[off+i]? = some x:=by
       rw [← h6,List.getElem?_take_of_lt hi,List.getElem?_drop] at hx
       exact hx
      obtain ⟨y,hy,hcy⟩:=g4 _ _ hx'
      exact ⟨y,by rw [← hy,Nat.add_assoc],Con.txt (hL x (List.mem_of_getElem? hx)) hcy⟩
theorem t0H {ms:List Mc}:∀ x ∈ ms.flatMap maC,txt x:=fun x hx=>by
 obtain ⟨m,_,hm⟩:=List.mem_flatMap.1 hx
 simp only [maC,List.mem_cons,List.not_mem_nil,or_false] at hm
 rcases hm with rfl | rfl | rfl
 ·exact .inr ⟨_,_,rfl⟩
 ·exact .inl ⟨_,rfl⟩
 ·exact .inl ⟨_,rfl⟩
theorem r09 {ls:List Lab}:∀ x ∈ ls.flatMap J0,txt x:=fun x hx=>by
 obtain ⟨m,_,hm⟩:=List.mem_flatMap.1 hx
 simp only [J0,List.mem_cons,List.not_mem_nil,or_false] at hm
 rcases hm with rfl | rfl <;> exact .inl ⟨_,rfl⟩
theorem t0I {B:Nat} {w0:World} (hW:W3 w0) (hB:w0.heap.size=B):One B w0 K3 r0O:=by
 intro args h v h' he φ w args' ha hG hR
 unfold r0O at he
 split at he
 ·rename_i mv lv
  split at he
  ·rename_i hx
   have hc:=Classical.choose_spec hx
   generalize Classical.choose hx=x at hc he
   obtain ⟨L,R⟩:=x
   obtain ⟨hm,hl⟩:=hc
   cases he
   cases ha with
   | cons h1 h2=>cases h2 with
    | cons h2 h3 =>
     cases h3
     rename_i mv' lv'
     obtain ⟨k,ms,s1,e1,hk⟩:=id hm
     obtain ⟨n,ls,s2,e2,hn⟩:=id hl
     simp only at e1 e2 s1 s2
     obtain ⟨q1,a1,b1⟩:=o0n (id:=nG) s1 (by omega) h1 hR (by rw [e1];exact t0H)
     obtain ⟨q2,a2,b2⟩:=o0n (id:=nG+1) s2 (by omega) h2 hR (by rw [e2];exact r09)
     obtain ⟨N,r,g,hev,⟨rfl,_⟩⟩:=w0d hm hl
     obtain ⟨ψ,hψ⟩:∃ ψ:Phi,ψ=⟨fun i=>if i<nG then some ⟨i,0,0⟩ else if i=nG then q1 else if i=nG+1 then q2 else none,fun _=>.pointer none⟩:=⟨_,rfl⟩
     have p0:∀ i,i<nG→ψ i=some ⟨i,0,0⟩:=fun i hi=>by rw [hψ];exact if_pos hi
     have p1:ψ nG=q1:=by rw [hψ];simp
     have p2:ψ (nG+1)=q2:=by rw [hψ];simp;omega
     have p3:∀ i p,ψ i=some p→i<nG∨i=nG∨i=nG+1:=fun i p e=>by
      rw [hψ] at e
      simp only at e
      split at e
      ·exact .inl ‹_›
      ·split at e
       ·exact .inr (.inl ‹_›)
       ·split at e
        ·exact .inr (.inr ‹_›)
        ·cases e
     have ro:∀ i p o,ψ i=some p→(H0 L R).get i=some o→ObjRel ψ w p o∧o.writable=false:=fun i p o hi ho=>by
      rcases p3 i p hi with e | rfl | rfl
      ·rw [w0c e] at ho;cases ho
      ·rw [w0a] at ho;cases ho
       exact ⟨b1 ψ p (by rw [← p1];exact hi),rfl⟩
      ·rw [w0b] at ho;cases ho
       exact ⟨b2 ψ p (by rw [← p2];exact hi),rfl⟩
     have nowr1:∀ i p o,ψ i=some p→(H0 L R).get i=some o→o.writable=true→False:=fun i p o hi ho hw=>by
      rw [(ro i p o hi ho).2] at hw
      cases hw
     have nowr:∀ i j p q oi oj,ψ i=some p→ψ j=some q→(H0 L R).get i=some oi→(H0 L R).get j=some oj→(oi.writable=true∨oj.writable=true)→False:=fun i j p q oi oj hi hj gi gj hw=>by
      rw [(ro i p oi hi gi).2,(ro j q oj hj gj).2] at hw
      rcases hw with hw | hw <;> cases hw
     have hRel:Rel w.heap.size w ψ (H0 L R) w:=⟨fun i p e=>by rw [l0t];rcases p3 i p e with e | e | e <;> omega,fun i p o hi ho=>(ro i p o hi ho).1,fun i p o hi ho hw=>(nowr1 _ _ _ hi ho hw).elim,
      fun i j p q oi oj _ hi hj gi gj hw=>(nowr _ _ _ _ _ _ hi hj gi gj hw).elim,.refl _ _,Nat.le_refl _⟩
     have hGl:GlobRel P ψ:=fun i hi=>⟨0,p0 i hi⟩
     subst hB
     obtain ⟨k1,k2⟩:=(k0J (B:=w.heap.size) (w0:=w) Go.Proofs.Tryz.pSort.mixed (c0E d0C) (t0b (hW.below hR.below) rfl) N).1 _ _ _ _ _ hev ψ w [mv',lv'] (.cons (a1 ψ p1) (.cons (a2 ψ p2) .nil)) hGl hRel
     refine ⟨k1,fun cs=>?_⟩
     obtain ⟨v',w',fr,fn',⟨φ',hv,hR',_⟩,rest⟩:=k2 cs
     refine ⟨v',w',fr,fn',⟨φ,?_,?_,.refl _ _⟩,rest⟩
     ·cases hv;exact .bool _
     ·exact hR.world (hR'.below.mono hR.size) fun i p o hi ho=>hR'.below.block _ (hR.obj i p o hi ho).lt
  ·cases he
 ·cases he
theorem v0j {B:Nat} {w0:World} (hW:W3 w0) (hB:w0.heap.size=B):c0a P B w0 SK:=by
 intro f g hs args h v h' he φ w args' ha hG hR
 unfold SK at hs
 split at hs
 ·rename_i e;subst e;cases hs
  exact t0I hW hB _ _ _ _ he _ _ _ ha hG hR
 ·cases hs
theorem v0k {B:Nat} {w0:World} (hW:W3 w0) (hB:w0.heap.size=B):c0a P B w0 SF:=by
 intro f g hs args h v h' he φ w args' ha hG hR
 unfold SF at hs
 split at hs
 ·rename_i e;subst e;cases hs
  exact o0F Go.Proofs.Tryz.pSort.mixed (c0E d0C) (v0j hW hB) he ha hG hR
 ·exact t0b hW hB f g hs args h v h' he φ w args' ha hG hR
end Go.Dk

namespace Go.Proofs.YtnapechhagnmaaaGreatDoor
open Go Go.Dr Go.RowKit Go.ChangeShapes Go.WideShapes Go.ChangeAt Go.Lib
set_option maxRecDepth 100000
theorem v0r:ownKnob Tryz.prog.godebug=none:=by kernel_rfl
theorem o02:laidOutB Tryz.prog=true:=by kernel_rfl
theorem v0s:Tryz.prog.funcs.all (fun f=>f.name != "runtime.NumGoroutine")=true:=by kernel_rfl
def k0L:List Int:=List.replicate 128 240++(List.replicate 66 241++(List.replicate 30 2++([19]++(List.replicate 12 3++([35,3,3,52,4,4,4,68]++List.replicate 11 241)))))
def q0y (k:IntKind) (l:List Int):Array Value:=(l.map fun z=>Value.int k z).toArray
noncomputable def d0J (os:Os):World :=
 let w0:=World.holding Tryz.prog os ⟨#[],#[],[]⟩
 let put (h:Array Obj) (g:Nat) (cs:Array Value):Array Obj:=h.modify g fun
  | .cells _ t frozen=>.cells cs t frozen
  | o=>o
 let h:=w0.heap
 let h:=put h 2 (q0y .u8 [128,191,160,191,128,159,144,191,128,143,0,0,0,0,0,0,0,0,0,0,0,0,0,0,0,0,0,0,0,0,0,0])
 let h:=put h 1 (q0y .u8 k0L)
 { w0 with heap:=h }
theorem o03 (os:Os) (args:Array Value):LaidIn Tryz.prog ((d0J os).forCall (fun _ _=>0) ⟨#[],args,[]⟩).memory (Rows.modelFloorsRow.laid.filter fun x=>x.2.handleName?.isNone) [2,1] :=
 LaidIn.of_run _ 8 (by kernel_rfl) (by kernel_rfl) (by kernel_rfl) (by kernel_rfl)
theorem o04 (os:Os) (args:Array Value):laidMetH Tryz.prog Rows.modelFloorsRow.laid ((d0J os).forCall (fun _ _=>0) ⟨#[],args,[]⟩).memory :=
 laidMetH_of_parts (o03 os args).met (by kernel_rfl)
end Go.Proofs.YtnapechhagnmaaaGreatDoor
