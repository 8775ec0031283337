/-
  Texts joined.
-/
import Derived.Test.YtnapechhagnmaaaGreatDoorT13

namespace Go.Dk
open Go Go.Dr
set_option maxRecDepth 100000
theorem f0I (a b:Txt):Q4 b a=- Q4 a b:=by
 unfold Q4
 rcases d07 a b with h | h | h
 ·simp [h,Z5 h]
 ·subst h;simp [K4]
 ·simp [h,Z5 h]
theorem M9 {a b:Txt}:Q4 a b=0↔a=b:=by
 unfold Q4
 rcases d07 a b with h | h | h
 ·simp [h];rintro rfl;simp [K4] at h
 ·subst h;simp [K4]
 ·simp [h,Z5 h];rintro rfl;simp [K4] at h
theorem e0E {a b:Txt}:Q4 a b<0↔Op.bytesLess a b=true:=by
 unfold Q4
 rcases d07 a b with h | h | h
 ·simp [h]
 ·subst h;simp [K4]
 ·simp [h,Z5 h]
theorem e0F {a b c:Txt} (h1:Q4 a b<0) (h2:Q4 b c<0):Q4 a c<0:=e0E.2 (d08 (e0E.1 h1) (e0E.1 h2))
theorem j0Q (x y:Lab):R9 y x=- R9 x y:=by
 unfold R9
 rw [f0I x.1 y.1,f0I x.2 y.2]
 by_cases h:Q4 x.1 y.1=0
 ·simp [h]
 ·simp [h]
theorem S4 {x y:Lab}:R9 x y=0↔x=y:=by
 unfold R9
 constructor
 ·intro h
  split at h
  ·rename_i h1;exact Prod.ext (M9.1 h1) (M9.1 h)
  ·rename_i h1;exact absurd h h1
 ·rintro rfl;simp [M9.2 rfl]
theorem i0s {x y z:Lab} (h1:R9 x y<0) (h2:R9 y z<0):R9 x z<0:=by
 unfold R9 at *
 by_cases a:Q4 x.1 y.1=0
 ·rw [if_pos a] at h1
  have a':=M9.1 a
  by_cases b:Q4 y.1 z.1=0
  ·rw [if_pos b] at h2
   have b':=M9.1 b
   rw [if_pos (M9.2 (a'.trans b'))]
   exact e0F h1 h2
  ·rw [if_neg b] at h2
   rw [a',if_neg b];exact h2
 ·rw [if_neg a] at h1
  by_cases b:Q4 y.1 z.1=0
  ·rw [if_pos b] at h2
   have b':=M9.1 b
   rw [← b',if_neg a];exact h1
  ·rw [if_neg b] at h2
   have:=e0F h1 h2
   rw [if_neg (by omega)];exact this
theorem d0a:∀ a b:List Lab,l8 b a=- l8 a b
 | [],[]=>by simp [l8]
 | [],_::_=>by simp [l8]
 | _::_,[]=>by simp [l8]
 | x::a,y::b=>by
  have ih:=d0a a b
  simp only [l8,j0Q x y]
  by_cases h:R9 x y=0
  ·simp [h,ih]
  ·simp [h]
theorem X7:∀ {a b:List Lab},l8 a b=0↔a=b
 | [],[]=>by simp [l8]
 | [],_::_=>by simp [l8]
 | _::_,[]=>by simp [l8]
 | x::a,y::b=>by
  have ih:=@X7 a b
  simp only [l8,List.cons.injEq]
  by_cases h:R9 x y=0
  ·rw [if_pos h,ih];simp [S4.1 h]
  ·rw [if_neg h]
   constructor
   ·intro e;exact absurd e h
   ·rintro ⟨e,_⟩;exact absurd (S4.2 e) h
theorem N0:∀ {a b c:List Lab},l8 a b<0→l8 b c<0→l8 a c<0
 | [],[],_,h1,_=>by simp [l8] at h1
 | [],_::_,[],_,h2=>by simp [l8] at h2
 | [],_::_,_::_,_,_=>by simp [l8]
 | _::_,[],_,h1,_=>by simp [l8] at h1
 | _::_,_::_,[],_,h2=>by simp [l8] at h2
 | x::a,y::b,z::c,h1,h2=>by
  simp only [l8] at *
  by_cases p:R9 x y=0
  ·rw [if_pos p] at h1
   have p':=S4.1 p
   by_cases q:R9 y z=0
   ·rw [if_pos q] at h2
    rw [if_pos (S4.2 (p'.trans (S4.1 q)))]
    exact N0 h1 h2
   ·rw [if_neg q] at h2
    rw [p',if_neg q];exact h2
  ·rw [if_neg p] at h1
   by_cases q:R9 y z=0
   ·rw [if_pos q] at h2
    rw [← S4.1 q,if_neg p];exact h1
   ·rw [if_neg q] at h2
    have:=i0s h1 h2
    rw [if_neg (by omega)];exact this
abbrev Pt2:=List Lab×List Smp
structure Canon (L:List Pt2):Prop where
 asc:L.Pairwise fun a b=>l8 a.1 b.1<0
 el:∀ x ∈ L,b0H x.2∧x.2≠[]
def a08 (L:List Pt2) (r:List Lab×Smp):List Pt2:=C1 L r.1 [r.2]
def G9 (l:List Pt2):List (List Lab×Smp):=l.flatMap fun x=>x.2.map fun s=>(x.1,s)
theorem f0J:∀ (L:List Pt2) (ls:List Lab) (x:Smp) (ss:List Smp),C1 L ls (x::ss)=C1 (C1 L ls [x]) ls ss
 | [],ls,x,ss=>by
  have:l8 ls ls=0:=X7.2 rfl
  simp [C1,this]
 | y::L,ls,x,ss=>by
  have h0:l8 ls ls=0:=X7.2 rfl
  by_cases h1:l8 y.1 ls<0
  ·rw [C1,if_pos h1,C1,if_pos h1,C1,if_pos h1,f0J L ls x ss]
  ·by_cases h2:l8 y.1 ls=0
   ·rw [C1,if_neg h1,if_pos h2,C1,if_neg h1,if_pos h2,C1]
    simp only
    rw [if_neg h1,if_pos h2];rfl
   ·rw [C1,if_neg h1,if_neg h2,C1,if_neg h1,if_neg h2,C1]
    simp only
    rw [if_neg (by omega),if_pos h0];rfl
theorem f0K:∀ (ss:List Smp) (x:Smp) (L:List Pt2) (ls:List Lab),C1 L ls (x::ss)=((x::ss).map fun s=>(ls,s)).foldl a08 L
 | [],x,L,ls=>rfl
 | y::ss,x,L,ls=>by
  rw [f0J,f0K ss y]
  rfl
theorem j0R (L:List Pt2) (x:Pt2):e09 L x=(x.2.map fun s=>(x.1,s)).foldl a08 L:=by
 unfold e09
 obtain ⟨ls,ss⟩:=x
 cases ss with
 | nil=>rfl
 | cons s ss=>rw [if_neg (by simp)];exact f0K ss s L ls
theorem i0t (l:List Pt2):b0K l=(G9 l).foldl a08 []:=by
 have:∀ (l L:List Pt2),l.foldl e09 L=(G9 l).foldl a08 L:=by
  intro l
  induction l with
  | nil=>intro L;rfl
  | cons x l ih =>
   intro L
   have e:G9 (x::l)=x.2.map (fun s=>(x.1,s))++G9 l:=by simp [G9]
   rw [List.foldl_cons,ih,j0R,e,List.foldl_append]
 exact this l []
theorem h0v:∀ {l:List Smp} {s y:Smp},b0H l→(y ∈ B8 l s↔y=s∨y ∈ l∧y.1≠s.1)
 | [],s,y,_=>by simp [B8]
 | x::l,s,y,h=>by
  obtain ⟨h1,h2⟩:=List.pairwise_cons.1 h
  have ih:=@h0v l s y h2
  unfold B8
  split
  ·rename_i c
   rw [List.mem_cons,ih,List.mem_cons]
   constructor
   ·rintro (h | h | h)
    ·exact .inr ⟨.inl h,by rw [h];omega⟩
    ·exact .inl h
    ·exact .inr ⟨.inr h.1,h.2⟩
   ·rintro (h | ⟨h | h,h3⟩)
    ·exact .inr (.inl h)
    ·exact .inl h
    ·exact .inr (.inr ⟨h,h3⟩)
  ·rename_i c
   split
   ·rename_i c2
    rw [List.mem_cons,List.mem_cons]
    constructor
    ·rintro (h | h)
     ·exact .inl h
     ·have:=h1 y h;exact .inr ⟨.inr h,by omega⟩
    ·rintro (h | ⟨h | h,h3⟩)
     ·exact .inl h
     ·rw [h] at h3;exact absurd c2 h3
     ·exact .inr h
   ·rename_i c2
    rw [List.mem_cons]
    constructor
    ·rintro (h | h)
     ·exact .inl h
     ·refine .inr ⟨h,?_⟩
      rcases List.mem_cons.1 h with rfl | h
      ·exact c2
      ·have:=h1 y h;omega
    ·rintro (h | h)
     ·exact .inl h
     ·exact .inr h.1
theorem d0b:∀ {L:List Pt2} {ls:List Lab} {s:Smp} {x:Pt2},x ∈ C1 L ls [s]→(x.1=ls∨x ∈ L)
 | [],ls,s,x,h=>by simp [C1] at h;exact .inl (by rw [h])
 | y::L,ls,s,x,h=>by
  unfold C1 at h
  split at h
  ·rcases List.mem_cons.1 h with h | h
   ·exact .inr (by simp [h])
   ·rcases d0b h with h | h
    ·exact .inl h
    ·exact .inr (List.mem_cons_of_mem _ h)
  ·split at h
   ·rename_i h2
    rcases List.mem_cons.1 h with h | h
    ·exact .inl (by rw [h];exact X7.1 h2)
    ·exact .inr (List.mem_cons_of_mem _ h)
   ·rcases List.mem_cons.1 h with h | h
    ·exact .inl (by rw [h])
    ·exact .inr h
theorem e0G:∀ {L:List Pt2} {ls:List Lab} {s:Smp},Canon L→Canon (C1 L ls [s])
 | [],ls,s,_=>⟨by simp [C1],fun x hx=>by simp [C1] at hx;rw [hx];exact ⟨by simp [B8,b0H],by simp [B8]⟩⟩
 | y::L,ls,s,h=>by
  obtain ⟨h1,h2⟩:=List.pairwise_cons.1 h.asc
  have hL:Canon L:=⟨h2,fun x hx=>h.el x (List.mem_cons_of_mem _ hx)⟩
  have ih:=@e0G L ls s hL
  obtain ⟨e1,e2⟩:=h.el y List.mem_cons_self
  unfold C1
  split
  ·rename_i c
   refine ⟨List.pairwise_cons.2 ⟨fun x hx=>?_,ih.asc⟩,fun x hx=>?_⟩
   ·rcases d0b hx with hx | hx
    ·rw [hx];exact c
    ·exact h1 x hx
   ·rcases List.mem_cons.1 hx with rfl | hx
    ·exact ⟨e1,e2⟩
    ·exact ih.el x hx
  ·rename_i c
   split
   ·refine ⟨List.pairwise_cons.2 ⟨h1,h2⟩,fun x hx=>?_⟩
    rcases List.mem_cons.1 hx with rfl | hx
    ·exact ⟨c0O _ _ e1,fun e=>by have:=l0R y.2 s;simp only [List.foldl_cons,List.foldl_nil] at e;rw [e] at this;simp at this⟩
    ·exact hL.el x hx
   ·rename_i c2
    have c3:l8 ls y.1<0:=by rw [d0a];omega
    refine ⟨List.pairwise_cons.2 ⟨fun x hx=>?_,h.asc⟩,fun x hx=>?_⟩
    ·rcases List.mem_cons.1 hx with rfl | hx
     ·exact c3
     ·exact N0 c3 (h1 x hx)
    ·rcases List.mem_cons.1 hx with rfl | hx
     ·exact ⟨by simp [B8,b0H],by simp [B8]⟩
     ·exact h.el x hx
theorem m0r:∀ {a b:List Smp},b0H a→b0H b→(∀ y,y ∈ a↔y ∈ b)→a=b:=fun {a b} ha hb h=>by
 refine List.Perm.eq_of_pairwise (le:=fun x y:Smp=>x.1<y.1) (fun a b _ _ h1 h2=>by omega) ha hb ?_
 refine (List.perm_ext_iff_of_nodup ?_ ?_).2 h
 ·exact ha.imp fun {x y} h e=>by subst e;omega
 ·exact hb.imp fun {x y} h e=>by subst e;omega
end Go.Dk

namespace Go.Dk
open Go Go.Dr
set_option maxRecDepth 100000
abbrev Rw:=List Lab×Smp
theorem e0J:∀ (rs:List Rw) {L:List Pt2},Canon L→Canon (rs.foldl a08 L)
 | [],_,h=>h
 | r::rs,_,h=>e0J rs (e0G h)
theorem j0T:Canon []:=⟨List.Pairwise.nil,fun x hx=>by cases hx⟩
end Go.Dk

namespace Go.Dk
open Go Go.Dr
set_option maxRecDepth 100000
structure SjIn (h:AH) (x:Sj):Prop where
 lab:Sl h 2 x.1.2.length x.1.1 (x.1.2.flatMap H7)
 smp:Sl h 2 x.2.2.length x.2.1 (x.2.2.flatMap smC)
 short:k0J x.1.2
 rng:∀ y ∈ x.2.2,(-9223372036854775808≤y.1∧y.1<9223372036854775808)∧y.2<2 ^ 64
structure FewS (k:Nat) (y:Sj):Prop where
 short:k0J y.1.2
 rng:∀ z ∈ y.2.2,(-9223372036854775808≤z.1∧z.1<9223372036854775808)∧z.2<2 ^ 64
 lab:y.1.2.length≤10
 smp:y.2.2.length≤k
def i0M (h:AH) (k:Nat) (ys:List Sj):Prop:=∀ y ∈ ys,SjOk h y∧FewS k y
def n0s (h:AH) (m k:Nat) (r:AV) (g:AH):Prop:=Fr h g∧∃ ys:List Sj,Sl g 2 ys.length r (ys.flatMap sjC)∧ys.length≤m∧i0M g k ys
theorem f0W (mo k:Nat) (hmo:mo≤100) (hk:k≤2 ^ 40) {h:AH} {n:Nat} {v:AV} {xs:List Sj} (s:Sl h 2 n v (xs.flatMap sjC)) (hn:n<2 ^ 62) (he:∀ x ∈ xs,SjIn h x) :
  Ev P SI (.fn V5) [v,.int .i64 (mo:Int),.int .i64 (k:Int)] h (n0s h mo k):=by
 refine o9 h0p rfl rfl ?_
 have hl:xs.length=n:=by have:=s.1;rw [a0e] at this;omega
 simp [d0A,s.len]
 refine F6 (n:=n) (by rfl) (fun j σ ds g=>ds=[]∧σ 1=.int .i64 (mo:Int)∧σ 2=.int .i64 (k:Int)∧σ 10=v∧σ 11=.int .i64 (n:Int)∧Fr h g∧∃ ys:List Sj,Own h.next g 2 ys.length (σ 7) (ys.flatMap sjC)∧ys.length≤j∧ys.length≤mo∧i0M h k ys) (by omega) (by simp)
  ⟨rfl,by simp,by simp,by simp,by simp,.refl _,[],by simpa using Own.nil _ _,by simp,by simp,fun y hy=>by simp at hy⟩ (fun j σ ds g hJ=>by simp [hJ.2.2.2.2.1]) ?_ ?_
 ·rintro j σ ds g hj hi ⟨rfl,e1,e2,e10,e11,fr,ys,ho,hyj,hy6,hys⟩
  obtain ⟨x,hx⟩:=B9 (l:=xs) (j:=j) (by omega)
  have hok:=he x (List.mem_of_getElem? hx)
  obtain ⟨id,o,a1,a2,_⟩:=d0w (s.fr fr) hx
  have hlc:=hok.lab.oneCell
  have hsc:=hok.smp.oneCell
  have stn:=A7 (h:=g) (n:=2) (z:=[.nils,.nils]) (l:=sjC x) rfl rfl (by simp [sjC,a7,hlc.2,hsc.2])
  have fp:=Fr.push (.refl g) (.cells (sjC x) false)
  have ge:(g.push (.cells (sjC x) false)).get g.next=some (.cells (sjC x) false):=a8 _
  have gn:(g.push (.cells (sjC x) false)).next=g.next+1:=rfl
  obtain ⟨ov,hov⟩:∃ ov,σ 7=ov:=⟨_,rfl⟩
  rw [hov] at ho
  have ho1:=ho.fr fp
  have fr1:=fr.trans fp
  have stop:∃ ys':List Sj,Own h.next (g.push (.cells (sjC x) false)) 2 ys'.length ov (ys'.flatMap sjC)∧ys'.length≤j+1∧ys'.length≤mo∧i0M h k ys':=⟨ys,ho1,by omega,hy6,hys⟩
  generalize hg1:g.push (.cells (sjC x) false)=g1 at *
  have m0:load1 g1 g.next 0=.ok x.1.1:=c9 ge
  have m1:load1 g1 g.next 1=.ok x.2.1:=c9 ge
  have ll:=(hok.lab.fr fr1).len
  have sl:=(hok.smp.fr fr1).len
  by_cases c1:j<mo
  ·have c1':(j:Int)<mo:=by omega
   by_cases c2:x.1.2.length≤10
   ·have c2':(x.1.2.length:Int)≤10:=by omega
    obtain ⟨m,hm⟩:∃ m,min x.2.2.length k=m:=⟨_,rfl⟩
    have hmi:min (x.2.2.length:Int) (k:Int)=(m:Int):=by omega
    obtain ⟨u,eu,su⟩:=hok.smp.slice (lo:=none) (hi:=some (.int .i64 (m:Int))) (a:=0) (b:=m) (.inl ⟨rfl,rfl⟩) (.inr ⟨.i64,rfl⟩) (by omega) (by omega)
    rw [Nat.zero_mul,List.drop_zero,Nat.sub_zero,R0 (es:=2) (f:=smC) x.2.2 (fun _ _=>rfl)] at su
    have hml:(x.2.2.take m).length=m:=by rw [List.length_take];omega
    have huc:=su.oneCell
    have hy:SjOk h (x.1,(u,x.2.2.take m))∧FewS k (x.1,(u,x.2.2.take m)):=⟨⟨hok.lab,by show Sl h 2 (x.2.2.take m).length u _;rw [hml];exact su⟩,hok.short,fun y hy=>hok.rng y (List.mem_of_mem_take hy),by show x.1.2.length≤_;omega,by show (x.2.2.take m).length≤_;omega⟩
    obtain ⟨ov',g2,ap,ho2,fb⟩:=ho1.snoc (bytes:=48) (x:=sjC (x.1,(u,x.2.2.take m))) (by have:=fr1.next;omega) rfl (by simp [sjC,a7,hlc.2,huc.2]) (by omega) (by omega)
    have gep:(g1.push (.cells (sjC (x.1,(u,x.2.2.take m))) false)).get g.next=some (.cells (sjC x) false):=(b9 (show g.next≠g1.next by omega)).trans ge
    have m0p:load1 (g1.push (.cells (sjC (x.1,(u,x.2.2.take m))) false)) g.next 0=.ok x.1.1:=c9 gep
    have m1p:load1 (g1.push (.cells (sjC (x.1,(u,x.2.2.take m))) false)) g.next 1=.ok x.2.1:=c9 gep
    have q1:=hok.lab.same
    have q2:=hok.smp.same
    simp only [sjC] at ap m0p m1p
    simp [e1,e2,e10,e11,hi,a1,w8,a2,stn,hg1,m0,m1,ll,sl,c1',c2',hov,hmi,eu,u6,hlc.1,huc.1,m0p,m1p,q1,q2,ap]
    refine ⟨⟨Nat.le_trans fr1.next fb.next,fun i hi=>by rw [fb.get i hi,fr1.get i hi]⟩,ys++[(x.1,(u,x.2.2.take m))],?_,by simp;omega,by simp;omega,?_⟩
    ·rw [List.length_append,List.flatMap_append]
     simpa using ho2
    ·intro y hy2
     rcases List.mem_append.1 hy2 with hy2 | hy2
     ·exact hys y hy2
     ·simp at hy2
      subst hy2
      exact hy
   ·have c2':¬ (x.1.2.length:Int)≤10:=by omega
    simp [e1,e2,e10,e11,hi,a1,w8,a2,stn,hg1,m0,ll,c1',c2',hov]
    exact ⟨fr1,stop⟩
  ·have c1':¬ (j:Int)<mo:=by omega
   simp [e1,e2,e10,e11,hi,a1,w8,a2,stn,hg1,c1',hov]
   exact ⟨fr1,stop⟩
 ·rintro σ ds g ⟨rfl,e1,e2,e10,e11,fr,ys,ho,hyj,hy6,hys⟩
  have hK:n0s h mo k (σ 7) g:=⟨fr,ys,ho.sl,hy6,fun y hy=>⟨(hys y hy).1.fr fr,(hys y hy).2⟩⟩
  simp
  exact hK
end Go.Dk
