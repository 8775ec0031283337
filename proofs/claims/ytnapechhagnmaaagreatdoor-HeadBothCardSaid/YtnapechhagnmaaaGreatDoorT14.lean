/-
  Texts joined.
-/
import Derived.Test.YtnapechhagnmaaaGreatDoorT13

namespace Go.Dk
open Go Go.Dr
set_option maxRecDepth 100000
theorem g0j (a b:Txt):Z4 b a=- Z4 a b:=by
 unfold Z4
 rcases e0w a b with h | h | h
 ·simp [h,a0C h]
 ·subst h;simp [L0]
 ·simp [h,a0C h]
theorem O8 {a b:Txt}:Z4 a b=0↔a=b:=by
 unfold Z4
 rcases e0w a b with h | h | h
 ·simp [h];rintro rfl;simp [L0] at h
 ·subst h;simp [L0]
 ·simp [h,a0C h];rintro rfl;simp [L0] at h
theorem e07 {a b:Txt}:Z4 a b<0↔Op.bytesLess a b=true:=by
 unfold Z4
 rcases e0w a b with h | h | h
 ·simp [h]
 ·subst h;simp [L0]
 ·simp [h,a0C h]
theorem e08 {a b c:Txt} (h1:Z4 a b<0) (h2:Z4 b c<0):Z4 a c<0:=e07.2 (e0x (e07.1 h1) (e07.1 h2))
theorem k0o (x y:Lab):Z8 y x=- Z8 x y:=by
 unfold Z8
 rw [g0j x.1 y.1,g0j x.2 y.2]
 by_cases h:Z4 x.1 y.1=0
 ·simp [h]
 ·simp [h]
theorem T9 {x y:Lab}:Z8 x y=0↔x=y:=by
 unfold Z8
 constructor
 ·intro h
  split at h
  ·rename_i h1;exact Prod.ext (O8.1 h1) (O8.1 h)
  ·rename_i h1;exact absurd h h1
 ·rintro rfl;simp [O8.2 rfl]
theorem i0Z {x y z:Lab} (h1:Z8 x y<0) (h2:Z8 y z<0):Z8 x z<0:=by
 unfold Z8 at *
 by_cases a:Z4 x.1 y.1=0
 ·rw [if_pos a] at h1
  have a':=O8.1 a
  by_cases b:Z4 y.1 z.1=0
  ·rw [if_pos b] at h2
   have b':=O8.1 b
   rw [if_pos (O8.2 (a'.trans b'))]
   exact e08 h1 h2
  ·rw [if_neg b] at h2
   rw [a',if_neg b];exact h2
 ·rw [if_neg a] at h1
  by_cases b:Z4 y.1 z.1=0
  ·rw [if_pos b] at h2
   have b':=O8.1 b
   rw [← b',if_neg a];exact h1
  ·rw [if_neg b] at h2
   have:=e08 h1 h2
   rw [if_neg (by omega)];exact this
theorem a0m:∀ a b:List Lab,t7 b a=- t7 a b
 | [],[]=>by simp [t7]
 | [],_::_=>by simp [t7]
 | _::_,[]=>by simp [t7]
 | x::a,y::b=>by
  have ih:=a0m a b
  simp only [t7,k0o x y]
  by_cases h:Z8 x y=0
  ·simp [h,ih]
  ·simp [h]
theorem B9:∀ {a b:List Lab},t7 a b=0↔a=b
 | [],[]=>by simp [t7]
 | [],_::_=>by simp [t7]
 | _::_,[]=>by simp [t7]
 | x::a,y::b=>by
  have ih:=@B9 a b
  simp only [t7,List.cons.injEq]
  by_cases h:Z8 x y=0
  ·rw [if_pos h,ih];simp [T9.1 h]
  ·rw [if_neg h]
   constructor
   ·intro e;exact absurd e h
   ·rintro ⟨e,_⟩;exact absurd (T9.2 e) h
theorem K3:∀ {a b c:List Lab},t7 a b<0→t7 b c<0→t7 a c<0
 | [],[],_,h1,_=>by simp [t7] at h1
 | [],_::_,[],_,h2=>by simp [t7] at h2
 | [],_::_,_::_,_,_=>by simp [t7]
 | _::_,[],_,h1,_=>by simp [t7] at h1
 | _::_,_::_,[],_,h2=>by simp [t7] at h2
 | x::a,y::b,z::c,h1,h2=>by
  simp only [t7] at *
  by_cases p:Z8 x y=0
  ·rw [if_pos p] at h1
   have p':=T9.1 p
   by_cases q:Z8 y z=0
   ·rw [if_pos q] at h2
    rw [if_pos (T9.2 (p'.trans (T9.1 q)))]
    exact K3 h1 h2
   ·rw [if_neg q] at h2
    rw [p',if_neg q];exact h2
  ·rw [if_neg p] at h1
   by_cases q:Z8 y z=0
   ·rw [if_pos q] at h2
    rw [← T9.1 q,if_neg p];exact h1
   ·rw [if_neg q] at h2
    have:=i0Z h1 h2
    rw [if_neg (by omega)];exact this
abbrev Pt2:=List Lab×List Smp
structure Canon (L:List Pt2):Prop where
 asc:L.Pairwise fun a b=>t7 a.1 b.1<0
 el:∀ x ∈ L,e0k x.2∧x.2≠[]
def F9 (L:List Pt2) (r:List Lab×Smp):List Pt2:=J8 L r.1 [r.2]
def I5 (l:List Pt2):List (List Lab×Smp):=l.flatMap fun x=>x.2.map fun s=>(x.1,s)
def Has (L:List Pt2) (ls:List Lab) (s:Smp):Prop:=∃ x ∈ L,x.1=ls∧s ∈ x.2
theorem e09:∀ {l:List Smp} {s y:Smp},e0k l→(y ∈ O1 l s↔y=s∨y ∈ l∧y.1≠s.1)
 | [],s,y,_=>by simp [O1]
 | x::l,s,y,h=>by
  obtain ⟨h1,h2⟩:=List.pairwise_cons.1 h
  have ih:=@e09 l s y h2
  unfold O1
  split
  ·rename_i c
   rw [List.mem_cons,ih,List.mem_cons]
   constructor
   ·rintro (h | h | h)
    ·exact .inr ⟨.inl h,by rw [h];omega⟩
    ·exact .inl h
    ·exact .inr ⟨.inr h.1,h.2⟩
   ·rintro (h | ⟨h | h,h3⟩)
    ·exact .inr (.inl h)
    ·exact .inl h
    ·exact .inr (.inr ⟨h,h3⟩)
  ·rename_i c
   split
   ·rename_i c2
    rw [List.mem_cons,List.mem_cons]
    constructor
    ·rintro (h | h)
     ·exact .inl h
     ·have:=h1 y h;exact .inr ⟨.inr h,by omega⟩
    ·rintro (h | ⟨h | h,h3⟩)
     ·exact .inl h
     ·rw [h] at h3;exact absurd c2 h3
     ·exact .inr h
   ·rename_i c2
    rw [List.mem_cons]
    constructor
    ·rintro (h | h)
     ·exact .inl h
     ·refine .inr ⟨h,?_⟩
      rcases List.mem_cons.1 h with rfl | h
      ·exact c2
      ·have:=h1 y h;omega
    ·rintro (h | h)
     ·exact .inl h
     ·exact .inr h.1
theorem d0z:∀ {L:List Pt2} {ls:List Lab} {s:Smp} {x:Pt2},x ∈ J8 L ls [s]→(x.1=ls∨x ∈ L)
 | [],ls,s,x,h=>by simp [J8] at h;exact .inl (by rw [h])
 | y::L,ls,s,x,h=>by
  unfold J8 at h
  split at h
  ·rcases List.mem_cons.1 h with h | h
   ·exact .inr (by simp [h])
   ·rcases d0z h with h | h
    ·exact .inl h
    ·exact .inr (List.mem_cons_of_mem _ h)
  ·split at h
   ·rename_i h2
    rcases List.mem_cons.1 h with h | h
    ·exact .inl (by rw [h];exact B9.1 h2)
    ·exact .inr (List.mem_cons_of_mem _ h)
   ·rcases List.mem_cons.1 h with h | h
    ·exact .inl (by rw [h])
    ·exact .inr h
theorem W2:∀ {L:List Pt2} {ls:List Lab} {s:Smp},Canon L→Canon (J8 L ls [s])
 | [],ls,s,_=>⟨by simp [J8],fun x hx=>by simp [J8] at hx;rw [hx];exact ⟨by simp [O1,e0k],by simp [O1]⟩⟩
 | y::L,ls,s,h=>by
  obtain ⟨h1,h2⟩:=List.pairwise_cons.1 h.asc
  have hL:Canon L:=⟨h2,fun x hx=>h.el x (List.mem_cons_of_mem _ hx)⟩
  have ih:=@W2 L ls s hL
  obtain ⟨e1,e2⟩:=h.el y List.mem_cons_self
  unfold J8
  split
  ·rename_i c
   refine ⟨List.pairwise_cons.2 ⟨fun x hx=>?_,ih.asc⟩,fun x hx=>?_⟩
   ·rcases d0z hx with hx | hx
    ·rw [hx];exact c
    ·exact h1 x hx
   ·rcases List.mem_cons.1 hx with rfl | hx
    ·exact ⟨e1,e2⟩
    ·exact ih.el x hx
  ·rename_i c
   split
   ·refine ⟨List.pairwise_cons.2 ⟨h1,h2⟩,fun x hx=>?_⟩
    rcases List.mem_cons.1 hx with rfl | hx
    ·exact ⟨f0v _ _ e1,fun e=>by have:=m0k y.2 s;simp only [List.foldl_cons,List.foldl_nil] at e;rw [e] at this;simp at this⟩
    ·exact hL.el x hx
   ·rename_i c2
    have c3:t7 ls y.1<0:=by rw [a0m];omega
    refine ⟨List.pairwise_cons.2 ⟨fun x hx=>?_,h.asc⟩,fun x hx=>?_⟩
    ·rcases List.mem_cons.1 hx with rfl | hx
     ·exact c3
     ·exact K3 c3 (h1 x hx)
    ·rcases List.mem_cons.1 hx with rfl | hx
     ·exact ⟨by simp [O1,e0k],by simp [O1]⟩
     ·exact h.el x hx
theorem b0B:∀ {L:List Pt2} {ls:List Lab} {s:Smp},Canon L→∀ l y,Has (J8 L ls [s]) l y↔(l=ls∧y=s)∨Has L l y∧¬ (l=ls∧y.1=s.1)
 | [],ls,s,_,l,y=>by
  simp only [Has,J8,List.mem_singleton,List.foldl_cons,List.foldl_nil,O1]
  constructor
  ·rintro ⟨x,rfl,h1,h2⟩;simp at h2;exact .inl ⟨h1.symm,h2⟩
  ·rintro (⟨rfl,rfl⟩ | ⟨⟨x,hx,_⟩,_⟩)
   ·exact ⟨_,rfl,rfl,by simp⟩
   ·cases hx
 | z::L,ls,s,h,l,y=>by
  obtain ⟨h1,h2⟩:=List.pairwise_cons.1 h.asc
  have hL:Canon L:=⟨h2,fun x hx=>h.el x (List.mem_cons_of_mem _ hx)⟩
  have ih:=@b0B L ls s hL l y
  obtain ⟨e1,e2⟩:=h.el z List.mem_cons_self
  have hc:∀ (a:Pt2) (M:List Pt2),Has (a::M) l y↔(a.1=l∧y ∈ a.2)∨Has M l y:=fun a M=>by
   constructor
   ·rintro ⟨x,hx,q1,q2⟩
    rcases List.mem_cons.1 hx with rfl | hx
    ·exact .inl ⟨q1,q2⟩
    ·exact .inr ⟨x,hx,q1,q2⟩
   ·rintro (⟨q1,q2⟩ | ⟨x,hx,q1,q2⟩)
    ·exact ⟨a,List.mem_cons_self,q1,q2⟩
    ·exact ⟨x,List.mem_cons_of_mem _ hx,q1,q2⟩
  unfold J8
  split
  ·rename_i c
   rw [hc,hc,ih]
   have hne:z.1≠ls:=fun e=>by rw [e,B9.2 rfl] at c;omega
   constructor
   ·rintro (⟨q1,q2⟩ | q | ⟨q1,q2⟩)
    ·exact .inr ⟨.inl ⟨q1,q2⟩,fun h=>hne (q1.trans h.1)⟩
    ·exact .inl q
    ·exact .inr ⟨.inr q1,q2⟩
   ·rintro (q | ⟨q | q,q2⟩)
    ·exact .inr (.inl q)
    ·exact .inl q
    ·exact .inr (.inr ⟨q,q2⟩)
  ·rename_i c
   split
   ·rename_i c2
    have ez:=B9.1 c2
    rw [hc,hc]
    simp only [List.foldl_cons,List.foldl_nil,e09 e1]
    have hout:Has L l y→l≠ls:=fun ⟨x,hx,q1,_⟩ e=>by
     have:=h1 x hx
     rw [q1,e,ez,B9.2 rfl] at this
     omega
    constructor
    ·rintro (⟨q1,q2 | ⟨q2,q3⟩⟩ | q)
     ·exact .inl ⟨q1.symm.trans ez,q2⟩
     ·exact .inr ⟨.inl ⟨q1,q2⟩,fun h=>q3 h.2⟩
     ·exact .inr ⟨.inr q,fun h=>hout q h.1⟩
    ·rintro (⟨q1,q2⟩ | ⟨⟨q1,q2⟩ | q,q3⟩)
     ·exact .inl ⟨ez.trans q1.symm,.inl q2⟩
     ·exact .inl ⟨q1,.inr ⟨q2,fun e=>q3 ⟨q1.symm.trans ez,e⟩⟩⟩
     ·exact .inr q
   ·rename_i c2
    rw [hc]
    simp only [List.foldl_cons,List.foldl_nil,O1,List.mem_singleton]
    have hout:Has (z::L) l y→l≠ls:=fun ⟨x,hx,q1,_⟩ e=>by
     have c3:t7 ls z.1<0:=by rw [a0m];omega
     rcases List.mem_cons.1 hx with rfl | hx
     ·rw [q1,e,B9.2 rfl] at c3;omega
     ·have:=K3 c3 (h1 x hx)
      rw [q1,e,B9.2 rfl] at this;omega
    constructor
    ·rintro (⟨q1,q2⟩ | q)
     ·exact .inl ⟨q1.symm,q2⟩
     ·exact .inr ⟨q,fun h=>hout q h.1⟩
    ·rintro (⟨q1,q2⟩ | ⟨q,_⟩)
     ·exact .inl ⟨q1.symm,q2⟩
     ·exact .inr q
theorem j0E:∀ {a b:List Smp},e0k a→e0k b→(∀ y,y ∈ a↔y ∈ b)→a=b:=fun {a b} ha hb h=>by
 refine List.Perm.eq_of_pairwise (le:=fun x y:Smp=>x.1<y.1) (fun a b _ _ h1 h2=>by omega) ha hb ?_
 refine (List.perm_ext_iff_of_nodup ?_ ?_).2 h
 ·exact ha.imp fun {x y} h e=>by subst e;omega
 ·exact hb.imp fun {x y} h e=>by subst e;omega
theorem i00 {L:List Pt2} (h:Canon L) {x:Pt2} (hx:x ∈ L) {y:Smp}:Has L x.1 y↔y ∈ x.2:=by
 constructor
 ·rintro ⟨z,hz,h1,h2⟩
  have:z=x:=by
   obtain ⟨i,hi⟩:=List.mem_iff_getElem?.1 hz
   obtain ⟨j,hj⟩:=List.mem_iff_getElem?.1 hx
   have key:∀ {i j:Nat} {a b:Pt2},L[i]? = some a→L[j]? = some b→i<j→t7 a.1 b.1<0:=fun {i j a b} hi hj hij=>by
    obtain ⟨q1,e1⟩:=List.getElem?_eq_some_iff.1 hi
    obtain ⟨q2,e2⟩:=List.getElem?_eq_some_iff.1 hj
    have:=List.pairwise_iff_getElem.1 h.asc i j q1 q2 hij
    rw [e1,e2] at this
    exact this
   rcases Nat.lt_trichotomy i j with h3 | h3 | h3
   ·have:=key hi hj h3;rw [h1,B9.2 rfl] at this;omega
   ·subst h3;rw [hi] at hj;exact Option.some.inj hj
   ·have:=key hj hi h3;rw [h1,B9.2 rfl] at this;omega
  rw [← this];exact h2
 ·intro hy;exact ⟨x,hx,rfl,hy⟩
theorem k0p {L M:List Pt2} (hL:Canon L) (hM:Canon M) (h:∀ l y,Has L l y↔Has M l y):L=M:=by
 have sub:∀ {L M:List Pt2},Canon L→Canon M→(∀ l y,Has L l y↔Has M l y)→∀ x ∈ L,x ∈ M:=by
  intro L M hL hM h x hx
  obtain ⟨y,hy⟩:=List.exists_mem_of_ne_nil _ (hL.el x hx).2
  obtain ⟨z,hz,h1,h2⟩:=(h x.1 y).1 ((i00 hL hx).2 hy)
  have:x.2=z.2:=j0E (hL.el x hx).1 (hM.el z hz).1 fun w=>by
   rw [← i00 hL hx,h,← h1,i00 hM hz]
  have:x=z:=Prod.ext h1.symm this
  rw [this];exact hz
 have nd:∀ {L:List Pt2},Canon L→L.Nodup:=fun h=>h.asc.imp fun {a b} hab e=>by subst e;rw [B9.2 rfl] at hab;omega
 refine List.Perm.eq_of_pairwise (le:=fun a b:Pt2=>t7 a.1 b.1<0) (fun a b _ _ h1 h2=>by rw [a0m] at h2;omega) hL.asc hM.asc ?_
 exact (List.perm_ext_iff_of_nodup (nd hL) (nd hM)).2 fun x=>⟨sub hL hM h x,sub hM hL (fun l y=>(h l y).symm) x⟩
end Go.Dk

namespace Go.Dk
open Go Go.Dr
set_option maxRecDepth 100000
abbrev Rw:=List Lab×Smp
theorem E6:∀ (rs:List Rw) {L:List Pt2},Canon L→Canon (rs.foldl F9 L)
 | [],_,h=>h
 | r::rs,_,h=>E6 rs (W2 h)
theorem O9:Canon []:=⟨List.Pairwise.nil,fun x hx=>by cases hx⟩
theorem h0Z:∀ (rs:List Rw) {L:List Pt2},Canon L→rs.Pairwise (fun a b=>¬ (a.1=b.1∧a.2.1=b.2.1))→∀ l y,Has (rs.foldl F9 L) l y↔(l,y) ∈ rs∨Has L l y∧¬ ∃ z,(l,z) ∈ rs∧z.1=y.1
 | [],L,_,_,l,y=>by simp
 | r::rs,L,h,hp,l,y=>by
  obtain ⟨h1,h2⟩:=List.pairwise_cons.1 hp
  have ih:=h0Z rs (W2 (ls:=r.1) (s:=r.2) h) h2 l y
  have hi:=b0B (ls:=r.1) (s:=r.2) h l y
  show Has (rs.foldl F9 (J8 L r.1 [r.2])) l y↔_
  rw [ih,hi]
  have hr:∀ z,(l,z)=r↔l=r.1∧z=r.2:=fun z=>⟨fun e=>by rw [← e];exact ⟨rfl,rfl⟩,fun e=>Prod.ext e.1 e.2⟩
  simp only [List.mem_cons,hr]
  constructor
  ·rintro (q | ⟨q | ⟨q1,q2⟩,q3⟩)
   ·exact .inl (.inr q)
   ·exact .inl (.inl q)
   ·refine .inr ⟨q1,?_⟩
    rintro ⟨z,z1 | z1,z2⟩
    ·exact q2 ⟨z1.1,by rw [← z2,z1.2]⟩
    ·exact q3 ⟨z,z1,z2⟩
  ·rintro ((q | q) | ⟨q1,q2⟩)
   ·by_cases hz:∃ z,(l,z) ∈ rs∧z.1=y.1
    ·obtain ⟨z,z1,z2⟩:=hz
     exact absurd ⟨by rw [← q.1],by rw [← q.2,z2]⟩ (h1 _ z1)
    ·exact .inr ⟨.inl q,hz⟩
   ·exact .inl q
   ·refine .inr ⟨.inr ⟨q1,fun e=>q2 ⟨r.2,.inl ⟨e.1,rfl⟩,e.2.symm⟩⟩,fun ⟨z,z1,z2⟩=>q2 ⟨z,.inr z1,z2⟩⟩
theorem l0N {M:List Pt2} {l:List Lab} {y:Smp}:(l,y) ∈ I5 M↔Has M l y:=by
 unfold I5 Has
 rw [List.mem_flatMap]
 constructor
 ·rintro ⟨x,hx,h⟩
  obtain ⟨s,hs,e⟩:=List.mem_map.1 h
  cases e
  exact ⟨x,hx,rfl,hs⟩
 ·rintro ⟨x,hx,rfl,h⟩
  exact ⟨x,hx,List.mem_map.2 ⟨y,h,rfl⟩⟩
theorem h00 {M:List Pt2} (h:Canon M):(I5 M).Pairwise (fun a b=>¬ (a.1=b.1∧a.2.1=b.2.1)):=by
 unfold I5
 rw [List.pairwise_flatMap]
 refine ⟨fun x hx=>?_,h.asc.imp fun {a b} hab x hx y hy e=>?_⟩
 ·rw [List.pairwise_map]
  exact (h.el x hx).1.imp fun {a b} hab e=>by have:=e.2;simp only at this;omega
 ·obtain ⟨s,_,rfl⟩:=List.mem_map.1 hx
  obtain ⟨t,_,rfl⟩:=List.mem_map.1 hy
  have:=e.1
  simp only at this
  rw [this,B9.2 rfl] at hab
  omega
theorem h01 {L M:List Pt2} (hL:Canon L) (hM:Canon M) (l:List Lab) (y:Smp):Has ((I5 M).foldl F9 L) l y↔Has M l y∨Has L l y∧¬ ∃ z,Has M l z∧z.1=y.1:=by
 rw [h0Z _ hL (h00 hM)]
 simp only [l0N]
theorem m0U {α:Type} {P:List α→Prop} (h0:P []) (h1:∀ l a,P l→P (l++[a])) (l:List α):P l:=by
 have:∀ l:List α,P l.reverse:=by
  intro l
  induction l with
  | nil=>exact h0
  | cons a l ih=>rw [List.reverse_cons];exact h1 _ _ ih
 have:=this l.reverse
 rwa [List.reverse_reverse] at this
theorem g0k {L:List Pt2} (hL:Canon L) (rs:List Rw):(I5 (rs.foldl F9 [])).foldl F9 L=rs.foldl F9 L:=by
 refine m0U (P:=fun rs=>(I5 (rs.foldl F9 [])).foldl F9 L=rs.foldl F9 L) ?_ ?_ rs
 ·rfl
 ·intro rs r ih
  have hM:=E6 rs O9
  have hB:=E6 rs hL
  have e1:(rs++[r]).foldl F9 []=J8 (rs.foldl F9 []) r.1 [r.2]:=by rw [List.foldl_append];rfl
  have e2:(rs++[r]).foldl F9 L=J8 (rs.foldl F9 L) r.1 [r.2]:=by rw [List.foldl_append];rfl
  rw [e1,e2]
  have hM':=W2 (ls:=r.1) (s:=r.2) hM
  refine k0p (E6 _ hL) (W2 hB) fun l y=>?_
  rw [h01 hL hM',b0B hB,← ih,h01 hL hM,b0B hM]
  simp only [b0B hM]
  constructor
  ·rintro ((q | ⟨q1,q2⟩) | ⟨q1,q2⟩)
   ·exact .inl q
   ·exact .inr ⟨.inl q1,q2⟩
   ·by_cases e:l=r.1∧y.1=r.2.1
    ·exact absurd ⟨r.2,.inl ⟨e.1,rfl⟩,e.2.symm⟩ q2
    ·refine .inr ⟨.inr ⟨q1,fun ⟨z,z1,z2⟩=>q2 ⟨z,.inr ⟨z1,fun e'=>e ⟨e'.1,by rw [← z2];exact e'.2⟩⟩,z2⟩⟩,e⟩
  ·rintro (q | ⟨q | ⟨q1,q2⟩,q3⟩)
   ·exact .inl (.inl q)
   ·exact .inl (.inr ⟨q,q3⟩)
   ·refine .inr ⟨q1,?_⟩
    rintro ⟨z,z1 | z1,z2⟩
    ·exact q3 ⟨z1.1,by rw [← z2,z1.2]⟩
    ·exact q2 ⟨z,z1.1,z2⟩
theorem k0r (A B:List Rw):(I5 (A.foldl F9 [])++I5 (B.foldl F9 [])).foldl F9 []=(A++B).foldl F9 []:=by
 rw [List.foldl_append,g0k O9,g0k (E6 A O9),List.foldl_append]
end Go.Dk

namespace Go.Dk
open Go Go.Dr
set_option maxRecDepth 100000
structure SjIn (h:AH) (x:Sj):Prop where
 lab:Sl h 2 x.1.2.length x.1.1 (x.1.2.flatMap M2)
 smp:Sl h 2 x.2.2.length x.2.1 (x.2.2.flatMap smC)
 short:h0p x.1.2
 rng:∀ y ∈ x.2.2,(-9223372036854775808≤y.1∧y.1<9223372036854775808)∧y.2<2 ^ 64
structure FewS (k:Nat) (y:Sj):Prop where
 short:h0p y.1.2
 rng:∀ z ∈ y.2.2,(-9223372036854775808≤z.1∧z.1<9223372036854775808)∧z.2<2 ^ 64
 lab:y.1.2.length≤10
 smp:y.2.2.length≤k
end Go.Dk
