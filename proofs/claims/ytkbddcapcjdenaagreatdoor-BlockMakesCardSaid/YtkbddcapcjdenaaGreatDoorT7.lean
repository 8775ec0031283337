/-
  Texts joined.
-/
import Derived.Test.YtkbddcapcjdenaaGreatDoorT6
import Derived.Test.YtkbddcapcjdenaaGreatDoorT5
import Derived.Test.YtkbddcapcjdenaaGreatDoorT4
import Derived.Shelf.SortM.Plain
import Derived.Shelf.SortM.SortNone
import Derived.Shelf.SlSortCmp.WholeK
import Derived.Shelf.SlSortCmp.NoneTotal
import Derived.Shelf.SlicesG.Cmp
import Derived.Ground.SlgmProg
import Derived.Ground.SlsfProg
import Derived.Ground.SlgcProg
import Derived.Test.YtkbddcapcjdenaaGreatDoorProg
import Derived.StillTailTactics
import Derived.Test.YtkbddcapcjdenaaGreatDoorRows
import Derived.Test.YtkbddcapcjdenaaGreatDoorCards
import Derived.Test.YtkbddcapcjdenaaGreatDoorTie
import Derived.Test.YtkbddcapcjdenaaGreatDoorT2
import Derived.Lib.LaidIn
import Derived.SevenTiedAt
import Derived.SizedLaws
import Derived.Lib.LaidTab

namespace Go.Dk
open Go Go.Dr
set_option maxRecDepth 100000
theorem b0t (z:Int) (h:AH) (K:AV→AH→Prop):Ev P SI (.fn A8) [.int .i64 z] h K=K (.slice h.next 0 4 4 true 1) (h.push (.cells (by8 (be 4 (n64 z))) false)):=by
 refine Ev.eq (j9 q0o rfl rfl ?_) K
 have cp:=h0v (n64 z) 4 (t0b z) (by omega)
 rw [show ((4:Nat):Int)=4 from rfl] at cp
 simp [j0h,m0b,cp]
theorem v02 (z:Int) (h:AH) (K:AV→AH→Prop):Ev P SI (.fn d0O) [.int .i64 z] h K=K (.slice h.next 0 8 8 true 1) (h.push (.cells (by8 (be 8 (n64 z))) false)):=by
 refine Ev.eq (j9 s0S rfl rfl ?_) K
 have cp:=h0v (n64 z) 8 (t0b z) (by omega)
 rw [show ((8:Nat):Int)=8 from rfl] at cp
 simp [l0p,m0b,cp]
theorem d0V {h:AH} {n:Nat} {v:AV} {T:List Txt} {s:Txt} (hv:Sl h 1 n v (tx T)) (hn:n≤2 ^ 40) (hs:s ∈ T) (K:AV→AH→Prop):Ev P SI (.fn K9) [v,.str s] h K=K (.int .i64 (pl T s:Int)) h:=by
 refine Ev.eq (j9 o0h rfl rfl ?_) K
 have hl:T.length=n:=by have:=hv.1;simpa [tx] using this
 have hp:=j0c hs
 simp [h0P,hv.len]
 refine l8 (n:=n) (by rfl) (fun j σ ds g=>ds=[]∧σ 1=.str s∧σ 7=v∧σ 8=.int .i64 (n:Int)∧g=h∧j≤pl T s) (by omega) (by simp) (by simp) (fun j σ ds g hJ=>by simp [hJ.2.2.2.1]) ?_ ?_
 ·rintro j σ ds g hj hi ⟨rfl,e1,e7,e8,rfl,hle⟩
  obtain ⟨x,hx⟩:=l4 (l:=T) (j:=j) (by omega)
  obtain ⟨id,o,a1,a2,_⟩:=hv.get1 (k:=.i64) (i:=(j:Int)) rfl hj (x:=.str x) (by simp [tx,hx])
  by_cases he:x=s
  ·subst he
   have:pl T x=j:=by
    by_cases hlt:j<pl T x
    ·exfalso
     have:=List.not_of_lt_findIdx (p:=fun y=>y == x) (xs:=T) (i:=j) (by simpa [pl,List.idxOf] using hlt)
     simp [List.getElem?_eq_some_iff.1 hx |>.2] at this
    ·omega
   simp [e1,e7,e8,hi,a1,a2,this]
  ·have hne:j≠pl T s:=fun e=>he (by have:=k0e hs;rw [← e,hx] at this;exact Option.some.inj this)
   simp [e1,e7,e8,hi,a1,a2,he]
   omega
 ·rintro σ ds g ⟨rfl,e1,e7,e8,rfl,hle⟩
  omega
def l0K:List Lab→Txt→Txt
 | [],_=>[]
 | k::l,n=>if k.1=n then k.2 else l0K l n
theorem k0l:∀ (l:List Lab) (j:Nat) (n:Txt),(∀ i x,i<j→l[i]? = some x→x.1≠n)→l0K l n=l0K (l.drop j) n
 | l,0,n,_=>rfl
 | [],j+1,n,_=>by simp
 | k::l,j+1,n,h=>by
  have h0:=h 0 k (by omega) rfl
  rw [l0K,if_neg h0,List.drop_succ_cons]
  exact k0l l j n (fun i x hi hx=>h (i+1) x (by omega) (by simpa using hx))
theorem v03 {h:AH} {n:Nat} {v:AV} {l:List Lab} {s:Txt} (hv:Sl h 2 n v (l.flatMap M3)) (hn:n≤2 ^ 40):Ev P SI (.fn b0Q) [v,.str s] h fun r g=>r=.str (l0K l s)∧Fr h g:=by
 refine j9 s0T rfl rfl ?_
 have hl:=a0k hv
 simp [l0q,hv.len]
 refine l8 (n:=n) (by rfl) (fun j σ ds g=>ds=[]∧σ 1=.str s∧σ 7=v∧σ 8=.int .i64 (n:Int)∧Fr h g∧∀ i x,i<j→l[i]? = some x→x.1≠s) (by omega) (by simp) ⟨rfl,by simp,by simp,by simp,.refl _,fun i x hi=>by omega⟩ (fun j σ ds g hJ=>by simp [hJ.2.2.2.1]) ?_ ?_
 ·rintro j σ ds g hj hi ⟨rfl,e1,e7,e8,fr,hne⟩
  obtain ⟨⟨nm,vl⟩,hx⟩:=l4 (l:=l) (j:=j) (by omega)
  obtain ⟨i1,o1,a1,a2,_⟩:=b0k (hv.fr fr) (k:=.i64) (i:=(j:Int)) rfl hx
  have stn:=k9 (h:=g) (n:=2) (z:=[.str [],.str []]) (l:=[.str nm,.str vl]) rfl rfl rfl
  have fp:=Fr.push fr (.cells [.str nm,.str vl] false)
  have ge:(g.push (.cells [.str nm,.str vl] false)).get g.next=some (.cells [.str nm,.str vl] false):=b8 _
  have m0:load1 (g.push (.cells [.str nm,.str vl] false)) g.next 0=.ok (.str nm):=b9 ge
  have m1:load1 (g.push (.cells [.str nm,.str vl] false)) g.next 1=.ok (.str vl):=b9 ge
  by_cases he:nm=s
  ·subst he
   have:l0K l nm=vl:=by
    rw [k0l l j nm hne,i0N hx,l0K,if_pos rfl]
   simp [e1,e7,e8,hi,a1,a2,o7,stn,m0,m1,this]
   exact fp
  ·simp [e1,e7,e8,hi,a1,a2,o7,stn,m0,m1,he]
   refine ⟨fp,fun i a b hi' hx'=>?_⟩
   by_cases hij:i=j
   ·subst hij;rw [hx] at hx';cases hx';exact he
   ·exact hne i (a,b) (by omega) hx'
 ·rintro σ ds g ⟨rfl,e1,e7,e8,fr,hne⟩
  have:l0K l s=[]:=by rw [k0l l n s hne,List.drop_of_length_le (by omega)];rfl
  simp [this]
  exact fr
theorem t0N {α:Type} {lt:α→α→Prop} (ht:∀ a b c,lt a b→lt b c→lt a c) {l:List α} {q:Nat} {s:α} (h:l.Pairwise lt) (h1:∀ x ∈ l.take q,lt x s) (h2:∀ x ∈ l.drop q,lt s x):(l.take q++[s]++l.drop q).Pairwise lt:=by
 rw [List.append_assoc,List.pairwise_append]
 refine ⟨h.sublist (List.take_sublist _ _),?_,fun a ha b hb=>?_⟩
 ·rw [List.singleton_append,List.pairwise_cons]
  exact ⟨h2,h.sublist (List.drop_sublist _ _)⟩
 ·rw [List.singleton_append] at hb
  rcases List.mem_cons.1 hb with rfl | hb
  ·exact h1 a ha
  ·exact ht _ _ _ (h1 a ha) (h2 b hb)
theorem p0c:∀ (l:List Txt),d7 (tx l)=true
 | []=>rfl
 | x::l=>by
  show (AV.scalar (.str x)&&d7 (tx l))=true
  rw [p0c l];rfl
theorem k0m (a b:List Txt):tx (a++b)=tx a++tx b:=by simp [tx]
def x0q (h:AH) (n:Nat) (l:List Txt) (s:Txt) (r:AV) (g:AH):Prop:=∃ l' n',Sl g 1 n' r (tx l')∧t0F l'∧(∀ x,x ∈ l'↔x ∈ l∨x=s)∧Fr h g∧n'≤n+1
theorem m0Z {h:AH} {n:Nat} {v:AV} {l:List Txt} {s:Txt} (hv:Sl h 1 n v (tx l)) (hA:t0F l) (hn:n≤2 ^ 30):Ev P SI (.fn c0t) [v,.str s] h (x0q h n l s):=by
 refine j9 q0n rfl rfl ?_
 have hl:l.length=n:=by have:=hv.1;simpa [tx] using this
 simp [j0g,hv.len]
 refine U2 (fun q σ ds g=>q≤n∧ds=[]∧σ 0=v∧σ 1=.str s∧σ 5=.int .i64 (q:Int)∧g=h∧∀ i y,q≤i→l[i]? = some y→Op.bytesLess y s=false) n ⟨Nat.le_refl _,rfl,by simp,by simp,by simp,rfl,fun i y hi hy=>by have:=(List.getElem?_eq_some_iff.1 hy).1;omega⟩ ?_
 rintro q σ ds g ⟨hq,rfl,e0,e1,e5,rfl,hge⟩
 obtain ⟨a,b,v1,g1,v2,g2,v3,g3,f1,f2,f3,f4,f5,f6,f7⟩:=D0h (x:=[.str s]) (bytes:=16) hv hq rfl (by rw [show tx l++[AV.str s]=tx (l++[s]) from by rw [k0m];rfl];exact p0c _) (by omega) (by omega) .i64 .i64
 have fin:(∀ i y,i<q→l[i]? = some y→Op.bytesLess y s=true)→(∀ y,l[q]? = some y→y≠s)→x0q g n l s v3 g3:=by
  intro hlt hne
  refine ⟨l.take q++[s]++l.drop q,n+1,?_,?_,fun x=>?_,f7,Nat.le_refl _⟩
  ·have:=f6.sl
   rw [Nat.mul_one] at this
   rw [k0m,k0m]
   simpa [tx] using this
  ·refine t0N k0c hA (fun x hx=>?_) (fun x hx=>?_)
   ·obtain ⟨i,hi1,hi2⟩:=List.mem_iff_getElem.1 hx
    rw [List.getElem_take] at hi2
    rw [List.length_take] at hi1
    exact hlt i x (by omega) (by rw [List.getElem?_eq_getElem (by omega),hi2])
   ·obtain ⟨i,hi1,hi2⟩:=List.mem_iff_getElem.1 hx
    rw [List.getElem_drop] at hi2
    rw [List.length_drop] at hi1
    have hgx:l[q+i]? = some x:=by rw [List.getElem?_eq_getElem (by omega),hi2]
    have hql:q<l.length:=by omega
    obtain ⟨y,hy⟩:=l4 (l:=l) (j:=q) hql
    have h1:=hge q y (Nat.le_refl _) hy
    have h2:=hne y hy
    have h3:ltT s y:=by
     rcases r0i y s with h | h | h
     ·rw [h] at h1;cases h1
     ·exact absurd h h2
     ·exact h
    by_cases hi0:i=0
    ·subst hi0;rw [Nat.add_zero,hy] at hgx;cases hgx;exact h3
    ·have h4:ltT y x:=by
      have:=List.pairwise_iff_getElem.1 hA q (q+i) hql (by omega) (by omega)
      rw [List.getElem?_eq_some_iff.1 hy |>.2,hi2] at this
      exact this
     exact k0c _ _ _ h3 h4
  ·have:x ∈ l↔x ∈ l.take q∨x ∈ l.drop q:=by rw [← List.mem_append,List.take_append_drop]
   rw [this];simp only [List.mem_append,List.mem_singleton]
   constructor
   ·rintro ((a | a) | a)
    ·exact .inl (.inl a)
    ·exact .inr a
    ·exact .inl (.inr a)
   ·rintro ((a | a) | a)
    ·exact .inl (.inl a)
    ·exact .inr a
    ·exact .inl (.inr a)
 have same:(∀ y,l[q]? = some y→y=s)→q<n→x0q g n l s v g:=by
  intro he hqn
  obtain ⟨y,hy⟩:=l4 (l:=l) (j:=q) (by omega)
  have:=he y hy
  subst this
  refine ⟨l,n,hv,hA,fun x=>?_,.refl _,Nat.le_succ _⟩
  constructor
  ·exact .inl
  ·rintro (h | rfl)
   ·exact h
   ·exact List.mem_of_getElem? hy
 have after:∀ σ':Sg,σ' 0=v→σ' 1=.str s→σ' 5=.int .i64 (q:Int)→(∀ i y,i<q→l[i]? = some y→Op.bytesLess y s=true)→True:=fun _ _ _ _ _=>trivial
 by_cases hqn:q<n
 ·obtain ⟨y,hy⟩:=l4 (l:=l) (j:=q) (by omega)
  obtain ⟨id,o,x1,x2,_⟩:=hv.get1 (k:=.i64) (i:=(q:Int)) rfl hqn (x:=.str y) (by simp [tx,hy])
  cases q with
  | zero =>
   rw [show ((0:Nat):Int)=0 from rfl] at f1 f2 x1 e5
   have hn0:(0:Int)<(n:Int):=by omega
   by_cases hys:y=s
   ·subst hys
    simp [e0,e1,e5,hv.len,hqn,x1,x2]
    exact same (fun z hz=>by rw [hy] at hz;cases hz;rfl) hqn
   ·simp [e0,e1,e5,hv.len,hqn,x1,x2,hys,f1,f2,i8,f3,f4,f5]
    exact fin (fun i y hi=>by omega) (fun z hz=>by rw [hy] at hz;cases hz;exact hys)
  | succ q =>
   obtain ⟨z,hz⟩:=l4 (l:=l) (j:=q) (by omega)
   obtain ⟨id2,o2,y1,y2,_⟩:=hv.get1 (k:=.i64) (i:=(q:Int)) rfl (by omega) (x:=.str z) (by simp [tx,hz])
   have w0:c7 .i64 (q:Int)=(q:Int):=wrap_i64 (by omega) (by omega)
   have c0:(0:Int)<(q:Int)+1:=by omega
   push_cast at f1 f2 x1 e5
   have c1:(q:Int)+1<(n:Int):=by omega
   cases hc:Op.bytesLess z s with
   | false =>
    simp [e0,e1,e5,c0,w0,y1,y2,hc,n9]
    refine ⟨q,by omega,by omega,rfl,fun i y' hi hy'=>?_⟩
    by_cases e:i=q
    ·subst e;rw [hz] at hy';cases hy';exact hc
    ·exact hge i y' (by omega) hy'
   | true =>
    have hlt:∀ i y,i<q+1→l[i]? = some y→Op.bytesLess y s=true:=fun i y' hi hy'=>by
     by_cases e:i=q
     ·subst e;rw [hz] at hy';cases hy';exact hc
     ·have hil:=(List.getElem?_eq_some_iff.1 hy').1
      have:=List.pairwise_iff_getElem.1 hA i q hil (by omega) (by omega)
      rw [List.getElem?_eq_some_iff.1 hy' |>.2,List.getElem?_eq_some_iff.1 hz |>.2] at this
      exact c0U this hc
    by_cases hys:y=s
    ·subst hys
     simp [e0,e1,e5,c0,w0,y1,y2,hc,hv.len,c1,x1,x2]
     exact same (fun z hz=>by rw [hy] at hz;cases hz;rfl) hqn
    ·simp [e0,e1,e5,c0,w0,y1,y2,hc,hv.len,c1,x1,x2,hys,f1,f2,i8,f3,f4,f5]
     exact fin hlt (fun z hz=>by rw [hy] at hz;cases hz;exact hys)
 ·have hqe:q=n:=by omega
  subst hqe
  have hnone:∀ y,l[q]? = some y→y≠s:=fun y hy=>by have:=(List.getElem?_eq_some_iff.1 hy).1;omega
  cases q with
  | zero =>
   rw [show ((0:Nat):Int)=0 from rfl] at f1 f2 e5
   simp [e0,e1,e5,hv.len,f1,f2,i8,f3,f4,f5]
   exact fin (fun i y hi=>by omega) hnone
  | succ q =>
   obtain ⟨z,hz⟩:=l4 (l:=l) (j:=q) (by omega)
   obtain ⟨id2,o2,y1,y2,_⟩:=hv.get1 (k:=.i64) (i:=(q:Int)) rfl (by omega) (x:=.str z) (by simp [tx,hz])
   have w0:c7 .i64 (q:Int)=(q:Int):=wrap_i64 (by omega) (by omega)
   have c0:(0:Int)<(q:Int)+1:=by omega
   have hvl:=hv.len
   push_cast at f1 f2 e5 hvl
   cases hc:Op.bytesLess z s with
   | false =>
    simp [e0,e1,e5,c0,w0,y1,y2,hc,n9]
    refine ⟨q,by omega,by omega,rfl,fun i y' hi hy'=>?_⟩
    by_cases e:i=q
    ·subst e;rw [hz] at hy';cases hy';exact hc
    ·exact hge i y' (by omega) hy'
   | true =>
    have hlt:∀ i y,i<q+1→l[i]? = some y→Op.bytesLess y s=true:=fun i y' hi hy'=>by
     by_cases e:i=q
     ·subst e;rw [hz] at hy';cases hy';exact hc
     ·have hil:=(List.getElem?_eq_some_iff.1 hy').1
      have:=List.pairwise_iff_getElem.1 hA i q hil (by omega) (by omega)
      rw [List.getElem?_eq_some_iff.1 hy' |>.2,List.getElem?_eq_some_iff.1 hz |>.2] at this
      exact c0U this hc
    simp [e0,e1,e5,c0,w0,y1,y2,hc,hvl,f1,f2,i8,f3,f4,f5]
    exact fin hlt hnone
end Go.Dk

namespace Go.Dk
open Go Go.Dr
set_option maxRecDepth 100000
def TxK (h:AH) (m:Nat) (p:Txt→Prop) (v:AV) (g:AH):Prop:=∃ l n,Sl g 1 n v (tx l)∧t0F l∧(∀ x,x ∈ l↔p x)∧Fr h g∧n≤m
def q0Q (l:List (List Lab)) (x:Txt):Prop:=∃ y ∈ l,∃ k ∈ y,x=k.1∨x=k.2
theorem x0S (l:List (List Lab)) (x:Txt):q0Q (l++[[]]) x↔q0Q l x:=by
 unfold q0Q
 constructor
 ·rintro ⟨y,hy,k,hk,h⟩
  rcases List.mem_append.1 hy with hy | hy
  ·exact ⟨y,hy,k,hk,h⟩
  ·rw [List.mem_singleton.1 hy] at hk;cases hk
 ·rintro ⟨y,hy,k,hk,h⟩
  exact ⟨y,List.mem_append_left _ hy,k,hk,h⟩
theorem w0m (l:List (List Lab)) (r:List Lab) (k:Lab) (x:Txt):q0Q (l++[r++[k]]) x↔(q0Q (l++[r]) x∨x=k.1)∨x=k.2:=by
 unfold q0Q
 constructor
 ·rintro ⟨y,hy,k',hk,h⟩
  rcases List.mem_append.1 hy with hy | hy
  ·exact .inl (.inl ⟨y,List.mem_append_left _ hy,k',hk,h⟩)
  ·rw [List.mem_singleton.1 hy] at hk
   rcases List.mem_append.1 hk with hk | hk
   ·exact .inl (.inl ⟨r,List.mem_append_right _ (List.mem_singleton.2 rfl),k',hk,h⟩)
   ·rw [List.mem_singleton.1 hk] at h
    rcases h with h | h
    ·exact .inl (.inr h)
    ·exact .inr h
 ·have hk:k ∈ r++[k]:=List.mem_append_right _ (List.mem_singleton.2 rfl)
  have hr:r++[k] ∈ l++[r++[k]]:=List.mem_append_right _ (List.mem_singleton.2 rfl)
  rintro ((⟨y,hy,k',hk',h⟩ | h) | h)
  ·rcases List.mem_append.1 hy with hy | hy
   ·exact ⟨y,List.mem_append_left _ hy,k',hk',h⟩
   ·rw [List.mem_singleton.1 hy] at hk'
    exact ⟨_,hr,k',List.mem_append_left _ hk',h⟩
  ·exact ⟨_,hr,k,hk,.inl h⟩
  ·exact ⟨_,hr,k,hk,.inr h⟩
theorem s0y {h:AH} {n:Nat} {v:AV} {xs:List (AV×Ep)} (s:Sl h 5 n v (xs.flatMap enC)) (hn:n≤100000) (he:∀ x ∈ xs,EnOk h x∧x.2.ls.length≤8) :
  Ev P SI (.fn e0f) [v] h fun r g=>∃ T k,Sl g 1 k r (tx T)∧IsT T (xs.map (·.2.ls))∧Fr h g∧k≤16*n:=by
 refine j9 o0f rfl rfl ?_
 have hl:xs.length=n:=by have:=s.1;rw [e0B] at this;omega
 simp [h0N,s.len]
 refine l8 (n:=n) (by rfl) (fun j σ ds g=>ds=[]∧σ 8=v∧σ 9=.int .i64 (n:Int)∧TxK h (16*j) (q0Q ((xs.take j).map (·.2.ls))) (σ 3) g) (by omega) (by simp)
  ⟨rfl,by simp,by simp,[],0,by simpa [tx] using Sl.nil 1,.nil,fun x=>by simp [q0Q],.refl _,by omega⟩ (fun j σ ds g hJ=>by simp [hJ.2.2.1]) ?_ ?_
 ·rintro j σ ds g hj hi ⟨rfl,e8,e9,l0,n0,sl0,as0,mem0,fr,hn0⟩
  obtain ⟨x,hx⟩:=l4 (l:=xs) (j:=j) (by omega)
  obtain ⟨hok,hl8⟩:=he x (List.mem_of_getElem? hx)
  obtain ⟨id,o,a1,a2,_⟩:=h00 (s.fr fr) hx
  have okg:=hok.fr fr
  have hlc:=Sl.oneCell okg
  have stn:=k9 (h:=g) (n:=5) (z:=[.nils,.int .i64 0,.int .i64 0,.int .i64 0,.int .i64 0]) (l:=enC x) rfl rfl (by simp [enC,d7,hlc.2])
  have fp:=Fr.push (.refl g) (.cells (enC x) false)
  have ge:(g.push (.cells (enC x) false)).get g.next=some (.cells (enC x) false):=b8 _
  generalize hg1:g.push (.cells (enC x) false)=g1 at *
  have m0:load1 g1 g.next 0=.ok x.1:=b9 ge
  have lv:a0z x.1=.ok (.int .i64 (x.2.ls.length:Int)):=(okg.fr fp).len
  have hll:=a0k hok
  obtain ⟨tv,htv⟩:∃ tv,σ 3=tv:=⟨_,rfl⟩
  rw [htv] at sl0
  simp [e8,hi,a1,o7,a2,stn,m0,lv]
  refine l8 (n:=x.2.ls.length) (by rfl) (fun i σ' ds g'=>ds=[]∧σ' 8=v∧σ' 9=.int .i64 (n:Int)∧σ' 10=.int .i64 (j:Int)∧σ' 15=x.1∧σ' 16=.int .i64 (x.2.ls.length:Int) ∧
    TxK h (16*j+2*i) (q0Q ((xs.take j).map (·.2.ls)++[x.2.ls.take i])) (σ' 3) g') (by omega) (by simp)
   ⟨rfl,by simp [e8],by simp [e9],by simp [hi],by simp,by simp,l0,n0,by simpa [htv] using sl0.fr fp,as0,fun y=>by rw [mem0,List.take_zero,x0S],fr.trans fp,by omega⟩ (fun j σ ds g hJ=>by simp [hJ.2.2.2.2.2.1]) ?_ ?_
  ·rintro i σ' ds g' hi' hii ⟨rfl,f8,f9,f10,f15,f16,l1,n1,sl1,as1,mem1,fr1,hn1⟩
   obtain ⟨⟨nm,vl⟩,hk⟩:=l4 (l:=x.2.ls) (j:=i) hi'
   obtain ⟨i1,o1,b1,b2,_⟩:=b0k (hok.fr fr1) (k:=.i64) (i:=(i:Int)) rfl hk
   obtain ⟨tv1,htv1⟩:∃ tv,σ' 3=tv:=⟨_,rfl⟩
   rw [htv1] at sl1
   have stn2:=k9 (h:=g') (n:=2) (z:=[.str [],.str []]) (l:=[.str nm,.str vl]) rfl rfl rfl
   have fp2:=Fr.push (.refl g') (.cells [.str nm,.str vl] false)
   have ge2:(g'.push (.cells [.str nm,.str vl] false)).get g'.next=some (.cells [.str nm,.str vl] false):=b8 _
   have gn2:(g'.push (.cells [.str nm,.str vl] false)).next=g'.next+1:=rfl
   generalize hg2:g'.push (.cells [.str nm,.str vl] false)=g2 at *
   have q0:load1 g2 g'.next 0=.ok (.str nm):=b9 ge2
   have q1:load1 g2 g'.next 1=.ok (.str vl):=b9 ge2
   simp [f15,hii,b1,b2,o7,stn2,q0,q1,htv1]
   refine (m0Z (sl1.fr fp2) as1 (by omega)).mono ?_
   rintro r1 g3 ⟨l2,n2,sl2,as2,mem2,f3,hn2⟩
   have q2:load1 g3 g'.next 1=.ok (.str vl):=b9 (id:=g'.next) (vs:=[.str nm,.str vl]) (ro:=false) (by rw [f3.get _ (by omega)];exact ge2)
   simp [q2]
   refine (m0Z sl2 as2 (by omega)).mono ?_
   rintro r2 g4 ⟨l3,n3,sl3,as3,mem3,f4,hn3⟩
   simp [f8,f9,f10,f15,f16,hii]
   refine ⟨l3,n3,sl3,as3,fun y=>?_,((fr1.trans fp2).trans f3).trans f4,by omega⟩
   rw [mem3,mem2,mem1,← List.map_take,u7 _ _ _ hk,w0m]
  ·rintro σ' ds g' ⟨rfl,f8,f9,f10,f15,f16,l1,n1,sl1,as1,mem1,fr1,hn1⟩
   rw [List.take_of_length_le (l:=x.2.ls) (Nat.le_refl _)] at mem1
   simp [f8,f9,f10,hi]
   refine ⟨l1,n1,sl1,as1,fun y=>?_,fr1,by omega⟩
   rw [mem1,← List.map_take,u7 _ _ _ hx,List.map_append]
   rfl
 ·rintro σ ds g ⟨rfl,e8,e9,l0,n0,sl0,as0,mem0,fr,hn0⟩
  rw [List.take_of_length_le (by omega)] at mem0
  simp
  exact ⟨l0,n0,sl0,⟨as0,mem0⟩,fr,hn0⟩
end Go.Dk

namespace Go.Dk
open Go Go.Dr
set_option maxRecDepth 100000
theorem Y1 {B n k:Nat} {g:AH} {v:AV} {l bs:List Nat} (o:Own B g 1 n v (by8 l)) (hk:bs.length=k) (hB:B≤g.next) (hb:n+k≤2 ^ 40) :
  ∃ v' g',L0 1 1 v (.slice g.next 0 k k true 1) (g.push (.cells (by8 bs) false))=okV v' g'∧Own B g' 1 (n+k) v' (by8 (l++bs))∧FrB B g g' ∧
   (∀ i,i<g.next→l6 v≠some i→g'.get i=g.get i)∧g.next<g'.next∧∀ i,l6 v'=some i→l6 v=some i∨g.next<i:=by
 have fp:=Fr.push (.refl g) (.cells (by8 bs) false)
 have sx:=(Own.fresh (B:=0) (h:=g) (es:=1) (n:=k) (l:=by8 bs) true (Nat.zero_le _) (by simp [hk])).sl
 obtain ⟨v',g',e,o2,f,p,q⟩:=(o.fr fp).append (bytes:=1) sx (Nat.le_succ_of_le hB) (C2 _) (by omega) (by omega)
 have gn:(g.push (.cells (by8 bs) false)).next=g.next+1:=rfl
 have fn:=f.next
 refine ⟨v',g',e,by rw [J7];exact o2,(fp.b hB).trans f,fun i hi hne=>by rw [p i (by omega) hne,c8 (by omega)],by omega,fun i hi=>?_⟩
 rcases q i hi with h | h
 ·exact .inl h
 ·exact .inr (by omega)
def B5 (x:Ep):Ent:=⟨x.ls,x.sz,x.mn,x.mx⟩
theorem u0i (T:List Txt) (l:List Lab) (k:Lab):h0J T (l++[k])=h0J T l++be 4 (pl T k.1)++be 4 (pl T k.2):=by
 simp [h0J]
theorem w0D (T:List Txt) (l:List Lab):(h0J T l).length=8*l.length:=by
 unfold h0J
 induction l with
 | nil=>rfl
 | cons k l ih=>rw [List.flatMap_cons,List.length_append,List.length_append,A5,A5,ih,List.length_cons];omega
theorem y0m (T:List Txt) (x:Ep):(f05 T (B5 x)).length=21+8*x.ls.length:=by
 simp only [f05,B5,List.cons_append,List.length_cons,List.length_append,A5,w0D];omega
theorem s0O {h:AH} {n:Nat} {tv:AV} {T:List Txt} {x:AV×Ep} (ht:Sl h 1 n tv (tx T)) (hn:n≤2 ^ 30) (hok:EnOk h x) (hl8:x.2.ls.length≤8) (hmem:∀ k ∈ x.2.ls,k.1 ∈ T∧k.2 ∈ T) :
  Ev P SI (.fn e0g) [tv,.agg (enC x)] h fun r g=>Own h.next g 1 (21+8*x.2.ls.length) r (by8 (f05 T (B5 x.2)))∧Fr h g:=by
 refine j9 o0g rfl rfl ?_
 have hTl:T.length=n:=by have:=ht.1;simpa [tx] using this
 have hp4:∀ s,s ∈ T→n64 (pl T s:Int)=pl T s:=fun s hs=>G6 _ (by have:=j0c hs;omega)
 have ge:(h.push (.cells (enC x) false)).get h.next=some (.cells (enC x) false):=b8 _
 have f1:Fr h (h.push (.cells (enC x) false)):=Fr.push (.refl h) _
 have gn:(h.push (.cells (enC x) false)).next=h.next+1:=rfl
 generalize hg1:h.push (.cells (enC x) false)=g1 at *
 have m0:load1 g1 h.next 0=.ok x.1:=b9 ge
 have lv:a0z x.1=.ok (.int .i64 (x.2.ls.length:Int)):=(hok.fr f1).len
 have w8:c7 .u8 (x.2.ls.length:Int)=(x.2.ls.length:Int):=wrap_u8 (by omega) (by omega)
 have m0':load1 (g1.push (.cells [.int .u8 (x.2.ls.length:Int)] false)) h.next 0=.ok x.1:=b9 (id:=h.next) (vs:=enC x) (ro:=false) (by rw [c8 (by omega)];exact ge)
 have box:g0Q (.agg (enC x):AV).cells h=okV (.ptr h.next 0) g1:=by rw [← hg1];rfl
 simp [h0O,hg1,m0,lv,w8,i8,m0']
 have o1:=Own.fresh (B:=h.next+1) (h:=g1) (es:=1) (n:=1) (l:=by8 [x.2.ls.length]) true (by omega) rfl
 have f2:Fr h (g1.push (.cells [.int .u8 (x.2.ls.length:Int)] false)):=f1.push _
 refine l8 (n:=x.2.ls.length) (by rfl) (fun j σ ds g=>ds=[]∧σ 0=tv∧σ 3=.ptr h.next 0∧σ 14=x.1∧σ 15=.int .i64 (x.2.ls.length:Int)∧Fr h g∧g.get h.next=some (.cells (enC x) false)∧h.next<g.next ∧
   Own (h.next+1) g 1 (1+8*j) (σ 5) (by8 (x.2.ls.length::h0J T (x.2.ls.take j)))) (by omega) (by simp)
  ⟨rfl,by simp,by simp,by simp,by simp,f2,by rw [c8 (by omega)];exact ge,by show h.next<g1.next+1;omega,by simpa [h0J,by8] using o1⟩ (fun j σ ds g hJ=>by simp [hJ.2.2.2.2.1]) ?_ ?_
 ·rintro j σ ds g hj hi ⟨rfl,e0,e3,e14,e15,fr,gx,hlt,ho⟩
  obtain ⟨⟨nm,vl⟩,hx⟩:=l4 (l:=x.2.ls) (j:=j) hj
  obtain ⟨hT1,hT2⟩:=hmem _ (List.mem_of_getElem? hx)
  obtain ⟨i1,o1',a1,a2,_⟩:=b0k (hok.fr fr) (k:=.i64) (i:=(j:Int)) rfl hx
  obtain ⟨bv,hbv⟩:∃ bv,σ 5=bv:=⟨_,rfl⟩
  rw [hbv] at ho
  have stn:=k9 (h:=g) (n:=2) (z:=[.str [],.str []]) (l:=[.str nm,.str vl]) rfl rfl rfl
  have fp:=Fr.push (.refl g) (.cells [.str nm,.str vl] false)
  have ge2:(g.push (.cells [.str nm,.str vl] false)).get g.next=some (.cells [.str nm,.str vl] false):=b8 _
  have gn2:(g.push (.cells [.str nm,.str vl] false)).next=g.next+1:=rfl
  have ho2:=ho.fr fp
  generalize hg2:g.push (.cells [.str nm,.str vl] false)=g2 at *
  have q0:load1 g2 g.next 0=.ok (.str nm):=b9 ge2
  have q1:load1 g2 g.next 1=.ok (.str vl):=b9 ge2
  have pl1:=fun K=>d0V (K:=K) (ht.fr (fr.trans fp)) (by omega) hT1
  obtain ⟨b,hb⟩:∃ b,pl T nm=b:=⟨_,rfl⟩
  obtain ⟨c,hc⟩:∃ c,pl T vl=c:=⟨_,rfl⟩
  have hb4:=hp4 nm hT1
  have hc4:=hp4 vl hT2
  rw [hb] at hb4 pl1
  rw [hc] at hc4
  have q1b:load1 (g2.push (.cells (by8 (be 4 b)) false)) g.next 1=.ok (.str vl):=b9 (id:=g.next) (vs:=[.str nm,.str vl]) (ro:=false) (by rw [c8 (by omega)];exact ge2)
  obtain ⟨v3,g3,c1,o3,fb3,p3,n3,i3⟩:=Y1 (bs:=be 4 b) (k:=4) ho2 (by simp) (by omega) (by omega)
  have hidb:l6 bv≠some g.next:=fun hid=>by have:=(D2 ho hid).2;omega
  have ge3:g3.get g.next=some (.cells [.str nm,.str vl] false):=by rw [p3 _ (by omega) hidb];exact ge2
  have q2:load1 g3 g.next 1=.ok (.str vl):=b9 ge3
  have fr3:Fr h g3:=⟨by have:=fr.next;omega,fun i hi'=>by rw [fb3.get i (by omega),← hg2,c8 (by have:=fr.next;omega)];exact fr.get i hi'⟩
  have pl2:=fun K=>d0V (K:=K) (ht.fr fr3) (by omega) hT2
  rw [hc] at pl2
  obtain ⟨v4,g4,d1,o4,fb4,p4,n4,i4⟩:=Y1 (bs:=be 4 c) (k:=4) o3 (by simp) (by omega) (by omega)
  simp [e14,hi,a1,a2,o7,stn,q0,q1,hbv,e0,pl1,b0t,hb4,q1b,c1,q2,pl2,hc4,d1,e3,e15]
  have hx3:g2.get h.next=some (.cells (enC x) false):=by rw [← hg2,c8 (by omega)];exact gx
  refine ⟨?_,?_,by omega,?_⟩
  ·exact ⟨by have:=fr3.next;omega,fun i hi'=>by rw [fb4.get i (by omega)];exact fr3.get i hi'⟩
  ·rw [fb4.get _ (by omega),fb3.get _ (by omega)];exact hx3
  ·rw [u7 _ _ _ hx,u0i,hb,hc]
   have e1:1+8*(j+1)=1+8*j+4+4:=by omega
   rw [e1]
   simp only [List.cons_append,List.append_assoc] at o4 ⊢
   exact o4
 ·rintro σ ds g ⟨rfl,e0,e3,e14,e15,fr,gx,hlt,ho⟩
  rw [List.take_of_length_le (Nat.le_refl _)] at ho
  obtain ⟨bv,hbv⟩:∃ bv,σ 5=bv:=⟨_,rfl⟩
  rw [hbv] at ho
  have m2:∀ g':AH,g'.get h.next=some (.cells (enC x) false)→load1 g' h.next 2=.ok (.int .i64 x.2.sz):=fun g' hg=>b9 (vs:=enC x) (ro:=false) hg
  have m3:∀ g':AH,g'.get h.next=some (.cells (enC x) false)→load1 g' h.next 3=.ok (.int .i64 x.2.mn):=fun g' hg=>b9 (vs:=enC x) (ro:=false) hg
  have m4:∀ g':AH,g'.get h.next=some (.cells (enC x) false)→load1 g' h.next 4=.ok (.int .i64 x.2.mx):=fun g' hg=>b9 (vs:=enC x) (ro:=false) hg
  obtain ⟨v1,g1',c1,o1',fb1,p1,n1,i1⟩:=Y1 (bs:=be 4 (n64 x.2.sz)) (k:=4) ho (by simp) (by omega) (by omega)
  obtain ⟨v2,g2,c2,o2,fb2,p2,n2,i2⟩:=Y1 (bs:=be 8 (n64 x.2.mn)) (k:=8) o1' (by simp) (by omega) (by omega)
  obtain ⟨v3,g3,c3,o3,fb3,p3,n3,i3⟩:=Y1 (bs:=be 8 (n64 x.2.mx)) (k:=8) o2 (by simp) (by omega) (by omega)
  have gx1:g1'.get h.next=some (.cells (enC x) false):=by rw [fb1.get _ (by omega)];exact gx
  have gx2:g2.get h.next=some (.cells (enC x) false):=by rw [fb2.get _ (by omega)];exact gx1
  have gp:∀ (g':AH) (o:AObj),h.next<g'.next→g'.get h.next=some (.cells (enC x) false)→(g'.push o).get h.next=some (.cells (enC x) false):=fun g' o hl hg=>by rw [c8 (by omega)];exact hg
  simp [hbv,e3,m2 g gx,m3 g gx,m4 g gx,b0t,v02,m3 _ (gp g _ hlt gx),m4 _ (gp g _ hlt gx),c1,m3 _ gx1,m4 _ gx1,m4 _ (gp g1' _ (by omega) gx1),c2,m4 _ gx2,c3]
  refine ⟨?_,?_⟩
  ·have e1:21+8*x.2.ls.length=1+8*x.2.ls.length+4+8+8:=by omega
   rw [e1]
   have:=o3.base (B':=h.next) (by omega)
   simp only [f05,B5,List.cons_append,List.append_assoc] at this ⊢
   exact this
  ·exact ⟨by have:=fr.next;omega,fun i hi'=>by rw [fb3.get i (by omega),fb2.get i (by omega),fb1.get i (by omega)];exact fr.get i hi'⟩
end Go.Dk

namespace Go.Dk
open Go Go.Dr
set_option maxRecDepth 100000
noncomputable def p0z:CC :=
 (.block 2
 (.loop
 (.seq
 (.ops [
 .row ⟨(some 23),none,.bin .lss b7 false (.t 22) (.t 21)⟩])
 (.seq
 (.cond (.t 23)
 .skip
 (.exit 2))
 (.seq
 (.block 3
 (.seq
 (.ops [
 .row ⟨(some 24),none,.idxV 1 (.t 20) (.t 22)⟩,
 .row ⟨(some 25),none,.load1 (.t 24)⟩,
 .row ⟨(some 9),none,.move (.t 25)⟩])
 (.seq
 (.ops [
 .row ⟨(some 10),none,.move (.c .nils)⟩])
 (.seq
 (.ops [
 .row ⟨(some 11),none,.move (.c (.int .i64 0))⟩])
 (.seq
 (.seq
 (.ops [
 .row ⟨(some 26),none,.move (.t 1)⟩,
 .row ⟨(some 27),none,.lenV (.t 26)⟩,
 .row ⟨(some 28),none,.move (.c (.int .i64 0))⟩])
 (.block 4
 (.loop
 (.seq
 (.ops [
 .row ⟨(some 29),none,.bin .lss b7 false (.t 28) (.t 27)⟩])
 (.seq
 (.cond (.t 29)
 .skip
 (.exit 4))
 (.seq
 (.block 5
 (.seq
 (.ops [
 .row ⟨(some 30),none,.move (.t 28)⟩,
 .row ⟨(some 31),none,.idxV 5 (.t 26) (.t 28)⟩,
 .row ⟨(some 32),none,.loadN 5 (.t 31)⟩,
 .row ⟨(some 13),none,.new [.nils,(.int .i64 0),(.int .i64 0),(.int .i64 0),(.int .i64 0)]⟩,
 .row ⟨(some 12),none,.move (.t 30)⟩,
 .row ⟨none,none,.store 5 (.t 13) (.t 32)⟩])
 (.seq
 (.ops [
 .row ⟨(some 33),none,.fieldAddr 0 (.t 13)⟩,
 .row ⟨(some 34),none,.load1 (.t 33)⟩,
 .row ⟨(some 35),none,.move (.t 7)⟩,
 .row ⟨(some 36),none,.callV (.c (.func (.func b0Q) [] [])) [(.t 34),(.t 35)]⟩,
 .row ⟨(some 37),none,.move (.t 9)⟩,
 .row ⟨(some 38),none,.bin .eql r7 false (.t 36) (.t 37)⟩])
 (.cond (.t 38)
 (.seq
 (.ops [
 .row ⟨(some 39),none,.move (.t 10)⟩,
 .row ⟨(some 40),none,.move (.t 12)⟩,
 .row ⟨(some 41),none,.callV (.c (.func (.func A8) [] [])) [(.t 40)]⟩,
 .row ⟨(some 42),none,.app 1 1 (.t 39) (.t 41)⟩,
 .row ⟨(some 10),none,.move (.t 42)⟩])
 (.ops [
 .row ⟨(some 43),none,.move (.t 11)⟩,
 .row ⟨(some 44),none,.bin .add b7 true (.t 43) (.c (.int .i64 1))⟩,
 .row ⟨(some 11),none,.move (.t 44)⟩]))
 .skip))))
 (.ops [
 .row ⟨(some 45),none,.bin .add b7 true (.t 28) (.c (.int .i64 1))⟩,
 .row ⟨(some 28),none,.move (.t 45)⟩])))))))
 (.seq
 (.ops [
 .row ⟨(some 46),none,.move (.t 11)⟩,
 .row ⟨(some 47),none,.bin .gtr b7 true (.t 46) (.c (.int .i64 0))⟩])
 (.cond (.t 47)
 (.ops [
 .row ⟨(some 48),none,.move (.t 5)⟩,
 .row ⟨(some 49),none,.move (.t 0)⟩,
 .row ⟨(some 50),none,.move (.t 7)⟩,
 .row ⟨(some 51),none,.callV (.c (.func (.func K9) [] [])) [(.t 49),(.t 50)]⟩,
 .row ⟨(some 52),none,.callV (.c (.func (.func A8) [] [])) [(.t 51)]⟩,
 .row ⟨(some 53),none,.app 1 1 (.t 48) (.t 52)⟩,
 .row ⟨(some 54),none,.move (.t 0)⟩,
 .row ⟨(some 55),none,.move (.t 9)⟩,
 .row ⟨(some 56),none,.callV (.c (.func (.func K9) [] [])) [(.t 54),(.t 55)]⟩,
 .row ⟨(some 57),none,.callV (.c (.func (.func A8) [] [])) [(.t 56)]⟩,
 .row ⟨(some 58),none,.app 1 1 (.t 53) (.t 57)⟩,
 .row ⟨(some 59),none,.move (.t 11)⟩,
 .row ⟨(some 60),none,.callV (.c (.func (.func A8) [] [])) [(.t 59)]⟩,
 .row ⟨(some 61),none,.app 1 1 (.t 58) (.t 60)⟩,
 .row ⟨(some 62),none,.move (.t 10)⟩,
 .row ⟨(some 63),none,.app 1 1 (.t 61) (.t 62)⟩,
 .row ⟨(some 5),none,.move (.t 63)⟩])
 .skip)))))))
 (.ops [
 .row ⟨(some 64),none,.bin .add b7 true (.t 22) (.c (.int .i64 1))⟩,
 .row ⟨(some 22),none,.move (.t 64)⟩]))))))
noncomputable def p0A:CC :=
 (.block 4
 (.loop
 (.seq
 (.ops [
 .row ⟨(some 29),none,.bin .lss b7 false (.t 28) (.t 27)⟩])
 (.seq
 (.cond (.t 29)
 .skip
 (.exit 4))
 (.seq
 (.block 5
 (.seq
 (.ops [
 .row ⟨(some 30),none,.move (.t 28)⟩,
 .row ⟨(some 31),none,.idxV 5 (.t 26) (.t 28)⟩,
 .row ⟨(some 32),none,.loadN 5 (.t 31)⟩,
 .row ⟨(some 13),none,.new [.nils,(.int .i64 0),(.int .i64 0),(.int .i64 0),(.int .i64 0)]⟩,
 .row ⟨(some 12),none,.move (.t 30)⟩,
 .row ⟨none,none,.store 5 (.t 13) (.t 32)⟩])
 (.seq
 (.ops [
 .row ⟨(some 33),none,.fieldAddr 0 (.t 13)⟩,
 .row ⟨(some 34),none,.load1 (.t 33)⟩,
 .row ⟨(some 35),none,.move (.t 7)⟩,
 .row ⟨(some 36),none,.callV (.c (.func (.func b0Q) [] [])) [(.t 34),(.t 35)]⟩,
 .row ⟨(some 37),none,.move (.t 9)⟩,
 .row ⟨(some 38),none,.bin .eql r7 false (.t 36) (.t 37)⟩])
 (.cond (.t 38)
 (.seq
 (.ops [
 .row ⟨(some 39),none,.move (.t 10)⟩,
 .row ⟨(some 40),none,.move (.t 12)⟩,
 .row ⟨(some 41),none,.callV (.c (.func (.func A8) [] [])) [(.t 40)]⟩,
 .row ⟨(some 42),none,.app 1 1 (.t 39) (.t 41)⟩,
 .row ⟨(some 10),none,.move (.t 42)⟩])
 (.ops [
 .row ⟨(some 43),none,.move (.t 11)⟩,
 .row ⟨(some 44),none,.bin .add b7 true (.t 43) (.c (.int .i64 1))⟩,
 .row ⟨(some 11),none,.move (.t 44)⟩]))
 .skip))))
 (.ops [
 .row ⟨(some 45),none,.bin .add b7 true (.t 28) (.c (.int .i64 1))⟩,
 .row ⟨(some 28),none,.move (.t 45)⟩]))))))
theorem s0B:∀ (l:List Lab) (n v:Txt),d0d l→v≠[]→(l0K l n=v↔(n,v) ∈ l)
 | [],n,v,_,hv=>by simp [l0K];exact fun h=>hv h
 | k::l,n,v,hp,hv=>by
  have hp2:d0d l:=(List.nodup_cons.1 hp).2
  unfold l0K
  by_cases hk:k.1=n
  ·rw [if_pos hk]
   constructor
   ·rintro rfl;rw [← hk];exact List.mem_cons_self
   ·intro h
    rcases List.mem_cons.1 h with h | h
    ·rw [← h]
    ·have hm:k.1 ∈ l.map (·.1):=List.mem_map.2 ⟨(n,v),h,hk.symm⟩
     exact absurd hm (List.nodup_cons.1 hp).1
  ·rw [if_neg hk,s0B l n v hp2 hv]
   constructor
   ·exact List.mem_cons_of_mem _
   ·intro h
    rcases List.mem_cons.1 h with h | h
    ·rw [← h] at hk;exact absurd rfl hk
    ·exact h
def k0E (l:List Ent) (k:k0d) (j:Nat):List Nat:=(List.range j).filter fun i=>match l[i]? with | some x=>decide (k ∈ x.ls) | none=>false
theorem w0p (l:List Ent) (k:k0d) (j:Nat) (x:Ent) (hx:l[j]? = some x):k0E l k (j+1)=k0E l k j++if k ∈ x.ls then [j] else []:=by
 unfold k0E
 rw [List.range_succ,List.filter_append]
 congr 1
 by_cases h:k ∈ x.ls <;> simp [hx,h]
theorem u0W (l:List Ent) (k:k0d) (j:Nat):(k0E l k j).length≤j:=by
 have:=List.length_filter_le (fun i=>match l[i]? with | some x=>decide (k ∈ x.ls) | none=>false) (List.range j)
 rw [List.length_range] at this
 exact this
theorem z0t {Q:G7} {σ:Sg} {h g0:AH} {n:Nat} {v:AV} {xs:List (AV×Ep)} {nm vl:Txt} (h7:σ 7=.str nm) (h9:σ 9=.str vl) (h10:σ 10=.nils) (h11:σ 11=.int .i64 0) (h26:σ 26=v) (h27:σ 27=.int .i64 (n:Int)) (h28:σ 28=.int .i64 0)
  (s:Sl h 5 n v (xs.flatMap enC)) (hn:n≤100000) (he:∀ x ∈ xs,EnOk h x∧x.2.ls.length≤8∧d0d x.2.ls) (f0:Fr h g0) (hvl:vl≠[])
  (hQ:∀ σ' g' pv,σ' 10=pv→σ' 11=.int .i64 ((plc (xs.map fun x=>B5 x.2) (nm,vl)).length:Int)→(∀ t,t<10∨(13<t∧t<28)→σ' t=σ t)→Fr g0 g' →
   Own g0.next g' 1 (4*(plc (xs.map fun x=>B5 x.2) (nm,vl)).length) pv (by8 ((plc (xs.map fun x=>B5 x.2) (nm,vl)).flatMap (be 4)))→Q .normal σ' [] g') :
  wpC P SI p0A Q σ [] g0:=by
 have hl:xs.length=n:=by have:=s.1;rw [e0B] at this;omega
 generalize hents:(xs.map fun x=>B5 x.2)=ents at *
 have hel:ents.length=n:=by rw [← hents,List.length_map,hl]
 simp only [p0A,D4]
 refine l8 (n:=n) (by rfl) (fun j σ' ds g=>ds=[]∧(∀ t,t<10∨(13<t∧t<28)→σ' t=σ t)∧Fr g0 g∧σ' 11=.int .i64 ((k0E ents (nm,vl) j).length:Int)∧Own g0.next g 1 (4*(k0E ents (nm,vl) j).length) (σ' 10) (by8 ((k0E ents (nm,vl) j).flatMap (be 4)))) (by omega) h28
  ⟨rfl,fun _ _=>rfl,.refl _,by simp [k0E,h11],by rw [h10];simpa [k0E,by8] using Own.nil (h:=g0) g0.next 1⟩ ?_ ?_ ?_
 ·rintro j σ' ds g ⟨rfl,hσ,_⟩
  simp [hσ 27 (by omega),h27]
 ·rintro j σ' ds g hj hi ⟨rfl,hσ,fr,e11,ho⟩
  obtain ⟨x,hx⟩:=l4 (l:=xs) (j:=j) (by omega)
  obtain ⟨hok,hl8,hpt⟩:=he x (List.mem_of_getElem? hx)
  have hxe:ents[j]? = some (B5 x.2):=by rw [← hents];simp [hx]
  have fh:=f0.trans fr
  obtain ⟨id,o,a1,a2,_⟩:=h00 (s.fr fh) hx
  have okg:=hok.fr fh
  have hlc:=Sl.oneCell okg
  have e7:=(hσ 7 (by omega)).trans h7
  have e9:=(hσ 9 (by omega)).trans h9
  have e26:=(hσ 26 (by omega)).trans h26
  obtain ⟨pv,hpv⟩:∃ pv,σ' 10=pv:=⟨_,rfl⟩
  rw [hpv] at ho
  have stn:=k9 (h:=g) (n:=5) (z:=[.nils,.int .i64 0,.int .i64 0,.int .i64 0,.int .i64 0]) (l:=enC x) rfl rfl (by simp [enC,d7,hlc.2])
  have fp:=Fr.push (.refl g) (.cells (enC x) false)
  have ge:(g.push (.cells (enC x) false)).get g.next=some (.cells (enC x) false):=b8 _
  generalize hg1:g.push (.cells (enC x) false)=g1 at *
  have m0:load1 g1 g.next 0=.ok x.1:=b9 ge
  simp [hi,e26,a1,o7,a2,stn,m0,e7]
  refine (v03 (okg.fr fp) (by omega)).mono ?_
  rintro r g2 ⟨rfl,f2⟩
  have hlen:=u0W ents (nm,vl) j
  have hsucc:=w0p ents (nm,vl) j _ hxe
  have hiff:=s0B x.2.ls nm vl hpt hvl
  by_cases hg:l0K x.2.ls nm=vl
  ·rw [if_pos (show (nm,vl) ∈ (B5 x.2).ls from hiff.1 hg)] at hsucc
   have F2:Fr g0 g2:=(fr.trans fp).trans f2
   have ho2:=(ho.fr fp).fr f2
   obtain ⟨c,hc⟩:∃ c,(k0E ents (nm,vl) j).length=c:=⟨_,rfl⟩
   rw [hc] at e11 ho2 hlen
   have hn64:n64 (j:Int)=j:=G6 j (by omega)
   obtain ⟨v3,g3,c1,o3,fb3,p3,n3,i3⟩:=Y1 (bs:=be 4 j) (k:=4) ho2 (by simp) F2.next (by omega)
   have w:c7 .i64 ((c:Int)+1)=(c:Int)+1:=wrap_i64 (by omega) (by omega)
   simp [e9,hg,hpv,b0t,hn64,c1,e11,w,hi,-List.length_flatMap]
   refine ⟨fun t ht=>?_,?_,?_,?_⟩
   ·repeat rw [if_neg (by omega)]
    exact hσ t ht
   ·exact ⟨by have:=F2.next;omega,fun i hi'=>by rw [fb3.get i hi'];exact F2.get i hi'⟩
   ·rw [hsucc];simp [hc]
   ·rw [hsucc,List.length_append,hc,List.flatMap_append]
    simpa [Nat.mul_add] using o3
  ·rw [if_neg (show ¬ (nm,vl) ∈ (B5 x.2).ls from fun hm=>hg (hiff.2 hm)),List.append_nil] at hsucc
   simp [e9,hg,e11,hi,hpv,-List.length_flatMap]
   refine ⟨fun t ht=>?_,(fr.trans fp).trans f2,?_,?_⟩
   ·repeat rw [if_neg (by omega)]
    exact hσ t ht
   ·rw [hsucc]
   ·rw [hsucc];exact (ho.fr fp).fr f2
 ·rintro σ' ds g ⟨rfl,hσ,fr,e11,ho⟩
  simp
  have hpe:k0E ents (nm,vl) n=plc ents (nm,vl):=by unfold k0E plc;rw [hel];rfl
  rw [hpe] at e11 ho
  exact hQ _ g (σ' 10) (by simp) (by simpa using e11) (fun t ht=>by simp only [M9];rw [if_neg (by omega)];exact hσ t ht) fr ho
end Go.Dk

namespace Go.Dk
open Go Go.Dr
set_option maxRecDepth 100000
theorem d0X {α β:Type} (f:α→List β) (l:List α) (j:Nat):((l.take j).flatMap f).length≤(l.flatMap f).length:=by
 have:(l.take j).flatMap f <+: l.flatMap f:=by
  conv=>rhs;rw [← List.take_append_drop j l]
  rw [List.flatMap_append]
  exact List.prefix_append _ _
 exact this.length_le
theorem y09 {Q:G7} {σ:Sg} {h g0:AH} {n k m:Nat} {v tv ov:AV} {xs:List (AV×Ep)} {T:List Txt} {nm:Txt} {b0:List Nat} (h0:σ 0=tv) (h1:σ 1=v) (h5:σ 5=ov) (h7:σ 7=.str nm) (h20:σ 20=tv) (h21:σ 21=.int .i64 (k:Int)) (h22:σ 22=.int .i64 0)
  (s:Sl h 5 n v (xs.flatMap enC)) (hn:n≤100000) (he:∀ x ∈ xs,EnOk h x∧x.2.ls.length≤8∧d0d x.2.ls) (ht:Sl h 1 k tv (tx T)) (hk:k≤2 ^ 30) (hne:∀ y ∈ T,y≠[]) (hnm:nm ∈ T) (f0:Fr h g0)
  (ho:Own h.next g0 1 m ov (by8 b0)) (hm:b0.length=m) (hb:m+(T.flatMap fun v=>Z0 T (xs.map fun x=>B5 x.2) (nm,v)).length≤2 ^ 39)
  (hQ:∀ σ' g' ov',σ' 5=ov'→(∀ t,t≠5→(t<9∨(13<t∧t<20))→σ' t=σ t)→Fr h g' →
   Own h.next g' 1 (m+(T.flatMap fun v=>Z0 T (xs.map fun x=>B5 x.2) (nm,v)).length) ov' (by8 (b0++T.flatMap fun v=>Z0 T (xs.map fun x=>B5 x.2) (nm,v)))→Q .normal σ' [] g') :
  wpC P SI p0z Q σ [] g0:=by
 have hTl:T.length=k:=by have:=ht.1;simpa [tx] using this
 have hp4:∀ s,s ∈ T→n64 (pl T s:Int)=pl T s:=fun s hs=>G6 _ (by have:=j0c hs;omega)
 generalize hents:(xs.map fun x=>B5 x.2)=ents at *
 simp only [p0z,D4]
 refine l8 (n:=k) (by rfl) (fun j σ' ds g=>ds=[]∧(∀ t,t≠5→(t<9∨(13<t∧t<20))→σ' t=σ t)∧σ' 20=tv∧σ' 21=.int .i64 (k:Int)∧Fr h g ∧
   Own h.next g 1 (m+((T.take j).flatMap fun v=>Z0 T ents (nm,v)).length) (σ' 5) (by8 (b0++(T.take j).flatMap fun v=>Z0 T ents (nm,v)))) (by omega) h22
  ⟨rfl,fun _ _ _=>rfl,h20,h21,f0,by rw [h5];simpa using ho⟩ (fun j σ ds g hJ=>by simp [hJ.2.2.2.1]) ?_ ?_
 ·rintro j σ' ds g hj hi ⟨rfl,hσ,e20,e21,fr,hoj⟩
  obtain ⟨vl,hx⟩:=l4 (l:=T) (j:=j) (by omega)
  have hvl:=List.mem_of_getElem? hx
  obtain ⟨id,o,a1,a2,_⟩:=(ht.fr fr).get1 (k:=.i64) (i:=(j:Int)) rfl hj (x:=.str vl) (by simp [tx,hx])
  have e0:=(hσ 0 (by omega) (by omega)).trans h0
  have e1:=(hσ 1 (by omega) (by omega)).trans h1
  have e7:=(hσ 7 (by omega) (by omega)).trans h7
  obtain ⟨ov1,hov⟩:∃ ov1,σ' 5=ov1:=⟨_,rfl⟩
  rw [hov] at hoj
  have hpre:=d0X (fun v=>Z0 T ents (nm,v)) T (j+1)
  have hsn:(T.take (j+1)).flatMap (fun v=>Z0 T ents (nm,v))=(T.take j).flatMap (fun v=>Z0 T ents (nm,v))++Z0 T ents (nm,vl):=by
   rw [u7 _ _ _ hx,List.flatMap_append];simp
  rw [hsn,List.length_append] at hpre
  generalize hB:(T.take j).flatMap (fun v=>Z0 T ents (nm,v))=B at *
  have sl:=(s.fr fr).len
  simp only [K6]
  simp [hi,e20,a1,a2,e1,sl,-List.length_flatMap]
  refine z0t (h:=h) (n:=n) (v:=v) (xs:=xs) (nm:=nm) (vl:=vl) (by simp [e7]) (by simp) (by simp) (by simp) (by simp [e1]) (by simp) (by simp) s hn he fr (hne vl hvl) ?_
  intro σ2 g2 pv h210 h211 hσ2 f2 op
  rw [hents] at h211 op
  have z0:σ2 0=tv:=by rw [hσ2 0 (by omega)];simp [e0]
  have z5:σ2 5=ov1:=by rw [hσ2 5 (by omega)];simp [hov]
  have z7:σ2 7=.str nm:=by rw [hσ2 7 (by omega)];simp [e7]
  have z9:σ2 9=.str vl:=by rw [hσ2 9 (by omega)];simp
  have z20:σ2 20=tv:=by rw [hσ2 20 (by omega)];simp [e20]
  have z21:σ2 21=.int .i64 (k:Int):=by rw [hσ2 21 (by omega)];simp [e21]
  have z22:σ2 22=.int .i64 (j:Int):=by rw [hσ2 22 (by omega)];simp [hi]
  have hpost:Z0 T ents (nm,vl)=if plc ents (nm,vl)=[] then [] else be 4 (pl T nm)++be 4 (pl T vl)++be 4 (plc ents (nm,vl)).length++(plc ents (nm,vl)).flatMap (be 4):=rfl
  rw [hsn]
  rw [hpost] at hpre ⊢
  have hplen:(plc ents (nm,vl)).length≤n:=by
   have:=u0W ents (nm,vl) ents.length
   have e:k0E ents (nm,vl) ents.length=plc ents (nm,vl):=rfl
   rw [e,← hents,List.length_map] at this
   have hl:xs.length=n:=by have:=s.1;rw [e0B] at this;omega
   rw [← hents];omega
  generalize hP:plc ents (nm,vl)=P' at *
  by_cases hPe:P'=[]
  ·subst hPe
   simp [h211,z20,z21,z22,-List.length_flatMap]
   refine ⟨fun t h1 h2=>?_,fr.trans f2,?_⟩
   ·repeat rw [if_neg (by omega)]
    rw [hσ2 t (by omega)]
    simp only [M9]
    repeat rw [if_neg (by omega)]
    exact hσ t h1 h2
   ·rw [z5];exact hoj.fr f2
  ·rw [if_neg hPe] at hpre ⊢
   have hc0:0<P'.length:=List.length_pos_iff.2 hPe
   have hc0':(0:Int)<(P'.length:Int):=by omega
   have F2:=fr.trans f2
   obtain ⟨b,hb'⟩:∃ b,pl T nm=b:=⟨_,rfl⟩
   obtain ⟨c,hc'⟩:∃ c,pl T vl=c:=⟨_,rfl⟩
   have hb4:=hp4 nm hnm
   have hc4:=hp4 vl hvl
   have hq4:n64 (P'.length:Int)=P'.length:=G6 _ (by omega)
   rw [hb'] at hb4 hpre ⊢
   rw [hc'] at hc4 hpre ⊢
   have oj2:=hoj.fr f2
   simp only [List.length_append,A5,b0O] at hpre
   have hBm:(b0++B).length=m+B.length:=by rw [List.length_append,hm]
   obtain ⟨v3,g3,c1,o3,fb3,p3,n3,i3⟩:=Y1 (bs:=be 4 b) (k:=4) oj2 (by simp) F2.next (by omega)
   obtain ⟨v4,g4,c2,o4,fb4,p4,n4,i4⟩:=Y1 (bs:=be 4 c) (k:=4) o3 (by simp) (by have:=F2.next;omega) (by omega)
   obtain ⟨v5,g5,c3,o5,fb5,p5,n5,i5⟩:=Y1 (bs:=be 4 P'.length) (k:=4) o4 (by simp) (by have:=F2.next;omega) (by omega)
   have F3:Fr h g3:=⟨by have:=F2.next;omega,fun i hi'=>by rw [fb3.get i hi'];exact F2.get i hi'⟩
   have F4:Fr h g4:=⟨by have:=F3.next;omega,fun i hi'=>by rw [fb4.get i hi'];exact F3.get i hi'⟩
   have F5:Fr h g5:=⟨by have:=F4.next;omega,fun i hi'=>by rw [fb5.get i hi'];exact F4.get i hi'⟩
   have hpid:∀ i,l6 pv=some i→g.next≤i∧i<g2.next:=fun i hi'=>D2 op hi'
   have hoid:∀ i,l6 ov1=some i→i<g.next:=fun i hi'=>(D2 hoj hi').2
   have d3:∀ i,l6 pv=some i→l6 v3≠some i:=fun i hi' hv=>by
    have:=hpid i hi'
    rcases i3 i hv with h | h
    ·have:=hoid i h;omega
    ·omega
   have d4:∀ i,l6 pv=some i→l6 v4≠some i:=fun i hi' hv=>by
    have:=hpid i hi'
    rcases i4 i hv with h | h
    ·exact d3 i hi' h
    ·omega
   have sp5:Sl g5 1 (4*P'.length) pv (by8 (P'.flatMap (be 4))):=Sl.same_get op.sl (by omega) (fun i hi'=>by
    have:=hpid i hi'
    rw [p5 i (by omega) (d4 i hi'),p4 i (by omega) (d3 i hi'),p3 i (by omega) (fun hv=>by have:=hoid i hv;omega)])
   obtain ⟨v6,g6,c4,o6,fb6,p6,q6⟩:=o5.append (bytes:=1) sp5 (by have:=F5.next;omega) (C2 _) (by omega) (by omega)
   have pl1:=fun K=>d0V (K:=K) (ht.fr F2) (by omega) hnm
   have pl2:=fun K=>d0V (K:=K) (ht.fr F3) (by omega) hvl
   rw [hb'] at pl1
   rw [hc'] at pl2
   simp [h211,hc0,z5,z0,z7,pl1,b0t,hb4,c1,z9,pl2,hc4,c2,hq4,c3,h210,c4,z20,z21,z22,-List.length_flatMap]
   refine ⟨fun t h1 h2=>?_,⟨by have:=F5.next;have:=fb6.next;omega,fun i hi'=>by rw [fb6.get i hi'];exact F5.get i hi'⟩,?_⟩
   ·repeat rw [if_neg (by omega)]
    rw [hσ2 t (by omega)]
    simp only [M9]
    repeat rw [if_neg (by omega)]
    exact hσ t h1 h2
   ·have e1:m+(B.length+(4+(4+(4+(P'.flatMap (be 4)).length))))=m+B.length+4+4+4+4*P'.length:=by
     rw [b0O];omega
    have e2:by8 (b0++(B++(be 4 b++(be 4 c++(be 4 P'.length++P'.flatMap (be 4))))))=by8 (b0++B++be 4 b++be 4 c++be 4 P'.length)++by8 (P'.flatMap (be 4)):=by
     rw [← J7];simp only [List.append_assoc]
    rw [e1,e2]
    exact o6
 ·rintro σ' ds g ⟨rfl,hσ,e20,e21,fr,hoj⟩
  rw [List.take_of_length_le (by omega)] at hoj
  simp
  exact hQ _ g (σ' 5) (by simp) (fun t h1 h2=>by simp only [M9];rw [if_neg (by omega)];exact hσ t h1 h2) fr hoj
theorem n0g {h:AH} {n k:Nat} {v tv:AV} {xs:List (AV×Ep)} {T:List Txt} (s:Sl h 5 n v (xs.flatMap enC)) (hn:n≤100000) (he:∀ x ∈ xs,EnOk h x∧x.2.ls.length≤8∧d0d x.2.ls) (ht:Sl h 1 k tv (tx T)) (hk:k≤2 ^ 30) (hne:∀ y ∈ T,y≠[])
  (hb:(f0q T (xs.map fun x=>B5 x.2)).length≤2 ^ 39) :
  Ev P SI (.fn b0p) [tv,v] h fun r g=>Own h.next g 1 (f0q T (xs.map fun x=>B5 x.2)).length r (by8 (f0q T (xs.map fun x=>B5 x.2)))∧Fr h g:=by
 refine j9 k0J rfl rfl ?_
 have hTl:T.length=k:=by have:=ht.1;simpa [tx] using this
 generalize hents:(xs.map fun x=>B5 x.2)=ents at *
 simp [e01,ht.len,-List.length_flatMap]
 refine l8 (n:=k) (by rfl) (fun j σ ds g=>ds=[]∧σ 0=tv∧σ 1=v∧σ 14=tv∧σ 15=.int .i64 (k:Int)∧Fr h g ∧
   Own h.next g 1 ((T.take j).flatMap fun nm=>T.flatMap fun v=>Z0 T ents (nm,v)).length (σ 5) (by8 ((T.take j).flatMap fun nm=>T.flatMap fun v=>Z0 T ents (nm,v)))) (by omega) (by simp)
  ⟨rfl,by simp,by simp,by simp,by simp,.refl _,by simpa [by8] using Own.nil (h:=h) h.next 1⟩ (fun j σ ds g hJ=>by simp [hJ.2.2.2.2.1]) ?_ ?_
 ·rintro j σ ds g hj hi ⟨rfl,e0,e1,e14,e15,fr,ho⟩
  obtain ⟨nm,hx⟩:=l4 (l:=T) (j:=j) (by omega)
  have hnm:=List.mem_of_getElem? hx
  obtain ⟨id,o,a1,a2,_⟩:=(ht.fr fr).get1 (k:=.i64) (i:=(j:Int)) rfl hj (x:=.str nm) (by simp [tx,hx])
  have hpre:=d0X (fun nm=>T.flatMap fun v=>Z0 T ents (nm,v)) T (j+1)
  have hsn:(T.take (j+1)).flatMap (fun nm=>T.flatMap fun v=>Z0 T ents (nm,v))=(T.take j).flatMap (fun nm=>T.flatMap fun v=>Z0 T ents (nm,v))++T.flatMap fun v=>Z0 T ents (nm,v):=by
   rw [u7 _ _ _ hx,List.flatMap_append];simp
  rw [hsn,List.length_append] at hpre
  generalize hB:(T.take j).flatMap (fun nm=>T.flatMap fun v=>Z0 T ents (nm,v))=B at *
  have hpb:(T.flatMap fun nm=>T.flatMap fun v=>Z0 T ents (nm,v)).length≤2 ^ 39:=hb
  have tl:=(ht.fr fr).len
  simp only [K6]
  simp [hi,e14,a1,a2,e0,tl,-List.length_flatMap]
  refine y09 (h:=h) (n:=n) (k:=k) (m:=B.length) (v:=v) (tv:=tv) (xs:=xs) (T:=T) (nm:=nm) (b0:=B) (by simp [e0]) (by simp [e1]) (by simp) (by simp) (by simp) (by simp) (by simp) s hn he ht hk hne hnm fr ho rfl (by rw [hents];omega) ?_
  intro σ2 g2 ov' h25 hσ2 f2 o2
  rw [hents] at o2
  have z0:σ2 0=tv:=by rw [hσ2 0 (by omega) (by omega)];simp [e0]
  have z1:σ2 1=v:=by rw [hσ2 1 (by omega) (by omega)];simp [e1]
  have z14:σ2 14=tv:=by rw [hσ2 14 (by omega) (by omega)];simp [e14]
  have z15:σ2 15=.int .i64 (k:Int):=by rw [hσ2 15 (by omega) (by omega)];simp [e15]
  have z16:σ2 16=.int .i64 (j:Int):=by rw [hσ2 16 (by omega) (by omega)];simp [hi]
  rw [hsn,List.length_append]
  simp [z0,z1,z14,z15,z16,h25,-List.length_flatMap]
  exact ⟨f2,o2⟩
 ·rintro σ ds g ⟨rfl,e0,e1,e14,e15,fr,ho⟩
  rw [List.take_of_length_le (by omega)] at ho
  simp
  exact ⟨ho,fr⟩
end Go.Dk

namespace Go.Dk
open Go Go.Dr
set_option maxRecDepth 100000
theorem u05:∀ x y:Txt,Op.bytesLess x y=true↔x<y
 | x,[]=>by
  cases x <;> simp [Op.bytesLess]
 | [],y::l=>by simp [Op.bytesLess]
 | a::x,b::y=>by
  have ih:=u05 x y
  rw [List.cons_lt_cons_iff,← ih]
  simp only [Op.bytesLess,Bool.or_eq_true,decide_eq_true_eq,Bool.and_eq_true,beq_iff_eq]
theorem z0E (l:List Ep):t0F (Tof l):=by
 unfold t0F Tof f08
 have tr:∀ a b c:Txt,decide (a≤b)=true→decide (b≤c)=true→decide (a≤c)=true:=fun a b c h1 h2=>by simp only [decide_eq_true_eq] at *;exact List.le_trans h1 h2
 have to:∀ a b:Txt,(decide (a≤b)||decide (b≤a))=true:=fun a b=>by simp only [Bool.or_eq_true,decide_eq_true_eq];exact List.le_total a b
 have h1:=List.pairwise_mergeSort tr to (f0A [] (l.map (·.ls)))
 have h2:(f08 (f0A [] (l.map (·.ls)))).Nodup:=o01 l
 unfold f08 at h2
 refine (h1.and h2).imp fun {a b} h=>?_
 obtain ⟨h3,h4⟩:=h
 simp only [decide_eq_true_eq] at h3
 rcases r0i a b with h | h | h
 ·exact h
 ·exact absurd h h4
 ·exact absurd ((u05 b a).1 h) (List.not_lt.2 h3)
theorem u06 (l:List Ep):IsT (Tof l) (l.map (·.ls)):=⟨z0E l,fun s=>h0c l s⟩
theorem p0G (T:List Txt):∀ (l:List Ep) (off:Nat),evE T off l=(List.range l.length).flatMap fun i=>match (l.map B5)[i]? with | some x=>x.ls.map fun k=>((pl T k.1,pl T k.2),off+i) | none=>[]
 | [],_=>rfl
 | x::l,off=>by
  rw [evE,p0G T l (off+1),List.length_cons,List.range_succ_eq_map,List.flatMap_cons,List.flatMap_map]
  congr 1
  rw [List.flatMap_def,List.flatMap_def]
  congr 1
  refine List.map_congr_left fun i _=>?_
  simp only [List.map_cons,List.getElem?_cons_succ]
  rw [show off+1+i=off+(i+1) by omega]
theorem A09 (T:List Txt) (l:List Ep):N6 T (l.map B5)=evE T 0 l:=by
 rw [p0G]
 unfold N6
 rw [List.length_map]
 rw [List.flatMap_def,List.flatMap_def]
 congr 1
 refine List.map_congr_left fun i _=>?_
 cases (l.map B5)[i]? with
 | none=>rfl
 | some x=>simp
theorem w0C (T:List Txt) (x:Ep) (h8:x.ls.length≤8) (hp:∀ k ∈ x.ls,pl T k.1<2 ^ 62∧pl T k.2<2 ^ 62):(itE T x).flatMap itB=f05 T (B5 x):=by
 have h1:∀ l:List Lab,(∀ k ∈ l,pl T k.1<2 ^ 62∧pl T k.2<2 ^ 62)→(l.flatMap fun k=>[It.w (pl T k.1:Int) 4,.w (pl T k.2:Int) 4]).flatMap itB=h0J T l:=by
  intro l
  induction l with
  | nil=>intro _;rfl
  | cons k l ih =>
   intro h
   obtain ⟨a,b⟩:=h k List.mem_cons_self
   have ih:=ih fun y hy=>h y (List.mem_cons_of_mem _ hy)
   unfold h0J at ih ⊢
   rw [List.flatMap_cons,List.flatMap_append,ih,List.flatMap_cons]
   congr 1
   simp only [List.flatMap_cons,List.flatMap_nil,List.append_nil,itB,G6 _ (Nat.lt_trans a (by decide)),G6 _ (Nat.lt_trans b (by decide))]
 have hb1:be 1 (n64 (x.ls.length:Int))=[x.ls.length]:=by
  rw [G6 _ (by omega)]
  simp only [be,List.nil_append,List.cons.injEq,and_true]
  omega
 unfold itE f05
 rw [List.cons_append,List.flatMap_cons,List.flatMap_append,h1 x.ls hp]
 simp only [List.flatMap_cons,List.flatMap_nil,List.append_nil,itB,hb1,B5,List.append_assoc,List.cons_append,List.nil_append]
theorem y0l {l:List Ep} (hn:l.length≤10000) (hc:c0f l=true) {T:List Txt} (hT:IsT T (l.map (·.ls))):a0B l=y02 T (l.map B5):=by
 have h8:=g0Y hc
 have hTT:T=Tof l:=hT.unique (u06 l)
 subst hTT
 have hTl:=u0D l h8
 have hmem:∀ x ∈ l,∀ k ∈ x.ls,k.1 ∈ Tof l∧k.2 ∈ Tof l:=fun x hx k hk =>
  ⟨(h0c l _).2 ⟨x.ls,List.mem_map.2 ⟨x,hx,rfl⟩,k,hk,.inl rfl⟩,(h0c l _).2 ⟨x.ls,List.mem_map.2 ⟨x,hx,rfl⟩,k,hk,.inr rfl⟩⟩
 have hpl:∀ s ∈ Tof l,pl (Tof l) s<2 ^ 62:=fun s hs=>by have:=j0c hs;omega
 have hplist:l.map (·.ls)=(l.map B5).map (·.ls):=by rw [List.map_map];rfl
 have e1:([It.w ((Tof l).length:Int) 4]).flatMap itB=be 4 (Tof l).length:=by
  simp only [List.flatMap_cons,List.flatMap_nil,List.append_nil,itB,G6 _ (show (Tof l).length<2 ^ 64 by omega)]
 have e2:((Tof l).map It.t).flatMap itB=(Tof l).flatMap fun s=>s.length::bT s:=by
  rw [List.flatMap_map,List.flatMap_def,List.flatMap_def]
  congr 1
  refine List.map_congr_left fun s hs=>?_
  obtain ⟨y,hy,k,hk,hsk⟩:=(h0c l s).1 hs
  obtain ⟨x,hx,rfl⟩:=List.mem_map.1 hy
  obtain ⟨a,b,_⟩:=(d0t (g0X hc x hx).1).2 k hk
  have:s.length≤40:=by rcases hsk with rfl | rfl <;> omega
  simp only [itB]
  rw [Nat.mod_eq_of_lt (by omega)]
 have e3:([It.w (l.length:Int) 4]).flatMap itB=be 4 l.length:=by
  simp only [List.flatMap_cons,List.flatMap_nil,List.append_nil,itB,G6 _ (show l.length<2 ^ 64 by omega)]
 have e4:(l.flatMap (itE (Tof l))).flatMap itB=(l.map B5).flatMap (f05 (Tof l)):=by
  rw [List.flatMap_assoc,List.flatMap_map,List.flatMap_def,List.flatMap_def]
  congr 1
  exact List.map_congr_left fun x hx=>w0C _ x (h8 x hx) fun k hk=>⟨hpl _ (hmem x hx k hk).1,hpl _ (hmem x hx k hk).2⟩
 have hevs:N6 (Tof l) (l.map B5)=evE (Tof l) 0 l:=A09 _ l
 have hmm:f04 l=M4 (N6 (Tof l) (l.map B5)):=by rw [hevs];rfl
 have hpart:∀ x ∈ l.map B5,d0d x.ls:=fun x hx=>by
  obtain ⟨y,hy,rfl⟩:=List.mem_map.1 hx
  exact l0k (g0X hc y hy).1
 have hkey:∀ p ∈ (f04 l).map (·.1),p.1<2 ^ 62∧p.2<2 ^ 62:=by
  intro p hp
  unfold f04 at hp
  rw [k0g,← hevs] at hp
  obtain ⟨e,he,rfl⟩:=List.mem_map.1 hp
  unfold N6 at he
  obtain ⟨i,_,hi⟩:=List.mem_flatMap.1 he
  cases hx:(l.map B5)[i]? with
  | none=>rw [hx] at hi;cases hi
  | some x =>
   rw [hx] at hi
   obtain ⟨k,hk,rfl⟩:=List.mem_map.1 hi
   obtain ⟨y,hy,rfl⟩:=List.mem_map.1 (List.mem_of_getElem? hx)
   have:=hmem y hy k hk
   exact ⟨hpl _ this.1,hpl _ this.2⟩
 have e5:(itP (f04 l) (i07 ((f04 l).map (·.1)))).flatMap itB=f0q (Tof l) (l.map B5):=by
  have hnd:((f04 l).map (·.1)).Nodup:=t0H _
  rw [← x0m (by rw [← hplist];exact u06 l) hpart (x0f hnd) (fun p=>by rw [i08,hmm])]
  unfold itP
  rw [List.flatMap_assoc,List.flatMap_def,List.flatMap_def]
  congr 1
  refine List.map_congr_left fun p hp=>?_
  obtain ⟨a,b⟩:=hkey p ((i08 _ p).1 hp)
  rw [← hmm]
  simp only [List.flatMap_cons,List.flatMap_nil,List.append_nil,itB,j0d,G6 _ (Nat.lt_trans a (show (2:Nat) ^ 62<2 ^ 64 by decide)),G6 _ (Nat.lt_trans b (show (2:Nat) ^ 62<2 ^ 64 by decide)),List.append_assoc]
 unfold a0B a0h y02 x0j
 rw [List.flatMap_append,List.flatMap_append,List.flatMap_append,List.flatMap_append,e1,e2,e3,e4,e5,List.length_map]
end Go.Dk

namespace Go.Dk
open Go Go.Dr
set_option maxRecDepth 100000
theorem y0k {B n k:Nat} {g:AH} {v x:AV} {l bs:List Nat} (o:Own B g 1 n v (by8 l)) (s:Sl g 1 k x (by8 bs)) (hB:B≤g.next) (hb:n+k≤2 ^ 40) :
  ∃ v' g',L0 1 1 v x g=okV v' g'∧Own B g' 1 (n+k) v' (by8 (l++bs))∧FrB B g g':=by
 obtain ⟨v',g',e,o2,f,p,q⟩:=o.append (bytes:=1) s hB (C2 _) (by omega) (by omega)
 exact ⟨v',g',e,by rw [J7];exact o2,f⟩
theorem j0P {h:AH} {n:Nat} {v:AV} {xs:List (AV×Ep)} (s:Sl h 5 n v (xs.flatMap enC)) (hn:n≤10000) (he:∀ x ∈ xs,EnOk h x∧b0j x.2.ls∧x.2.ls.length<2 ^ 62) :
  Ev P SI (.fn c05) [v] h (j0G h (xs.map (·.2))):=by
 refine j9 m0S rfl rfl ?_
 have hl:xs.length=n:=by have:=s.1;rw [e0B] at this;omega
 simp only [g0z,K6]
 simp
 refine (p0h s (by omega) he).mono ?_
 rintro r g ⟨rfl,f1⟩
 cases hc:c0f (xs.map (·.2)) with
 | false =>
  simp [j0G,hc]
  exact f1
 | true =>
  have hll:(xs.map (·.2)).length≤10000:=by rw [List.length_map];omega
  have h8:=g0Y hc
  have h8x:∀ x ∈ xs,x.2.ls.length≤8:=fun x hx=>h8 x.2 (List.mem_map.2 ⟨x,hx,rfl⟩)
  have hcx:∀ x ∈ xs,Q9 x.2.ls=true:=fun x hx=>(g0X hc x.2 (List.mem_map.2 ⟨x,hx,rfl⟩)).1
  simp
  refine (s0y (s.fr f1) (by omega) (fun x hx=>⟨(he x hx).1.fr f1,h8x x hx⟩)).mono ?_
  rintro tv g2 ⟨T,k,ht,hT,f2,hk⟩
  have F2:=f1.trans f2
  have hTl:T.length=k:=by have:=ht.1;simpa [tx] using this
  have hT':IsT T ((xs.map (·.2)).map (·.ls)):=by rw [List.map_map];exact hT
  have hbe:=y0l hll hc hT'
  have hBl:=i0s hll hc
  have hents:(xs.map (·.2)).map B5=xs.map fun x=>B5 x.2:=by rw [List.map_map];rfl
  rw [hents] at hbe
  have hel:(xs.map fun x=>B5 x.2).length=n:=by rw [List.length_map,hl]
  have hmemT:∀ x ∈ xs,∀ y ∈ x.2.ls,y.1 ∈ T∧y.2 ∈ T:=fun x hx y hy =>
   ⟨(hT.2 _).2 ⟨x.2.ls,List.mem_map.2 ⟨x,hx,rfl⟩,y,hy,.inl rfl⟩,(hT.2 _).2 ⟨x.2.ls,List.mem_map.2 ⟨x,hx,rfl⟩,y,hy,.inr rfl⟩⟩
  have hTs:∀ y ∈ T,y.length≤40∧y≠[]:=fun y hy=>by
   obtain ⟨z,hz,k,hk,hyk⟩:=(hT.2 y).1 hy
   obtain ⟨x,hx,rfl⟩:=List.mem_map.1 hz
   obtain ⟨a,b,c,d⟩:=(d0t (hcx x hx)).2 k hk
   rcases hyk with rfl | rfl
   ·exact ⟨by omega,c⟩
   ·exact ⟨b,d⟩
  have hkn:n64 (k:Int)=k:=G6 _ (by omega)
  have hnn:n64 (n:Int)=n:=G6 _ (by omega)
  have hfin:y02 T (xs.map fun x=>B5 x.2)=be 4 k++(T.flatMap fun s=>s.length::bT s)++be 4 n++(xs.map fun x=>B5 x.2).flatMap (f05 T)++f0q T (xs.map fun x=>B5 x.2):=by
   unfold y02 x0j;rw [hTl,hel]
  rw [hfin] at hbe
  rw [hbe] at hBl
  simp only [List.length_append,A5] at hBl
  have o1:=Own.fresh (B:=g2.next) (h:=g2) (es:=1) (n:=4) (l:=by8 (be 4 k)) true (Nat.le_refl _) (by simp)
  have tl:=ht.len
  have tl2:=(ht.fr (Fr.push (.refl g2) (.cells (by8 (be 4 k)) false))).len
  simp [tl,b0t,hkn,tl2,-List.length_flatMap]
  refine l8 (n:=k) (by rfl) (fun j σ ds g=>ds=[]∧σ 0=v∧σ 4=tv∧σ 18=tv∧σ 19=.int .i64 (k:Int)∧Fr g2 g∧Own g2.next g 1 (4+((T.take j).flatMap fun s=>s.length::bT s).length) (σ 5) (by8 (be 4 k++(T.take j).flatMap fun s=>s.length::bT s))) (by omega) (by simp)
   ⟨rfl,by simp,by simp,by simp,by simp,Fr.push (.refl g2) _,by simpa using o1⟩ (fun j σ ds g hJ=>by simp [hJ.2.2.2.2.1]) ?_ ?_
  ·rintro j σ ds g' hj hi ⟨rfl,e0,e4,e18,e19,fr,ho⟩
   obtain ⟨y,hy⟩:=l4 (l:=T) (j:=j) (by omega)
   obtain ⟨id,o,a1,a2,_⟩:=(ht.fr fr).get1 (k:=.i64) (i:=(j:Int)) rfl hj (x:=.str y) (by simp [tx,hy])
   obtain ⟨hy40,_⟩:=hTs y (List.mem_of_getElem? hy)
   obtain ⟨bv,hbv⟩:∃ bv,σ 5=bv:=⟨_,rfl⟩
   rw [hbv] at ho
   have hpre:=d0X (fun s=>s.length::bT s) T (j+1)
   have hsn:(T.take (j+1)).flatMap (fun s=>s.length::bT s)=(T.take j).flatMap (fun s=>s.length::bT s)++(y.length::bT y):=by
    rw [u7 _ _ _ hy,List.flatMap_append];simp
   have hyl:(y.length::bT y).length=1+y.length:=by simp [bT];omega
   rw [hsn,List.length_append,hyl] at hpre
   generalize hB:(T.take j).flatMap (fun s=>s.length::bT s)=B at *
   have w8:c7 .u8 (y.length:Int)=(y.length:Int):=wrap_u8 (by omega) (by omega)
   obtain ⟨v3,g3,c1,o3,fb3,p3,n3,i3⟩:=Y1 (bs:=[y.length]) (k:=1) ho rfl fr.next (by omega)
   have c1':L0 1 1 bv (.slice g'.next 0 1 1 true 1) (g'.push (.cells [.int .u8 (y.length:Int)] false))=okV v3 g3:=c1
   obtain ⟨v4,g4,c2,o4,fb4,p4,q4⟩:=o3.append_src (bytes:=1) (q0h y) (by simp) (by have:=fr.next;omega) (C2 _) (by omega) (by omega)
   simp [e18,hi,a1,a2,hbv,w8,i8,c1',c2,e0,e4,e19,-List.length_flatMap]
   rw [hsn]
   refine ⟨⟨by have:=fr.next;have:=fb4.next;omega,fun i hi'=>by rw [fb4.get i hi',fb3.get i hi'];exact fr.get i hi'⟩,?_⟩
   have e1:4+(B++y.length::bT y).length=4+B.length+1+y.length:=by rw [List.length_append,hyl];omega
   rw [e1]
   have e2:by8 (be 4 k++(B++y.length::bT y))=by8 (be 4 k++B++[y.length])++by8 (y.map UInt8.toNat):=by
    rw [← J7];simp [bT]
   rw [e2]
   exact o4
  ·rintro σ ds g3 ⟨rfl,e0,e4,e18,e19,fr,ho⟩
   rw [List.take_of_length_le (by omega)] at ho
   obtain ⟨bv,hbv⟩:∃ bv,σ 5=bv:=⟨_,rfl⟩
   rw [hbv] at ho
   generalize hH:(T.flatMap fun s=>s.length::bT s)=H at *
   have sl3:=(s.fr (F2.trans fr)).len
   obtain ⟨v4,g4,c1,o4,fb4,p4,n4,i4⟩:=Y1 (bs:=be 4 n) (k:=4) ho (by simp) fr.next (by omega)
   have fr4:Fr g2 g4:=⟨by have:=fr.next;omega,fun i hi'=>by rw [fb4.get i hi'];exact fr.get i hi'⟩
   have sl4:=(s.fr (F2.trans fr4)).len
   simp [hbv,e0,sl3,b0t,hnn,c1,sl4,-List.length_flatMap]
   refine l8 (n:=n) (by rfl) (fun j σ ds g=>ds=[]∧σ 0=v∧σ 4=tv∧σ 38=v∧σ 39=.int .i64 (n:Int)∧Fr g2 g∧Own g2.next g 1 (8+H.length+(((xs.map fun x=>B5 x.2).take j).flatMap (f05 T)).length) (σ 5) (by8 (be 4 k++H++be 4 n++((xs.map fun x=>B5 x.2).take j).flatMap (f05 T)))) (by omega) (by simp)
    ⟨rfl,by simp [e0],by simp [e4],by simp,by simp,fr4,?_⟩ (fun j σ ds g hJ=>by simp [hJ.2.2.2.2.1]) ?_ ?_
   ·have e1:8+H.length=4+H.length+4:=by omega
    simpa [e1] using o4
   ·rintro j σ' ds g' hj hi ⟨rfl,f0,f4,f38,f39,fr',ho'⟩
    obtain ⟨x,hx⟩:=l4 (l:=xs) (j:=j) (by omega)
    have hxm:=List.mem_of_getElem? hx
    have hxe:(xs.map fun x=>B5 x.2)[j]? = some (B5 x.2):=by simp [hx]
    have fh:=F2.trans fr'
    obtain ⟨id,o,a1,a2,_⟩:=h00 (s.fr fh) hx
    have okg:=(he x hxm).1.fr fh
    have hlc:=Sl.oneCell okg
    have stn:=k9 (h:=g') (n:=5) (z:=[.nils,.int .i64 0,.int .i64 0,.int .i64 0,.int .i64 0]) (l:=enC x) rfl rfl (by simp [enC,d7,hlc.2])
    have fp:=Fr.push (.refl g') (.cells (enC x) false)
    have ln:loadN (g'.push (.cells (enC x) false)) g'.next 0 5=.ok (enC x):=y9 (b8 _) rfl
    obtain ⟨bv',hbv'⟩:∃ bv,σ' 5=bv:=⟨_,rfl⟩
    rw [hbv'] at ho'
    have hpre:=d0X (f05 T) (xs.map fun x=>B5 x.2) (j+1)
    have hsn:((xs.map fun x=>B5 x.2).take (j+1)).flatMap (f05 T)=((xs.map fun x=>B5 x.2).take j).flatMap (f05 T)++f05 T (B5 x.2):=by
     rw [u7 _ _ _ hxe,List.flatMap_append];simp
    rw [hsn,List.length_append] at hpre
    simp only [K6]
    simp [f38,hi,a1,o7,a2,stn,f4,ln,-List.length_flatMap]
    refine (s0O (ht.fr (fr'.trans fp)) (by omega) (okg.fr fp) (h8x x hxm) (hmemT x hxm)).mono ?_
    rintro r g5 ⟨o5,f5⟩
    have el:=y0m T x.2
    generalize hB:((xs.map fun x=>B5 x.2).take j).flatMap (f05 T)=B at *
    generalize hE:f05 T (B5 x.2)=E at *
    obtain ⟨v6,g6,c6,o6,fb6⟩:=y0k ((ho'.fr fp).fr f5) o5.sl (by have:=fr'.next;have:=f5.next;have:(g'.push (.cells (enC x) false)).next=g'.next+1:=rfl;omega) (by omega)
    simp [hbv',c6,f0,f4,f38,f39,hi,-List.length_flatMap]
    rw [hsn]
    have gn:(g'.push (.cells (enC x) false)).next=g'.next+1:=rfl
    refine ⟨⟨by have:=fr'.next;have:=f5.next;have:=fb6.next;omega,fun i hi'=>?_⟩,?_⟩
    ·have:=fr'.next
     rw [fb6.get i hi',f5.get i (by omega),c8 (by omega)];exact fr'.get i hi'
    ·have e1:8+H.length+(B++E).length=8+H.length+B.length+(21+8*x.2.ls.length):=by rw [List.length_append,el];omega
     rw [e1]
     simp only [List.append_assoc] at o6 ⊢
     exact o6
   ·rintro σ' ds g' ⟨rfl,f0,f4,f38,f39,fr',ho'⟩
    rw [List.take_of_length_le (by omega)] at ho'
    obtain ⟨bv',hbv'⟩:∃ bv,σ' 5=bv:=⟨_,rfl⟩
    rw [hbv'] at ho'
    simp [hbv',f0,f4,-List.length_flatMap]
    have fh:=F2.trans fr'
    refine (n0g (s.fr fh) (by omega) (fun x hx=>⟨(he x hx).1.fr fh,h8x x hx,l0k (hcx x hx)⟩) (ht.fr fr') (by omega) (fun y hy=>(hTs y hy).2) (by omega)).mono ?_
    rintro r g5 ⟨o5,f5⟩
    generalize hE:(xs.map fun x=>B5 x.2).flatMap (f05 T)=E at *
    generalize hP:f0q T (xs.map fun x=>B5 x.2)=Q at *
    obtain ⟨v6,g6,c6,o6,fb6⟩:=y0k (ho'.fr f5) o5.sl (by have:=fr'.next;have:=f5.next;omega) (by omega)
    simp [c6,j0G,hc,-List.length_flatMap]
    have f6:Fr h g6:=⟨by have:=F2.next;have:=fr'.next;have:=f5.next;have:=fb6.next;omega,fun i hi'=>by
     have h1:=F2.next
     have h2:=fr'.next
     rw [fb6.get i (by omega),f5.get i (by omega)];exact fh.get i hi'⟩
    refine ⟨?_,f6⟩
    rw [hbe]
    have e1:(be 4 k++H++be 4 n++E++Q).length=8+H.length+E.length+Q.length:=by simp only [List.length_append,A5];omega
    rw [e1]
    exact o6.sl
end Go.Dk

namespace Go.Dk
open Go Go.Dr
set_option maxRecDepth 100000
end Go.Dk

namespace Go.Dk
open Go Go.Dr
set_option maxRecDepth 100000
end Go.Dk

namespace Go.Dk
open Go Go.Dr
set_option maxRecDepth 100000
def num (k:Nat) (r:List Nat):Option (Nat×List Nat):=if k≤r.length then some (beV (r.take k),r.drop k) else none
def D0L (h g:AH) (id:Nat) (st:Option (List Nat)):Prop :=
 ∃ w r bad,g.get id=some (.cells [w,.bool bad] false)∧id<g.next∧h.next≤id∧Fr h g∧Sl h 1 r.length w (by8 r)∧r.length≤2 ^ 20∧(∀ y ∈ r,y<256)∧st=if bad=true then none else some r
end Go.Dk

namespace Go.Dk
open Go Go.Dr
set_option maxRecDepth 100000
end Go.Dk

namespace Go.Dk
open Go Go.Dr
set_option maxRecDepth 100000
theorem store2 {g:AH} {e:Nat} {l2 c:List AV} (hg:g.get e=some (.cells l2 false)) (h2:l2.length=2) (hc:c.length=2) (hs:d7 c=true):J0 2 (.ptr e 0) (.agg c) g=U7 (.ok (g.set e (.cells c false))):=by
 rw [a0S 2 _ _ c hc]
 cases c with
 | nil=>simp at hc
 | cons x l=>rw [b0s hg (by rw [h2];exact hc.symm) hs]
def D0I (lv:AV) (at' sz mn mx:Int):List AV:=[lv,.int .i64 at',.int .i64 sz,.int .i64 mn,.int .i64 mx]
structure InE (h g0 g:AH) (id:Nat) (at' sz mn mx:Int) (st:Option (List Nat)) (lv:AV) (ls:List Lab):Prop where
 src:D0L h g id st
 fx:FrX id g0 g
 lt:id<g0.next
 up:g0.next<g.next
 cells:g.get g0.next=some (.cells (D0I lv at' sz mn mx) false)
 own:Own (g0.next+1) g 2 ls.length lv (ls.flatMap M3)
 short:∀ x ∈ ls,x.1.length≤2 ^ 20∧x.2.length≤2 ^ 20
end Go.Dk

namespace Go.Dk
open Go Go.Dr
set_option maxRecDepth 100000
end Go.Dk

namespace Go.Dk
open Go Go.Dr
set_option maxRecDepth 100000
end Go.Dk

namespace Go.Dk
open Go Go.Dr
set_option maxRecDepth 100000
end Go.Dk

namespace Go.Dk
open Go Go.Dr
set_option maxRecDepth 100000
end Go.Dk

namespace Go.Dk
open Go Go.Dr
set_option maxRecDepth 100000
def txB (s:Txt):List Nat:=(s.length%256)::bT s
def b0u (x:Lab):List Nat:=txB x.1++txB x.2
def d0i (l:List Lab):List Nat:=(l.length%256)::l.flatMap b0u
theorem f0x (s:Txt):(txB s).length=s.length+1:=by simp [txB,bT]
theorem r08 (x:Lab):(b0u x).length=x.1.length+x.2.length+2:=by simp only [b0u,List.length_append,f0x];omega
theorem d0W {α:Type} (f:α→List Nat) (c:Nat):∀ l:List α,(∀ x ∈ l,(f x).length≤c)→(l.flatMap f).length≤c*l.length
 | [],_=>by simp
 | x::l,h=>by
  have h1:=h x (by simp)
  have h2:=d0W f c l (fun y hy=>h y (List.mem_cons_of_mem _ hy))
  rw [List.flatMap_cons,List.length_append,List.length_cons,Nat.mul_add]
  omega
theorem n0b {l:List Lab} (hc:Q9 l=true) (j:Nat):((l.take j).flatMap b0u).length≤66*8:=by
 obtain ⟨h8,hm⟩:=d0t hc
 have h1:=d0W b0u 66 (l.take j) (fun x hx=>by
  have:=hm x (List.mem_of_mem_take hx)
  rw [r08];omega)
 have h2:(l.take j).length≤8:=by rw [List.length_take];omega
 have:=Nat.mul_le_mul_left 66 h2
 omega
def p0i (h:AH) (l:List Lab) (r:AV) (g:AH):Prop :=
 Fr h g∧if Q9 l=true then ∃ v,r=.tuple [v,.int .i64 0]∧Own h.next g 1 (d0i l).length v (by8 (d0i l)) else r=.tuple [.nils,.int .i64 1]
theorem e0N (n:Nat):c7 .u8 (n:Int)=((n%256:Nat):Int):=by rw [u02];omega
theorem q0x {B n:Nat} {g:AH} {v:AV} {l:List Nat} {s:Txt} (o:Own B g 1 n v (by8 l)) (hB:B≤g.next) (hs:s.length≤2 ^ 30) (hn:n≤2 ^ 30) :
  ∃ v3 g3 v4 g4,L0 1 1 v (.slice g.next 0 1 1 true 1) (g.push (.cells [.int .u8 ((s.length%256:Nat):Int)] false))=okV v3 g3∧L0 1 1 v3 (.str s) g3=okV v4 g4 ∧
   Own B g4 1 (n+(txB s).length) v4 (by8 (l++txB s))∧FrB B g g4∧(∀ i,i<g.next→l6 v≠some i→g3.get i=g.get i∧g4.get i=g.get i)∧(∀ i,l6 v4=some i→l6 v=some i∨g.next≤i):=by
 obtain ⟨v3,g3,c1,o3,fb3,p3,n3,i3⟩:=Y1 (bs:=[s.length%256]) (k:=1) o rfl hB (by omega)
 obtain ⟨v4,g4,c2,o4,fb4,p4,q4⟩:=o3.append_src (bytes:=1) (q0h s) (by simp) (by omega) (C2 _) (by omega) (by omega)
 refine ⟨v3,g3,v4,g4,c1,c2,?_,fb3.trans fb4,fun i hi hne=>?_,fun i hi=>?_⟩
 ·rw [f0x,show n+(s.length+1)=n+1+s.length from by omega]
  have e2:by8 (l++txB s)=by8 (l++[s.length%256])++by8 (s.map UInt8.toNat):=by
   rw [← J7];simp [txB,bT]
  rw [e2]
  exact o4
 ·have h3:=p3 i hi hne
  refine ⟨h3,?_⟩
  rw [p4 i (by omega) (fun e=>by
   rcases i3 i e with e | e
   ·exact hne e
   ·omega),h3]
 ·rcases q4 i hi with e | e
  ·rcases i3 i e with e | e
   ·exact .inl e
   ·exact .inr (by omega)
  ·exact .inr (by omega)
theorem x0A {h g g':AH} {B:Nat} (f:Fr h g) (b:FrB B g g') (hB:h.next≤B):Fr h g':=⟨Nat.le_trans f.next b.next,fun i hi=>(b.get i (by omega)).trans (f.get i hi)⟩
def inn (x:Lab):Nat→List Nat
 | 0=>[]
 | 1=>txB x.1
 | _=>b0u x
theorem o0r {h:AH} {n:Nat} {v:AV} {ls:List Lab} (s:Sl h 2 n v (ls.flatMap M3)) (hs:b0j ls):Ev P SI (.fn b07) [v] h (p0i h ls):=by
 refine j9 l0z rfl rfl ?_
 have hl:=a0k s
 simp [f0T]
 refine (f0R s hs).mono ?_
 rintro r g ⟨rfl,f1⟩
 cases hc:Q9 ls with
 | false =>
  simp [p0i,hc]
  exact f1
 | true =>
  obtain ⟨h8,hm⟩:=d0t hc
  have sg:=s.fr f1
  have fp:=Fr.push (.refl g) (.cells [.int .u8 ((n%256:Nat):Int)] false)
  have o1:=Own.fresh (B:=g.next) (h:=g) (es:=1) (n:=1) (l:=[.int .u8 ((n%256:Nat):Int)]) true (Nat.le_refl _) rfl
  have hn:n≤8:=by omega
  simp [sg.len,e0N,(sg.fr fp).len,i8]
  refine l8 (n:=n) (by rfl) (fun j σ ds g'=>ds=[]∧σ 16=v∧σ 17=.int .i64 (n:Int)∧Fr g g'∧Own g.next g' 1 (1+((ls.take j).flatMap b0u).length) (σ 4) (by8 (n%256::(ls.take j).flatMap b0u))) (by omega) (by simp)
   ⟨rfl,by simp,by simp,fp,by simpa [by8] using o1⟩ (fun j σ ds g hJ=>by simp [hJ.2.2.1]) ?_ ?_
  ·rintro j σ ds g' hj hi ⟨rfl,e16,e17,fr,ho⟩
   obtain ⟨x,hx⟩:=l4 (l:=ls) (j:=j) (by omega)
   have hxs:=hm x (List.mem_of_getElem? hx)
   obtain ⟨id,o,a1,a2,_⟩:=b0k (sg.fr fr) (k:=.i64) (i:=(j:Int)) rfl hx
   have hpre:=n0b hc j
   have hsn:(ls.take (j+1)).flatMap b0u=(ls.take j).flatMap b0u++b0u x:=by
    rw [u7 _ _ _ hx,List.flatMap_append];simp
   rw [hsn]
   generalize (ls.take j).flatMap b0u=pre at *
   have stn:=k9 (h:=g') (n:=2) (z:=[.str [],.str []]) (l:=[.str x.1,.str x.2]) rfl rfl rfl
   have f2:=Fr.push (.refl g') (.cells [.str x.1,.str x.2] false)
   have y0:load1 (g'.push (.cells [.str x.1,.str x.2] false)) g'.next 0=.ok (.str x.1):=b9 (b8 _)
   have y1:load1 (g'.push (.cells [.str x.1,.str x.2] false)) g'.next 1=.ok (.str x.2):=b9 (b8 _)
   obtain ⟨bv,hbv⟩:∃ bv,σ 4=bv:=⟨_,rfl⟩
   rw [hbv] at ho
   simp [e16,hi,a1,a2,o7,stn,y0,y1,i8,-List.length_flatMap]
   refine l8 (n:=2) (by rfl) (fun i σ ds g2=>ds=[]∧σ 16=v∧σ 17=.int .i64 (n:Int)∧σ 18=.int .i64 (j:Int)∧σ 26=.agg [.str x.1,.str x.2]∧Fr g g2∧Own g.next g2 1 (1+pre.length+(inn x i).length) (σ 4) (by8 (n%256::pre++inn x i))) (by omega) (by simp)
    ⟨rfl,by simp [e16],by simp [e17],by simp [hi],by simp,fr.trans f2,by simpa [hbv,inn] using ho.fr f2⟩ (fun i σ ds g hJ=>by simp) ?_ ?_
   ·rintro i σ ds g2 hi2 hi27 ⟨rfl,e16,e17,e18,e26,fr2,ho2⟩
    obtain ⟨bv,hbv⟩:∃ bv,σ 4=bv:=⟨_,rfl⟩
    rw [hbv] at ho2
    have pi:U8 true 2 1 (.agg [.str x.1,.str x.2]) (.int .i64 (i:Int))=.ok (.str (if i=0 then x.1 else x.2)):=by
     rcases (show i=0∨i=1 by omega) with rfl | rfl <;> simp [U8,f0F]
    have htl:(if i=0 then x.1 else x.2).length≤40:=by split <;> omega
    have hil:(inn x i).length≤100:=by
     rcases (show i=0∨i=1 by omega) with rfl | rfl
     ·simp [inn]
     ·simp only [inn,f0x];omega
    have hin:inn x (i+1)=inn x i++txB (if i=0 then x.1 else x.2):=by
     rcases (show i=0∨i=1 by omega) with rfl | rfl <;> simp [inn,b0u]
    rw [hin]
    generalize (if i=0 then x.1 else x.2)=t at *
    obtain ⟨v3,g3,v4,g4,c1,c2,o4,fb,_,_⟩:=q0x (s:=t) ho2 fr2.next (by omega) (by omega)
    have w8:=e0N t.length
    obtain ⟨q,hq⟩:∃ q,t.length%256=q:=⟨_,rfl⟩
    rw [hq] at w8 c1
    simp [e26,hi27,pi,hbv,w8,i8,c1,c2,e16,e17,e18]
    refine ⟨x0A fr2 fb (Nat.le_refl _),?_⟩
    simpa [Nat.add_assoc] using o4
   ·rintro σ ds g2 ⟨rfl,e16,e17,e18,e26,fr2,ho2⟩
    simp [e16,e17,e18,inn] at ho2 ⊢
    refine ⟨fr2,?_⟩
    simpa [Nat.add_assoc] using ho2
  ·rintro σ ds g' ⟨rfl,e16,e17,fr,ho⟩
   rw [List.take_of_length_le (by omega)] at ho
   simp [p0i,hc]
   refine ⟨f1.trans fr,?_⟩
   rw [d0i,hl]
   have e:(n%256::ls.flatMap b0u).length=1+(ls.flatMap b0u).length:=by rw [List.length_cons];omega
   rw [e]
   exact ho.base f1.next
end Go.Dk

namespace Go.Dk
open Go Go.Dr
set_option maxRecDepth 100000
theorem q02 {h:AH} {n:Nat} {v:AV} {ls:List Lab} (s:Sl h 2 n v (ls.flatMap M3)) (hs:b0j ls):Ev P SI (.fn c06) [v] h (p0i h ls):=by
 refine j9 n0J rfl rfl ?_
 have hl:=a0k s
 simp [g02]
 refine (h0w s hs).mono ?_
 rintro r g ⟨rfl,f1⟩
 cases hc:Q9 ls with
 | false =>
  simp [p0i,hc]
  exact f1
 | true =>
  obtain ⟨h8,hm⟩:=d0t hc
  have sg:=s.fr f1
  have fp:=Fr.push (.refl g) (.cells [.int .u8 ((n%256:Nat):Int)] false)
  have o1:=Own.fresh (B:=g.next) (h:=g) (es:=1) (n:=1) (l:=[.int .u8 ((n%256:Nat):Int)]) true (Nat.le_refl _) rfl
  have hn:n≤8:=by omega
  simp [sg.len,e0N,(sg.fr fp).len,i8]
  refine l8 (n:=n) (by rfl) (fun j σ ds g'=>ds=[]∧σ 14=v∧σ 15=.int .i64 (n:Int)∧Fr g g'∧Own g.next g' 1 (1+((ls.take j).flatMap b0u).length) (σ 4) (by8 (n%256::(ls.take j).flatMap b0u))) (by omega) (by simp)
   ⟨rfl,by simp,by simp,fp,by simpa [by8] using o1⟩ (fun j σ ds g hJ=>by simp [hJ.2.2.1]) ?_ ?_
  ·rintro j σ ds g' hj hi ⟨rfl,e14,e15,fr,ho⟩
   obtain ⟨x,hx⟩:=l4 (l:=ls) (j:=j) (by omega)
   have hxs:=hm x (List.mem_of_getElem? hx)
   obtain ⟨id,o,a1,a2,_⟩:=b0k (sg.fr fr) (k:=.i64) (i:=(j:Int)) rfl hx
   have hpre:=n0b hc j
   have hsn:(ls.take (j+1)).flatMap b0u=(ls.take j).flatMap b0u++b0u x:=by
    rw [u7 _ _ _ hx,List.flatMap_append];simp
   rw [hsn]
   generalize (ls.take j).flatMap b0u=pre at *
   have stn:=k9 (h:=g') (n:=2) (z:=[.str [],.str []]) (l:=[.str x.1,.str x.2]) rfl rfl rfl
   have f2:=Fr.push (.refl g') (.cells [.str x.1,.str x.2] false)
   have ge:(g'.push (.cells [.str x.1,.str x.2] false)).get g'.next=some (.cells [.str x.1,.str x.2] false):=b8 _
   have gn:(g'.push (.cells [.str x.1,.str x.2] false)).next=g'.next+1:=rfl
   obtain ⟨bv,hbv⟩:∃ bv,σ 4=bv:=⟨_,rfl⟩
   rw [hbv] at ho
   have hne:l6 bv≠some g'.next:=fun e=>by have:=Sl.idLt ho.sl e;omega
   have ho2:=ho.fr f2
   have fr2:=fr.trans f2
   generalize hgE:g'.push (.cells [.str x.1,.str x.2] false)=gE at *
   obtain ⟨v3,g3,v4,g4,c1,c2,o4,fb4,p4,q4⟩:=q0x (s:=x.1) ho2 fr2.next (by omega) (by omega)
   obtain ⟨ge3,ge4⟩:=p4 g'.next (by omega) hne
   rw [ge] at ge3 ge4
   have fr4:Fr g g4:=x0A fr2 fb4 (Nat.le_refl _)
   have hne4:l6 v4≠some g'.next:=fun e=>by
    rcases q4 _ e with e | e
    ·exact hne e
    ·omega
   obtain ⟨v5,g5,v6,g6,c3,c4,o6,fb6,p6,q6⟩:=q0x (s:=x.2) o4 fr4.next (by omega) (by have:=f0x x.1;omega)
   have hn4:=fb4.next
   obtain ⟨ge5,ge6⟩:=p6 g'.next (by omega) hne4
   rw [ge4] at ge5 ge6
   have w8:=e0N x.1.length
   have w9:=e0N x.2.length
   obtain ⟨q,hq⟩:∃ q,x.1.length%256=q:=⟨_,rfl⟩
   obtain ⟨q',hq'⟩:∃ q,x.2.length%256=q:=⟨_,rfl⟩
   rw [hq] at w8 c1
   rw [hq'] at w9 c3
   have y0:load1 gE g'.next 0=.ok (.str x.1):=b9 ge
   have y0p:load1 (gE.push (.cells [.int .u8 (q:Int)] false)) g'.next 0=.ok (.str x.1):=b9 ((c8 (show g'.next≠gE.next by omega)).trans ge)
   have y03:load1 g3 g'.next 0=.ok (.str x.1):=b9 ge3
   have y1:load1 g4 g'.next 1=.ok (.str x.2):=b9 ge4
   have y1p:load1 (g4.push (.cells [.int .u8 (q':Int)] false)) g'.next 1=.ok (.str x.2):=b9 ((c8 (show g'.next≠g4.next by omega)).trans ge4)
   have y15:load1 g5 g'.next 1=.ok (.str x.2):=b9 ge5
   simp [e14,hi,a1,a2,hbv,o7,stn,hgE,y0,y0p,y03,y1,y1p,y15,i8,w8,w9,c1,c2,c3,c4,e15,-List.length_flatMap]
   refine ⟨x0A fr4 fb6 (Nat.le_refl _),?_⟩
   have e1:1+(pre++b0u x).length=1+pre.length+(txB x.1).length+(txB x.2).length:=by simp only [b0u,List.length_append];omega
   have e2:n%256::(pre++b0u x)=n%256::pre++txB x.1++txB x.2:=by simp [b0u]
   simp only [List.length_append] at e1
   rw [e1]
   exact e2 ▸ o6
  ·rintro σ ds g' ⟨rfl,e14,e15,fr,ho⟩
   rw [List.take_of_length_le (by omega)] at ho
   simp [p0i,hc]
   refine ⟨f1.trans fr,?_⟩
   rw [d0i,hl]
   have e:(n%256::ls.flatMap b0u).length=1+(ls.flatMap b0u).length:=by rw [List.length_cons];omega
   rw [e]
   exact ho.base f1.next
end Go.Dk

namespace Go.Dk
open Go Go.Dr
set_option maxRecDepth 100000
abbrev Se:=(AV×List Lab)×(AV×List Smp)
def srC (x:Se):List AV:=[x.1.1,x.2.1]
def i9 (x:Se):List Lab×List Smp:=(x.1.2,x.2.2)
structure SrOk (h:AH) (x:Se):Prop where
 lab:Sl h 2 x.1.2.length x.1.1 (x.1.2.flatMap M3)
 smp:Sl h 2 x.2.2.length x.2.1 (x.2.2.flatMap smC)
 short:b0j x.1.2
 len1:x.1.2.length≤2 ^ 30
 len2:x.2.2.length≤2 ^ 30
 v64:∀ y ∈ x.2.2,y.2<2 ^ 64
theorem SrOk.fr {h g:AH} {x:Se} (s:SrOk h x) (f:Fr h g):SrOk g x:=⟨s.lab.fr f,s.smp.fr f,s.short,s.len1,s.len2,s.v64⟩
theorem i0l (xs:List Se):(xs.flatMap srC).length=xs.length*2:=V6 xs (fun _ _=>rfl)
theorem g0J {h:AH} {n:Nat} {v:AV} {xs:List Se} (s:Sl h 2 n v (xs.flatMap srC)) {j:Nat} {x:Se} (hx:xs[j]? = some x) :
  ∃ id o,E0 2 v (.int .i64 (j:Int))=.ok (.ptr id o)∧loadN h id o 2=.ok (srC x)∧load1 h id o=.ok x.1.1∧load1 h id (o+1)=.ok x.2.1∧id<h.next:=by
 obtain ⟨id,o,h1,h2,h3,h4⟩:=s.elem (fun _ _=>rfl) (by omega) (k:=.i64) (i:=(j:Int)) rfl hx
 exact ⟨id,o,h1,h2,h3 0 _ rfl,h3 1 _ rfl,h4⟩
def upR:Option (List Lab)→List Lab→Bool
 | none,_=>true
 | some p,l=>decide (d0E p l<0)
def okR (x:List Lab×List Smp):Bool:=Q9 x.1&&!decide (x.2.length=0)&&a01 x.2
def m07 (p:Option (List Lab)):List (List Lab×List Smp)→Bool
 | []=>true
 | x::l=>okR x&&upR p x.1&&m07 (some x.1) l
def c0y (l:List (List Lab×List Smp)):Bool:=m07 none l
def h0R (xs:List Se) (j:Nat):Option (List Lab):=if j=0 then none else (xs[j - 1]?).map (·.1.2)
def CanRJ (xs:List Se) (j:Nat):Prop:=c0y (xs.map i9)=m07 (h0R xs j) ((xs.drop j).map i9)
theorem CanRJ.step {xs:List Se} {j:Nat} {x:Se} (c:CanRJ xs j) (hx:xs[j]? = some x) :
  c0y (xs.map i9)=(okR (i9 x)&&upR (h0R xs j) x.1.2&&m07 (some x.1.2) ((xs.drop (j+1)).map i9)):=by
 rw [c,i0N hx,List.map_cons,m07]
 rfl
theorem CanRJ.next {xs:List Se} {j:Nat} {x:Se} (c:CanRJ xs j) (hx:xs[j]? = some x) (h1:okR (i9 x)=true) (h2:upR (h0R xs j) x.1.2=true):CanRJ xs (j+1):=by
 have:=c.step hx
 rw [h1,h2] at this
 unfold CanRJ
 rw [this]
 simp [h0R,hx]
theorem v05 {h:AH} {n:Nat} {v:AV} {xs:List Se} (s:Sl h 2 n v (xs.flatMap srC)) (hn:n≤2 ^ 40) (he:∀ x ∈ xs,SrOk h x) :
  Ev P SI (.fn g0q) [v] h fun r g=>r=.bool (c0y (xs.map i9))∧Fr h g:=by
 refine j9 r0d rfl rfl ?_
 have hl:xs.length=n:=by have:=s.1;rw [i0l] at this;omega
 simp [k0R,s.len]
 refine l8 (n:=n) (by rfl) (fun j σ ds g=>ds=[]∧σ 0=v∧σ 5=v∧σ 6=.int .i64 (n:Int)∧Fr h g∧CanRJ xs j) (by omega) (by simp)
  ⟨rfl,by simp,by simp,by simp,.refl _,rfl⟩ (fun j σ ds g hJ=>by simp [hJ.2.2.2.1]) ?_ ?_
 ·rintro j σ ds g hj hi ⟨rfl,e0,e5,e6,fr,hJ⟩
  obtain ⟨x,hx⟩:=l4 (l:=xs) (j:=j) (by omega)
  have hok:=(he x (List.mem_of_getElem? hx)).fr fr
  obtain ⟨id,o,a1,a2,_⟩:=g0J (s.fr fr) hx
  have hlc:=hok.lab.oneCell
  have hsc:=hok.smp.oneCell
  have stn:=k9 (h:=g) (n:=2) (z:=[.nils,.nils]) (l:=srC x) rfl rfl (by simp [srC,d7,hlc.2,hsc.2])
  have fp:=Fr.push (.refl g) (.cells (srC x) false)
  have ge:(g.push (.cells (srC x) false)).get g.next=some (.cells (srC x) false):=b8 _
  have gn:(g.push (.cells (srC x) false)).next=g.next+1:=rfl
  generalize hg1:g.push (.cells (srC x) false)=g1 at *
  have ok1':=hok.fr fp
  have m0:load1 g1 g.next 0=.ok x.1.1:=b9 ge
  have hstep:=hJ.step hx
  simp [e5,hi,a1,o7,a2,stn,m0]
  refine (f0R ok1'.lab hok.short).mono ?_
  rintro r g2 ⟨rfl,f2⟩
  have ge2:=f2.get g.next (by omega)
  rw [ge] at ge2
  have F2:=(fr.trans fp).trans f2
  have ok2:=ok1'.fr f2
  have m0:load1 g2 g.next 0=.ok x.1.1:=b9 ge2
  have m1:load1 g2 g.next 1=.ok x.2.1:=b9 ge2
  have no:okR (i9 x)=false→c0y (xs.map i9)=false:=fun h=>by rw [hstep,h];rfl
  cases c1:Q9 x.1.2 with
  | false =>
   have:=no (by simp [okR,i9,c1])
   simp [this]
   exact F2
  | true =>
  by_cases c2:x.2.2.length=0
  ·have:=no (by simp [okR,i9,c2])
   simp [m1,ok2.smp.len,c2,this]
   exact F2
  have cc:=j02 ok2.smp (by have:=hok.len2;omega)
  cases c3:a01 x.2.2 with
  | false =>
   have:=no (by simp [okR,i9,c3])
   simp [m1,ok2.smp.len,c2,cc,c3,this]
   exact F2
  | true =>
  have hok1:okR (i9 x)=true:=by simp [okR,i9,c1,c2,c3]
  by_cases hj0:j=0
  ·subst hj0
   have hnx:=hJ.next hx hok1 (by simp [h0R,upR])
   simp [m1,ok2.smp.len,c2,cc,c3,e0,e5,e6,hi]
   exact ⟨F2,hnx⟩
  obtain ⟨i,rfl⟩:∃ i,j=i+1:=⟨j - 1,by omega⟩
  obtain ⟨y,hy⟩:=l4 (l:=xs) (j:=i) (by omega)
  have hoky:=(he y (List.mem_of_getElem? hy)).fr F2
  have hpv:h0R xs (i+1)=some y.1.2:=by simp [h0R,hy]
  rw [hpv] at hstep
  obtain ⟨idy,oy,b1,_,b2,_⟩:=g0J (s.fr F2) hy
  have hlcy:=hoky.lab.same
  have hlcx:=hok.lab.same
  have hpos:(0:Int)<((i+1:Nat):Int):=by omega
  have w1:c7 .i64 (((i+1:Nat):Int) - 1)=(i:Int):=by rw [wrap_i64 (by omega) (by omega)];omega
  have w1':c7 .i64 (i:Int)=(i:Int):=wrap_i64 (by omega) (by omega)
  generalize hjj:((i+1:Nat):Int)=j1 at *
  simp [m1,ok2.smp.len,c2,cc,c3,e0,hi,hpos,w1,w1',b1,b2,m0,hlcy,hlcx]
  refine (g0H hoky.lab ok2.lab (by have:=hoky.len1;omega) (by have:=hok.len1;omega)).mono ?_
  rintro r g4 ⟨rfl,f4⟩
  have F4:=F2.trans f4
  have no2:upR (some y.1.2) x.1.2=false→c0y (xs.map i9)=false:=fun h=>by rw [hstep,h];simp
  generalize hcm:d0E y.1.2 x.1.2=cm at *
  by_cases d1:cm<0
  ·have hnx:=hJ.next hx hok1 (by rw [hpv];simp [upR,hcm,d1])
   have d1':¬ 0≤cm:=by omega
   simp [d1',e0,e5,e6,hi]
   exact ⟨F4,hnx⟩
  ·have:=no2 (by simp [upR,hcm,d1])
   have d1':0≤cm:=by omega
   simp [d1',this]
   exact F4
 ·rintro σ ds g ⟨rfl,e0,e5,e6,fr,hJ⟩
  have:c0y (xs.map i9)=true:=by rw [hJ,List.drop_of_length_le (by omega)];rfl
  simp [this]
  exact fr
theorem v06 {h:AH} {n:Nat} {v:AV} {xs:List Se} (s:Sl h 2 n v (xs.flatMap srC)) (hn:n≤2 ^ 40) (he:∀ x ∈ xs,SrOk h x) :
  Ev P SI (.fn g0o) [v] h fun r g=>r=.bool (c0y (xs.map i9))∧Fr h g:=by
 refine j9 s0V rfl rfl ?_
 have hl:xs.length=n:=by have:=s.1;rw [i0l] at this;omega
 simp [l0s,s.len]
 refine l8 (n:=n) (by rfl) (fun j σ ds g=>ds=[]∧σ 0=v∧σ 5=v∧σ 6=.int .i64 (n:Int)∧Fr h g∧CanRJ xs j) (by omega) (by simp)
  ⟨rfl,by simp,by simp,by simp,.refl _,rfl⟩ (fun j σ ds g hJ=>by simp [hJ.2.2.2.1]) ?_ ?_
 ·rintro j σ ds g hj hi ⟨rfl,e0,e5,e6,fr,hJ⟩
  obtain ⟨x,hx⟩:=l4 (l:=xs) (j:=j) (by omega)
  have hok:=(he x (List.mem_of_getElem? hx)).fr fr
  obtain ⟨id,o,a1,a2,_⟩:=g0J (s.fr fr) hx
  have hlc:=hok.lab.oneCell
  have hsc:=hok.smp.oneCell
  have stn:=k9 (h:=g) (n:=2) (z:=[.nils,.nils]) (l:=srC x) rfl rfl (by simp [srC,d7,hlc.2,hsc.2])
  have fp:=Fr.push (.refl g) (.cells (srC x) false)
  have ge:(g.push (.cells (srC x) false)).get g.next=some (.cells (srC x) false):=b8 _
  have gn:(g.push (.cells (srC x) false)).next=g.next+1:=rfl
  generalize hg1:g.push (.cells (srC x) false)=g1 at *
  have ok1':=hok.fr fp
  have m0:load1 g1 g.next 0=.ok x.1.1:=b9 ge
  have hstep:=hJ.step hx
  have hlcx:=hok.lab.same
  have hscx:=hok.smp.same
  simp [e5,hi,a1,o7,a2,stn,m0,hlcx]
  refine (h0w ok1'.lab hok.short).mono ?_
  rintro r g2 ⟨rfl,f2⟩
  have ge2:=f2.get g.next (by omega)
  rw [ge] at ge2
  have F2:=(fr.trans fp).trans f2
  have ok2:=ok1'.fr f2
  have m0:load1 g2 g.next 0=.ok x.1.1:=b9 ge2
  have m1:load1 g2 g.next 1=.ok x.2.1:=b9 ge2
  have no:okR (i9 x)=false→c0y (xs.map i9)=false:=fun h=>by rw [hstep,h];rfl
  cases c1:Q9 x.1.2 with
  | false =>
   have:=no (by simp [okR,i9,c1])
   simp [this]
   exact F2
  | true =>
  by_cases c2:x.2.2.length=0
  ·have:=no (by simp [okR,i9,c2])
   simp [m1,ok2.smp.len,c2,this,hscx]
   exact F2
  have cc:=j03 ok2.smp (by have:=hok.len2;omega)
  cases c3:a01 x.2.2 with
  | false =>
   have:=no (by simp [okR,i9,c3])
   simp [m1,ok2.smp.len,c2,cc,c3,this,hscx]
   exact F2
  | true =>
  have hok1:okR (i9 x)=true:=by simp [okR,i9,c1,c2,c3]
  by_cases hj0:j=0
  ·subst hj0
   have hnx:=hJ.next hx hok1 (by simp [h0R,upR])
   simp [m1,ok2.smp.len,c2,cc,c3,e0,e5,e6,hi,hscx]
   exact ⟨F2,hnx⟩
  obtain ⟨i,rfl⟩:∃ i,j=i+1:=⟨j - 1,by omega⟩
  obtain ⟨y,hy⟩:=l4 (l:=xs) (j:=i) (by omega)
  have hoky:=(he y (List.mem_of_getElem? hy)).fr F2
  have hpv:h0R xs (i+1)=some y.1.2:=by simp [h0R,hy]
  rw [hpv] at hstep
  obtain ⟨idy,oy,b1,_,b2,_⟩:=g0J (s.fr F2) hy
  have hlcy:=hoky.lab.same
  have hpos:(0:Int)<((i+1:Nat):Int):=by omega
  have w1:c7 .i64 (((i+1:Nat):Int) - 1)=(i:Int):=by rw [wrap_i64 (by omega) (by omega)];omega
  have w1':c7 .i64 (i:Int)=(i:Int):=wrap_i64 (by omega) (by omega)
  have rc:=h0Q hoky.lab ok2.lab (by have:=hoky.len1;omega) (by have:=hok.len1;omega)
  have no2:upR (some y.1.2) x.1.2=false→c0y (xs.map i9)=false:=fun h=>by rw [hstep,h];simp
  have hi1:i+1<n:=hj
  generalize hjj:((i+1:Nat):Int)=j1 at *
  generalize hcm:d0E y.1.2 x.1.2=cm at *
  by_cases d1:cm<0
  ·have hnx:=hJ.next hx hok1 (by rw [hpv];simp [upR,hcm,d1])
   have d1':¬ 0≤cm:=by omega
   simp [m1,ok2.smp.len,c2,cc,c3,e0,hi,hpos,w1,w1',b1,b2,m0,hlcy,hlcx,hscx,rc,d1',e5,e6]
   exact ⟨F2,hnx⟩
  ·have:=no2 (by simp [upR,hcm,d1])
   have d1':0≤cm:=by omega
   simp [m1,ok2.smp.len,c2,cc,c3,e0,hi,hpos,w1,w1',b1,b2,m0,hlcy,hlcx,hscx,rc,d1',this]
   exact F2
 ·rintro σ ds g ⟨rfl,e0,e5,e6,fr,hJ⟩
  have:c0y (xs.map i9)=true:=by rw [hJ,List.drop_of_length_le (by omega)];rfl
  simp [this]
  exact fr
end Go.Dk

namespace Go.Dk
open Go Go.Dr
set_option maxRecDepth 100000
def j0U (l:List Lab) (s:List Smp):List Nat:=be 4 (d0i l++U1 s).length++(d0i l++U1 s)
def chk (s:List Smp) (i:Nat):List Smp:=(s.drop (20*i)).take 20
def b0h (x:List Lab×List Smp) (i:Nat):List Nat:=(List.range i).flatMap fun i=>j0U x.1 (chk x.2 i)
def nP (x:List Lab×List Smp):Nat:=(x.2.length+19)/20
def T5 (l:List (List Lab×List Smp)):List Nat:=l.flatMap fun x=>b0h x (nP x)
theorem k0L (x:List Lab×List Smp) (i:Nat):b0h x (i+1)=b0h x i++j0U x.1 (chk x.2 i):=by
 simp [b0h,List.range_succ]
theorem p0I {a:Smp} {l:List Smp} (h:b0l (a::l)=true):b0l l=true:=by
 cases l with
 | nil=>rfl
 | cons b l=>simp only [b0l,Bool.and_eq_true] at h;exact h.2
theorem p0J:∀ (l:List Smp) (j:Nat),b0l l=true→b0l (l.drop j)=true
 | l,0,h=>by simpa using h
 | [],j+1,_=>by simp [b0l]
 | a::l,j+1,h=>by rw [List.drop_succ_cons];exact p0J l j (p0I h)
theorem p0K:∀ (l:List Smp) (j:Nat),b0l l=true→b0l (l.take j)=true
 | l,0,h=>by simp [b0l]
 | [],j+1,_=>by simp [b0l]
 | [a],j+1,_=>by simp [b0l]
 | a::b::l,1,_=>by simp [b0l]
 | a::b::l,j+2,h=>by
  have h2:=p0K (b::l) (j+1) (p0I h)
  simp only [b0l,Bool.and_eq_true] at h
  rw [List.take_succ_cons,List.take_succ_cons,b0l,h.1,Bool.true_and]
  rw [List.take_succ_cons] at h2
  exact h2
theorem s0Z {s:List Smp} (h:a01 s=true) (i:Nat):a01 (chk s i)=true:=by
 simp only [a01,Bool.and_eq_true,decide_eq_true_eq] at h ⊢
 exact ⟨p0K _ _ (p0J _ _ h.1),by simp only [chk,List.length_take];omega⟩
theorem n0Q {l:List Lab} (hc:Q9 l=true):(d0i l).length≤529:=by
 have:=n0b hc l.length
 rw [List.take_length] at this
 rw [d0i,List.length_cons]
 omega
theorem n0R {s:List Smp} (hv:∀ y ∈ s,y.2<2 ^ 64) (hn:s.length≤20):(U1 s).length≤400:=by
 have:=k0s s hv
 simp only [U1,List.length_append,A5,d03]
 omega
theorem w0F {l:List Lab} {s:List Smp} (hc:Q9 l=true) (hv:∀ y ∈ s,y.2<2 ^ 64) (hn:s.length≤20):(j0U l s).length≤933:=by
 have:=n0Q hc
 have:=n0R hv hn
 simp only [j0U,List.length_append,A5]
 omega
theorem s00 {s:List Smp} (hv:∀ y ∈ s,y.2<2 ^ 64) (i:Nat):∀ y ∈ chk s i,y.2<2 ^ 64:=fun y hy=>hv y (List.mem_of_mem_drop (List.mem_of_mem_take hy))
theorem f0P (s:List Smp) (i:Nat):(chk s i).length=min 20 (s.length - 20*i):=by simp [chk]
theorem n0S {x:List Lab×List Smp} (hc:Q9 x.1=true) (hv:∀ y ∈ x.2,y.2<2 ^ 64) (i:Nat):(b0h x i).length≤933*i:=by
 have:=d0W (fun i=>j0U x.1 (chk x.2 i)) 933 (List.range i) (fun j _=>w0F hc (s00 hv j) (by rw [f0P];omega))
 rw [List.length_range] at this
 exact this
theorem c0M:∀ (l:List (List Lab×List Smp)) (p:Option (List Lab)),m07 p l=true→∀ x ∈ l,okR x=true
 | [],_,_,x,hx=>by cases hx
 | y::l,p,h,x,hx=>by
  simp only [m07,Bool.and_eq_true] at h
  rcases List.mem_cons.1 hx with rfl | hx
  ·exact h.1.1
  ·exact c0M l _ h.2 x hx
theorem n0T {x:List Lab×List Smp} (h:okR x=true):Q9 x.1=true∧0<x.2.length∧a01 x.2=true:=by
 simp only [okR,Bool.and_eq_true,Bool.not_eq_true',decide_eq_false_iff_not] at h
 exact ⟨h.1.1,by omega,h.2⟩
theorem n0U {l:List (List Lab×List Smp)} (h:c0y l=true) (hv:∀ x ∈ l,x.2.length≤60∧∀ y ∈ x.2,y.2<2 ^ 64) (j:Nat):(T5 (l.take j)).length≤2799*l.length:=by
 have h1:=d0W (fun x=>b0h x (nP x)) 2799 (l.take j) (fun x hx=>by
  have hx:=List.mem_of_mem_take hx
  have h2:=n0S (n0T (c0M l none h x hx)).1 (hv x hx).2 (nP x)
  have h3:nP x≤3:=by have:=(hv x hx).1;unfold nP;omega
  have:=Nat.mul_le_mul_left 933 h3
  omega)
 have h2:(l.take j).length≤l.length:=by rw [List.length_take];omega
 have:=Nat.mul_le_mul_left 2799 h2
 unfold T5
 omega
def y0q (h:AH) (l:List (List Lab×List Smp)) (r:AV) (g:AH):Prop :=
 Fr h g∧if c0y l=true then ∃ v,r=.tuple [v,.int .i64 0]∧Sl g 1 (T5 l).length v (by8 (T5 l)) else r=.tuple [.nils,.int .i64 1]
theorem B0a {h:AH} {v:AV} {s:List Smp} (sl:Sl h 2 s.length v (s.flatMap smC)) (i:Nat) (hi:20*i<s.length) :
  ∃ u,B8 2 v (some (.int .i64 ((20*i:Nat):Int))) (some (.int .i64 ((min (20*i+20) s.length:Nat):Int))) none=.ok u∧Sl h 2 (chk s i).length u ((chk s i).flatMap smC):=by
 obtain ⟨u,e,su⟩:=sl.slice (lo:=some (.int .i64 ((20*i:Nat):Int))) (hi:=some (.int .i64 ((min (20*i+20) s.length:Nat):Int))) (a:=20*i) (b:=min (20*i+20) s.length) (.inr ⟨.i64,rfl⟩) (.inr ⟨.i64,rfl⟩) (by omega) (by omega)
 refine ⟨u,e,?_⟩
 rw [e08 (es:=2) (f:=smC) s (fun _ _=>rfl),c0m (es:=2) (f:=smC) (s.drop (20*i)) (fun _ _=>rfl)] at su
 have hl:(chk s i).length=min (20*i+20) s.length - 20*i:=by rw [f0P];omega
 have hc:(s.drop (20*i)).take (min (20*i+20) s.length - 20*i)=chk s i:=by
  by_cases h:20*i+20≤s.length
  ·rw [Nat.min_eq_left h,show 20*i+20 - 20*i=20 from by omega];rfl
  ·rw [Nat.min_eq_right (by omega),chk,List.take_of_length_le (by simp),List.take_of_length_le (by rw [List.length_drop];omega)]
 rw [hc] at su
 rw [hl]
 exact su
end Go.Dk

namespace Go.Dk
open Go Go.Dr
set_option maxRecDepth 100000
def Few (xs:List Se):Prop:=xs.length≤6∧∀ x ∈ xs,x.2.2.length≤60
theorem j0i {h:AH} {n:Nat} {v:AV} {xs:List Se} (s:Sl h 2 n v (xs.flatMap srC)) (hf:Few xs) (he:∀ x ∈ xs,SrOk h x) :
  Ev P SI (.fn a05) [v] h (y0q h (xs.map i9)):=by
 refine j9 n0I rfl rfl ?_
 have hl:xs.length=n:=by have:=s.1;rw [i0l] at this;omega
 have hn6:=hf.1
 simp [g01]
 refine (v06 s (by omega) he).mono ?_
 rintro r g ⟨rfl,f1⟩
 cases hc:c0y (xs.map i9) with
 | false =>
  simp [y0q,hc]
  exact f1
 | true =>
  have hv:∀ x ∈ xs.map i9,x.2.length≤60∧∀ y ∈ x.2,y.2<2 ^ 64:=fun x hx=>by
   obtain ⟨y,hy,rfl⟩:=List.mem_map.1 hx
   exact ⟨hf.2 y hy,(he y hy).v64⟩
  have sg:=s.fr f1
  simp [sg.len]
  refine l8 (n:=n) (by rfl) (fun j σ ds g'=>ds=[]∧σ 15=v∧σ 16=.int .i64 (n:Int)∧Fr g g'∧Own g.next g' 1 (T5 ((xs.map i9).take j)).length (σ 4) (by8 (T5 ((xs.map i9).take j)))) (by omega) (by simp)
   ⟨rfl,by simp,by simp,.refl _,by simpa [T5,by8] using Own.nil _ _⟩ (fun j σ ds g hJ=>by simp [hJ.2.2.1]) ?_ ?_
  ·rintro j σ ds g' hj hi ⟨rfl,e15,e16,fr,ho⟩
   obtain ⟨x,hx⟩:=l4 (l:=xs) (j:=j) (by omega)
   have hxm:=List.mem_of_getElem? hx
   obtain ⟨hcx,hpx,hsx⟩:=n0T (c0M _ none hc (i9 x) (List.mem_map.2 ⟨x,hxm,rfl⟩))
   have hcx:Q9 x.1.2=true:=hcx
   have hsx:a01 x.2.2=true:=hsx
   have hok:=(he x hxm).fr (f1.trans fr)
   have h60:=hf.2 x hxm
   obtain ⟨id,o,a1,a2,_⟩:=g0J (sg.fr fr) hx
   have hpre:=n0U hc hv j
   rw [List.length_map] at hpre
   have hsn:T5 ((xs.map i9).take (j+1))=T5 ((xs.map i9).take j)++b0h (i9 x) (nP (i9 x)):=by
    have hx':(xs.map i9)[j]? = some (i9 x):=by simp [hx]
    rw [u7 _ _ _ hx',T5,List.flatMap_append];simp [T5]
   rw [hsn]
   generalize T5 ((xs.map i9).take j)=pre at *
   have hlc:=hok.lab.oneCell
   have hsc:=hok.smp.oneCell
   have stn:=k9 (h:=g') (n:=2) (z:=[.nils,.nils]) (l:=srC x) rfl rfl (by simp [srC,d7,hlc.2,hsc.2])
   have fp:=Fr.push (.refl g') (.cells (srC x) false)
   have ge:(g'.push (.cells (srC x) false)).get g'.next=some (.cells (srC x) false):=b8 _
   have gn:(g'.push (.cells (srC x) false)).next=g'.next+1:=rfl
   obtain ⟨ov,hov⟩:∃ ov,σ 4=ov:=⟨_,rfl⟩
   rw [hov] at ho
   have hne:l6 ov≠some g'.next:=fun e=>by have:=Sl.idLt ho.sl e;omega
   simp [e15,hi,a1,a2,o7,stn]
   generalize hgE:g'.push (.cells (srC x) false)=gE at *
   obtain ⟨N,hN⟩:∃ N,N=nP (i9 x):=⟨_,rfl⟩
   have hN2:N=(x.2.2.length+19)/20:=hN
   refine U2 (fun q σ' ds g2=>∃ i ov',q+i=N∧ds=[]∧σ' 15=v∧σ' 16=.int .i64 (n:Int)∧σ' 17=.int .i64 (j:Int)∧σ' 6=.ptr g'.next 0∧σ' 7=.int .i64 (20*(i:Int))∧σ' 4=ov'∧Fr g g2∧g2.get g'.next=some (.cells (srC x) false)∧gE.next≤g2.next ∧
     Own g.next g2 1 (pre.length+(b0h (i9 x) i).length) ov' (by8 (pre++b0h (i9 x) i))∧l6 ov'≠some g'.next) N
    ⟨0,ov,by omega,rfl,by simp [e15],by simp [e16],by simp [hi],by simp,by simp,by simp [hov],fr.trans fp,ge,Nat.le_refl _,by simpa [b0h] using ho.fr fp,hne⟩ ?_
   rintro q σ' ds g2 ⟨i,ov',hq,rfl,e15,e16,e17,e6,e7,e4,fr2,ge2,hn2,ho2,hne2⟩
   have hok2:=(he x hxm).fr (f1.trans fr2)
   have m0:load1 g2 g'.next 0=.ok x.1.1:=b9 ge2
   have m1:load1 g2 g'.next 1=.ok x.2.1:=b9 ge2
   have hsb:=n0S (x:=i9 x) hcx hok.v64 i
   by_cases hiN:i<N
   case neg =>
    have:i=N:=by omega
    subst this
    have c1:¬ (20*(i:Int)<(x.2.2.length:Int)):=by omega
    simp [e7,e6,m1,hok2.smp.len,c1,e15,e16,e17,e4]
    rw [← hN]
    exact ⟨fr2,by simpa using ho2⟩
   have c1:20*(i:Int)<(x.2.2.length:Int):=by omega
   simp [e7,e6,m0,m1,hok2.smp.len,c1]
   refine (q02 hok2.lab hok2.short).mono ?_
   rintro r g3 ⟨f3,hr⟩
   rw [if_pos hcx] at hr
   obtain ⟨bv,rfl,ob⟩:=hr
   have ge3:g3.get g'.next=some (.cells (srC x) false):=by rw [f3.get _ (by omega),ge2]
   have m13:load1 g3 g'.next 1=.ok x.2.1:=b9 ge3
   have hok3:=hok2.fr f3
   obtain ⟨u,eu,su⟩:=B0a hok3.smp i (by omega)
   have wi:c7 .i64 (20*(i:Int)+20)=20*(i:Int)+20:=wrap_i64 (by omega) (by omega)
   have hmin:min (20*(i:Int)+20) (x.2.2.length:Int)=((min (20*i+20) x.2.2.length:Nat):Int):=by omega
   have h20:((20*i:Nat):Int)=20*(i:Int):=by omega
   rw [h20] at eu
   generalize min (20*i+20) x.2.2.length=mm at *
   simp [e7,e6,m13,hok3.smp.len,wi,hmin,eu]
   refine (i0V su (by rw [f0P];omega) (s00 hok.v64 i)).mono ?_
   rintro r g4 ⟨f4,hr⟩
   rw [if_pos (s0Z hsx i)] at hr
   obtain ⟨w,rfl,sw⟩:=hr
   have hel:=n0Q hcx
   have hes:=n0R (s00 hok.v64 i) (by rw [f0P];omega)
   have ob4:=ob.fr f4
   have n3:=f3.next
   have n4:=f4.next
   obtain ⟨bv2,g5,c2,ob5,fb5,p5,q5⟩:=ob4.append (bytes:=1) sw (by omega) (C2 _) (by omega) (by omega)
   rw [← J7] at ob5
   have n5:=fb5.next
   have ho5:Own g.next g5 1 (pre.length+(b0h (i9 x) i).length) ov' (by8 (pre++b0h (i9 x) i)):=ho2.fr (x0A (f3.trans f4) fb5 (Nat.le_refl _))
   have hbl:(d0i x.1.2++U1 (chk x.2.2 i)).length≤929:=by rw [List.length_append];omega
   have hbl2:(d0i x.1.2).length+(U1 (chk x.2.2 i)).length=(d0i x.1.2++U1 (chk x.2.2 i)).length:=by rw [List.length_append]
   rw [hbl2] at ob5
   have hpart:j0U (i9 x).1 (chk (i9 x).2 i)=be 4 (d0i x.1.2++U1 (chk x.2.2 i)).length++(d0i x.1.2++U1 (chk x.2.2 i)):=rfl
   have hov2:∀ k,l6 ov'=some k→k<g2.next:=fun k e=>Sl.idLt ho2.sl e
   have hbv2:∀ k,l6 bv2=some k→g2.next≤k:=fun k e=>by
    by_cases hk:k<g2.next
    ·exact absurd e (ob5.ne hk)
    ·omega
   generalize d0i x.1.2++U1 (chk x.2.2 i)=B at *
   obtain ⟨bl,hblr⟩:∃ bl,B.length=bl:=⟨_,rfl⟩
   rw [hblr] at ob5 hpart hbl
   have wu:c7 .u64 (bl:Int)=(bl:Int):=wrap_u64 (by omega) (by omega)
   have rp:=fun K=>h0v bl 4 (by omega) (by omega) g5 K
   obtain ⟨ov3,g6,c3,ho6,fb6,p6,n6,i6⟩:=Y1 (bs:=be 4 bl) (k:=4) ho5 (by simp) (by have:=fr2.next;omega) (by omega)
   have sb6:Sl g6 1 bl bv2 (by8 B):=Sl.same_get ob5.sl (by omega) (fun k hk=>p6 k (Sl.idLt ob5.sl hk) (fun e=>by have:=hov2 k e;have:=hbv2 k hk;omega))
   obtain ⟨ov4,g7,c4,ho7,fb7,p7,i7⟩:=ho6.append (bytes:=1) sb6 (by have:=fr2.next;omega) (C2 _) (by omega) (by omega)
   have n7:=fb7.next
   have rp4:∀ K,Ev P SI (.fn R5) [.int .u64 (bl:Int),.int .i64 4] g5 K=K (.slice g5.next 0 4 4 true 1) (g5.push (.cells (by8 (be 4 bl)) false)):=rp
   have w20:c7 .i64 (20*(i:Int)+20)=20*(i:Int)+20:=wi
   have hlen5:=ob5.sl.len
   simp [c2,e4,hlen5,wu,rp4,c3,c4,e7,w20,n9]
   have ge5:g5.get g'.next=some (.cells (srC x) false):=by rw [fb5.get _ (by omega),f4.get _ (by omega),ge3]
   have ge6:g6.get g'.next=some (.cells (srC x) false):=by rw [p6 _ (by omega) hne2,ge5]
   have hne3:l6 ov3≠some g'.next:=fun e=>by
    rcases i6 _ e with e | e
    ·exact hne2 e
    ·omega
   have ge7:g7.get g'.next=some (.cells (srC x) false):=by rw [p7 _ (by omega) hne3,ge6]
   have hne4:l6 ov4≠some g'.next:=fun e=>by
    rcases i7 _ e with e | e
    ·exact hne3 e
    ·omega
   refine ⟨q - 1,by omega,i+1,by omega,e15,e16,e17,e6,by omega,?_,ge7,by omega,?_,hne4⟩
   ·refine ⟨by have:=fr2.next;omega,fun k hk=>?_⟩
    have:=fr2.next
    rw [fb7.get k hk,fb6.get k hk,fb5.get k (by omega),f4.get k (by omega),f3.get k (by omega),fr2.get k hk]
   ·rw [k0L,hpart]
    have e1:pre.length+(b0h (i9 x) i++(be 4 bl++B)).length=pre.length+(b0h (i9 x) i).length+4+bl:=by simp only [List.length_append,A5];omega
    rw [e1]
    have e2:by8 (pre++(b0h (i9 x) i++(be 4 bl++B)))=by8 (pre++b0h (i9 x) i++be 4 bl)++by8 B:=by rw [← J7];simp
    rw [e2]
    exact ho7
  ·rintro σ ds g' ⟨rfl,e15,e16,fr,ho⟩
   rw [List.take_of_length_le (by rw [List.length_map];omega)] at ho
   simp [y0q,hc]
   exact ⟨f1.trans fr,ho.sl⟩
end Go.Dk

namespace Go.Dk
open Go Go.Dr
set_option maxRecDepth 100000
theorem B07 {h:AH} {n:Nat} (h0:0<n) (hn:n≤2 ^ 30) (K:AV→AH→Prop):Ev P SI (.fn P9) [.nils,.int .i64 (n:Int)] h K =
  K (.slice h.next 0 0 n false 1) (h.push (.cells (List.replicate n (.int .u8 0)) false)):=by
 refine Ev.eq (j9 e0D rfl rfl ?_) K
 have c1:¬ ((n:Int)<0):=by omega
 have c2:(0:Int)<(n:Int):=by omega
 have h1:¬ n=0:=by omega
 have w0:c7 .i64 0=0:=wrap_i64 (by omega) (by omega)
 have w1:c7 .i64 (n:Int)=n:=wrap_i64 (by omega) (by omega)
 have z:g0P 1 1 [.int .u8 0] .nils (.int .i64 (n:Int)) h=okV (.slice h.next 0 n n false 1) (h.push (.cells (List.replicate n (.int .u8 0)) false)):=by
  simp only [g0P,Int.toNat_natCast]
  rw [if_pos ⟨by omega,by omega,by omega⟩]
  simp only [Z6]
  rw [if_neg h1,if_pos ⟨by omega,by omega⟩,g0B]
 have s0:B8 1 (.nils) none (some (.int .i64 0)) none=.ok .nils:=by simp [B8,a0j,S8,d0m]
 have s1:B8 1 (.slice h.next 0 n n false 1) none (some (.int .i64 0)) none=.ok (.slice h.next 0 0 n false 1):=by
  simp [B8,a0j,S8,d0m]
 simp [a0I,a0z,k0w,w0,w1,c1,c2,s0,z,s1,h0]
theorem v0P {h:AH} {T k m:Nat} {vs:List AV} {u:AV} {l:List AV} (hk:k+m≤T) (hv:vs.length=T) (hu:Sl (h.push (.cells vs false)) 1 m u l) (hs:d7 l=true) :
  ∃ vs',L0 1 1 (.slice h.next 0 k T false 1) u (h.push (.cells vs false))=okV (.slice h.next 0 (k+m) T false 1) (h.push (.cells vs' false))∧vs'.length=T∧vs'.take (k+m)=vs.take k++l:=by
 have hl:l.length=m:=by have:=hu.1;omega
 unfold L0
 rw [hu.cells]
 simp only [Z6,ne_eq,not_true,if_false,s8,Nat.ble_eq_true_of_le hk,cond_true,Nat.mul_one,Nat.zero_add]
 cases l with
 | nil =>
  obtain rfl:m=0:=by simpa using hl.symm
  exact ⟨vs,by simp [C9],hv,by simp⟩
 | cons x l =>
  refine ⟨J5 vs k (x::l),?_,by rw [b0K _ _ _ (by omega)];exact hv,?_⟩
  ·have hb:Nat.ble (k+(x::l).length) vs.length=true:=Nat.ble_eq_true_of_le (by omega)
   simp only [C9,b8,hb,hs,Bool.and_self,cond_true,AH.set_push]
  ·rw [J5,← hl,← List.append_assoc,List.take_left' (by rw [List.length_append,List.length_take];omega)]
def d0D (ps:List (AV×List Nat)) (j:Nat):List Nat:=(ps.take j).flatMap (·.2)
theorem k0a {ps:List (AV×List Nat)} {j:Nat} {p:AV×List Nat} (h:ps[j]? = some p):d0D ps (j+1)=d0D ps j++p.2:=by
 rw [d0D,u7 _ _ _ h,List.flatMap_append];simp [d0D]
theorem y0Y (ps:List (AV×List Nat)) (j:Nat):(d0D ps j).length≤(ps.flatMap (·.2)).length:=by
 have:d0D ps j <+: ps.flatMap (·.2):=by
  conv=>rhs;rw [← List.take_append_drop j ps]
  rw [List.flatMap_append]
  exact List.prefix_append _ _
 exact this.length_le
theorem y0Z {h:AH} {s n:Nat} {ps:List (AV×List Nat)} (hg:h.get s=some (.cells (ps.map (·.1)) false)) (hs:s<h.next) (hps:ps.length=n) (hp:∀ p ∈ ps,Sl h 1 p.2.length p.1 (by8 p.2)) (h0:0<(ps.flatMap (·.2)).length)
  (hT:(ps.flatMap (·.2)).length≤2 ^ 30) (hn:n≤1000) :
  Ev P SI (.fn M6) [.slice s 0 n n true 1] h fun r g=>Sl g 1 (ps.flatMap (·.2)).length r (by8 (ps.flatMap (·.2)))∧Fr h g∧l6 r=some h.next:=by
 refine j9 d0B rfl rfl ?_
 have elem:∀ g,Fr h g→∀ (j:Nat) (p:AV×List Nat),ps[j]? = some p→∃ id o,E0 1 (.slice s 0 n n true 1) (.int .i64 (j:Int))=.ok (.ptr id o)∧load1 g id o=.ok p.1:=by
  intro g f j p hj
  have hjl:=(List.getElem?_eq_some_iff.1 hj).1
  refine ⟨s,0+j,by rw [O0 _ _ _ _ _ _ _ _ ⟨by omega,by omega⟩,Int.toNat_natCast,Nat.mul_one],?_⟩
  rw [b9 (vs:=ps.map (·.1)) (ro:=false) (by rw [f.get s hs];exact hg)]
  simp [hj,ofO]
 have hlen:a0z (.slice s 0 n n true 1)=.ok (.int .i64 (n:Int)):=rfl
 obtain ⟨T,hTe⟩:∃ T,(ps.flatMap (·.2)).length=T:=⟨_,rfl⟩
 rw [hTe] at h0 hT ⊢
 have hle:=y0Y ps
 rw [hTe] at hle
 simp [Y2,hlen,-List.length_flatMap]
 refine l8 (n:=n) (by rfl) (fun j σ ds g=>ds=[]∧σ 0=.slice s 0 n n true 1∧σ 3=.int .i64 ((d0D ps j).length:Int)∧σ 9=.slice s 0 n n true 1∧σ 10=.int .i64 (n:Int)∧g=h) (by omega) (by simp) ⟨rfl,by simp,by simp [d0D],by simp,by simp,rfl⟩ (fun j σ ds h' hJ=>by simp [hJ.2.2.2.2.1]) ?_ ?_
 ·rintro j σ ds g hj hi ⟨rfl,e0,e3,e9,e10,rfl⟩
  obtain ⟨p,hx⟩:=l4 (l:=ps) (j:=j) (by omega)
  obtain ⟨id,o,g1,g2⟩:=elem g (.refl _) j p hx
  have hpl:=(hp p (List.mem_of_getElem? hx)).len
  have hsz:((d0D ps j).length:Int)+(p.2.length:Int)=((d0D ps (j+1)).length:Int):=by rw [k0a hx,List.length_append];omega
  have hl1:=hle (j+1)
  generalize (d0D ps (j+1)).length=k1 at *
  generalize (d0D ps j).length=k0 at *
  have w1:c7 .i64 (k1:Int)=(k1:Int):=wrap_i64 (by omega) (by omega)
  have c1:¬ ((k1:Int)<0):=by omega
  simp [e0,e3,e9,e10,hi,g1,g2,hpl,hsz,w1,c1]
 ·rintro σ ds g ⟨rfl,e0,e3,e9,e10,rfl⟩
  have hfull:d0D ps n=ps.flatMap (·.2):=by rw [d0D,List.take_of_length_le (by omega)]
  rw [hfull,hTe] at e3
  simp [e0,e3,B07 h0 hT,hlen]
  refine l8 (n:=n) (by rfl) (fun j σ ds g'=>ds=[]∧σ 25=.slice s 0 n n true 1∧σ 26=.int .i64 (n:Int)∧σ 6=.slice g.next 0 (d0D ps j).length T false 1∧∃ vs,g'=g.push (.cells vs false)∧vs.length=T∧vs.take (d0D ps j).length=by8 (d0D ps j)) (by omega) (by simp)
   ⟨rfl,by simp,by simp,by simp [d0D],_,rfl,by simp,by simp [d0D,by8]⟩ (fun j σ ds h' hJ=>by simp [hJ.2.2.1]) ?_ ?_
  ·rintro j σ ds g' hj hi ⟨rfl,f25,f26,f6,vs,rfl,hvl,hvt⟩
   obtain ⟨p,hx⟩:=l4 (l:=ps) (j:=j) (by omega)
   have hF:=Fr.push (.refl g) (.cells vs false)
   obtain ⟨id,o,g1,g2⟩:=elem _ hF j p hx
   have hu:=(hp p (List.mem_of_getElem? hx)).fr hF
   have hsz:(d0D ps j).length+p.2.length=(d0D ps (j+1)).length:=by rw [k0a hx,List.length_append]
   obtain ⟨vs',ap,b1,b2⟩:=v0P (k:=(d0D ps j).length) (T:=T) (by rw [hsz];exact hle _) hvl hu (C2 _)
   rw [hsz] at ap b2
   rw [hvt,← J7,← k0a hx] at b2
   simp [f25,f26,f6,hi,g1,g2,ap]
   exact ⟨vs',rfl,b1,b2⟩
  ·rintro σ ds g' ⟨rfl,f25,f26,f6,vs,rfl,hvl,hvt⟩
   rw [hfull,hTe,List.take_of_length_le (by omega)] at hvt
   rw [hfull,hTe] at f6
   subst hvt
   simp [f6,l6]
   exact ⟨(Own.fresh (B:=0) (es:=1) (n:=T) false (Nat.zero_le _) (by simp [hTe])).sl,Fr.push (.refl g) _⟩
theorem A0t {h:AH} {v:AV} (hv:v.cells=[v]) (K:AV→AH→Prop):Ev P SI (.fn C8) [v,.int .i64 20] h K =
  K (.func (.func A3) [] [.ptr h.next 0,.ptr (h.next+1) 0]) ((h.push (.cells [v] false)).push (.cells [.int .i64 20] false)):=by
 refine Ev.eq (j9 Y4 rfl rfl ?_) K
 have l1:load1 ((h.push (.cells [v] false)).push (.cells [.int .i64 20] false)) (h.next+1) 0=.ok (.int .i64 20):=b9 (b8 _)
 simp [J8,hv,l1]
theorem y00 {h:AH} {v:AV} {s:List Smp} {N ps pn l:Nat} (hN:N=(s.length+19)/20) (hs:s.length≤1000) (Inv:Nat→AH→Prop)
  (hi:∀ j g,Inv j g→load1 g ps 0=.ok v∧load1 g pn 0=.ok (.int .i64 20)∧Sl g 2 s.length v (s.flatMap smC))
  (hy:∀ j g u,j<N→Inv j g→Sl g 2 (chk s j).length u ((chk s j).flatMap smC)→Ev P SI (.yield l) [u] g fun r g'=>r=.bool true∧Inv (j+1) g') (h0:Inv 0 h) :
  Ev P SI (.fn A3) [.func (.yield l) [] [],.ptr ps 0,.ptr pn 0] h fun _ g=>Inv N g:=by
 refine j9 V3 rfl rfl ?_
 simp [H3]
 refine U2 (fun r σ ds g=>∃ j,r+j=N∧ds=[]∧σ 0=.func (.yield l) [] []∧σ 1=.ptr ps 0∧σ 2=.ptr pn 0∧σ 4=.int .i64 (20*(j:Int))∧Inv j g) N ⟨0,by simp [h0]⟩ ?_
 rintro r σ ds g ⟨j,hr,rfl,e0,e1,e2,e4,hI⟩
 obtain ⟨l1,l2,hsl⟩:=hi j g hI
 by_cases hj:j<N
 ·have c1:20*(j:Int)<(s.length:Int):=by omega
  obtain ⟨m,hm⟩:∃ m,(chk s j).length=m:=⟨_,rfl⟩
  have hm2:m=min 20 (s.length - 20*j):=by rw [← hm,f0P]
  obtain ⟨u1,g1,s1⟩:=hsl.slice (lo:=some (.int .i64 ((20*j:Nat):Int))) (hi:=none) (a:=20*j) (b:=s.length) (.inr ⟨.i64,rfl⟩) (.inl ⟨rfl,rfl⟩) (by omega) (Nat.le_refl _)
  obtain ⟨u,g2,s2⟩:=hsl.slice3 (k1:=.i64) (k2:=.i64) (k3:=.i64) (a:=20*j) (b:=20*j+m) (by omega) (by omega)
  have s2':Sl g 2 (chk s j).length u ((chk s j).flatMap smC):=by
   rw [show 20*j+m - 20*j=m from by omega,e08 (es:=2) (f:=smC) s (fun _ _=>rfl),c0m (es:=2) (f:=smC) (s.drop (20*j)) (fun _ _=>rfl)] at s2
   have hc:(s.drop (20*j)).take m=chk s j:=by
    by_cases h:20≤s.length - 20*j
    ·rw [hm2,Nat.min_eq_left h];rfl
    ·rw [hm2,Nat.min_eq_right (by omega),chk,List.take_of_length_le (by simp),List.take_of_length_le (by rw [List.length_drop];omega)]
   rw [hc] at s2
   rw [hm]
   exact s2
  have m1:min (20:Int) ((s.length - 20*j:Nat):Int)=(m:Int):=by omega
  have w1:c7 .i64 (20*(j:Int)+20)=20*(j:Int)+20:=wrap_i64 (by omega) (by omega)
  have w2:c7 .i64 (20*(j:Int)+(m:Int))=20*(j:Int)+(m:Int):=wrap_i64 (by omega) (by omega)
  have t1:((20*j:Nat):Int)=20*(j:Int):=by omega
  have t2:((20*j+m:Nat):Int)=20*(j:Int)+(m:Int):=by omega
  rw [t1] at g1 g2
  rw [t2] at g2
  have s1l:=s1.len
  generalize s.length - 20*j=rest at *
  simp [e0,e1,e2,e4,l1,l2,hsl.len,c1,g1,s1l,m1,w1,w2,g2]
  refine ⟨hsl.same,(hy j g u hj hI s2').mono ?_⟩
  rintro r' g' ⟨rfl,hI'⟩
  obtain ⟨l1',l2',_⟩:=hi (j+1) g' hI'
  simp [e0,e1,e2,e4,l2',w1,n9]
  exact ⟨r - 1,by omega,j+1,by omega,by omega,hI'⟩
 ·have hjN:j=N:=by omega
  subst hjN
  have c1:¬ (20*(j:Int)<(s.length:Int)):=by omega
  simp [e0,e1,e2,e4,l1,l2,hsl.len,c1,hI]
theorem m0I {K:AH→Prop}:∀ (ids:List Nat) (h:AH),ids.Nodup→(∀ i ∈ ids,h.get i=some (.deferred (some [])))→(∀ h':AH,h'.next=h.next→(∀ i,i ∉ ids→h'.get i=h.get i)→K h')→e0a P SI (ids.map ADef.collected) h K
 | [],h,_,_,hK=>hK h rfl (fun _ _=>rfl)
 | i::ids,h,hnd,hg,hK=>by
  rw [List.map_cons,k0k]
  rw [List.nodup_cons] at hnd
  refine ⟨hg i (by simp),m0I ids _ hnd.2 (fun k hk=>?_) (fun h' h1 h2=>?_)⟩
  ·rw [c9 (by intro e;subst e;exact hnd.1 hk)]
   exact hg k (List.mem_cons_of_mem _ hk)
  ·refine hK h' h1 (fun k hk=>?_)
   rw [h2 k (fun hm=>hk (List.mem_cons_of_mem _ hm)),c9 (by intro e;subst e;exact hk (by simp))]
end Go.Dk

namespace Go.Dk
open Go Go.Dr
set_option maxRecDepth 100000
noncomputable def k02 (tmps:PT AV) (st:LoopState):ALoop:={ state:=st,pending:=none,n:=50,tmps:=tmps,params:=#[30],assign:=H5 D6 0,body:=V9 D6 0 }
structure RndI (h H:AH) (c:Nat) (pre:List Nat) (x:Se) (tmps:PT AV) (j:Nat) (g:AH):Prop where
 fr:Fr h g
 fx:FrX c H g
 cell:∃ ov,g.get c=some (.cells [ov] false)∧Sl g 1 (pre.length+(b0h (i9 x) j).length) ov (by8 (pre++b0h (i9 x) j))∧l6 ov≠some c∧l6 ov≠some (H.next+3)
 ps:g.get H.next=some (.cells [x.2.1] false)
 pn:g.get (H.next+1)=some (.cells [.int .i64 20] false)
 did:g.get (H.next+2)=some (.deferred (some []))
 lid:g.get (H.next+3)=some (.loop (k02 tmps .ready))
 next:H.next+4≤g.next
theorem A0v {h H:AH} {c d:Nat} {pre:List Nat} {x:Se} {hv u:AV} {tmps:PT AV} {j:Nat} {g:AH} (h4:f03 tmps 4=.ptr c 0) (h7:f03 tmps 7=.ptr d 0) (hc:c<H.next) (hcd:d≠c) (hd:d<H.next) (hch:h.next≤c) (hHh:h.next≤H.next)
  (hgd:H.get d=some (.cells [hv] false)) (hhv:Sl H 1 (d0i x.1.2).length hv (by8 (d0i x.1.2))) (hhc:l6 hv≠some c) (ht:TabIn h) (hcl:Q9 x.1.2=true) (hcs:a01 x.2.2=true) (hv64:∀ y ∈ x.2.2,y.2<2 ^ 64)
  (hpl:pre.length≤2 ^ 20) (hj:j≤100) (I:RndI h H c pre x tmps j g) (hu:Sl g 2 (chk x.2.2 j).length u ((chk x.2.2 j).flatMap smC)) :
  Ev P SI (.yield (H.next+3)) [u] g fun r g'=>r=.bool true∧RndI h H c pre x tmps (j+1) g':=by
 obtain ⟨hF,hX,⟨ov,gc,so,oc,ol⟩,hps,hpn,hdid,hlid,hnext⟩:=I
 refine w03 hlid rfl rfl d08 e04 ?_
 simp only [k02,Y8,q0S,k0G,n0B,CO.evS_t,u0X,k0F,r0x,B0Y]
 refine ⟨_,hlid,rfl,?_⟩
 generalize hgb:g.set (H.next+3) _=gb
 have nb:gb.next=g.next:=by rw [← hgb];rfl
 have gbo:∀ i,i≠H.next+3→gb.get i=g.get i:=fun i hi=>by rw [← hgb];exact c9 hi
 have gbl:gb.get (H.next+3)=some (.loop (k02 tmps .busy)):=by rw [← hgb];exact d9 _ _
 have sob:Sl gb 1 (pre.length+(b0h (i9 x) j).length) ov (by8 (pre++b0h (i9 x) j)):=by rw [← hgb];exact Sl.setX so _ ol
 have hub:Sl gb 2 (chk x.2.2 j).length u ((chk x.2.2 j).flatMap smC):=by
  refine ⟨hu.1,?_⟩
  rcases hu.2 with e | ⟨id,off,cap,x,vs,ro,e1,e2,e6,e3,e4,e5⟩
  ·exact .inl e
  ·exact .inr ⟨id,off,cap,x,vs,ro,e1,by rw [nb];exact e2,e6,by rw [gbo _ (by intro e;rw [e,hlid] at e3;cases e3)];exact e3,e4,e5⟩
 have shb:Sl gb 1 (d0i x.1.2).length hv (by8 (d0i x.1.2)):=by
  rw [← hgb]
  exact Sl.setX (Sl.frX hhv hX hhc) _ (fun e=>by have:=Sl.idLt hhv e;omega)
 have Fb:Fr h gb:=⟨by rw [nb];exact hF.next,fun i hi=>(gbo i (by omega)).trans (hF.get i hi)⟩
 simp only [a0Z,D4,K6]
 simp
 refine (j0q hub (by rw [f0P];omega) (s00 hv64 j) (ht.fr Fb)).mono ?_
 rintro r g1 ⟨f1,hr⟩
 rw [if_pos (s0Z hcs j)] at hr
 obtain ⟨w,rfl,sw⟩:=hr
 have hn1:=f1.next
 have gc1:g1.get c=some (.cells [ov] false):=by rw [f1.get _ (by omega),gbo _ (by omega),gc]
 have gd1:g1.get d=some (.cells [hv] false):=by rw [f1.get _ (by omega),gbo _ (by omega),hX.get _ hd hcd,hgd]
 have so1:=sob.fr f1
 have sh1:=shb.fr f1
 have hel:=n0Q hcl
 have hes:=n0R (s00 hv64 j) (by rw [f0P];omega)
 have hsb:=n0S (x:=i9 x) hcl hv64 j
 obtain ⟨bl,hbl⟩:∃ bl,(d0i x.1.2++U1 (chk x.2.2 j)).length=bl:=⟨_,rfl⟩
 have hbl2:(d0i x.1.2).length+(U1 (chk x.2.2 j)).length=bl:=by rw [← hbl,List.length_append]
 have hsum:((d0i x.1.2).length:Int)+((U1 (chk x.2.2 j)).length:Int)=(bl:Int):=by omega
 have wi:c7 .i64 (bl:Int)=(bl:Int):=wrap_i64 (by omega) (by omega)
 have wu:c7 .u64 (bl:Int)=(bl:Int):=wrap_u64 (by omega) (by omega)
 have rp:∀ K,Ev P SI (.fn Y0) [.int .u64 (bl:Int),.int .i64 4] g1 K=K (.slice g1.next 0 4 4 true 1) (g1.push (.cells (by8 (be 4 bl)) false)):=fun K=>j0W bl 4 (by omega) (by omega) g1 K
 have lc1:load1 g1 c 0=.ok ov:=b9 gc1
 have ld1:load1 g1 d 0=.ok hv:=b9 gd1
 have fp:=Fr.push (.refl g1) (.cells (by8 (be 4 bl)) false)
 have sput:Sl (g1.push (.cells (by8 (be 4 bl)) false)) 1 4 (.slice g1.next 0 4 4 true 1) (by8 (be 4 bl)):=(Own.fresh (B:=0) (h:=g1) (es:=1) (n:=4) (l:=by8 (be 4 bl)) true (Nat.zero_le _) (by simp)).sl
 have gn2:(g1.push (.cells (by8 (be 4 bl)) false)).next=g1.next+1:=rfl
 generalize hg2:g1.push (.cells (by8 (be 4 bl)) false)=g2 at *
 have fq:=Fr.push (.refl g2) (.cells [ov,.slice g1.next 0 4 4 true 1,hv,w] false)
 have gq:(g2.push (.cells [ov,.slice g1.next 0 4 4 true 1,hv,w] false)).get g2.next=some (.cells [ov,.slice g1.next 0 4 4 true 1,hv,w] false):=b8 _
 have gn3:(g2.push (.cells [ov,.slice g1.next 0 4 4 true 1,hv,w] false)).next=g2.next+1:=rfl
 have hoc:=so1.oneCell.1
 have hhcel:=sh1.oneCell.1
 have hwc:=sw.oneCell.1
 have hos:=so1.same
 have hhs:=sh1.same
 generalize hg3:g2.push (.cells [ov,.slice g1.next 0 4 4 true 1,hv,w] false)=g3 at *
 have f13:=fp.trans fq
 have gc3:g3.get c=some (.cells [ov] false):=by rw [f13.get _ (by omega),gc1]
 have gd3:g3.get d=some (.cells [hv] false):=by rw [f13.get _ (by omega),gd1]
 have lc3:load1 g3 c 0=.ok ov:=b9 gc3
 have ld3:load1 g3 d 0=.ok hv:=b9 gd3
 obtain ⟨ps,hpsd⟩:∃ ps:List (AV×List Nat),ps=[(ov,pre++b0h (i9 x) j),(.slice g1.next 0 4 4 true 1,be 4 bl),(hv,d0i x.1.2),(w,U1 (chk x.2.2 j))]:=⟨_,rfl⟩
 have hflat:ps.flatMap (·.2)=pre++b0h (i9 x) (j+1):=by
  rw [hpsd,k0L]
  simp only [List.flatMap_cons,List.flatMap_nil,List.append_nil,j0U,i9,hbl,List.append_assoc]
 have hfl:(ps.flatMap (·.2)).length=pre.length+(b0h (i9 x) j).length+4+bl:=by
  rw [hflat,k0L]
  simp only [List.length_append,j0U,i9,A5,hbl]
  omega
 have cat:=y0Z (h:=g3) (s:=g2.next) (n:=4) (ps:=ps) (by rw [hpsd];exact gq) (by omega) (by rw [hpsd];rfl) (by
  intro p hp
  rw [hpsd] at hp
  simp only [List.mem_cons,List.not_mem_nil,or_false] at hp
  rcases hp with rfl | rfl | rfl | rfl
  ·have:=so1.fr f13
   rw [show pre.length+(b0h (i9 x) j).length=(pre++b0h (i9 x) j).length from by rw [List.length_append]] at this
   exact this
  ·have:=sput.fr fq
   rw [show 4=(be 4 bl).length from by simp] at this
   exact this
  ·exact sh1.fr f13
  ·exact sw.fr f13) (by omega) (by omega) (by omega)
 rw [hflat] at cat
 simp [h4,h7,lc1,ld1,sh1.len,sw.len,hsum,wi,wu,hos,hhs,rp,i8,hoc,hhcel,hwc,hg3,lc3,ld3,-List.length_append]
 refine cat.mono ?_
 rintro r g4 ⟨sr,f4,ir⟩
 have gc4:g4.get c=some (.cells [ov] false):=by rw [f4.get _ (by omega),gc3]
 have hrc:=sr.oneCell
 have st:=l9 (v:=r) (off:=0) gc4 (by simp) hrc.2
 simp [i8] at st
 have hn4:=f4.next
 have low:∀ i,i<g.next→i≠H.next+3→g4.get i=g.get i:=fun i h1 h2=>by
  rw [f4.get _ (by omega),f13.get _ (by omega),f1.get _ (by omega),gbo _ h2]
 have gl4:g4.get (H.next+3)=some (.loop (k02 tmps .busy)):=by
  rw [f4.get _ (by omega),f13.get _ (by omega),f1.get _ (by omega),gbl]
 simp [h4,hrc.1,st,w02]
 refine ⟨_,(c9 (by omega)).trans gl4,?_⟩
 have hrid:∀ k,l6 r=some k→k=g3.next:=fun k e=>by rw [ir] at e;exact (Option.some.inj e).symm
 have gfin:∀ i,i<g.next→i≠H.next+3→i≠c→((g4.set c (.cells [r] false)).set (H.next+3) (.loop { k02 tmps .busy with state:=.ready,pending:=none })).get i=g.get i:=fun i h1 h2 h3=>by
  rw [c9 h2,c9 h3,low _ h1 h2]
 refine ⟨⟨by show h.next≤g4.next;have:=hF.next;omega,fun i hi=>?_⟩,⟨by show H.next≤g4.next;omega,fun i hi hne=>?_⟩,⟨r,?_,?_,?_,?_⟩,?_,?_,?_,?_,by show H.next+4≤g4.next;omega⟩
 ·rw [gfin _ (by have:=hF.next;omega) (by omega) (by omega),hF.get i hi]
 ·rw [gfin _ (by omega) (by omega) hne,hX.get i hi hne]
 ·rw [c9 (by omega),d9]
 ·rw [show pre.length+(b0h (i9 x) (j+1)).length=(pre++b0h (i9 x) (j+1)).length from by rw [List.length_append]]
  exact Sl.setX (Sl.setX sr _ (fun e=>by have:=hrid _ e;omega)) _ (fun e=>by have:=hrid _ e;omega)
 ·exact fun e=>by have:=hrid _ e;omega
 ·exact fun e=>by have:=hrid _ e;omega
 ·rw [gfin _ (by omega) (by omega) (by omega),hps]
 ·rw [gfin _ (by omega) (by omega) (by omega),hpn]
 ·rw [gfin _ (by omega) (by omega) (by omega),hdid]
 ·exact d9 _ _
end Go.Dk

namespace Go.Dk
open Go Go.Dr
set_option maxRecDepth 100000
def ChJ (g:AH) (c:Nat) (pre:List Nat) (ds:List ADef) (g':AH):Prop :=
 ∃ (ids:List Nat) (ov:AV),ds=ids.map ADef.collected∧Fr g g'∧c<g'.next∧g'.get c=some (.cells [ov] false)∧Sl g' 1 pre.length ov (by8 pre)∧l6 ov≠some c∧ids.Nodup ∧
  ∀ i ∈ ids,c<i∧i<g'.next∧g'.get i=some (.deferred (some []))
theorem j0j {h:AH} {n:Nat} {v:AV} {xs:List Se} (s:Sl h 2 n v (xs.flatMap srC)) (hf:Few xs) (he:∀ x ∈ xs,SrOk h x) (ht:TabIn h) :
  Ev P SI (.fn D6) [v] h (y0q h (xs.map i9)):=by
 refine j9 l08 rfl rfl ?_
 have hl:xs.length=n:=by have:=s.1;rw [i0l] at this;omega
 have hn6:=hf.1
 simp [g0d]
 refine (v05 s (by omega) he).mono ?_
 rintro r g ⟨rfl,f1⟩
 cases hc:c0y (xs.map i9) with
 | false =>
  simp [y0q,hc]
  exact f1
 | true =>
  have hv:∀ x ∈ xs.map i9,x.2.length≤60∧∀ y ∈ x.2,y.2<2 ^ 64:=fun x hx=>by
   obtain ⟨y,hy,rfl⟩:=List.mem_map.1 hx
   exact ⟨hf.2 y hy,(he y hy).v64⟩
  have sg:=s.fr f1
  have sgl:=(sg.fr (Fr.push (.refl g) (.cells [.nils] false))).len
  simp [sgl]
  refine l8 (n:=n) (by rfl) (fun j σ ds g'=>σ 15=v∧σ 16=.int .i64 (n:Int)∧σ 4=.ptr g.next 0∧ChJ g g.next (T5 ((xs.map i9).take j)) ds g') (by omega) (by simp)
   ⟨by simp,by simp,by simp,[],.nils,rfl,Fr.push (.refl g) _,Nat.lt_succ_self _,b8 _,by simpa [T5,by8] using Sl.nil 1,by simp [l6],List.nodup_nil,by simp⟩ (fun j σ ds g hJ=>by simp [hJ.2.1]) ?_ ?_
  ·rintro j σ ds g' hj hi ⟨e15,e16,e4,ids,ov,rfl,fr,hcl,gc,so,oc,hnd,hids⟩
   obtain ⟨x,hx⟩:=l4 (l:=xs) (j:=j) (by omega)
   have hxm:=List.mem_of_getElem? hx
   obtain ⟨hcx,hpx,hsx⟩:=n0T (c0M _ none hc (i9 x) (List.mem_map.2 ⟨x,hxm,rfl⟩))
   have hcx:Q9 x.1.2=true:=hcx
   have hsx:a01 x.2.2=true:=hsx
   have hok:=(he x hxm).fr (f1.trans fr)
   have h60:=hf.2 x hxm
   obtain ⟨id,o,a1,a2,_⟩:=g0J (sg.fr fr) hx
   have hpre:=n0U hc hv j
   rw [List.length_map] at hpre
   have hsn:T5 ((xs.map i9).take (j+1))=T5 ((xs.map i9).take j)++b0h (i9 x) (nP (i9 x)):=by
    have hx':(xs.map i9)[j]? = some (i9 x):=by simp [hx]
    rw [u7 _ _ _ hx',T5,List.flatMap_append];simp [T5]
   rw [hsn]
   generalize T5 ((xs.map i9).take j)=pre at *
   have hlc:=hok.lab.oneCell
   have hsc:=hok.smp.oneCell
   have stn:=k9 (h:=g') (n:=2) (z:=[.nils,.nils]) (l:=srC x) rfl rfl (by simp [srC,d7,hlc.2,hsc.2])
   have fp:=Fr.push (.refl g') (.cells (srC x) false)
   have ge:(g'.push (.cells (srC x) false)).get g'.next=some (.cells (srC x) false):=b8 _
   have gn:(g'.push (.cells (srC x) false)).next=g'.next+1:=rfl
   simp [e15,hi,a1,a2,o7,stn]
   generalize hgE:g'.push (.cells (srC x) false)=gE at *
   have m0:load1 gE g'.next 0=.ok x.1.1:=b9 ge
   have hokE:=hok.fr fp
   refine (o0r hokE.lab hokE.short).mono ?_
   rintro r g2 ⟨f2,hr⟩
   rw [if_pos hcx] at hr
   obtain ⟨hv',rfl,oh⟩:=hr
   have n2:=f2.next
   have hhc:=oh.sl.oneCell
   have st1:=l9 (h:=g2.push (.cells [.nils] false)) (off:=0) (v:=hv') (b8 _) (by simp) hhc.2
   simp [i8] at st1
   have fd:=Fr.push (.refl g2) (.cells [hv'] false)
   have gd:(g2.push (.cells [hv'] false)).get g2.next=some (.cells [hv'] false):=b8 _
   have nd:(g2.push (.cells [hv'] false)).next=g2.next+1:=rfl
   simp [hhc.1,st1]
   generalize hH:g2.push (.cells [hv'] false)=H at *
   have geH:H.get g'.next=some (.cells (srC x) false):=by rw [fd.get _ (by omega),f2.get _ (by omega),ge]
   have m1:load1 H g'.next 1=.ok x.2.1:=b9 geH
   have fH:=(fp.trans f2).trans fd
   simp [m1,A0t hsc.1]
   rw [A0y]
   simp only [CO.evS_t,M9,Nat.reduceEqDiff,if_true,if_false,v0V,List.nil_append,AH.next_push]
   intro tmps htm
   have t4:f03 tmps 4=.ptr g.next 0:=by rw [htm];simp [e4]
   have t7:f03 tmps 7=.ptr g2.next 0:=by rw [htm];simp
   have hcH:g.next<H.next:=by omega
   have soH:=so.fr fH
   have hokH:=hok.fr fH
   have ohH:=oh.sl.fr fd
   have hhv:l6 hv'≠some g.next:=oh.ne (by omega)
   have gcH:H.get g.next=some (.cells [ov] false):=by rw [fH.get _ (by omega),gc]
   have FH:Fr h H:=(f1.trans fr).trans fH
   generalize hall:((((H.push (.cells [x.2.1] false)).push (.cells [.int .i64 20] false)).push (.deferred (some []))).push (.loop _))=g0
   have hI0:RndI h H g.next pre x tmps 0 g0:=by
    subst hall
    have F4:=((((Fr.push (.refl H) (.cells [x.2.1] false)).push (.cells [.int .i64 20] false)).push (.deferred (some []))).push (.loop (k02 tmps .ready)))
    refine ⟨FH.trans F4,Fr.x F4,⟨ov,by rw [← gcH];exact F4.get _ hcH,by have:=soH.fr F4;rw [show b0h (i9 x) 0=[] from rfl,List.length_nil,Nat.add_zero,List.append_nil];exact this,oc,fun e=>by have:=Sl.idLt soH e;omega⟩,?_,?_,?_,?_,by simp⟩
    ·rw [c8 (by simp <;> omega),c8 (by simp <;> omega),c8 (by simp)] <;> exact b8 _
    ·rw [c8 (by simp <;> omega),c8 (by simp)] <;> exact b8 _
    ·rw [c8 (by simp)] <;> exact b8 _
    ·exact b8 _
   have hN1:nP (i9 x)=(x.2.2.length+19)/20:=rfl
   refine (y00 (N:=nP (i9 x)) (s:=x.2.2) (v:=x.2.1) hN1 (by omega) (RndI h H g.next pre x tmps) (fun j g3 I=>⟨?_,?_,?_⟩) (fun j3 g3 u hj3 I hu=>A0v t4 t7 hcH (by omega) (by omega) f1.next (by have:=FH.next;omega) gd ohH hhv ht hcx hsx hok.v64 (by omega) (by omega) I hu) hI0).mono ?_
   ·rw [b9 I.ps];rfl
   ·rw [b9 I.pn];rfl
   ·exact Sl.frX hokH.smp I.fx (fun e=>by have:=Sl.idLt (he x hxm).smp e;have:=f1.next;omega)
   rintro _ g3 ⟨hF,hX,⟨ov3,gc3,so3,oc3,ol3⟩,hps,hpn,hdid,hlid,hnext⟩
   refine ⟨_,by simpa only [Nat.add_assoc,Nat.reduceAdd] using hlid,by simp [k02],?_⟩
   simp [k02,e15,e16,e4,hi]
   simp only [Nat.add_assoc,Nat.reduceAdd]
   have nH:=fH.next
   have hX':∀ i,i<g'.next→i≠g.next→g3.get i=g'.get i:=fun i h1 h2=>by rw [hX.get i (by omega) h2,fH.get i h1]
   have hx3:=hX.next
   refine ⟨(H.next+2)::ids,ov3,rfl,⟨by show g.next≤g3.next;omega,fun i hi2=>?_⟩,by show g.next<g3.next;omega,?_,?_,oc3,?_,?_⟩
   ·rw [c9 (by omega),hX' i (by omega) (by omega),fr.get i hi2]
   ·rw [c9 (by omega),gc3]
   ·rw [List.length_append]
    exact Sl.setX so3 _ ol3
   ·exact List.nodup_cons.2 ⟨fun hm=>by have:=(hids _ hm).2.1;omega,hnd⟩
   ·intro i hi2
    rcases List.mem_cons.1 hi2 with rfl | hi2
    ·refine ⟨by omega,by show H.next+2<g3.next;omega,?_⟩
     rw [c9 (by omega),hdid]
    ·obtain ⟨q1,q2,q3⟩:=hids i hi2
     refine ⟨q1,by show i<g3.next;omega,?_⟩
     rw [c9 (by omega),hX' i q2 (by omega),q3]
  ·rintro σ ds g' ⟨e15,e16,e4,ids,ov,rfl,fr,hcl,gc,so,oc,hnd,hids⟩
   rw [List.take_of_length_le (by rw [List.length_map];omega)] at so
   have lc:load1 g' g.next 0=.ok ov:=b9 gc
   simp [e4,lc,r0W]
   refine m0I ids g' hnd (fun i hi=>(hids i hi).2.2) (fun h' h1 h2=>?_)
   have hFr:Fr h h':=⟨by rw [h1];exact (f1.trans fr).next,fun i hi=>by
    rw [h2 i (fun hm=>by have:=(hids i hm).1;have:=f1.next;omega),(f1.trans fr).get i hi]⟩
   refine ⟨hFr,?_⟩
   rw [if_pos hc]
   refine ⟨ov,rfl,Sl.same_get so (by omega) (fun k hk=>h2 k (fun hm=>?_))⟩
   have h3:=(hids k hm).2.2
   rcases so.2 with ⟨rfl,_⟩ | ⟨i,off,cap,x,vs,ro,rfl,e2,e3,e4,e5,e6⟩
   ·cases hk
   ·cases hk
    rw [h3] at e4
    cases e4
end Go.Dk

namespace Go.Dk
open Go Go.Dr
set_option maxRecDepth 100000
structure SrIn (h:AH) (x:Se):Prop where
 lab:Sl h 2 x.1.2.length x.1.1 (x.1.2.flatMap M3)
 smp:Sl h 2 x.2.2.length x.2.1 (x.2.2.flatMap smC)
 short:b0j x.1.2
 v64:∀ y ∈ x.2.2,y.2<2 ^ 64
def B0V (h:AH) (r:AV) (g:AH):Prop:=Fr h g∧∃ ys:List Se,Sl g 2 ys.length r (ys.flatMap srC)∧Few ys∧∀ y ∈ ys,SrOk g y
def z0R (h:AH) (ys:List Se):Prop:=∀ y ∈ ys,SrOk h y∧y.2.2.length≤50
theorem v0j {h:AH} {n:Nat} {v:AV} {xs:List Se} (s:Sl h 2 n v (xs.flatMap srC)) (hn:n<2 ^ 62) (he:∀ x ∈ xs,SrIn h x) :
  Ev P SI (.fn g0m) [v,.int .i64 6,.int .i64 50] h (B0V h):=by
 refine j9 s0U rfl rfl ?_
 have hl:xs.length=n:=by have:=s.1;rw [i0l] at this;omega
 simp [l0r,s.len]
 refine l8 (n:=n) (by rfl) (fun j σ ds g=>ds=[]∧σ 1=.int .i64 6∧σ 2=.int .i64 50∧σ 10=v∧σ 11=.int .i64 (n:Int)∧Fr h g∧∃ ys:List Se,Own h.next g 2 ys.length (σ 7) (ys.flatMap srC)∧ys.length≤j∧ys.length≤6∧z0R h ys) (by omega) (by simp)
  ⟨rfl,by simp,by simp,by simp,by simp,.refl _,[],by simpa using Own.nil _ _,by simp,by simp,fun y hy=>by simp at hy⟩ (fun j σ ds g hJ=>by simp [hJ.2.2.2.2.1]) ?_ ?_
 ·rintro j σ ds g hj hi ⟨rfl,e1,e2,e10,e11,fr,ys,ho,hyj,hy6,hys⟩
  obtain ⟨x,hx⟩:=l4 (l:=xs) (j:=j) (by omega)
  have hok:=he x (List.mem_of_getElem? hx)
  obtain ⟨id,o,a1,a2,_⟩:=g0J (s.fr fr) hx
  have hlc:=hok.lab.oneCell
  have hsc:=hok.smp.oneCell
  have stn:=k9 (h:=g) (n:=2) (z:=[.nils,.nils]) (l:=srC x) rfl rfl (by simp [srC,d7,hlc.2,hsc.2])
  have fp:=Fr.push (.refl g) (.cells (srC x) false)
  have ge:(g.push (.cells (srC x) false)).get g.next=some (.cells (srC x) false):=b8 _
  have gn:(g.push (.cells (srC x) false)).next=g.next+1:=rfl
  obtain ⟨ov,hov⟩:∃ ov,σ 7=ov:=⟨_,rfl⟩
  rw [hov] at ho
  have ho1:=ho.fr fp
  have fr1:=fr.trans fp
  have stop:∃ ys':List Se,Own h.next (g.push (.cells (srC x) false)) 2 ys'.length ov (ys'.flatMap srC)∧ys'.length≤j+1∧ys'.length≤6∧z0R h ys':=⟨ys,ho1,by omega,hy6,hys⟩
  generalize hg1:g.push (.cells (srC x) false)=g1 at *
  have m0:load1 g1 g.next 0=.ok x.1.1:=b9 ge
  have m1:load1 g1 g.next 1=.ok x.2.1:=b9 ge
  have ll:=(hok.lab.fr fr1).len
  have sl:=(hok.smp.fr fr1).len
  by_cases c1:j<6
  ·have c1':(j:Int)<6:=by omega
   by_cases c2:x.1.2.length≤10
   ·have c2':(x.1.2.length:Int)≤10:=by omega
    obtain ⟨m,hm⟩:∃ m,min x.2.2.length 50=m:=⟨_,rfl⟩
    have hmi:min (x.2.2.length:Int) 50=(m:Int):=by omega
    obtain ⟨u,eu,su⟩:=hok.smp.slice (lo:=none) (hi:=some (.int .i64 (m:Int))) (a:=0) (b:=m) (.inl ⟨rfl,rfl⟩) (.inr ⟨.i64,rfl⟩) (by omega) (by omega)
    rw [Nat.zero_mul,List.drop_zero,Nat.sub_zero,c0m (es:=2) (f:=smC) x.2.2 (fun _ _=>rfl)] at su
    have hml:(x.2.2.take m).length=m:=by rw [List.length_take];omega
    have huc:=su.oneCell
    have hy:SrOk h (x.1,(u,x.2.2.take m)):=⟨hok.lab,by show Sl h 2 (x.2.2.take m).length u _;rw [hml];exact su,hok.short,by show x.1.2.length≤_;omega,by show (x.2.2.take m).length≤_;omega,fun y hy=>hok.v64 y (List.mem_of_mem_take hy)⟩
    obtain ⟨ov',g2,ap,ho2,fb⟩:=ho1.snoc (bytes:=48) (x:=srC (x.1,(u,x.2.2.take m))) (by have:=fr1.next;omega) rfl (by simp [srC,d7,hlc.2,huc.2]) (by omega) (by omega)
    have gep:(g1.push (.cells (srC (x.1,(u,x.2.2.take m))) false)).get g.next=some (.cells (srC x) false):=(c8 (show g.next≠g1.next by omega)).trans ge
    have m0p:load1 (g1.push (.cells (srC (x.1,(u,x.2.2.take m))) false)) g.next 0=.ok x.1.1:=b9 gep
    have m1p:load1 (g1.push (.cells (srC (x.1,(u,x.2.2.take m))) false)) g.next 1=.ok x.2.1:=b9 gep
    have q1:=hok.lab.same
    have q2:=hok.smp.same
    simp only [srC] at ap m0p m1p
    simp [e1,e2,e10,e11,hi,a1,o7,a2,stn,hg1,m0,m1,ll,sl,c1',c2',hov,hmi,eu,i8,hlc.1,huc.1,m0p,m1p,q1,q2,ap]
    refine ⟨x0A fr1 fb (Nat.le_refl _),ys++[(x.1,(u,x.2.2.take m))],?_,by simp;omega,by simp;omega,?_⟩
    ·rw [List.length_append,List.flatMap_append]
     simpa using ho2
    ·intro y hy2
     rcases List.mem_append.1 hy2 with hy2 | hy2
     ·exact hys y hy2
     ·simp at hy2
      subst hy2
      exact ⟨hy,by show (x.2.2.take m).length≤50;omega⟩
   ·have c2':¬ (x.1.2.length:Int)≤10:=by omega
    simp [e1,e2,e10,e11,hi,a1,o7,a2,stn,hg1,m0,ll,c1',c2',hov]
    exact ⟨fr1,stop⟩
  ·have c1':¬ (j:Int)<6:=by omega
   simp [e1,e2,e10,e11,hi,a1,o7,a2,stn,hg1,c1',hov]
   exact ⟨fr1,stop⟩
 ·rintro σ ds g ⟨rfl,e1,e2,e10,e11,fr,ys,ho,hyj,hy6,hys⟩
  have hK:B0V h (σ 7) g:=⟨fr,ys,ho.sl,⟨hy6,fun y hy=>by have:=(hys y hy).2;omega⟩,fun y hy=>(hys y hy).1.fr fr⟩
  simp
  exact hK
end Go.Dk

namespace Go.Dk
open Go Go.Dr
set_option maxRecDepth 100000
def R4 (n:Int):Bool:=decide (1≤n)&&decide (n≤4611686018427387904)
theorem B1 (n:Int) (h:AH) (K:AV→AH→Prop):Ev P SI (.fn Q0) [.int .i64 n] h K=K (.bool (R4 n)) h:=by
 refine Ev.eq (j9 l09 rfl rfl ?_) K
 by_cases h1:1≤n <;> by_cases h2:n≤4611686018427387904 <;> simp [g0e,R4,h1,h2]
theorem B6 (n:Int) (h:AH) (K:AV→AH→Prop):Ev P SI (.fn Q1) [.int .i64 n] h K=K (.bool (R4 n)) h:=by
 refine Ev.eq (j9 m0a rfl rfl ?_) K
 by_cases h1:1≤n <;> by_cases h2:n≤4611686018427387904 <;> simp [g0f,R4,h1,h2]
def iv (l:List Int):List AV:=l.map fun n=>.int .i64 n
@[simp] theorem B0d (l:List Int):(iv l).length=l.length:=by simp [iv]
theorem p00 (l:List Int) (i:Nat):(iv l)[i]? = (l[i]?).map fun n=>.int .i64 n:=by simp [iv]
theorem j00:∀ (l:List Int),d7 (iv l)=true
 | []=>rfl
 | x::l=>by
  show (AV.scalar (.int .i64 x)&&d7 (iv l))=true
  rw [j00 l];rfl
theorem t0c {h:AH} {v u:AV} {l:List Int} {n:Nat} (hv:Sl h 1 n v (iv l)) (hu:Sl h 1 n u (iv l)) (hn:n<2 ^ 62) (K:AV→AH→Prop):Ev P SI (.fn S6) [v,u] h K=K (.bool true) h:=by
 refine Ev.eq (j9 e06 rfl rfl ?_) K
 have hl:l.length=n:=by have:=hv.1;simpa using this
 simp [a00,hv.len,hu.len]
 refine l8 (n:=n) (by rfl) (fun j σ ds h'=>ds=[]∧σ 0=v∧σ 1=u∧σ 12=.int .i64 (n:Int)∧h'=h) (by omega) (by simp) (by simp) (fun j σ ds h' hJ=>by simp [hJ.2.2.2.1]) ?_ ?_
 ·rintro j σ ds h' hj hi ⟨rfl,e0,e1,e12,rfl⟩
  have hjl:j<l.length:=by omega
  obtain ⟨id,o,g1,g2,_⟩:=hv.get1 (k:=.i64) (i:=(j:Int)) rfl hj (x:=.int .i64 l[j]) (by rw [p00,List.getElem?_eq_getElem hjl];rfl)
  obtain ⟨id',o',g1',g2',_⟩:=hu.get1 (k:=.i64) (i:=(j:Int)) rfl hj (x:=.int .i64 l[j]) (by rw [p00,List.getElem?_eq_getElem hjl];rfl)
  simp [e0,e1,e12,hi,g1,g2,g1',g2']
 ·rintro σ ds h' ⟨rfl,e0,e1,e12,rfl⟩
  simp
structure Ft where
 num:Int
 gen:Int
 level:Int
 rank:Int
 min:Int
 max:Int
 bytes:Int
 par:AV
def Ft.cells (f:Ft):List AV:=[.int .i64 f.num,.int .i64 f.gen,.int .i64 f.level,.int .i64 f.rank,.int .i64 f.min,.int .i64 f.max,.int .i64 f.bytes,f.par]
theorem Ft.cells_length (f:Ft):f.cells.length=8:=rfl
def b03 (f:Ft):Bool:=!(decide (f.bytes=0)&&(decide (¬ f.min=0)||decide (¬ f.max=0)))
def V5 (f:Ft) (ps:List Int):Bool :=
 R4 f.num&&(R4 f.gen&&(R4 f.rank&&(decide (1≤f.level)&&(decide (f.level≤3)&&(decide (0≤f.bytes)&&(decide (f.bytes≤2147483647)&&(decide (f.min≤f.max)&&(b03 f&&(decide (ps.length≤3)&&ps.all R4)))))))))
theorem k0S (n:Int) (h:AH) (K:AV→AH→Prop):Ev P SI (.fn T7) [.int .i64 n] h K=K (.bool (!R4 n)) h:=by
 refine Ev.eq (j9 n03 rfl rfl ?_) K
 simp [h0E,B1]
theorem v0f {h:AH} {v:AV} {l:List Int} {n:Nat} (hv:Sl h 1 n v (iv l)) (hn:n<2 ^ 62) :
  Ev P SI (.fn L7) [v,.func (.func T7) [] []] h fun r h'=>∃ i:Int,r=.int .i64 i∧h'=h∧decide (0≤i)=!l.all R4:=by
 have hl:l.length=n:=by have:=hv.1;simpa using this
 refine j9 c0S rfl rfl ?_
 simp [V4,hv.len]
 refine l8 (n:=n) (by rfl) (fun j σ ds h'=>ds=[]∧σ 0=v∧σ 1=.func (.func T7) [] []∧σ 7=.int .i64 (n:Int)∧h'=h∧∀ i,i<j→∀ x,l[i]? = some x→R4 x=true) (by omega) (by simp) (by simp) (fun j σ ds h' hJ=>by simp [hJ.2.2.2.1]) ?_ ?_
 ·rintro j σ ds h' hj hi ⟨rfl,e0,e1,e7,rfl,hall⟩
  have hjl:j<l.length:=by omega
  obtain ⟨id,o,g1,g2,_⟩:=hv.get1 (k:=.i64) (i:=(j:Int)) rfl hj (x:=.int .i64 l[j]) (by rw [p00,List.getElem?_eq_getElem hjl];rfl)
  cases hx:R4 l[j]
  ·have:l.all R4=false:=by
    rw [List.all_eq_false]
    exact ⟨l[j],List.getElem_mem hjl,by simp [hx]⟩
   simp [e0,e1,e7,hi,g1,g2,k0S,hx,this]
  ·simp [e0,e1,e7,hi,g1,g2,k0S,hx]
   intro i hij x hxi
   by_cases hij':i=j
   ·subst hij';rw [List.getElem?_eq_getElem hjl] at hxi;cases hxi;exact hx
   ·exact hall i (by omega) x hxi
 ·rintro σ ds h' ⟨rfl,e0,e1,e7,rfl,hall⟩
  have:l.all R4=true:=by
   rw [List.all_eq_true]
   intro x hx
   obtain ⟨i,hi⟩:=List.mem_iff_getElem?.1 hx
   exact hall i (by have:=(List.getElem?_eq_some_iff.1 hi).1;omega) x hi
  simp [this]
theorem p01 {h:AH} {v:AV} {l:List Int} {n:Nat} (hv:Sl h 1 n v (iv l)) (hn:n<2 ^ 62) (K:AV→AH→Prop) :
  Ev P SI (.fn H4) [v,.func (.func T7) [] []] h K=K (.bool (!l.all R4)) h:=by
 refine Ev.eq (j9 b0N rfl rfl ?_) K
 simp [R0]
 refine (v0f hv hn).mono ?_
 rintro r h' ⟨i,rfl,rfl,hi⟩
 simp [hi]
theorem v0g {h:AH} {f:Ft} {ps:List Int} (hp:Sl h 1 ps.length f.par (iv ps)) (hn:ps.length≤9223372036854775807) (K:AV→AH→Prop) :
  Ev P SI (.fn g0r) [.agg f.cells] h K=K (.bool (V5 f ps)) (h.push (.cells f.cells false)):=by
 refine Ev.eq (j9 r0e rfl rfl ?_) K
 have hp1:=hp.fr (Fr.push (.refl h) (.cells f.cells false))
 have hl:=hp.len
 have ct:ps.length≤3→∀ K,_:=fun h3=>p01 hp1 (show ps.length<2 ^ 62 by omega)
 simp only [Ft.cells] at ct
 cases h1:R4 f.num
 ·simp [C0,Ft.cells,V5,B1,h1]
 cases h2:R4 f.gen
 ·simp [C0,Ft.cells,V5,B1,h1,h2]
 cases h3:R4 f.rank
 ·simp [C0,Ft.cells,V5,B1,h1,h2,h3]
 by_cases h4:f.level<1
 ·simp [C0,Ft.cells,V5,B1,h1,h2,h3,h4,show ¬ 1≤f.level by omega]
 by_cases h5:3<f.level
 ·simp [C0,Ft.cells,V5,B1,h1,h2,h3,h4,h5,show ¬ f.level≤3 by omega]
 by_cases h6:f.bytes<0
 ·simp [C0,Ft.cells,V5,B1,h1,h2,h3,h4,h5,h6,show ¬ 0≤f.bytes by omega]
 by_cases h7:2147483647<f.bytes
 ·simp [C0,Ft.cells,V5,B1,h1,h2,h3,h4,h5,h6,h7,show ¬ f.bytes≤2147483647 by omega]
 by_cases h8:f.max<f.min
 ·simp [C0,Ft.cells,V5,B1,h1,h2,h3,h4,h5,h6,h7,h8,show ¬ f.min≤f.max by omega]
 have k4:1≤f.level:=by omega
 have k5:f.level≤3:=by omega
 have k6:0≤f.bytes:=by omega
 have k7:f.bytes≤2147483647:=by omega
 have k8:f.min≤f.max:=by omega
 by_cases z1:f.bytes=0
 ·by_cases z2:f.min=0
  ·have h8':¬ f.max<0:=by omega
   by_cases z3:f.max=0
   ·rw [z1,z2,z3] at ct
    by_cases hn3:ps.length≤3
    ·have hn3':(ps.length:Int)≤3:=by omega
     simp [C0,Ft.cells,V5,b03,B1,h1,h2,h3,h4,h5,k4,k5,z1,z2,z3,hl,hn3,hn3',ct hn3]
    ·have hn3':¬ (ps.length:Int)≤3:=by omega
     simp [C0,Ft.cells,V5,b03,B1,h1,h2,h3,h4,h5,z1,z2,z3,hl,hn3,hn3']
   ·simp [C0,Ft.cells,V5,b03,B1,h1,h2,h3,h4,h5,h8',z1,z2,z3]
  ·simp [C0,Ft.cells,V5,b03,B1,h1,h2,h3,h4,h5,h8,z1,z2]
 ·by_cases hn3:ps.length≤3
  ·have hn3':(ps.length:Int)≤3:=by omega
   simp [C0,Ft.cells,V5,b03,B1,h1,h2,h3,h4,h5,h6,h7,h8,k4,k5,k6,k7,k8,z1,hl,hn3,hn3',ct hn3]
  ·have hn3':¬ (ps.length:Int)≤3:=by omega
   simp [C0,Ft.cells,V5,b03,B1,h1,h2,h3,h4,h5,h6,h7,h8,z1,hl,hn3,hn3']
theorem v0h {h:AH} {f:Ft} {ps:List Int} (hp:Sl h 1 ps.length f.par (iv ps)) (hn:ps.length≤9223372036854775807) (K:AV→AH→Prop) :
  Ev P SI (.fn g0s) [.agg f.cells] h K=K (.bool (V5 f ps)) (h.push (.cells f.cells false)):=by
 refine Ev.eq (j9 r0f rfl rfl ?_) K
 have hp1:=hp.fr (Fr.push (.refl h) (.cells f.cells false))
 have hl:=hp.len
 cases h1:R4 f.num
 ·simp [F9,Ft.cells,V5,B6,h1]
 cases h2:R4 f.gen
 ·simp [F9,Ft.cells,V5,B6,h1,h2]
 cases h3:R4 f.rank
 ·simp [F9,Ft.cells,V5,B6,h1,h2,h3]
 by_cases h4:f.level<1
 ·simp [F9,Ft.cells,V5,B6,h1,h2,h3,h4,show ¬ 1≤f.level by omega]
 by_cases h5:3<f.level
 ·simp [F9,Ft.cells,V5,B6,h1,h2,h3,h4,h5,show ¬ f.level≤3 by omega]
 by_cases h6:f.bytes<0
 ·simp [F9,Ft.cells,V5,B6,h1,h2,h3,h4,h5,h6,show ¬ 0≤f.bytes by omega]
 by_cases h7:2147483647<f.bytes
 ·simp [F9,Ft.cells,V5,B6,h1,h2,h3,h4,h5,h6,h7,show ¬ f.bytes≤2147483647 by omega]
 by_cases h8:f.max<f.min
 ·simp [F9,Ft.cells,V5,B6,h1,h2,h3,h4,h5,h6,h7,h8,show ¬ f.min≤f.max by omega]
 have k4:1≤f.level:=by omega
 have k5:f.level≤3:=by omega
 have k6:0≤f.bytes:=by omega
 have k7:f.bytes≤2147483647:=by omega
 have k8:f.min≤f.max:=by omega
 cases hzo:b03 f
 ·by_cases z1:f.bytes=0
  ·by_cases z2:f.min=0
   ·have h8':¬ f.max<0:=by omega
    by_cases z3:f.max=0
    ·simp [b03,z1,z2,z3] at hzo
    ·simp [F9,Ft.cells,V5,B6,h1,h2,h3,h4,h5,h8',z1,z2,z3,hzo]
   ·simp [F9,Ft.cells,V5,B6,h1,h2,h3,h4,h5,h8,z1,z2,hzo]
  ·simp [b03,z1] at hzo
 have hcan:V5 f ps=(decide (ps.length≤3)&&ps.all R4):=by simp [V5,h1,h2,h3,k4,k5,k6,k7,k8,hzo]
 rw [hcan]
 simp only [F9,K6]
 refine E1 (Q:=fun x σ ds g=>x=.normal∧ds=[]∧σ 1=.ptr h.next 0∧σ 2=.bool false∧g=h.push (.cells f.cells false)) (by simp) ?_
 rintro x σ ds g ⟨rfl,rfl,e1,e2,rfl⟩
 simp only [G1,K6]
 refine E1 (Q:=fun x σ ds g=>x=.normal∧ds=[]∧σ 1=.ptr h.next 0∧σ 62=.bool false∧g=h.push (.cells f.cells false)) ?_ ?_
 ·by_cases z1:f.bytes=0
  ·by_cases z2:f.min=0
   ·by_cases z3:f.max=0
    ·simp [Ft.cells,B6,h1,h2,h3,h4,h5,z1,z2,z3,e1]
    ·simp [b03,z1,z3] at hzo
   ·simp [b03,z1,z2] at hzo
  ·simp [Ft.cells,B6,h1,h2,h3,h4,h5,h6,h7,h8,z1,e1]
 ·rintro x σ ds g ⟨rfl,rfl,e1,e62,rfl⟩
  have lp:load1 (h.push (.cells f.cells false)) h.next 7=.ok f.par:=b9 (b8 _)
  simp [e1,e62,lp,hl]
  refine l8 (n:=ps.length) (by rfl) (fun j σ ds g=>ds=[]∧σ 1=.ptr h.next 0∧σ 64=f.par∧σ 65=.int .i64 (ps.length:Int)∧g=h.push (.cells f.cells false)∧∀ i,i<j→∀ x,ps[i]? = some x→R4 x=true) (by omega) (by simp) (by simp [e1]) (fun j σ ds h' hJ=>by simp [hJ.2.2.2.1]) ?_ ?_
  ·rintro j σ ds g hj hi ⟨rfl,e1,e64,e65,rfl,hall⟩
   obtain ⟨id,o,g1,g2,_⟩:=hp1.get1 (k:=.i64) (i:=(j:Int)) rfl hj (x:=.int .i64 ps[j]) (by rw [p00,List.getElem?_eq_getElem hj];rfl)
   cases hx:R4 ps[j]
   ·have:ps.all R4=false:=by
     rw [List.all_eq_false]
     exact ⟨ps[j],List.getElem_mem hj,by simp [hx]⟩
    simp [e1,e64,e65,hi,g1,g2,B6,hx,this]
   ·simp [e1,e64,e65,hi,g1,g2,B6,hx]
    intro i hij x hxi
    by_cases hij':i=j
    ·subst hij';rw [List.getElem?_eq_getElem hj] at hxi;cases hxi;exact hx
    ·exact hall i (by omega) x hxi
  ·rintro σ ds g ⟨rfl,e1,e64,e65,rfl,hall⟩
   have:ps.all R4=true:=by
    rw [List.all_eq_true]
    intro x hx
    obtain ⟨i,hi⟩:=List.mem_iff_getElem?.1 hx
    exact hall i (List.getElem?_eq_some_iff.1 hi).1 x hi
   simp [e1,lp,hl,this]
   omega
theorem e0E {h:AH} {id:Nat} {vs:List AV} {f:Ft} (hp:f.par.scalar=true) (hg:h.get id=some (.cells vs false)) (hl:vs.length=8) :
  J0 8 (.ptr id 0) (.agg f.cells) h=U7 (.ok (h.set id (.cells f.cells false))):=by
 rw [a0S _ _ _ _ f.cells_length]
 unfold Ft.cells
 rw [b0s hg (by rw [hl];rfl) (by simp [hp])]
def Ft.withP (f:Ft) (p:AV):Ft:={ f with par:=p }
theorem r0h {h:AH} {f:Ft} {p q:AV} {ps:List Int} {n:Nat} (hp:Sl h 1 n p (iv ps)) (hq:Sl h 1 n q (iv ps)) (hn:n<2 ^ 62) (K:AV→AH→Prop) :
  Ev P SI (.fn a0t) [.agg (f.withP p).cells,.agg (f.withP q).cells] h K=K (.bool true) ((h.push (.cells (f.withP p).cells false)).push (.cells (f.withP q).cells false)):=by
 refine Ev.eq (j9 h05 rfl rfl ?_) K
 have ff:Fr h ((h.push (.cells (f.withP p).cells false)).push (.cells (f.withP q).cells false)):=(Fr.push (.refl h) _).push _
 have ld:∀ c,load1 ((h.push (.cells (f.withP p).cells false)).push (.cells (f.withP q).cells false)) h.next c=ofO "load: out of the known cells" (f.withP p).cells[c]?:=fun c=>b9 (by rw [c8 (by simp),b8])
 have ld':∀ c,load1 ((h.push (.cells (f.withP p).cells false)).push (.cells (f.withP q).cells false)) (h.next+1) c=ofO "load: out of the known cells" (f.withP q).cells[c]?:=fun c=>b9 (b8 _)
 have eq:=t0c (hp.fr ff) (hq.fr ff) hn
 simp only [Ft.cells,Ft.withP] at ld ld' eq
 simp [c0T,Ft.cells,Ft.withP,ld,ld',eq]
end Go.Dk

namespace Go.Dk
open Go Go.Dr
set_option maxRecDepth 100000
def t0 (l:List (List Lab×List Smp)):Int:=match l[0]? with
 | some x=>mnS x.2
 | none=>0
def tmJ (l:List (List Lab×List Smp)) (j:Nat):Int×Int:=(l.take j).foldl (fun p x=>(min p.1 (mnS x.2),max p.2 (mxS x.2))) (t0 l,t0 l)
theorem s0M {l:List (List Lab×List Smp)} {j:Nat} {x:List Lab×List Smp} (h:l[j]? = some x):tmJ l (j+1)=(min (tmJ l j).1 (mnS x.2),max (tmJ l j).2 (mxS x.2)):=by
 rw [tmJ,u7 _ _ _ h,List.foldl_append]
 rfl
def H7 (l:List (List Lab×List Smp)) (a b c d:Int) (p:AV):Ft:=⟨a,b,c,d,(tmJ l l.length).1,(tmJ l l.length).2,((T5 l).length:Int),p⟩
def zeroF:Ft:=⟨0,0,0,0,0,0,0,.nils⟩
def MakeK (h:AH) (l:List (List Lab×List Smp)) (a b c d:Int) (ups:List Int) (r:AV) (g:AH):Prop :=
 Fr h g∧((∃ p,Sl g 1 ups.length p (iv ups)∧(c0y l=true∧V5 (H7 l a b c d p) ups=true)∧r=.tuple [.agg (H7 l a b c d p).cells,.int .i64 0]) ∨
  ((c0y l=false∨∃ p,V5 (H7 l a b c d p) ups=false)∧r=.tuple [.agg zeroF.cells,.int .i64 1]))
def D0J (B:Nat) (v:AV):Prop:=∀ k,l6 v=some k→B≤k
theorem u0g {h:AH} {v:AV} {l:List Int} {n:Nat} (hv:Sl h 1 n v (iv l)) (hn:n≤2 ^ 30):Ev P SI (.fn S5) [v] h fun r g=>Sl g 1 n r (iv l)∧Fr h g∧D0J h.next r:=by
 refine j9 e05 rfl rfl ?_
 obtain ⟨b,hb,hb2⟩:=hv.isNil t0x true
 cases b with
 | true =>
  obtain ⟨rfl,rfl,hl⟩:=hb2 rfl
  simp [R6]
  exact ⟨hv,.refl _,fun k e=>by cases e⟩
 | false =>
  have o0:Own h.next (h.push (.cells [] false)) 1 0 (.slice h.next 0 0 0 true 1) []:=⟨by simp,.inr ⟨h.next,0,true,[],rfl,Nat.le_refl _,by simp,b8 _,by simp,by simp⟩⟩
  have f0:=Fr.push (.refl h) (.cells [] false)
  obtain ⟨v1,g1,e1,o1,fb,_⟩:=o0.append (bytes:=8) (hv.fr f0) (by simp) (j00 _) (by omega) (by omega)
  simp [R6,hb,e1]
  rw [Nat.zero_add,List.nil_append] at o1
  exact ⟨o1.sl,⟨Nat.le_trans f0.next fb.next,fun i hi=>(fb.get i hi).trans (f0.get i hi)⟩,fun k e=>by
   by_cases hk:k<h.next
   ·exact absurd e (o1.ne hk)
   ·omega⟩
theorem q0V {xs:List Se} (h:c0y (xs.map i9)=true) {x:Se} (hx:x ∈ xs):0<x.2.2.length∧a01 x.2.2=true :=
 ⟨(n0T (c0M _ none h (i9 x) (List.mem_map.2 ⟨x,hx,rfl⟩))).2.1,(n0T (c0M _ none h (i9 x) (List.mem_map.2 ⟨x,hx,rfl⟩))).2.2⟩
theorem C0K {b:Bool} {x y:CC} {Q:G7} {σ:Sg} {ds:List ADef} {h:AH} (J:G7) (hx:b=true→wpC P SI x J σ ds h) (hy:b=false→wpC P SI y J σ ds h) (hJ:∀ r σ ds h,J r σ ds h→Q r σ ds h):wpB P SI (.bool b) x y Q σ ds h:=by
 cases b
 ·exact E1 (hy rfl) hJ
 ·exact E1 (hx rfl) hJ
theorem p0F {x:List Lab×List Smp} {y:Smp} (h:x.2[0]? = some y):mnS x.2=y.1:=by simp only [mnS,h]
theorem s0N {x:List Lab×List Smp} {y:Smp} (h:x.2[x.2.length - 1]? = some y):mxS x.2=y.1:=by simp only [mxS,h]
theorem u0h {h:AH} {n:Nat} {v:AV} {xs:List Se} {a b c d:Int} {pv:AV} {ups:List Int} (s:Sl h 2 n v (xs.flatMap srC)) (hf:Few xs) (he:∀ x ∈ xs,SrOk h x) (ht:TabIn h) (hp:Sl h 1 ups.length pv (iv ups)) (hu:ups.length≤10) :
  Ev P SI (.fn f0i) [v,.int .i64 a,.int .i64 b,.int .i64 c,.int .i64 d,pv] h (MakeK h (xs.map i9) a b c d ups):=by
 refine j9 p0V rfl rfl ?_
 have hl:xs.length=n:=by have:=s.1;rw [i0l] at this;omega
 have hn6:=hf.1
 have fz:=Fr.push (.refl h) (.cells zeroF.cells false)
 have gz:(h.push (.cells zeroF.cells false)).get h.next=some (.cells zeroF.cells false):=b8 _
 have gzn:(h.push (.cells zeroF.cells false)).next=h.next+1:=rfl
 have hz:(h.push (.cells [.int .i64 0,.int .i64 0,.int .i64 0,.int .i64 0,.int .i64 0,.int .i64 0,.int .i64 0,.nils] false))=h.push (.cells zeroF.cells false):=rfl
 simp [i0P,hz]
 generalize hg0:h.push (.cells zeroF.cells false)=g0 at *
 refine (j0j (s.fr fz) hf (fun x hx=>(he x hx).fr fz) (ht.fr fz)).mono ?_
 rintro r g ⟨f1,hr⟩
 have gz1:g.get h.next=some (.cells zeroF.cells false):=by rw [f1.get _ (by omega),gz]
 have F1:=fz.trans f1
 have hn1:=f1.next
 cases hc:c0y (xs.map i9) with
 | false =>
  rw [if_neg (by rw [hc];simp)] at hr
  subst hr
  have st:=e0E (f:=zeroF) rfl gz1 rfl
  have ld:loadN (g.set h.next (.cells zeroF.cells false)) h.next 0 8=.ok zeroF.cells:=y9 (d9 _ _) rfl
  simp only [zeroF,Ft.cells] at st ld
  simp [i8,st]
  rw [P7 (id:=h.next) (off:=0) _ (by simp) ld]
  simp
  exact ⟨F1.set _ (Nat.le_refl _),.inr ⟨.inl hc,rfl⟩⟩
 | true =>
  rw [if_pos hc] at hr
  obtain ⟨u,rfl,su⟩:=hr
  have hv:∀ x ∈ xs.map i9,x.2.length≤60∧∀ y ∈ x.2,y.2<2 ^ 64:=fun x hx=>by
   obtain ⟨y,hy,rfl⟩:=List.mem_map.1 hx
   exact ⟨hf.2 y hy,(he y hy).v64⟩
  simp [su.len]
  refine (u0g (hp.fr F1) (by omega)).mono ?_
  rintro p g2 ⟨sp,f2,pge⟩
  have hpc:=sp.oneCell
  have F2:=F1.trans f2
  have n2:=f2.next
  obtain ⟨bl,hbl⟩:∃ bl:Int,bl=((T5 (xs.map i9)).length:Int):=⟨_,rfl⟩
  rw [← hbl]
  have fF:=Fr.push (.refl g2) (.cells (Ft.cells ⟨a,b,c,d,0,0,bl,p⟩) false)
  have gF:(g2.push (.cells (Ft.cells ⟨a,b,c,d,0,0,bl,p⟩) false)).get g2.next=some (.cells (Ft.cells ⟨a,b,c,d,0,0,bl,p⟩) false):=b8 _
  have nF:(g2.push (.cells (Ft.cells ⟨a,b,c,d,0,0,bl,p⟩) false)).next=g2.next+1:=rfl
  have stn:=k9 (h:=g2) (n:=8) (z:=[.int .i64 0,.int .i64 0,.int .i64 0,.int .i64 0,.int .i64 0,.int .i64 0,.int .i64 0,.nils]) (l:=Ft.cells ⟨a,b,c,d,0,0,bl,p⟩) rfl rfl (by simp [Ft.cells,d7,hpc.2])
  have sF:=(s.fr F2).fr fF
  simp only [Ft.cells] at stn
  have slen:=sF.len
  simp [i8,hpc.1,stn,slen]
  obtain ⟨l,hld⟩:∃ l,l=xs.map i9:=⟨_,rfl⟩
  have hll:l.length=n:=by rw [hld,List.length_map,hl]
  generalize hgF:g2.push (.cells (Ft.cells ⟨a,b,c,d,0,0,bl,p⟩) false)=gF0 at *
  have hgF':g2.push (.cells [.int .i64 a,.int .i64 b,.int .i64 c,.int .i64 d,.int .i64 0,.int .i64 0,.int .i64 bl,p] false)=gF0:=hgF
  rw [hgF']
  have FF:=F2.trans fF
  have hpl:h.next<g2.next:=by omega
  refine C0K (fun r σ ds g3=>r=.normal∧ds=[]∧σ 0=v∧σ 12=.ptr h.next 0∧σ 16=.ptr g2.next 0∧FrX g2.next gF0 g3∧g3.get g2.next=some (.cells (Ft.cells ⟨a,b,c,d,(tmJ l 0).1,(tmJ l 0).2,bl,p⟩) false)) (fun hn0=>?_) (fun hn0=>?_) ?_
  ·have hn0:0<n:=of_decide_eq_true hn0
   obtain ⟨x,hx⟩:=l4 (l:=xs) (j:=0) (by omega)
   obtain ⟨hx0,hxs⟩:=q0V hc (List.mem_of_getElem? hx)
   obtain ⟨y,hy⟩:=l4 (l:=x.2.2) (j:=0) hx0
   have ok3:=((he x (List.mem_of_getElem? hx)).fr F2).fr fF
   obtain ⟨i1,o1,a1,_,_,a2,_⟩:=g0J sF hx
   obtain ⟨i2,o2,b1,_,b2,_⟩:=J9 ok3.smp hy
   have a1':E0 2 v (.int .i64 0)=.ok (.ptr i1 o1):=a1
   have b1':E0 2 x.2.1 (.int .i64 0)=.ok (.ptr i2 o2):=b1
   have ht0:tmJ l 0=(y.1,y.1):=by
    have:l[0]? = some (i9 x):=by rw [hld];simp [hx]
    simp only [tmJ,List.take_zero,List.foldl_nil,t0,this,mnS,i9,hy]
   rw [ht0]
   have s1:=l9 (v:=.int .i64 y.1) (off:=4) gF (by simp [Ft.cells]) rfl
   simp [i8,Ft.cells] at s1
   have gF1:(gF0.set g2.next (.cells (Ft.cells ⟨a,b,c,d,y.1,0,bl,p⟩) false)).get g2.next=some (.cells (Ft.cells ⟨a,b,c,d,y.1,0,bl,p⟩) false):=d9 _ _
   have s2:=l9 (v:=.int .i64 y.1) (off:=5) gF1 (by simp [Ft.cells]) rfl
   simp [i8,Ft.cells] at s2
   have hne1:∀ k,l6 v=some k→k≠g2.next:=fun k e=>by have:=Sl.idLt s e;have:=F2.next;omega
   have fX:FrX g2.next gF0 (gF0.set g2.next (.cells [.int .i64 a,.int .i64 b,.int .i64 c,.int .i64 d,.int .i64 y.1,.int .i64 0,.int .i64 bl,p] false)):=⟨Nat.le_refl _,fun i hi hn=>c9 hn⟩
   have ok4:Sl (gF0.set g2.next (.cells [.int .i64 a,.int .i64 b,.int .i64 c,.int .i64 d,.int .i64 y.1,.int .i64 0,.int .i64 bl,p] false)) 2 x.2.2.length x.2.1 (x.2.2.flatMap smC):=Sl.frX ok3.smp fX (fun e=>by have:=Sl.idLt (he x (List.mem_of_getElem? hx)).smp e;have:=F2.next;omega)
   obtain ⟨i3,o3,c1,_,c2,_⟩:=J9 ok4 hy
   rw [b1] at c1
   cases c1
   have sF4:Sl (gF0.set g2.next (.cells [.int .i64 a,.int .i64 b,.int .i64 c,.int .i64 d,.int .i64 y.1,.int .i64 0,.int .i64 bl,p] false)) 2 n v (xs.flatMap srC):=Sl.frX sF fX (fun e=>hne1 _ e rfl)
   obtain ⟨i4,o4,d1,_,_,d2,_⟩:=g0J sF4 hx
   rw [a1] at d1
   cases d1
   have hsm:=ok3.smp.same
   simp [a1',a2,b1',b2,hsm,s1,d2,c2,s2,Ft.cells]
   exact ⟨Nat.le_refl _,fun i hi hn=>c9 hn⟩
  ·have hn0:¬ 0<n:=of_decide_eq_false hn0
   have hl0:l=[]:=List.length_eq_zero_iff.1 (by omega)
   have:tmJ l 0=(0,0):=by rw [hl0];rfl
   rw [this]
   simp
   exact ⟨FrX.refl _ _,gF⟩
  ·rintro r σ ds g3 ⟨rfl,rfl,e0,e12,e16,fX,g3F⟩
   have s3:=Sl.frX sF fX (fun e=>by have:=Sl.idLt s e;have:=F2.next;omega)
   simp [e0,s3.len]
   refine l8 (n:=n) (by rfl) (fun j σ ds g'=>ds=[]∧σ 12=.ptr h.next 0∧σ 16=.ptr g2.next 0∧σ 56=v∧σ 57=.int .i64 (n:Int)∧FrX g2.next gF0 g'∧g'.get g2.next=some (.cells (Ft.cells ⟨a,b,c,d,(tmJ l j).1,(tmJ l j).2,bl,p⟩) false)) (by omega) (by simp)
    ⟨rfl,by simp [e12],by simp [e16],by simp,by simp,fX,g3F⟩ (fun j σ ds g hJ=>by simp [hJ.2.2.2.2.1]) ?_ ?_
   ·clear fX g3F s3 e0 e12 e16
    rintro j σ ds g' hj hi ⟨rfl,e12,e16,e56,e57,fX,gcF⟩
    obtain ⟨x,hx⟩:=l4 (l:=xs) (j:=j) (by omega)
    have hxm:=List.mem_of_getElem? hx
    obtain ⟨hx0,hxs⟩:=q0V hc hxm
    obtain ⟨y,hy⟩:=l4 (l:=x.2.2) (j:=0) hx0
    obtain ⟨z,hz⟩:=l4 (l:=x.2.2) (j:=x.2.2.length - 1) (by omega)
    have hlj:l[j]? = some (i9 x):=by rw [hld];simp [hx]
    rw [s0M hlj,show mnS (i9 x).2=y.1 from p0F hy,show mxS (i9 x).2=z.1 from s0N hz]
    generalize tmJ l j=tm at *
    have hsid:∀ k,l6 x.2.1=some k→k<g2.next:=fun k e=>by have:=Sl.idLt (he x hxm).smp e;have:=F2.next;omega
    have s4:Sl g' 2 n v (xs.flatMap srC):=Sl.frX sF fX (fun e=>by have:=Sl.idLt s e;have:=F2.next;omega)
    have ok4:Sl g' 2 x.2.2.length x.2.1 (x.2.2.flatMap smC):=Sl.frX (((he x hxm).fr F2).fr fF).smp fX (fun e=>by have:=hsid _ e;omega)
    have hnF:=fX.next
    obtain ⟨i1,o1,a1,a2,_⟩:=g0J s4 hx
    have hlc:=(he x hxm).lab.oneCell
    have hsc:=(he x hxm).smp.oneCell
    have stn:=k9 (h:=g') (n:=2) (z:=[.nils,.nils]) (l:=srC x) rfl rfl (by simp [srC,d7,hlc.2,hsc.2])
    have fp:=Fr.push (.refl g') (.cells (srC x) false)
    have ge:(g'.push (.cells (srC x) false)).get g'.next=some (.cells (srC x) false):=b8 _
    have gn:(g'.push (.cells (srC x) false)).next=g'.next+1:=rfl
    generalize hgE:g'.push (.cells (srC x) false)=gE at *
    have gcE:gE.get g2.next=some (.cells (Ft.cells ⟨a,b,c,d,tm.1,tm.2,bl,p⟩) false):=by rw [fp.get _ (by omega),gcF]
    have ok5:=ok4.fr fp
    have m4:load1 gE g2.next 4=.ok (.int .i64 tm.1):=b9 gcE
    have m1:load1 gE g'.next 1=.ok x.2.1:=b9 ge
    obtain ⟨i2,o2,b1,_,b2,_⟩:=J9 ok5 hy
    have b1':E0 2 x.2.1 (.int .i64 0)=.ok (.ptr i2 o2):=b1
    have t1:=l9 (v:=.int .i64 (min tm.1 y.1)) (off:=4) gcE (by simp [Ft.cells]) rfl
    simp [i8,Ft.cells] at t1
    have gc1:(gE.set g2.next (.cells (Ft.cells ⟨a,b,c,d,min tm.1 y.1,tm.2,bl,p⟩) false)).get g2.next=some (.cells (Ft.cells ⟨a,b,c,d,min tm.1 y.1,tm.2,bl,p⟩) false):=d9 _ _
    have t2:=l9 (v:=.int .i64 (max tm.2 z.1)) (off:=5) gc1 (by simp [Ft.cells]) rfl
    simp [i8,Ft.cells] at t2
    have ge1:(gE.set g2.next (.cells (Ft.cells ⟨a,b,c,d,min tm.1 y.1,tm.2,bl,p⟩) false)).get g'.next=some (.cells (srC x) false):=by rw [c9 (by omega),ge]
    have ok6:Sl (gE.set g2.next (.cells (Ft.cells ⟨a,b,c,d,min tm.1 y.1,tm.2,bl,p⟩) false)) 2 x.2.2.length x.2.1 (x.2.2.flatMap smC):=Sl.setX ok5 _ (fun e=>by have:=hsid _ e;omega)
    have n5:load1 (gE.set g2.next (.cells (Ft.cells ⟨a,b,c,d,min tm.1 y.1,tm.2,bl,p⟩) false)) g2.next 5=.ok (.int .i64 tm.2):=b9 gc1
    have n1:load1 (gE.set g2.next (.cells (Ft.cells ⟨a,b,c,d,min tm.1 y.1,tm.2,bl,p⟩) false)) g'.next 1=.ok x.2.1:=b9 ge1
    obtain ⟨i3,o3,c1,_,c2,_⟩:=J9 ok6 hz
    have hl6:=ok6.len
    have hsm:=ok5.same
    have w1:c7 .i64 ((x.2.2.length:Int) - 1)=((x.2.2.length - 1:Nat):Int):=by have:=(he x hxm).len2;rw [wrap_i64 (by omega) (by omega)];omega
    generalize x.2.2.length - 1=last at *
    simp only [Ft.cells] at n5 n1 c2
    simp [e56,hi,a1,a2,o7,stn,hgE,e16,m4,m1,b1',b2,hsm,t1,n5,n1,hl6,w1,c1,c2,t2,e12,e57,Ft.cells]
    exact ⟨by show gF0.next≤gE.next;omega,fun i hi2 hne=>by rw [c9 hne,fp.get i (by omega),fX.get i hi2 hne]⟩
   ·rintro σ ds g' ⟨rfl,e12,e16,e56,e57,fX,gcF⟩
    have ld:=y9 gcF (n:=8) rfl
    have hfoot:(⟨a,b,c,d,(tmJ l n).1,(tmJ l n).2,bl,p⟩:Ft)=H7 l a b c d p:=by rw [H7,hll,hbl,← hld]
    rw [hfoot] at ld gcF
    have spF:Sl g' 1 ups.length p (iv ups):=Sl.frX (sp.fr fF) fX (fun e=>by have:=Sl.idLt sp e;omega)
    have bc:=v0g (f:=H7 l a b c d p) (h:=g') spF (by omega)
    have fp:=Fr.push (.refl g') (.cells (H7 l a b c d p).cells false)
    have hFr:Fr h g':=FrX.fr FF fX (by have:=F2.next;omega)
    have hnF:=fX.next
    have gcp:(g'.push (.cells (H7 l a b c d p).cells false)).get g2.next=some (.cells (H7 l a b c d p).cells false):=by rw [fp.get _ (by omega),gcF]
    have gz2:(g'.push (.cells (H7 l a b c d p).cells false)).get h.next=some (.cells zeroF.cells false):=by
     rw [fp.get _ (by omega),fX.get _ (by omega) (by omega),fF.get _ (by omega),f2.get _ (by omega),gz1]
    have ld2:=y9 gcp (n:=8) rfl
    generalize hgP:g'.push (.cells (H7 l a b c d p).cells false)=gP at *
    generalize hft:H7 l a b c d p=f at *
    have hpar:f.par=p:=by rw [← hft];rfl
    have hFP:Fr h gP:=hFr.trans fp
    have spP:Sl (gP.set h.next (.cells f.cells false)) 1 ups.length p (iv ups):=Sl.setX (spF.fr fp) _ (fun e=>by have:=pge _ e;omega)
    cases hcb:V5 f ups with
    | true =>
     have st:=e0E (f:=f) (by rw [hpar];exact hpc.2) gz2 rfl
     have ld3:loadN (gP.set h.next (.cells f.cells false)) h.next 0 8=.ok f.cells:=y9 (d9 _ _) rfl
     simp [e16,o7,ld,bc,hcb,ld2,e12,st]
     rw [P7 (id:=h.next) (off:=0) _ (by simp [e12]) ld3]
     simp
     refine ⟨hFP.set _ (Nat.le_refl _),.inl ⟨p,spP,⟨by rw [← hld] at hc;rw [← hld];exact hc,?_⟩,?_⟩⟩
     ·rw [← hld,hft];exact hcb
     ·rw [← hld,hft]
    | false =>
     have st:=e0E (f:=zeroF) rfl gz2 rfl
     have ld3:loadN (gP.set h.next (.cells zeroF.cells false)) h.next 0 8=.ok zeroF.cells:=y9 (d9 _ _) rfl
     simp only [zeroF,Ft.cells] at st ld3
     simp [e16,o7,ld,bc,hcb,e12,i8,st]
     rw [P7 (id:=h.next) (off:=0) _ (by simp [e12]) ld3]
     simp
     exact ⟨hFP.set _ (Nat.le_refl _),.inr ⟨.inr ⟨p,by rw [← hld,hft];exact hcb⟩,rfl⟩⟩
end Go.Dk

namespace Go.Dk
open Go Go.Dr
set_option maxRecDepth 100000
theorem u0K:∀ (s:List Smp) (a:Smp),b0l (a::s)=true→∀ z ∈ a::s,a.1≤z.1
 | [],a,_,z,hz=>by
  simp at hz
  rw [hz]
  exact Int.le_refl _
 | b::s,a,h,z,hz=>by
  simp only [b0l,Bool.and_eq_true,decide_eq_true_eq] at h
  rcases List.mem_cons.1 hz with rfl | hz
  ·exact Int.le_refl _
  ·have:=u0K s b h.2 z hz
   omega
def rmJ (l:List (List Lab×List Smp)) (j:Nat):Int×Int:=if j=0 then (0,0) else tmJ l j
theorem t0T {h:AH} {n:Nat} {v:AV} {xs:List Se} {a b c d:Int} {pv:AV} {ups:List Int} (s:Sl h 2 n v (xs.flatMap srC)) (hf:Few xs) (he:∀ x ∈ xs,SrOk h x) (hp:Sl h 1 ups.length pv (iv ups)) (hu:ups.length≤10) :
  Ev P SI (.fn f0j) [v,.int .i64 a,.int .i64 b,.int .i64 c,.int .i64 d,pv] h (MakeK h (xs.map i9) a b c d ups):=by
 refine j9 p0W rfl rfl ?_
 have hl:xs.length=n:=by have:=s.1;rw [i0l] at this;omega
 have hn6:=hf.1
 have fz:=Fr.push (.refl h) (.cells zeroF.cells false)
 have gz:(h.push (.cells zeroF.cells false)).get h.next=some (.cells zeroF.cells false):=b8 _
 have gzn:(h.push (.cells zeroF.cells false)).next=h.next+1:=rfl
 have hz:(h.push (.cells [.int .i64 0,.int .i64 0,.int .i64 0,.int .i64 0,.int .i64 0,.int .i64 0,.int .i64 0,.nils] false))=h.push (.cells zeroF.cells false):=rfl
 simp [i0Q,hz]
 generalize hg0:h.push (.cells zeroF.cells false)=g0 at *
 refine (j0i (s.fr fz) hf (fun x hx=>(he x hx).fr fz)).mono ?_
 rintro r g ⟨f1,hr⟩
 have gz1:g.get h.next=some (.cells zeroF.cells false):=by rw [f1.get _ (by omega),gz]
 have F1:=fz.trans f1
 have hn1:=f1.next
 cases hc:c0y (xs.map i9) with
 | false =>
  rw [if_neg (by rw [hc];simp)] at hr
  subst hr
  have st:=e0E (f:=zeroF) rfl gz1 rfl
  have ld:loadN (g.set h.next (.cells zeroF.cells false)) h.next 0 8=.ok zeroF.cells:=y9 (d9 _ _) rfl
  simp only [zeroF,Ft.cells] at st ld
  simp [i8,st]
  rw [P7 (id:=h.next) (off:=0) _ (by simp) ld]
  simp
  exact ⟨F1.set _ (Nat.le_refl _),.inr ⟨.inl hc,rfl⟩⟩
 | true =>
  rw [if_pos hc] at hr
  obtain ⟨u,rfl,su⟩:=hr
  have hv:∀ x ∈ xs.map i9,x.2.length≤60∧∀ y ∈ x.2,y.2<2 ^ 64:=fun x hx=>by
   obtain ⟨y,hy,rfl⟩:=List.mem_map.1 hx
   exact ⟨hf.2 y hy,(he y hy).v64⟩
  have fe:=Fr.push (.refl g) (.cells [] false)
  have o0:Own g.next (g.push (.cells [] false)) 1 0 (.slice g.next 0 0 0 true 1) []:=⟨by simp,.inr ⟨g.next,0,true,[],rfl,Nat.le_refl _,by simp,b8 _,by simp,by simp⟩⟩
  obtain ⟨p,g2,ap,op,fb2,_⟩:=o0.append (bytes:=8) ((hp.fr F1).fr fe) (by simp) (j00 _) (by omega) (by omega)
  rw [Nat.zero_add,List.nil_append] at op
  have sp:=op.sl
  have f2:Fr g g2:=⟨Nat.le_trans fe.next fb2.next,fun i hi=>(fb2.get i hi).trans (fe.get i hi)⟩
  have pge:∀ k,l6 p=some k→g.next≤k:=fun k e=>by
   by_cases hk:k<g.next
   ·exact absurd e (op.ne hk)
   ·omega
  have hpc:=sp.oneCell
  have F2:=F1.trans f2
  have n2:=f2.next
  obtain ⟨bl,hbl⟩:∃ bl:Int,bl=((T5 (xs.map i9)).length:Int):=⟨_,rfl⟩
  have fF:=Fr.push (.refl g2) (.cells (Ft.cells ⟨a,b,c,d,0,0,bl,p⟩) false)
  have gF:(g2.push (.cells (Ft.cells ⟨a,b,c,d,0,0,bl,p⟩) false)).get g2.next=some (.cells (Ft.cells ⟨a,b,c,d,0,0,bl,p⟩) false):=b8 _
  have nF:(g2.push (.cells (Ft.cells ⟨a,b,c,d,0,0,bl,p⟩) false)).next=g2.next+1:=rfl
  have stn:=k9 (h:=g2) (n:=8) (z:=[.int .i64 0,.int .i64 0,.int .i64 0,.int .i64 0,.int .i64 0,.int .i64 0,.int .i64 0,.nils]) (l:=Ft.cells ⟨a,b,c,d,0,0,bl,p⟩) rfl rfl (by simp [Ft.cells,d7,hpc.2])
  have sF:=(s.fr F2).fr fF
  simp only [Ft.cells] at stn
  have slen:=sF.len
  have e5:l0D [v,.int .i64 a,.int .i64 b,.int .i64 c,.int .i64 d,pv] 5=pv:=rfl
  simp [su.len,e5,ap,← hbl,i8,hpc.1,stn,slen]
  obtain ⟨l,hld⟩:∃ l,l=xs.map i9:=⟨_,rfl⟩
  have hll:l.length=n:=by rw [hld,List.length_map,hl]
  generalize hgF:g2.push (.cells (Ft.cells ⟨a,b,c,d,0,0,bl,p⟩) false)=gF0 at *
  have hgF':g2.push (.cells [.int .i64 a,.int .i64 b,.int .i64 c,.int .i64 d,.int .i64 0,.int .i64 0,.int .i64 bl,p] false)=gF0:=hgF
  rw [hgF']
  have FF:=F2.trans fF
  have hpl:h.next<g2.next:=by omega
  refine l8 (n:=n) (by rfl) (fun j σ ds g'=>ds=[]∧σ 12=.ptr h.next 0∧σ 16=.ptr g2.next 0∧σ 40=v∧σ 41=.int .i64 (n:Int)∧FrX g2.next gF0 g'∧g'.get g2.next=some (.cells (Ft.cells ⟨a,b,c,d,(rmJ l j).1,(rmJ l j).2,bl,p⟩) false)) (by omega) (by simp)
    ⟨rfl,by simp,by simp,by simp,by simp,FrX.refl _ _,gF⟩ (fun j σ ds g hJ=>by simp [hJ.2.2.2.2.1]) ?_ ?_
  ·rintro j σ ds g' hj hi ⟨rfl,e12,e16,e40,e41,fX,gcF⟩
   obtain ⟨x,hx⟩:=l4 (l:=xs) (j:=j) (by omega)
   have hxm:=List.mem_of_getElem? hx
   obtain ⟨hx0,hxs⟩:=q0V hc hxm
   obtain ⟨y,hy⟩:=l4 (l:=x.2.2) (j:=0) hx0
   obtain ⟨z,hz⟩:=l4 (l:=x.2.2) (j:=x.2.2.length - 1) (by omega)
   have hyz:y.1≤z.1:=by
    simp only [a01,Bool.and_eq_true] at hxs
    have hr:=hxs.1
    have hzm:=List.mem_of_getElem? hz
    cases hs:x.2.2 with
    | nil=>rw [hs] at hx0;simp at hx0
    | cons q r =>
     rw [hs] at hr hy hzm
     simp at hy
     subst hy
     exact u0K r q hr z hzm
   have hlj:l[j]? = some (i9 x):=by rw [hld];simp [hx]
   have hsucc:=s0M hlj
   rw [show mnS (i9 x).2=y.1 from p0F hy,show mxS (i9 x).2=z.1 from s0N hz] at hsucc
   have hrs:rmJ l (j+1)=tmJ l (j+1):=by rw [rmJ,if_neg (by omega)]
   have hsid:∀ k,l6 x.2.1=some k→k<g2.next:=fun k e=>by have:=Sl.idLt (he x hxm).smp e;have:=F2.next;omega
   have s4:Sl g' 2 n v (xs.flatMap srC):=Sl.frX sF fX (fun e=>by have:=Sl.idLt s e;have:=F2.next;omega)
   have ok4:Sl g' 2 x.2.2.length x.2.1 (x.2.2.flatMap smC):=Sl.frX (((he x hxm).fr F2).fr fF).smp fX (fun e=>by have:=hsid _ e;omega)
   have hnF:=fX.next
   obtain ⟨i1,o1,a1,a2,_⟩:=g0J s4 hx
   have hlc:=(he x hxm).lab.oneCell
   have hsc:=(he x hxm).smp.oneCell
   have stn2:=k9 (h:=g') (n:=2) (z:=[.nils,.nils]) (l:=srC x) rfl rfl (by simp [srC,d7,hlc.2,hsc.2])
   have fp:=Fr.push (.refl g') (.cells (srC x) false)
   have ge:(g'.push (.cells (srC x) false)).get g'.next=some (.cells (srC x) false):=b8 _
   have gn:(g'.push (.cells (srC x) false)).next=g'.next+1:=rfl
   generalize hgE:g'.push (.cells (srC x) false)=gE at *
   have gcE:gE.get g2.next=some (.cells (Ft.cells ⟨a,b,c,d,(rmJ l j).1,(rmJ l j).2,bl,p⟩) false):=by rw [fp.get _ (by omega),gcF]
   have ok5:=ok4.fr fp
   have m1:load1 gE g'.next 1=.ok x.2.1:=b9 ge
   obtain ⟨i2,o2,b1,_,b2,_⟩:=J9 ok5 hy
   have b1':E0 2 x.2.1 (.int .i64 0)=.ok (.ptr i2 o2):=b1
   obtain ⟨i3,o3,c1,_,c2,_⟩:=J9 ok5 hz
   have hl5:=ok5.len
   have hsm:=ok5.same
   have w1:c7 .i64 ((x.2.2.length:Int) - 1)=((x.2.2.length - 1:Nat):Int):=by have:=(he x hxm).len2;rw [wrap_i64 (by omega) (by omega)];omega
   generalize x.2.2.length - 1=last at *
   by_cases hj0:j=0
   ·subst hj0
    have hres:tmJ l 1=(y.1,z.1):=by
     have hl0:l[0]? = some (i9 x):=hlj
     have:tmJ l 0=(y.1,y.1):=by simp only [tmJ,List.take_zero,List.foldl_nil,t0,hl0,mnS,i9,hy]
     rw [hsucc,this]
     simp only [Prod.mk.injEq]
     omega
    have hr0:rmJ l 0=(0,0):=rfl
    have a1':E0 2 v (.int .i64 0)=.ok (.ptr i1 o1):=a1
    rw [hr0] at gcE
    rw [hrs,hres]
    have t1:=l9 (v:=.int .i64 y.1) (off:=4) gcE (by simp [Ft.cells]) rfl
    simp [i8,Ft.cells] at t1
    have gc1:(gE.set g2.next (.cells (Ft.cells ⟨a,b,c,d,y.1,0,bl,p⟩) false)).get g2.next=some (.cells (Ft.cells ⟨a,b,c,d,y.1,0,bl,p⟩) false):=d9 _ _
    have t2:=l9 (v:=.int .i64 z.1) (off:=5) gc1 (by simp [Ft.cells]) rfl
    simp [i8,Ft.cells] at t2
    have gc2:(gE.set g2.next (.cells (Ft.cells ⟨a,b,c,d,y.1,z.1,bl,p⟩) false)).get g2.next=some (.cells (Ft.cells ⟨a,b,c,d,y.1,z.1,bl,p⟩) false):=d9 _ _
    have m4:load1 (gE.set g2.next (.cells (Ft.cells ⟨a,b,c,d,y.1,z.1,bl,p⟩) false)) g2.next 4=.ok (.int .i64 y.1):=b9 gc2
    have m5:load1 (gE.set g2.next (.cells (Ft.cells ⟨a,b,c,d,y.1,z.1,bl,p⟩) false)) g2.next 5=.ok (.int .i64 z.1):=b9 gc2
    have t3:=l9 (v:=.int .i64 y.1) (off:=4) gc2 (by simp [Ft.cells]) rfl
    simp [i8,Ft.cells] at t3
    have t4:=l9 (v:=.int .i64 z.1) (off:=5) gc2 (by simp [Ft.cells]) rfl
    simp [i8,Ft.cells] at t4
    simp only [Ft.cells] at m4 m5
    simp [e40,hi,a1',a2,o7,stn2,hgE,e16,m1,b1',b2,hsm,hl5,w1,c1,c2,t1,t2,m4,m5,t3,t4,e12,e41,Ft.cells,Int.min_self,Int.max_self]
    exact ⟨by show gF0.next≤gE.next;omega,fun i hi2 hne=>by rw [c9 hne,fp.get i (by omega),fX.get i hi2 hne]⟩
   ·have hr0:rmJ l j=tmJ l j:=by rw [rmJ,if_neg hj0]
    rw [hr0] at gcE
    rw [hrs,hsucc]
    generalize tmJ l j=tm at *
    have m4:load1 gE g2.next 4=.ok (.int .i64 tm.1):=b9 gcE
    have m5:load1 gE g2.next 5=.ok (.int .i64 tm.2):=b9 gcE
    have t1:=l9 (v:=.int .i64 (min tm.1 y.1)) (off:=4) gcE (by simp [Ft.cells]) rfl
    simp [i8,Ft.cells] at t1
    have gc1:(gE.set g2.next (.cells (Ft.cells ⟨a,b,c,d,min tm.1 y.1,tm.2,bl,p⟩) false)).get g2.next=some (.cells (Ft.cells ⟨a,b,c,d,min tm.1 y.1,tm.2,bl,p⟩) false):=d9 _ _
    have t2:=l9 (v:=.int .i64 (max tm.2 z.1)) (off:=5) gc1 (by simp [Ft.cells]) rfl
    simp [i8,Ft.cells] at t2
    simp [e40,hi,hj0,a1,a2,o7,stn2,hgE,e16,m1,b1',b2,hsm,hl5,w1,c1,c2,t1,t2,m4,m5,e12,e41,Ft.cells]
    exact ⟨by show gF0.next≤gE.next;omega,fun i hi2 hne=>by rw [c9 hne,fp.get i (by omega),fX.get i hi2 hne]⟩
  ·rintro σ ds g' ⟨rfl,e12,e16,e40,e41,fX,gcF⟩
   have hrn:rmJ l n=tmJ l n:=by
    unfold rmJ
    split
    ·rename_i h0
     have hl0:l=[]:=List.length_eq_zero_iff.1 (by omega)
     rw [hl0,h0]
     rfl
    ·rfl
   rw [hrn] at gcF
   have ld:=y9 gcF (n:=8) rfl
   have hfoot:(⟨a,b,c,d,(tmJ l n).1,(tmJ l n).2,bl,p⟩:Ft)=H7 l a b c d p:=by rw [H7,hll,hbl,← hld]
   rw [hfoot] at ld gcF
   have spF:Sl g' 1 ups.length p (iv ups):=Sl.frX (sp.fr fF) fX (fun e=>by have:=Sl.idLt sp e;omega)
   have bc:=v0h (f:=H7 l a b c d p) (h:=g') spF (by omega)
   have fp:=Fr.push (.refl g') (.cells (H7 l a b c d p).cells false)
   have hFr:Fr h g':=FrX.fr FF fX (by have:=F2.next;omega)
   have hnF:=fX.next
   have gcp:(g'.push (.cells (H7 l a b c d p).cells false)).get g2.next=some (.cells (H7 l a b c d p).cells false):=by rw [fp.get _ (by omega),gcF]
   have gz2:(g'.push (.cells (H7 l a b c d p).cells false)).get h.next=some (.cells zeroF.cells false):=by
    rw [fp.get _ (by omega),fX.get _ (by omega) (by omega),fF.get _ (by omega),f2.get _ (by omega),gz1]
   have ld2:=y9 gcp (n:=8) rfl
   generalize hgP:g'.push (.cells (H7 l a b c d p).cells false)=gP at *
   generalize hft:H7 l a b c d p=f at *
   have hpar:f.par=p:=by rw [← hft];rfl
   have hFP:Fr h gP:=hFr.trans fp
   have spP:Sl (gP.set h.next (.cells f.cells false)) 1 ups.length p (iv ups):=Sl.setX (spF.fr fp) _ (fun e=>by have:=pge _ e;omega)
   cases hcb:V5 f ups with
   | true =>
    have st:=e0E (f:=f) (by rw [hpar];exact hpc.2) gz2 rfl
    have ld3:loadN (gP.set h.next (.cells f.cells false)) h.next 0 8=.ok f.cells:=y9 (d9 _ _) rfl
    simp [e16,o7,ld,bc,hcb,ld2,e12,st]
    rw [P7 (id:=h.next) (off:=0) _ (by simp [e12]) ld3]
    simp
    refine ⟨hFP.set _ (Nat.le_refl _),.inl ⟨p,spP,⟨by rw [← hld] at hc;rw [← hld];exact hc,?_⟩,?_⟩⟩
    ·rw [← hld,hft];exact hcb
    ·rw [← hld,hft]
   | false =>
    have st:=e0E (f:=zeroF) rfl gz2 rfl
    have ld3:loadN (gP.set h.next (.cells zeroF.cells false)) h.next 0 8=.ok zeroF.cells:=y9 (d9 _ _) rfl
    simp only [zeroF,Ft.cells] at st ld3
    simp [e16,o7,ld,bc,hcb,e12,i8,st]
    rw [P7 (id:=h.next) (off:=0) _ (by simp [e12]) ld3]
    simp
    exact ⟨hFP.set _ (Nat.le_refl _),.inr ⟨.inr ⟨p,by rw [← hld,hft];exact hcb⟩,rfl⟩⟩
end Go.Dk

namespace Go.Dk
open Go Go.Dr
set_option maxRecDepth 100000
noncomputable def d0j:CC :=
 (.seq (.ops [rX 2 (iV 0)]) (.seq (.ops [rM 5 0,rR 6 (.mm true (.t 5) [(iC 0)]),rM 3 6]) (.seq (.seq (.ops [rM 7 3,rR 8 (.bin .eql b7 true (.t 7) (iC 0))]) (.cond (.t 8) (.seq (.ops [rX 2 (iV 1)]) .ret) .skip)) (.seq (.ops [rM 9 3,rR 10 (.bin .sub b7 true (.t 9) (iC 1)),rR 11 (.bin .quo b7 true (.t 10) (iC 105)),rR 12 (.bin .add b7 true (.t 11) (iC 1)),rM 4 12]) (.seq (.ops [rM 13 4,rR 14 (.bin .sub b7 true (.t 13) (iC 1)),rR 15 (.bin .quo b7 true (.t 14) (iC 3)),rR 16 (.bin .add b7 true (.t 15) (iC 1)),rM 2 16]) .ret)))))
theorem n0l:j7 P d0b=.ok ⟨17,[.tmp 2],d0j⟩:=by kernel_rfl
noncomputable def f0W:CC :=
 (.seq (.ops [rX 2 .nils]) (.seq (.ops [rM 8 0,rC 9 e0m [(.t 8)],rM 7 9,rE 10 7 0,rE 11 7 1,rM 3 10,rM 4 11]) (.seq (.ops [rM 13 3,rC 14 c05 [(.t 13)],rM 12 14,rE 15 12 0,rE 16 12 1,rM 5 15,rM 6 16]) (.seq (.ops [rM 17 5,rM 2 17]) .ret))))
theorem l0M:j7 P c0a=.ok ⟨18,[.tmp 2],f0W⟩:=by kernel_rfl
noncomputable def f0C:CC :=
 (.seq (.ops [rX 2 (iV 0)]) (.seq (.ops [rM 4 0,rR 5 (.mm true (.t 4) [(iC 0)]),rM 3 5]) (.seq (.seq (.ops [rM 6 3,rR 7 (.bin .eql b7 true (.t 6) (iC 0))]) (.cond (.t 7) (.seq (.ops [rX 2 (iV 2)]) .ret) .skip)) (.seq (.ops [rM 8 3,rR 9 (.bin .sub b7 true (.t 8) (iC 1)),rR 10 (.bin .quo b7 true (.t 9) (iC 106)),rR 11 (.bin .add b7 true (.t 10) (iC 1)),rR 12 (.bin .mul b7 true (iC 2) (.t 11)),rM 2 12]) .ret))))
theorem q0A:j7 P f0n=.ok ⟨13,[.tmp 2],f0C⟩:=by kernel_rfl
end Go.Dk

namespace Go.Dk
open Go Go.Dr
set_option maxRecDepth 100000
def grp (n:Nat):Nat:=if n=0 then 1 else (n - 1)/105/3+1
def prN (n:Nat):Nat:=if n=0 then 2 else 2*((n - 1)/106+1)
theorem p0e (a b:Nat):(a:Int).tdiv (b:Int)=((a/b:Nat):Int):=by rw [Int.tdiv_eq_ediv_of_nonneg (by omega)];norm_cast
theorem o0l (n:Nat) (hn:n≤2 ^ 40) (h:AH) (K:AV→AH→Prop):Ev P SI (.fn b09) [.int .i64 (n:Int)] h K=K (.int .i64 (grp n:Int)) h:=by
 refine Ev.eq (j9 l0B rfl rfl ?_) K
 by_cases h0:n=0
 ·subst h0
  simp [b02,grp]
 ·have c1:¬ ((n:Int)≤0):=by omega
  have w1:c7 .i64 ((n:Int) - 1)=((n - 1:Nat):Int):=by rw [wrap_i64 (by omega) (by omega)];omega
  have d1:((n - 1:Nat):Int).tdiv 105=(((n - 1)/105:Nat):Int):=p0e _ 105
  obtain ⟨q,hq⟩:∃ q,(n - 1)/105=q:=⟨_,rfl⟩
  have hqn:q≤n:=by rw [← hq];omega
  rw [hq] at d1
  have w2:c7 .i64 (q:Int)=(q:Int):=wrap_i64 (by omega) (by omega)
  have d2:(q:Int).tdiv 3=((q/3:Nat):Int):=p0e _ 3
  obtain ⟨s,hs⟩:∃ s,q/3=s:=⟨_,rfl⟩
  have hsn:s≤q:=by rw [← hs];omega
  rw [hs] at d2
  have w3:c7 .i64 (s:Int)=(s:Int):=wrap_i64 (by omega) (by omega)
  have w4:c7 .i64 ((s:Int)+1)=(s:Int)+1:=wrap_i64 (by omega) (by omega)
  generalize hn1:n - 1=m at *
  simp [b02,h0,w1,d1,w2,d2,w3,w4,grp,hn1,hq,hs]
theorem q0s (n:Nat) (hn:n≤2 ^ 40) (h:AH) (K:AV→AH→Prop):Ev P SI (.fn d0b) [.int .i64 (n:Int)] h K=K (.int .i64 (grp n:Int)) h:=by
 refine Ev.eq (j9 n0l rfl rfl ?_) K
 have hm:max (n:Int) 0=(n:Int):=by omega
 by_cases h0:n=0
 ·subst h0
  simp [d0j,grp]
 ·have w1:c7 .i64 ((n:Int) - 1)=((n - 1:Nat):Int):=by rw [wrap_i64 (by omega) (by omega)];omega
  have d1:((n - 1:Nat):Int).tdiv 105=(((n - 1)/105:Nat):Int):=p0e _ 105
  obtain ⟨q,hq⟩:∃ q,(n - 1)/105=q:=⟨_,rfl⟩
  have hqn:q≤n:=by rw [← hq];omega
  rw [hq] at d1
  have w2:c7 .i64 (q:Int)=(q:Int):=wrap_i64 (by omega) (by omega)
  have w2a:c7 .i64 ((q:Int)+1)=(q:Int)+1:=wrap_i64 (by omega) (by omega)
  have w2b:c7 .i64 ((q:Int)+1 - 1)=(q:Int):=by rw [wrap_i64 (by omega) (by omega)];omega
  have d2:(q:Int).tdiv 3=((q/3:Nat):Int):=p0e _ 3
  obtain ⟨s,hs⟩:∃ s,q/3=s:=⟨_,rfl⟩
  have hsn:s≤q:=by rw [← hs];omega
  rw [hs] at d2
  have w3:c7 .i64 (s:Int)=(s:Int):=wrap_i64 (by omega) (by omega)
  have w4:c7 .i64 ((s:Int)+1)=(s:Int)+1:=wrap_i64 (by omega) (by omega)
  generalize hn1:n - 1=m at *
  simp [d0j,hm,h0,w1,d1,w2,w2a,w2b,d2,w3,w4,grp,hn1,hq,hs]
theorem q0t (n:Nat):grp n≤n+1:=by
 unfold grp
 split
 ·omega
 ·omega
theorem x0u (n:Nat):prN n≤2*n+2:=by
 unfold prN
 split
 ·omega
 ·omega
theorem r03 (n:Nat) (hn:n≤2 ^ 40) (h:AH) (K:AV→AH→Prop):Ev P SI (.fn e0o) [.int .i64 (n:Int)] h K=K (.int .i64 ((4*grp n:Nat):Int)) h:=by
 refine Ev.eq (j9 n04 rfl rfl ?_) K
 have:=q0t n
 have w:c7 .i64 (4*(grp n:Int))=4*(grp n:Int):=wrap_i64 (by omega) (by omega)
 simp [h0F,o0l n hn,w]
theorem t0Q (n:Nat) (hn:n≤2 ^ 40) (h:AH) (K:AV→AH→Prop):Ev P SI (.fn f0m) [.int .i64 (n:Int)] h K=K (.int .i64 ((4*grp n:Nat):Int)) h:=by
 refine Ev.eq (j9 p0Z rfl rfl ?_) K
 have:=q0t n
 have w:c7 .i64 (4*(grp n:Int))=4*(grp n:Int):=wrap_i64 (by omega) (by omega)
 simp [i0T,q0s n hn,w]
theorem p0f (n:Nat) (hn:n≤2 ^ 40) (h:AH) (K:AV→AH→Prop):Ev P SI (.fn b0R) [.int .i64 (n:Int)] h K=K (.int .i64 (prN n:Int)) h:=by
 refine Ev.eq (j9 r0g rfl rfl ?_) K
 by_cases h0:n=0
 ·subst h0
  simp [g0g,prN]
 ·have w1:c7 .i64 ((n:Int) - 1)=((n - 1:Nat):Int):=by rw [wrap_i64 (by omega) (by omega)];omega
  have d1:((n - 1:Nat):Int).tdiv 106=(((n - 1)/106:Nat):Int):=p0e _ 106
  obtain ⟨q,hq⟩:∃ q,(n - 1)/106=q:=⟨_,rfl⟩
  have hqn:q≤n:=by rw [← hq];omega
  rw [hq] at d1
  have w2:c7 .i64 (q:Int)=(q:Int):=wrap_i64 (by omega) (by omega)
  have w3:c7 .i64 ((q:Int)+1)=(q:Int)+1:=wrap_i64 (by omega) (by omega)
  have w4:c7 .i64 (2*((q:Int)+1))=2*((q:Int)+1):=wrap_i64 (by omega) (by omega)
  generalize hn1:n - 1=m at *
  simp [g0g,h0,w1,d1,w2,w3,w4,prN,hn1,hq]
theorem t0R (n:Nat) (hn:n≤2 ^ 40) (h:AH) (K:AV→AH→Prop):Ev P SI (.fn f0n) [.int .i64 (n:Int)] h K=K (.int .i64 (prN n:Int)) h:=by
 refine Ev.eq (j9 q0A rfl rfl ?_) K
 have hm:max (n:Int) 0=(n:Int):=by omega
 by_cases h0:n=0
 ·subst h0
  simp [f0C,prN]
 ·have w1:c7 .i64 ((n:Int) - 1)=((n - 1:Nat):Int):=by rw [wrap_i64 (by omega) (by omega)];omega
  have d1:((n - 1:Nat):Int).tdiv 106=(((n - 1)/106:Nat):Int):=p0e _ 106
  obtain ⟨q,hq⟩:∃ q,(n - 1)/106=q:=⟨_,rfl⟩
  have hqn:q≤n:=by rw [← hq];omega
  rw [hq] at d1
  have w2:c7 .i64 (q:Int)=(q:Int):=wrap_i64 (by omega) (by omega)
  have w3:c7 .i64 ((q:Int)+1)=(q:Int)+1:=wrap_i64 (by omega) (by omega)
  have w4:c7 .i64 (2*((q:Int)+1))=2*((q:Int)+1):=wrap_i64 (by omega) (by omega)
  generalize hn1:n - 1=m at *
  simp [f0C,hm,h0,w1,d1,w2,w3,w4,prN,hn1,hq]
theorem A0A (s:Txt):∀ x ∈ bT s,x<256:=by
 intro x h
 simp only [bT,List.mem_map] at h
 obtain ⟨y,_,rfl⟩:=h
 exact y.toNat_lt
theorem u0I (s:Txt):∀ x ∈ txB s,x<256:=by
 intro x h
 rcases List.mem_cons.1 h with rfl | h
 ·omega
 ·exact A0A s x h
theorem x0v (l:List Lab):∀ x ∈ d0i l,x<256:=by
 intro x h
 rcases List.mem_cons.1 h with rfl | h
 ·omega
 ·obtain ⟨k,_,h⟩:=List.mem_flatMap.1 h
  rcases List.mem_append.1 h with h | h
  ·exact u0I _ x h
  ·exact u0I _ x h
theorem x0w (l:List Smp):∀ x ∈ U1 l,x<256:=by
 intro x hx
 rw [U1] at hx
 rcases List.mem_append.1 hx with h | h
 ·exact s0A _ _ _ h
 ·exact q0M _ _ h
theorem r04 (l:List (List Lab×List Smp)):∀ x ∈ T5 l,x<256:=by
 intro x hx
 obtain ⟨y,_,h⟩:=List.mem_flatMap.1 hx
 obtain ⟨i,_,h⟩:=List.mem_flatMap.1 h
 simp only [j0U,List.mem_append] at h
 rcases h with h | h | h
 ·exact s0A _ _ _ h
 ·exact x0v _ x h
 ·exact x0w _ x h
theorem j0k:∀ (f a:Nat) (b:List Nat),b.length≤2 ^ 30→4*(ents f a b).1.length≤b.length
 | 0,_,b,_=>by simp [ents]
 | f+1,a,b,hb=>by
  rw [ents]
  split
  ·simp
  ·split
   ·simp
   ·rename_i l s n he
    obtain ⟨h1,h2,_⟩ | hbig:=f0w he
    ·have:=j0k f (a+n) (b.drop n) (by rw [List.length_drop];omega)
     rw [List.length_drop] at this
     simp only [List.length_cons]
     omega
    ·omega
noncomputable def l0L (b:List Nat):Nat:=if (ents b.length 0 b).2=true∧c0f (ents b.length 0 b).1=true then (a0B (ents b.length 0 b).1).length else 0
theorem q0u {b:List Nat} (hb:b.length≤20000):l0L b≤2 ^ 39:=by
 unfold l0L
 split
 ·rename_i h
  have:=j0k b.length 0 b (by omega)
  exact i0s (by omega) h.2
 ·omega
theorem m01:(a0B []).length=8:=by
 have h1:Tof []=[]:=List.mergeSort_nil
 have h2:f04 []=[]:=by unfold f04;rw [h1];rfl
 have h3:i07 []=[]:=by
  unfold i07 e0t
  rw [List.map_nil,List.mergeSort_nil,List.map_nil]
 have h4:a0h []=[.w 0 4,.w 0 4]:=by
  unfold a0h
  rw [h1,h2]
  simp only [List.map_nil,h3]
  rfl
 rw [a0B,h4]
 rfl
noncomputable def k09 (l:List (List Lab×List Smp)):Int:=if c0y l=true then ((4*grp (T5 l).length+prN (l0L (T5 l))+2:Nat):Int) else 0
theorem o0m {h:AH} {v:AV} {b:List Nat} (s:Sl h 1 b.length v (by8 b)) (hb:b.length≤20000) (h256:∀ x ∈ b,x<256) (ht:TabIn h) :
  Ev P SI (.fn b08) [v] h fun r g=>Fr h g∧∃ u e x,r=.tuple [u,.int .i64 e]∧Sl g 1 (l0L b) u x:=by
 refine j9 l0A rfl rfl ?_
 simp [f0U]
 refine (s0m s (by omega) h256 ht).mono ?_
 rintro r g ⟨f1,hr⟩
 unfold l0L
 split at hr
 ·rename_i hc
  rw [if_pos hc]
  obtain ⟨u,xs,rfl,hxs,sx,_,hx⟩:=hr
  have hl:=j0k b.length 0 b (by omega)
  have hll:xs.length=(ents b.length 0 b).1.length:=by rw [← hxs,List.length_map]
  simp
  refine (q0P sx (by omega) hx).mono ?_
  intro r g2 hr
  unfold j0G at hr
  rw [hxs,if_pos hc.2] at hr
  obtain ⟨w,rfl,sw,f2⟩:=hr
  simp
  exact ⟨f1.trans f2,_,sw⟩
 ·rename_i hc
  rw [if_neg hc]
  subst hr
  simp
  exact ⟨f1,_,Sl.nil 1⟩
theorem o0n {h:AH} {v:AV} {b:List Nat} (s:Sl h 1 b.length v (by8 b)) (hb:b.length≤20000) (h256:∀ x ∈ b,x<256) :
  Ev P SI (.fn c0a) [v] h fun r g=>Fr h g∧∃ k x,Sl g 1 k r x∧prN k=prN (l0L b)∧k≤2 ^ 39:=by
 refine j9 l0M rfl rfl ?_
 simp [f0W]
 refine (r0u s (by omega) h256).mono ?_
 rintro r g ⟨f1,hr⟩
 have hil:=q0u hb
 unfold l0L at hil ⊢
 split at hr
 ·rename_i hc
  rw [if_pos hc] at hil ⊢
  obtain ⟨u,xs,rfl,hxs,sx,_,hx⟩:=hr
  have hl:=j0k b.length 0 b (by omega)
  have hll:xs.length=(ents b.length 0 b).1.length:=by rw [← hxs,List.length_map]
  simp
  refine (j0P sx (by omega) hx).mono ?_
  intro r g2 hr
  unfold j0G at hr
  rw [hxs,if_pos hc.2] at hr
  obtain ⟨w,rfl,sw,f2⟩:=hr
  simp
  exact ⟨f1.trans f2,_,⟨_,sw⟩,rfl,hil⟩
 ·rename_i hc
  rw [if_neg hc] at hil ⊢
  subst hr
  simp
  refine (j0P (n:=0) (xs:=[]) (Sl.nil 5) (by omega) (fun x hx=>by simp at hx)).mono ?_
  intro r g2 hr
  unfold j0G at hr
  rw [if_pos (by rfl)] at hr
  obtain ⟨w,rfl,sw,f2⟩:=hr
  simp
  refine ⟨f1.trans f2,_,⟨_,sw⟩,?_,?_⟩
  ·show prN (a0B []).length=prN 0
   rw [m01]
   rfl
  ·show (a0B []).length≤_
   rw [m01]
   omega
end Go.Dk

namespace Go.Dk
open Go Go.Dr
set_option maxRecDepth 100000
theorem u0E {xs:List Se} (hc:c0y (xs.map i9)=true) (hf:Few xs) (he:∀ x ∈ xs,∀ y ∈ x.2.2,y.2<2 ^ 64):(T5 (xs.map i9)).length≤20000:=by
 have h1:=n0U hc (fun x hx=>by
  obtain ⟨y,hy,rfl⟩:=List.mem_map.1 hx
  exact ⟨hf.2 y hy,he y hy⟩) (xs.map i9).length
 rw [List.take_length,List.length_map] at h1
 have:=hf.1
 omega
theorem t0A {h:AH} {n:Nat} {v:AV} {xs:List Se} (s:Sl h 2 n v (xs.flatMap srC)) (hf:Few xs) (he:∀ x ∈ xs,SrOk h x) (ht:TabIn h) :
  Ev P SI (.fn f0k) [v] h fun r g=>r=.int .i64 (k09 (xs.map i9))∧Fr h g:=by
 refine j9 p0X rfl rfl ?_
 simp [i0R]
 refine (j0j s hf he ht).mono ?_
 rintro r g ⟨f1,hr⟩
 cases hc:c0y (xs.map i9) with
 | false =>
  rw [if_neg (by rw [hc];simp)] at hr
  subst hr
  simp [k09,hc]
  exact f1
 | true =>
  rw [if_pos hc] at hr
  obtain ⟨u,rfl,su⟩:=hr
  have hlen:=u0E hc hf (fun x hx=>(he x hx).v64)
  simp
  refine (o0m su hlen (r04 _) (ht.fr f1)).mono ?_
  rintro r g2 ⟨f2,w,e,x,rfl,sw⟩
  have hil:=q0u hlen
  have hneed:k09 (xs.map i9)=((4*grp (T5 (xs.map i9)).length+prN (l0L (T5 (xs.map i9)))+2:Nat):Int):=by rw [k09,if_pos hc]
  have hg:=q0t (T5 (xs.map i9)).length
  have hpr:=x0u (l0L (T5 (xs.map i9)))
  have sul:=su.len
  have swl:=sw.len
  rw [hneed]
  generalize (T5 (xs.map i9)).length=L at *
  generalize l0L (T5 (xs.map i9))=k at *
  have sn:=fun K=>r03 L (by omega) g2 K
  have pn:=fun K=>p0f k (by omega) g2 K
  have p0:∀ K,Ev P SI (.fn b0R) [.int .i64 0] g2 K=K (.int .i64 2) g2:=fun K=>p0f 0 (by omega) g2 K
  obtain ⟨A,hA⟩:∃ A,4*grp L=A:=⟨_,rfl⟩
  obtain ⟨B,hB⟩:∃ B,prN k=B:=⟨_,rfl⟩
  simp only [hA] at sn
  simp only [hB] at pn
  rw [hB] at hpr
  rw [hA,hB]
  have w1:c7 .i64 ((A:Int)+(B:Int))=(A:Int)+(B:Int):=wrap_i64 (by omega) (by omega)
  have w2:c7 .i64 ((A:Int)+(B:Int)+2)=(A:Int)+(B:Int)+2:=wrap_i64 (by omega) (by omega)
  simp [sul,swl,sn,pn,p0,w1,w2]
  exact f1.trans f2
theorem t0B {h:AH} {n:Nat} {v:AV} {xs:List Se} (s:Sl h 2 n v (xs.flatMap srC)) (hf:Few xs) (he:∀ x ∈ xs,SrOk h x) :
  Ev P SI (.fn f0l) [v] h fun r g=>r=.int .i64 (k09 (xs.map i9))∧Fr h g:=by
 refine j9 p0Y rfl rfl ?_
 simp [i0S]
 refine (j0i s hf he).mono ?_
 rintro r g ⟨f1,hr⟩
 cases hc:c0y (xs.map i9) with
 | false =>
  rw [if_neg (by rw [hc];simp)] at hr
  subst hr
  simp [k09,hc]
  exact f1
 | true =>
  rw [if_pos hc] at hr
  obtain ⟨u,rfl,su⟩:=hr
  have hlen:=u0E hc hf (fun x hx=>(he x hx).v64)
  have hneed:k09 (xs.map i9)=((4*grp (T5 (xs.map i9)).length+prN (l0L (T5 (xs.map i9)))+2:Nat):Int):=by rw [k09,if_pos hc]
  have hg:=q0t (T5 (xs.map i9)).length
  have hil:=q0u hlen
  have hpr:=x0u (l0L (T5 (xs.map i9)))
  have sn:=fun K=>t0Q (T5 (xs.map i9)).length (by omega) g K
  obtain ⟨A,hA⟩:∃ A,4*grp (T5 (xs.map i9)).length=A:=⟨_,rfl⟩
  simp only [hA] at sn
  rw [hA] at hneed
  simp [su.len,sn]
  refine (o0n su hlen (r04 _)).mono ?_
  rintro r g2 ⟨f2,k,x,sw,hk,hk2⟩
  rw [← hk] at hneed hpr
  have pn:=fun K=>t0R k (by omega) g2 K
  obtain ⟨B,hB⟩:∃ B,prN k=B:=⟨_,rfl⟩
  simp only [hB] at pn
  rw [hB] at hneed hpr
  rw [hneed]
  have w1:c7 .i64 ((A:Int)+(B:Int))=(A:Int)+(B:Int):=wrap_i64 (by omega) (by omega)
  have w2:c7 .i64 ((A:Int)+(B:Int)+2)=(A:Int)+(B:Int)+2:=wrap_i64 (by omega) (by omega)
  simp [sw.len,pn,w1,w2]
  exact f1.trans f2
theorem r0H (l:List (List Lab×List Smp)) (a b c d:Int) (p q:AV) (ups:List Int):V5 (H7 l a b c d p) ups=V5 (H7 l a b c d q) ups:=rfl
noncomputable def m0B (l:List (List Lab×List Smp)) (a b c d:Int) (ups:List Int):Bool:=c0y l&&V5 (H7 l a b c d .nils) ups
theorem MakeK.norm {h g:AH} {l:List (List Lab×List Smp)} {a b c d:Int} {ups:List Int} {r:AV} (m:MakeK h l a b c d ups r g) :
  Fr h g∧∃ p,r=.tuple [.agg (((if m0B l a b c d ups=true then H7 l a b c d .nils else zeroF):Ft).withP p).cells,.int .i64 (if m0B l a b c d ups=true then 0 else 1)] ∧
   Sl g 1 (if m0B l a b c d ups=true then ups else []).length p (iv (if m0B l a b c d ups=true then ups else [])):=by
 obtain ⟨f,⟨p,sp,⟨h1,h2⟩,rfl⟩ | ⟨h1,rfl⟩⟩:=m
 ·have hok:m0B l a b c d ups=true:=by rw [m0B,h1,r0H l a b c d .nils p ups,h2];rfl
  refine ⟨f,p,?_,?_⟩
  ·rw [if_pos hok,if_pos hok]
   rfl
  ·rw [if_pos hok]
   exact sp
 ·have hok:m0B l a b c d ups=false:=by
   rw [m0B]
   rcases h1 with h1 | ⟨p,h1⟩
   ·rw [h1];rfl
   ·rw [r0H l a b c d .nils p ups,h1,Bool.and_false]
  refine ⟨f,.nils,?_,?_⟩
  ·rw [hok]
   rfl
  ·rw [hok]
   exact Sl.nil 1
theorem m0C {h:AH} {n:Nat} {v:AV} {xs:List Se} {f:Ft} {ups:List Int} (s:Sl h 2 n v (xs.flatMap srC)) (hn:n<2 ^ 62) (he:∀ x ∈ xs,SrIn h x) (hp:Sl h 1 ups.length f.par (iv ups)) (ht:TabIn h) :
  Ev P SI (.fn a0s) [v,.agg f.cells] h fun r _=>r=.bool true:=by
 refine j9 h04 rfl rfl ?_
 have hpc:=hp.oneCell
 have f0:=Fr.push (.refl h) (.cells f.cells false)
 have gf:(h.push (.cells f.cells false)).get h.next=some (.cells f.cells false):=b8 _
 have gfn:(h.push (.cells f.cells false)).next=h.next+1:=rfl
 simp only [c0R,K6]
 simp
 generalize hg0:h.push (.cells f.cells false)=g0 at *
 refine (v0j (s.fr f0) hn (fun x hx=>⟨(he x hx).lab.fr f0,(he x hx).smp.fr f0,(he x hx).short,(he x hx).v64⟩)).mono ?_
 rintro l g ⟨f1,ys,sy,hfew,hys⟩
 have gf1:g.get h.next=some (.cells f.cells false):=by rw [f1.get _ (by omega),gf]
 have F1:=f0.trans f1
 have hp1:=hp.fr F1
 have ht1:=ht.fr F1
 have hn1:=f1.next
 have q0:load1 g h.next 0=.ok (.int .i64 f.num):=b9 gf1
 have q1:load1 g h.next 1=.ok (.int .i64 f.gen):=b9 gf1
 have q2:load1 g h.next 2=.ok (.int .i64 f.level):=b9 gf1
 have q3:load1 g h.next 3=.ok (.int .i64 f.rank):=b9 gf1
 have q7:load1 g h.next 7=.ok f.par:=b9 gf1
 by_cases hu:ups.length≤10
 case neg =>
  have c1:(10:Int)<(ups.length:Int):=by omega
  simp [q7,hp1.len,c1,n0H]
 have c1:¬ (10:Int)<(ups.length:Int):=by omega
 simp [q0,q1,q2,q3,q7,hp1.len,c1]
 refine (u0h sy hfew hys ht1 hp1 hu).mono ?_
 rintro r g2 hr
 obtain ⟨f2,p,rfl,sp⟩:=hr.norm
 have hpc2:=sp.oneCell
 generalize hF:(if m0B (ys.map i9) f.num f.gen f.level f.rank ups=true then H7 (ys.map i9) f.num f.gen f.level f.rank .nils else zeroF)=F at *
 generalize hE:(if m0B (ys.map i9) f.num f.gen f.level f.rank ups=true then (0:Int) else 1)=E at *
 generalize hU:(if m0B (ys.map i9) f.num f.gen f.level f.rank ups=true then ups else [])=U at *
 have st1:=k9 (h:=g2) (n:=8) (z:=[.int .i64 0,.int .i64 0,.int .i64 0,.int .i64 0,.int .i64 0,.int .i64 0,.int .i64 0,.nils]) (l:=(F.withP p).cells) rfl rfl (by simp [Ft.cells,Ft.withP,d7,hpc2.2])
 have fA:=Fr.push (.refl g2) (.cells (F.withP p).cells false)
 have gA:(g2.push (.cells (F.withP p).cells false)).get g2.next=some (.cells (F.withP p).cells false):=b8 _
 have gAn:(g2.push (.cells (F.withP p).cells false)).next=g2.next+1:=rfl
 generalize hgA:g2.push (.cells (F.withP p).cells false)=ga at *
 have F2:=(F1.trans f2).trans fA
 have hn2:=f2.next
 have gf2:ga.get h.next=some (.cells f.cells false):=by rw [fA.get _ (by omega),f2.get _ (by omega),gf1]
 have q0:load1 ga h.next 0=.ok (.int .i64 f.num):=b9 gf2
 have q1:load1 ga h.next 1=.ok (.int .i64 f.gen):=b9 gf2
 have q2:load1 ga h.next 2=.ok (.int .i64 f.level):=b9 gf2
 have q3:load1 ga h.next 3=.ok (.int .i64 f.rank):=b9 gf2
 have q7:load1 ga h.next 7=.ok f.par:=b9 gf2
 have fyA:=f2.trans fA
 simp [st1,hgA,q0,q1,q2,q3,q7]
 refine (t0T (sy.fr fyA) hfew (fun x hx=>(hys x hx).fr fyA) (hp.fr F2) hu).mono ?_
 rintro r g3 hr
 obtain ⟨f3,p',rfl,sp'⟩:=hr.norm
 rw [hF,hE]
 rw [hU] at sp'
 have hpc3:=sp'.oneCell
 have st2:=k9 (h:=g3) (n:=8) (z:=[.int .i64 0,.int .i64 0,.int .i64 0,.int .i64 0,.int .i64 0,.int .i64 0,.int .i64 0,.nils]) (l:=(F.withP p').cells) rfl rfl (by simp [Ft.cells,Ft.withP,d7,hpc3.2])
 have fB:=Fr.push (.refl g3) (.cells (F.withP p').cells false)
 have gB:(g3.push (.cells (F.withP p').cells false)).get g3.next=some (.cells (F.withP p').cells false):=b8 _
 have hn3:=f3.next
 generalize hgB:g3.push (.cells (F.withP p').cells false)=gb at *
 have gAb:gb.get g2.next=some (.cells (F.withP p).cells false):=by rw [fB.get _ (by omega),f3.get _ (by omega),gA]
 have ld1:=y9 gAb (n:=8) rfl
 have ld2:=y9 gB (n:=8) rfl
 have hUl:U.length<2 ^ 62:=by
  rw [← hU]
  split
  ·omega
  ·simp
 have spb:=(sp.fr fA).fr (f3.trans fB)
 have sm:=r0h (f:=F) spb (sp'.fr fB) hUl
 have fC:=(Fr.push (.refl gb) (.cells (F.withP p).cells false)).push (.cells (F.withP p').cells false)
 have fAll:=(fyA.trans f3).trans fB
 simp [st2,hgB,o7,ld1,ld2,sm]
 have fy2:=fAll.trans fC
 generalize hgC:(gb.push (.cells (F.withP p).cells false)).push (.cells (F.withP p').cells false)=gc at *
 refine (t0A (sy.fr fy2) hfew (fun x hx=>(hys x hx).fr fy2) (ht1.fr fy2)).mono ?_
 rintro r g4 ⟨rfl,f4⟩
 simp
 have fy4:=fy2.trans f4
 refine (t0B (sy.fr fy4) hfew (fun x hx=>(hys x hx).fr fy4)).mono ?_
 rintro r g5 ⟨rfl,f5⟩
 simp [n0H]
end Go.Dk

namespace Go.Proofs
open Go.Shelf
def Tryz.mSort_ren:Go.Shelf.Ren:=⟨fun | 6=>106 | 8=>137 | 9=>136 | 19=>160 | 20=>161 | 21=>151 | 22=>152 | 23=>153 | 24=>154 | 25=>155 | 26=>156 | 27=>157 | 28=>158 | 29=>159 | 36=>177 | 31=>178 | 32=>179 | 37=>180 | 38=>181 | 39=>117 | 41=>185 | n=>n,fun | 27=>53 | 29=>9 | 3=>3 | 32=>174 | 26=>53 | 0=>0 | 44=>207 | 46=>66 | 4=>4 | 36=>199 | 35=>198 | 41=>204 | 5=>5 | 9=>9 | 53=>221 | 57=>224 | 63=>228 | 64=>229 | n=>n,fun | n=>n⟩
theorem Tryz.mSort:Go.Proofs.SlLaysM.n6 Tryz.prog Tryz.mSort_ren:={
 mixed:=by kernel_rfl
 f6:=⟨Tryz.f106.name,by decide,Tryz.func106.trans (congrArg some (by kernel_rfl))⟩
 f8:=Tryz.func137.trans (congrArg some (by kernel_rfl))
 f9:=⟨Tryz.f136.name,by decide,Tryz.func136.trans (congrArg some (by kernel_rfl))⟩
 f19:=Tryz.func160.trans (congrArg some (by kernel_rfl))
 f20:=Tryz.func161.trans (congrArg some (by kernel_rfl))
 f21:=⟨Tryz.f151.name,by decide,Tryz.func151.trans (congrArg some (by kernel_rfl))⟩
 f22:=⟨Tryz.f152.name,by decide,Tryz.func152.trans (congrArg some (by kernel_rfl))⟩
 f23:=⟨Tryz.f153.name,by decide,Tryz.func153.trans (congrArg some (by kernel_rfl))⟩
 f24:=⟨Tryz.f154.name,by decide,Tryz.func154.trans (congrArg some (by kernel_rfl))⟩
 f25:=⟨Tryz.f155.name,by decide,Tryz.func155.trans (congrArg some (by kernel_rfl))⟩
 f26:=⟨Tryz.f156.name,by decide,Tryz.func156.trans (congrArg some (by kernel_rfl))⟩
 f27:=⟨Tryz.f157.name,by decide,Tryz.func157.trans (congrArg some (by kernel_rfl))⟩
 f28:=⟨Tryz.f158.name,by decide,Tryz.func158.trans (congrArg some (by kernel_rfl))⟩
 f29:=⟨Tryz.f159.name,by decide,Tryz.func159.trans (congrArg some (by kernel_rfl))⟩
 f31:=Tryz.func178.trans (congrArg some (by kernel_rfl))
 f32:=Tryz.func179.trans (congrArg some (by kernel_rfl))
 f36:=⟨Tryz.f177.name,by decide,Tryz.func177.trans (congrArg some (by kernel_rfl))⟩
 f37:=⟨Tryz.f180.name,by decide,Tryz.func180.trans (congrArg some (by kernel_rfl))⟩
 f38:=⟨Tryz.f181.name,by decide,Tryz.func181.trans (congrArg some (by kernel_rfl))⟩
 f39:=⟨Tryz.f117.name,by decide,Tryz.func117.trans (congrArg some (by kernel_rfl))⟩
 f41:=⟨Tryz.f185.name,by decide,Tryz.func185.trans (congrArg some (by kernel_rfl))⟩
 t0:=Tryz.underlying0
 a0:=Tryz.isAgg0
 z0:=Tryz.sizeOf0
 v0:=Tryz.zeroValue0
 t3:=Tryz.underlying3
 a3:=Tryz.isAgg3
 z3:=Tryz.sizeOf3
 v3:=Tryz.zeroValue3
 t4:=Tryz.underlying4
 a4:=Tryz.isAgg4
 z4:=Tryz.sizeOf4
 v4:=Tryz.zeroValue4
 t5:=Tryz.underlying5
 a5:=Tryz.isAgg5
 z5:=Tryz.sizeOf5
 v5:=Tryz.zeroValue5
 t9:=Tryz.underlying9
 a9:=Tryz.isAgg9
 z9:=Tryz.sizeOf9
 v9:=Tryz.zeroValue9
 t26:=Tryz.underlying53
 a26:=Tryz.isAgg53
 z26:=Tryz.sizeOf53
 v26:=Tryz.zeroValue53
 t27:=Tryz.underlying53
 a27:=Tryz.isAgg53
 z27:=Tryz.sizeOf53
 v27:=Tryz.zeroValue53
 t29:=Tryz.underlying9
 a29:=Tryz.isAgg9
 z29:=Tryz.sizeOf9
 v29:=Tryz.zeroValue9
 t32:=Tryz.underlying174
 a32:=Tryz.isAgg174
 z32:=Tryz.sizeOf174
 v32:=Tryz.zeroValue174
 t35:=Tryz.underlying198
 a35:=Tryz.isAgg198
 z35:=Tryz.sizeOf198
 v35:=Tryz.zeroValue198
 t36:=Tryz.underlying199
 a36:=Tryz.isAgg199
 z36:=Tryz.sizeOf199
 v36:=Tryz.zeroValue199
 t41:=Tryz.underlying204
 a41:=Tryz.isAgg204
 z41:=Tryz.sizeOf204
 v41:=Tryz.zeroValue204
 t44:=Tryz.underlying207
 a44:=Tryz.isAgg207
 z44:=Tryz.sizeOf207
 v44:=Tryz.zeroValue207
 t46:=Tryz.underlying66
 a46:=Tryz.isAgg66
 z46:=Tryz.sizeOf66
 v46:=Tryz.zeroValue66
 t53:=Tryz.underlying221
 a53:=Tryz.isAgg221
 z53:=Tryz.sizeOf221
 v53:=Tryz.zeroValue221
 t57:=Tryz.underlying224
 a57:=Tryz.isAgg224
 z57:=Tryz.sizeOf224
 v57:=Tryz.zeroValue224
 t63:=Tryz.underlying228
 a63:=Tryz.isAgg228
 z63:=Tryz.sizeOf228
 v63:=Tryz.zeroValue228
 t64:=Tryz.underlying229
 a64:=Tryz.isAgg229
 z64:=Tryz.sizeOf229
 v64:=Tryz.zeroValue229 }
def Tryz.pSort_ren:Go.Shelf.Ren:=⟨fun | 6=>110 | 15=>137 | 14=>139 | 28=>160 | 29=>161 | 20=>162 | 21=>163 | 22=>164 | 23=>165 | 24=>166 | 25=>167 | 26=>168 | 27=>169 | 46=>182 | 47=>178 | 48=>179 | 49=>183 | 50=>184 | 57=>186 | n=>n,fun | 22=>113 | 24=>108 | 25=>112 | 3=>3 | 39=>174 | 0=>0 | 53=>207 | 55=>66 | 4=>4 | 46=>199 | 45=>198 | 50=>204 | 5=>5 | 9=>9 | 66=>221 | 70=>224 | 76=>228 | 77=>229 | n=>n,fun | n=>n⟩
theorem Tryz.pSort:Go.Proofs.SlLaysF0.n6 Tryz.prog Tryz.pSort_ren:={
 mixed:=by kernel_rfl
 f6:=⟨Tryz.f110.name,by decide,Tryz.func110.trans (congrArg some (by kernel_rfl))⟩
 f14:=⟨Tryz.f139.name,by decide,Tryz.func139.trans (congrArg some (by kernel_rfl))⟩
 f15:=Tryz.func137.trans (congrArg some (by kernel_rfl))
 f20:=⟨Tryz.f162.name,by decide,Tryz.func162.trans (congrArg some (by kernel_rfl))⟩
 f21:=⟨Tryz.f163.name,by decide,Tryz.func163.trans (congrArg some (by kernel_rfl))⟩
 f22:=⟨Tryz.f164.name,by decide,Tryz.func164.trans (congrArg some (by kernel_rfl))⟩
 f23:=⟨Tryz.f165.name,by decide,Tryz.func165.trans (congrArg some (by kernel_rfl))⟩
 f24:=⟨Tryz.f166.name,by decide,Tryz.func166.trans (congrArg some (by kernel_rfl))⟩
 f25:=⟨Tryz.f167.name,by decide,Tryz.func167.trans (congrArg some (by kernel_rfl))⟩
 f26:=⟨Tryz.f168.name,by decide,Tryz.func168.trans (congrArg some (by kernel_rfl))⟩
 f27:=⟨Tryz.f169.name,by decide,Tryz.func169.trans (congrArg some (by kernel_rfl))⟩
 f28:=Tryz.func160.trans (congrArg some (by kernel_rfl))
 f29:=Tryz.func161.trans (congrArg some (by kernel_rfl))
 f46:=⟨Tryz.f182.name,by decide,Tryz.func182.trans (congrArg some (by kernel_rfl))⟩
 f47:=Tryz.func178.trans (congrArg some (by kernel_rfl))
 f48:=Tryz.func179.trans (congrArg some (by kernel_rfl))
 f49:=⟨Tryz.f183.name,by decide,Tryz.func183.trans (congrArg some (by kernel_rfl))⟩
 f50:=⟨Tryz.f184.name,by decide,Tryz.func184.trans (congrArg some (by kernel_rfl))⟩
 f57:=⟨Tryz.f186.name,by decide,Tryz.func186.trans (congrArg some (by kernel_rfl))⟩
 t0:=Tryz.underlying0
 a0:=Tryz.isAgg0
 z0:=Tryz.sizeOf0
 v0:=Tryz.zeroValue0
 t3:=Tryz.underlying3
 a3:=Tryz.isAgg3
 z3:=Tryz.sizeOf3
 v3:=Tryz.zeroValue3
 t4:=Tryz.underlying4
 a4:=Tryz.isAgg4
 z4:=Tryz.sizeOf4
 v4:=Tryz.zeroValue4
 t5:=Tryz.underlying5
 a5:=Tryz.isAgg5
 z5:=Tryz.sizeOf5
 v5:=Tryz.zeroValue5
 t9:=Tryz.underlying9
 a9:=Tryz.isAgg9
 z9:=Tryz.sizeOf9
 v9:=Tryz.zeroValue9
 t22:=Tryz.underlying113
 a22:=Tryz.isAgg113
 z22:=Tryz.sizeOf113
 v22:=Tryz.zeroValue113
 t25:=Tryz.underlying112
 a25:=Tryz.isAgg112
 z25:=Tryz.sizeOf112
 v25:=Tryz.zeroValue112
 t39:=Tryz.underlying174
 a39:=Tryz.isAgg174
 z39:=Tryz.sizeOf174
 v39:=Tryz.zeroValue174
 t45:=Tryz.underlying198
 a45:=Tryz.isAgg198
 z45:=Tryz.sizeOf198
 v45:=Tryz.zeroValue198
 t46:=Tryz.underlying199
 a46:=Tryz.isAgg199
 z46:=Tryz.sizeOf199
 v46:=Tryz.zeroValue199
 t50:=Tryz.underlying204
 a50:=Tryz.isAgg204
 z50:=Tryz.sizeOf204
 v50:=Tryz.zeroValue204
 t53:=Tryz.underlying207
 a53:=Tryz.isAgg207
 z53:=Tryz.sizeOf207
 v53:=Tryz.zeroValue207
 t55:=Tryz.underlying66
 a55:=Tryz.isAgg66
 z55:=Tryz.sizeOf66
 v55:=Tryz.zeroValue66
 t66:=Tryz.underlying221
 a66:=Tryz.isAgg221
 z66:=Tryz.sizeOf221
 v66:=Tryz.zeroValue221
 t70:=Tryz.underlying224
 a70:=Tryz.isAgg224
 z70:=Tryz.sizeOf224
 v70:=Tryz.zeroValue224
 t76:=Tryz.underlying228
 a76:=Tryz.isAgg228
 z76:=Tryz.sizeOf228
 v76:=Tryz.zeroValue228
 t77:=Tryz.underlying229
 a77:=Tryz.isAgg229
 z77:=Tryz.sizeOf229
 v77:=Tryz.zeroValue229 }
def Tryz.cmpInt_ren:Go.Shelf.Ren:=⟨fun | 5=>67 | 7=>108 | n=>n,fun | 22=>3 | 3=>3 | 4=>4 | n=>n,fun | n=>n⟩
theorem Tryz.cmpInt:Go.Proofs.SlLaysC2.n5 Tryz.prog Tryz.cmpInt_ren:={
 mixed:=by kernel_rfl
 f5:=⟨Tryz.f67.name,by decide,Tryz.func67.trans (congrArg some (by kernel_rfl))⟩
 f7:=⟨Tryz.f108.name,by decide,Tryz.func108.trans (congrArg some (by kernel_rfl))⟩
 t3:=Tryz.underlying3
 a3:=Tryz.isAgg3
 z3:=Tryz.sizeOf3
 v3:=Tryz.zeroValue3
 t4:=Tryz.underlying4
 a4:=Tryz.isAgg4
 z4:=Tryz.sizeOf4
 v4:=Tryz.zeroValue4
 t22:=Tryz.underlying3
 a22:=Tryz.isAgg3
 z22:=Tryz.sizeOf3
 v22:=Tryz.zeroValue3 }
end Go.Proofs

namespace Go.Proofs
open Go.Shelf Go.RowKit Go.Lib Go.Sort
set_option maxRecDepth 100000
def orI (x y:Int):Int:=if x=0 then y else x
set_option maxHeartbeats 2000000 in
theorem Tryz.or66 (x y:Int) (b:Nat) (w:World) (h0:w.cell? ⟨b,0,none⟩=some (.int .i64 x)) (h1:w.cell? ⟨b,1,none⟩=some (.int .i64 y)) :
  Calls Tryz.prog 66 #[.slice (some ⟨b,0,none⟩) 2 2] w fun e w'=>e=.returned (.int .i64 (orI x y))∧w'=w:=by
 go_enter Tryz.func66,Tryz.ntmps66
 go_wp2
 refine wp_loop_rounds 3 ?_
 rw [rounds_succ]
 go_wp2
 ·rename_i hx
  go_ret
  refine ⟨?_,rfl⟩
  have:¬ x=0:=by simpa using hx
  simp [orI,this]
 ·rename_i hx
  have hx0:x=0:=by simpa using hx
  rw [rounds_succ]
  go_wp2
  ·rename_i hy
   go_ret
   refine ⟨?_,rfl⟩
   simp [orI,hx0]
  ·rename_i hy
   have hy0:y=0:=by simpa using hy
   rw [rounds_succ]
   go_wp2
   go_ret
   refine ⟨?_,rfl⟩
   simp [orI,hx0,hy0]
set_option maxHeartbeats 2000000 in
theorem Tryz.closure65 (x y:Int×Int) (W:World):Calls Tryz.prog 65 #[.agg #[.int .i64 x.1,.int .i64 x.2],.agg #[.int .i64 y.1,.int .i64 y.2]] W fun e w'=>e=.returned (.int .i64 (orI (Lib.compareInt x.1 y.1) (Lib.compareInt x.2 y.2)))∧∃ q os',w'=grow (W.drewN q) os':=by
 have hcon1:=fun W'=>AnyG.cmp_Compare_int Tryz.cmpInt x.1 y.1 W'
 change ∀ W',Calls Tryz.prog 67 _ _ _ at hcon1
 have hcon2:=fun W'=>AnyG.cmp_Compare_int Tryz.cmpInt x.2 y.2 W'
 change ∀ W',Calls Tryz.prog 67 _ _ _ at hcon2
 generalize Lib.compareInt x.1 y.1=r1 at hcon1 ⊢
 generalize Lib.compareInt x.2 y.2=r2 at hcon2 ⊢
 go_enter Tryz.func65,Tryz.ntmps65
 go_wp2_with fail
 have hs:W.heap.size<(W.alloc (.cells #[.int .i64 x.1,.int .i64 x.2] 108)).heap.size:=by simp
 generalize hW:(W.alloc (.cells #[.int .i64 x.1,.int .i64 x.2] 108)).alloc (.cells #[.int .i64 y.1,.int .i64 y.2] 108)=W2
 have c0:W2.cell? ⟨W.heap.size,0,none⟩=some (.int .i64 x.1):=by rw [← hW];simp
 have c1:W2.cell? ⟨W.heap.size,1,none⟩=some (.int .i64 x.2):=by rw [← hW];simp
 have c2:W2.cell? ⟨W.heap.size+1,0,none⟩=some (.int .i64 y.1):=by rw [← hW];simp
 have c3:W2.cell? ⟨W.heap.size+1,1,none⟩=some (.int .i64 y.2):=by rw [← hW];simp
 refine wp_region_still_tail 10 Tryz.mSort.mixed (by kernel_rfl) ?_
 simp only [List.take_succ_cons,List.take_zero,List.drop_succ_cons,List.drop_zero]
 have hD:({ W2 with drawn:=W2.drawn+1 }:World)=W2.drew:=rfl
 rw [hD]
 have d0:W2.drew.cell? ⟨W.heap.size,0,none⟩=some (.int .i64 x.1):=c0
 have d1:W2.drew.cell? ⟨W.heap.size,1,none⟩=some (.int .i64 x.2):=c1
 have d2:W2.drew.cell? ⟨W.heap.size+1,0,none⟩=some (.int .i64 y.1):=c2
 have d3:W2.drew.cell? ⟨W.heap.size+1,1,none⟩=some (.int .i64 y.2):=c3
 still_step
 still_step
 still_step
 still_step
 still_call (hcon1 _)
 still_step
 still_step
 still_step
 still_step
 still_call (hcon2 _)
 refine wpStill_nil ?_
 have hfin:∃ os0,W2.drew=grow (W.drewN 1) os0:=⟨_,by rw [← hW,alloc_eq_grow,alloc_eq_grow,grow_grow];rfl⟩
 clear hD d0 d1 d2 d3 c0 c1 c2 c3
 generalize W2.drew=W3 at hfin ⊢
 go_wp2_with (go_at_call 66;refine (Tryz.or66 r1 r2 W3.heap.size _ (by simp) (by simp)).mono ?_;rintro e w' ⟨rfl,rfl⟩)
 go_ret
 obtain ⟨os0,hos⟩:=hfin
 exact ⟨rfl,1,_,by rw [hos,alloc_eq_grow,grow_grow]⟩
end Go.Proofs

namespace Go.Dk
open Go Go.Dr Go.RowKit
set_option maxRecDepth 100000
theorem v0b {α:Type} [Inhabited α] (e:α→Value) {w:World} {b o:Nat} {l:List α} (h:Sort.Holds id w b o (l.map e).toArray):Sort.Holds e w b o l.toArray:=by
 intro j hj
 have hj':j<l.length:=by simpa using hj
 obtain ⟨h1,h2⟩:=h j (by simpa using hj)
 refine ⟨?_,h2⟩
 rw [h1]
 simp [getElem!_def,hj']
theorem s06 {α:Type} [Inhabited α] (e:α→Value) (w:World) (b o:Nat) (l:List α):Sort.putRow e w b o l.toArray=Sort.putRow id w b o (l.map e).toArray:=by
 unfold Sort.putRow
 congr 1
 funext c
 unfold Sort.putCells
 congr 1
 funext k x
 by_cases hk:o≤k∧k<o+l.length
 ·have h1:o≤k∧k<o+l.toArray.size:=by simpa using hk
  have h2:o≤k∧k<o+(l.map e).toArray.size:=by simpa using hk
  rw [if_pos h1,if_pos h2]
  have h3:k - o<l.length:=by omega
  simp [getElem!_def,h3]
 ·have h1:¬ (o≤k∧k<o+l.toArray.size):=by simpa using hk
  have h2:¬ (o≤k∧k<o+(l.map e).toArray.size):=by simpa using hk
  rw [if_neg h1,if_neg h2]
theorem z0L (ss:List Txt):(tx ss).map cv=ss.map Go.Proofs.encStr:=by
 unfold tx
 rw [List.map_map]
 rfl
theorem y0E:Go.Proofs.Tryz.f106.body.isSome=true:=by kernel_rfl
theorem y0F:Go.Proofs.Tryz.f110.body.isSome=true:=by kernel_rfl
theorem A0g:Go.Proofs.Tryz.f65.body.isSome=true:=by kernel_rfl
theorem h01:P.funcs.all (fun f=>f.name != "runtime.NumGoroutine")=true:=by kernel_rfl
theorem y0G:RowSortIs P B7 1 [] y0j where
 some:=by
  rintro A A' len blk off cap rest' φ w ⟨ss,rfl,rfl⟩ hr hl hb hH hblk
  cases hr
  have hsl:ss.length=len:=by simpa [tx] using hl
  subst hsl
  rw [z0L] at hH
  have:=Go.Proofs.AnyM.slices_Sort_string Go.Proofs.Tryz.mSort blk off cap ss w (v0b _ hH) hblk hb
  refine this.mono ?_
  rintro e w' ⟨rfl,n,os,rfl⟩
  refine ⟨rfl,n,os,?_⟩
  rw [s06,z0L]
  rfl
 none:=by
  intro p cap rest' φ w hr
  cases hr
  exact Go.Proofs.AnyM.slices_Sort_string_none Go.Proofs.Tryz.mSort p cap w
 enter:=fun _ w=>d0c (m0m h01) Go.Proofs.Tryz.func106 y0E w
 len:=by rintro A A' ⟨ss,rfl,rfl⟩;simp [tx,f08]
 isC:=by
  rintro A A' ⟨ss,rfl,rfl⟩
  refine ⟨fun a ha=>?_,fun a ha=>?_⟩ <;> (obtain ⟨s,_,rfl⟩:=List.mem_map.1 ha;rfl)
theorem w0M (blk off size:Nat) (w:World):Go.Proofs.CmpLays P B3 #[] (n0u .i64 .i64) 2 cfP blk off size w:=fun _ _ _ _ x y=>Go.Proofs.Tryz.closure65 x y _
theorem w0N:RowSortIs P s6 2 [.func (.func B3) [] []] (p0u .i64 .i64 cfP):=by
 refine w0g y0w ?_ ?_ ?_
 ·intro blk off cap d w hH hblk hsz
  exact Go.Proofs.AnyQ.slices_SortFunc Go.Proofs.Tryz.pSort 2 Go.Proofs.Tryz.isAgg108 Go.Proofs.Tryz.sizeOf108 (n0u .i64 .i64) (fun _=>rfl) (fun x v hv=>by simp [n0u] at hv;rcases hv with rfl | rfl <;> rfl) cfP y0w B3 #[] blk off cap d w
   (fun _ w=>d0c (m0m h01) Go.Proofs.Tryz.func65 A0g w) (w0M blk off d.size w) hH hblk hsz
 ·intro p cap w
  exact Go.Proofs.AnyF.slices_SortFunc_none { Go.Proofs.Tryz.pSort with } p cap _ w
 ·exact fun _ w=>d0c (m0m h01) Go.Proofs.Tryz.func110 y0F w
theorem z0M (B:Nat) (w0:World):g0u P B w0 S0:=by
 intro f g hs args h v h' he φ w args' ha hG hR
 unfold S0 at hs
 split at hs
 ·rename_i e;subst e;cases hs
  exact u0O y0G (by omega) he ha hR
 ·split at hs
  ·rename_i e;subst e;cases hs
   exact u0O w0N (by omega) he ha hR
  ·cases hs
theorem B0L:m0l (D0 P (fun _=>none) 100000 1000 (.fn e0h) [] ⟨P.globals.size,.leaf⟩)=true:=by kernel_rfl
theorem B0M:m0l (D0 P (fun _=>none) 100000 1000 (.fn O7) [] ⟨P.globals.size,.leaf⟩)=true:=by kernel_rfl
theorem B0N (B:Nat) (w0:World):g0u P B w0 SI:=by
 intro f g hs args h v h' he φ w args' ha hG hR
 unfold SI at hs
 split at hs
 ·rename_i e;subst e;cases hs
  exact u0R Go.Proofs.Tryz.mSort.mixed (m0m h01) (z0M B w0) he ha hG hR
 ·split at hs
  ·rename_i e;subst e;cases hs
   exact u0R Go.Proofs.Tryz.mSort.mixed (m0m h01) (z0M B w0) he ha hG hR
  ·split at hs
   ·exact o08 Go.Proofs.Tryz.mSort.mixed h01 B0M B w0 f g hs args h v h' he φ w args' ha hG hR
   ·exact o08 Go.Proofs.Tryz.mSort.mixed h01 B0L B w0 f g hs args h v h' he φ w args' ha hG hR
end Go.Dk

namespace Go.Proofs.YtkbddcapcjdenaaGreatDoor
open Go Go.Dr Go.RowKit Go.ChangeShapes Go.WideShapes Go.ChangeAt Go.Lib
set_option maxRecDepth 100000
theorem B0Z:ownKnob Tryz.prog.godebug=none:=by kernel_rfl
theorem o0X:laidOutB Tryz.prog=true:=by kernel_rfl
theorem B00:Tryz.prog.funcs.all (fun f=>f.name != "runtime.NumGoroutine")=true:=by kernel_rfl
def A0n (k:IntKind) (l:List Int):Array Value:=(l.map fun z=>Value.int k z).toArray
noncomputable def g0k (os:Os):World :=
 let w0:=World.holding Tryz.prog os ⟨#[],#[],[]⟩
 let put (h:Array Obj) (g:Nat) (cs:Array Value):Array Obj:=h.modify g fun
  | .cells _ t frozen=>.cells cs t frozen
  | o=>o
 let h:=w0.heap
 let h:=put h 0 (A0n .u8 [0,1,56,2,57,49,28,3,61,58,42,50,38,29,17,4,62,47,59,36,45,43,51,22,53,39,33,30,24,18,12,5,63,55,48,27,60,41,37,16,46,35,44,21,52,32,23,11,54,26,40,15,34,20,31,10,25,14,19,9,13,8,7,6])
 { w0 with heap:=h }
theorem v0E (os:Os) (args:Array Value):LaidIn Tryz.prog ((g0k os).forCall (fun _ _=>0) ⟨#[],args,[]⟩).memory (Rows.blockMakesRow.laid.filter fun x=>x.2.handleName?.isNone) [0] :=
 LaidIn.of_run _ 8 (by kernel_rfl) (by kernel_rfl) (by kernel_rfl) (by kernel_rfl)
theorem v0F (os:Os) (args:Array Value):laidMetH Tryz.prog Rows.blockMakesRow.laid ((g0k os).forCall (fun _ _=>0) ⟨#[],args,[]⟩).memory :=
 laidMetH_of_parts (v0E os args).met (by kernel_rfl)
end Go.Proofs.YtkbddcapcjdenaaGreatDoor

namespace Go.Dr
open Go.RowKit
variable {P:Program} {H:Type} {enc:TypeId×Value→H} {W:World} {base:Nat} {sp:Nat→Bool} {held:Bool}
theorem g0l {P:Program} {e:TypeId} {d:DataW H}:∀ {l:List (DataW H)},d ∈ l→∀ n ∈ d.weights P e,n ∈ DataW.weightsAll P e l
 | x::l,hm,n,hn=>by
  simp only [DataW.weightsAll,List.mem_append]
  rcases List.mem_cons.1 hm with rfl | hm
  ·exact .inl hn
  ·exact .inr (g0l hm n hn)
inductive TyZ (P:Program) (h:AH):TypeId→List AV→Prop
 | bool {t:TypeId} (ht:P.underlying t=some .bool) (b:Bool):TyZ P h t [.bool b]
 | int {t:TypeId} {k:IntKind} {n:Int} (ht:P.underlying t=some (.int k)) (hn:(Lit.int k n).wf=true):TyZ P h t [.int k n]
 | str {t:TypeId} {s:List UInt8} (ht:P.underlying t=some .string) (hs:s.length≤reachBytes):TyZ P h t [.str s]
 | nils {t e:TypeId} (ht:P.underlying t=some (.slice e)):TyZ P h t [.nils]
 | slice {t e:TypeId} {id len cap:Nat} {vs:List AV} (ht:P.underlying t=some (.slice e)) (hi:id<h.next) (hg:h.get id=some (.cells vs true)) (hv:vs.length=len*P.cellsOf e)
   (hl:len≤cap) (hc:cap*P.bytesOf e≤reachBytes) (hel:∀ i,i<len→TyZ P h e ((vs.drop (i*P.cellsOf e)).take (P.cellsOf e))):TyZ P h t [.slice id 0 len cap true (P.cellsOf e)]
 | struct {t:TypeId} {fs:Array Field} {cs:List AV} (ht:P.underlying t=some (.struct fs)) (hl:cs.length=P.cellsOf t)
   (hf:∀ f ∈ fs.toList,TyZ P h f.type ((cs.drop f.offset).take (P.cellsOf f.type))):TyZ P h t cs
theorem TyZ.fr {h h':AH} (f:Fr h h'):∀ {t:TypeId} {cs:List AV},TyZ P h t cs→TyZ P h' t cs:=by
 intro t cs s
 induction s with
 | bool ht b=>exact .bool ht b
 | int ht hn=>exact .int ht hn
 | str ht hs=>exact .str ht hs
 | nils ht=>exact .nils ht
 | slice ht hi hg hv hl hc _ ih=>exact .slice ht (Nat.lt_of_lt_of_le hi f.next) (by rw [f.get _ hi];exact hg) hv hl hc ih
 | struct ht hl _ ih=>exact .struct ht hl ih
theorem k0W {B:Nat} {w0:World} (L:TypeId→List Value→Prop)
  (hL:∀ t cs,L t cs→∀ φ h,Rel B w0 φ h W→RO φ h→∃ φ' h' l,ConL φ' l cs∧Rel B w0 φ' h' W∧RO φ' h'∧φ.le φ'∧Fr h h'∧TyZ P h' t l) (cs:List Value) :
  ∀ (fs:List Field) (acc:Nat),d07 P fs acc cs.length=true→(∀ f ∈ fs,L f.type ((cs.drop f.offset).take (P.cellsOf f.type)))→∀ φ h,Rel B w0 φ h W→RO φ h →
  ∃ φ' h' l,ConL φ' l (cs.drop acc)∧Rel B w0 φ' h' W∧RO φ' h'∧φ.le φ'∧Fr h h'∧(∀ f ∈ fs,acc≤f.offset∧TyZ P h' f.type ((l.drop (f.offset - acc)).take (P.cellsOf f.type)))
 | [],acc,ht,_,φ,h,hR,hro=>by
  have:acc=cs.length:=Nat.eq_of_beq_eq_true ht
  subst this
  exact ⟨φ,h,[],by rw [List.drop_length];exact .nil,hR,hro,.refl _,.refl _,fun f hf=>by cases hf⟩
 | f::fs,acc,ht,hf,φ,h,hR,hro=>by
  simp only [d07,Bool.and_eq_true] at ht
  have ho:f.offset=acc:=Nat.eq_of_beq_eq_true ht.1
  obtain ⟨φ1,h1,l1,c1,R1,ro1,le1,f1,t1⟩:=hL _ _ (hf f (by simp)) φ h hR hro
  obtain ⟨φ2,h2,l2,c2,R2,ro2,le2,f2,t2⟩:=k0W L hL cs fs (acc+P.cellsOf f.type) ht.2 (fun g hg=>hf g (List.mem_cons_of_mem _ hg)) φ1 h1 R1 ro1
  have hle:acc+P.cellsOf f.type≤cs.length:=by
   have:∀ (fs:List Field) (a:Nat),d07 P fs a cs.length=true→a≤cs.length:=by
    intro fs
    induction fs with
    | nil=>intro a h;exact Nat.le_of_eq (Nat.eq_of_beq_eq_true h)
    | cons g gs ih =>
     intro a h
     simp only [d07,Bool.and_eq_true] at h
     have:=ih _ h.2
     omega
   exact this _ _ ht.2
  rw [ho] at c1
  have hlen:l1.length=P.cellsOf f.type:=by rw [c1.length,List.length_take,List.length_drop];omega
  refine ⟨φ2,h2,l1++l2,?_,R2,ro2,le1.trans le2,f1.trans f2,fun g hg=>?_⟩
  ·have:=(c1.mono le2).append c2
   rw [← List.drop_drop,List.take_append_drop] at this
   exact this
  ·rcases List.mem_cons.1 hg with rfl | hg
   ·refine ⟨by omega,?_⟩
    rw [ho,Nat.sub_self,List.drop_zero,List.take_append_of_le_length (by omega),List.take_of_length_le (by omega)]
    exact t1.fr f2
   ·obtain ⟨h3,h4⟩:=t2 g hg
    refine ⟨by omega,?_⟩
    rw [show g.offset - acc=l1.length+(g.offset - (acc+P.cellsOf f.type)) from by omega,← List.drop_drop,List.drop_left]
    exact h4
theorem i0b {B:Nat} {w0:World} :
  ∀ (d fuel:Nat) (t:TypeId) (cs:List Value) (x:DataW H×List MemPlace),a0b P d t=true→DataW.trod enc P W base (fun _=>true) held fuel t cs=some x→(∀ n ∈ x.1.weights P t,n≤reachBytes)→l0R W cs →
  ∀ φ h,Rel B w0 φ h W→RO φ h→∃ φ' h' l,ConL φ' l cs∧Rel B w0 φ' h' W∧RO φ' h'∧φ.le φ'∧Fr h h'∧TyZ P h' t l
 | 0,fuel,t,cs,x,hp,_,_,_,_,_,_,_=>by cases hp
 | d+1,fuel,t,cs,x,hp,h,hw0,hz,φ,g,hR,hro=>by
  unfold a0b at hp
  cases ht:P.underlying t with
  | none=>rw [ht] at hp;cases hp
  | some td =>
   rw [ht] at hp
   cases td with
   | bool =>
    obtain ⟨b,rfl,_⟩:=DataW.trod_bool ht h
    exact ⟨φ,g,_,.cons (.bool b) .nil,hR,hro,.refl _,.refl _,.bool ht b⟩
   | int k =>
    obtain ⟨n,rfl,_,hw⟩:=DataW.trod_int ht h
    exact ⟨φ,g,_,.cons (.int k n) .nil,hR,hro,.refl _,.refl _,.int ht hw⟩
   | string =>
    obtain ⟨⟨⟨s⟩⟩,rfl,rfl,_⟩:=DataW.trod_string ht h
    have hs:s.length≤reachBytes:=hw0 _ (by simp [DataW.weights])
    exact ⟨φ,g,_,.cons (.str s) .nil,hR,hro,.refl _,.refl _,.str ht hs⟩
   | struct fs =>
    simp only [Bool.and_eq_true,List.all_eq_true] at hp
    obtain ⟨hp1,hp2⟩:=hp
    obtain ⟨xs,n,_,hx,hl,hlen,hf⟩:=DataW.trod_struct ht h
    subst hx
    simp only [DataW.weights,ht] at hw0
    obtain ⟨φ1,h1,l1,c1,R1,ro1,le1,f1,t1⟩:=k0W (L:=fun t cs=>∃ n x,a0b P d t=true∧DataW.trod enc P W base (fun _=>true) held n t cs=some x∧(∀ n ∈ x.1.weights P t,n≤reachBytes)∧l0R W cs)
     (fun t cs ⟨n,x,h1,h2,h3,h4⟩=>i0b d n t cs x h1 h2 h3 h4) cs fs.toList 0 (by rw [hl];exact hp1) (fun f hfm=>by
      obtain ⟨i,hi⟩:=List.mem_iff_getElem?.1 hfm
      rw [Array.getElem?_toList] at hi
      have hlt:i<xs.length:=by rw [hlen];exact (Array.getElem?_eq_some_iff.1 hi).1
      exact ⟨n,xs[i],hp2 f hfm,by rw [hf i f hi];exact List.getElem?_eq_getElem hlt,fun m hm=>hw0 m (DataW.weights_mem_each (j:=i) (by rw [List.getElem?_map,Array.getElem?_toList,hi];rfl) (by rw [List.getElem?_map,List.getElem?_eq_getElem hlt];rfl) m hm),fun a len hm=>hz a len (List.mem_of_mem_drop (List.mem_of_mem_take hm))⟩) φ g hR hro
    exact ⟨φ1,h1,l1,c1,R1,ro1,le1,f1,.struct ht (by rw [c1.length,List.drop_zero,hl]) fun f hf=>by have:=(t1 f hf).2;rwa [Nat.sub_zero] at this⟩
   | slice e =>
    simp only [Bool.and_eq_true] at hp
    obtain ⟨hp1,hp2⟩:=hp
    have hk:0<P.cellsOf e:=Nat.le_of_ble_eq_true hp1
    rcases DataW.trod_slice ht h with ⟨rfl,_⟩ | ⟨a,len,cap,elems,rest,n,_,rfl,hx,hb,hlc,_,hel,he1,he2,_⟩
    ·exact ⟨φ,g,_,.cons .nils .nil,hR,hro,.refl _,.refl _,.nils ht⟩
    ·obtain ⟨hrl,hr⟩:=he2 rfl
     subst hx
     simp only [DataW.weights,ht,List.length_map,List.mem_cons,List.mem_append] at hw0
     have hcm:cap*P.bytesOf e≤reachBytes:=by
      have:=hw0 _ (.inl rfl)
      rwa [hel,hrl,show len+(cap - len)=cap from by omega] at this
     have each:∀ i,i<cap→∃ cs y,W.cells? base (a.add (i*P.cellsOf e)) (P.cellsOf e)=some cs∧DataW.trod enc P W base (fun _=>true) held n e cs=some y∧∀ n ∈ y.1.weights P e,n≤reachBytes:=by
      intro i hi
      have:∃ y,(W.cells? base (a.add (i*P.cellsOf e)) (P.cellsOf e)).bind (DataW.trod enc P W base (fun _=>true) held n e)=some y∧∀ n ∈ y.1.weights P e,n≤reachBytes:=by
       by_cases hil:i<len
       ·exact ⟨elems[i],by rw [he1 i hil];exact List.getElem?_eq_getElem (by omega),fun m hm=>hw0 m (.inr (.inl (g0l (List.mem_map_of_mem (List.getElem_mem _)) m hm)))⟩
       ·have hj:i - len<cap - len:=by omega
        refine ⟨rest[i - len],?_,fun m hm=>hw0 m (.inr (.inr (g0l (List.mem_map_of_mem (List.getElem_mem _)) m hm)))⟩
        have:=hr (i - len) hj
        rw [show len+(i - len)=i from by omega] at this
        rw [this];exact List.getElem?_eq_getElem (by omega)
      obtain ⟨y,hy,hwy⟩:=this
      obtain ⟨cs,h1,h2⟩:=Option.bind_eq_some_iff.1 hy
      exact ⟨cs,y,h1,h2,hwy⟩
     have hblk:∃ (b:Nat) (c:Array Value) (e:TypeId) (f:Nat×Nat),W.heap[b]? = some (.cells c e f):=by
      by_cases hc0:cap=0
      ·subst hc0;exact hz a len (by simp)
      ·obtain ⟨cs,y,q1,_⟩:=each 0 (by omega)
       obtain ⟨q2,q3⟩:=V2 q1
       have:=q3 0 hk
       rw [List.getElem?_eq_getElem (by omega)] at this
       obtain ⟨_,c,et,f,hbk,_⟩:=g05 this
       exact ⟨_,c,et,f,hbk⟩
     have hcs:∃ css:List (List Value),css.length=len∧∀ i c,css[i]? = some c→W.cells? base (a.add (i*P.cellsOf e)) (P.cellsOf e)=some c∧∃ y,DataW.trod enc P W base (fun _=>true) held n e c=some y∧∀ n ∈ y.1.weights P e,n≤reachBytes:=by
      refine ⟨(List.range len).map fun i=>(W.cells? base (a.add (i*P.cellsOf e)) (P.cellsOf e)).getD [],by simp,fun i c hi=>?_⟩
      have hil:i<len:=by have:=(List.getElem?_eq_some_iff.1 hi).1;simpa using this
      obtain ⟨cs,y,h1,h2,h3⟩:=each i (by omega)
      simp only [List.getElem?_map,List.getElem?_range hil,Option.map_some,Option.some.injEq,h1,Option.getD_some] at hi
      subst hi
      exact ⟨h1,y,h2,h3⟩
     obtain ⟨css,hcl,hcs⟩:=hcs
     obtain ⟨φ1,h1,ls,R1,ro1,le1,f1,hll,hls⟩:=l03 (B:=B) (w0:=w0) (w:=W) (fun (h:AH) (_:Unit) l=>TyZ P h e l) (fun h h' _ l f t=>t.fr f) (css.map fun c=>((),c)) (fun x hx φ h hR hro=>by
      obtain ⟨c,hc,rfl⟩:=List.mem_map.1 hx
      obtain ⟨i,hi⟩:=List.mem_iff_getElem?.1 hc
      obtain ⟨_,y,hy,hwy⟩:=hcs i c hi
      exact i0b d n e c y hp2 hy hwy (fun _ _ _=>hblk) φ h hR hro) φ g hR hro
     rw [List.length_map,hcl] at hll
     have hlens:∀ l ∈ ls,l.length=P.cellsOf e:=by
      intro l hl
      obtain ⟨i,hi⟩:=List.mem_iff_getElem?.1 hl
      have hil:i<css.length:=by rw [hcl,← hll];exact (List.getElem?_eq_some_iff.1 hi).1
      obtain ⟨l',h1,h2,_⟩:=hls i ((),css[i]) (by simp [hil])
      rw [hi] at h1
      cases h1
      rw [h2.length]
      exact (V2 (hcs i _ (List.getElem?_eq_getElem hil)).1).1
     obtain ⟨hfl,hfg⟩:=i0O ls (P.cellsOf e) hlens
     by_cases hc0:cap=0
     ·
      obtain ⟨b,c,et,f,hbk⟩:=hblk
      have hl0:len=0:=by omega
      have hv0:ls.flatten=[]:=List.length_eq_zero_iff.1 (by rw [hfl,hll,hl0,Nat.zero_mul])
      obtain ⟨R2,ro2,le2⟩:=p0U R1 ro1 (p:=⟨b,0,0⟩) (vs:=[]) hbk (Nat.le_refl _) (Nat.zero_le _) (fun i x hx=>by simp at hx)
      refine ⟨_,_,[.slice h1.next 0 len cap true (P.cellsOf e)],.cons (.slice (Phi.set_same _ _ _) (fun _=>rfl) (Nat.le_refl _) hlc (.inl hc0)) .nil,R2,ro2,le1.trans le2,f1.push _,?_⟩
      exact .slice ht (by simp) (b8 _) (by rw [hl0,Nat.zero_mul];rfl) hlc hcm fun i hi=>by omega
     ·have hcp:0<cap:=by omega
      have hk0:∀ i j,i<cap→j<P.cellsOf e→∃ v,W.cell? ((a.add (i*P.cellsOf e)).add j)=some v:=by
       intro i j hi hj
       obtain ⟨cs,y,q1,_⟩:=each i hi
       obtain ⟨q2,q3⟩:=V2 q1
       exact ⟨cs[j]'(by omega),by rw [q3 j hj];exact List.getElem?_eq_getElem (by omega)⟩
      obtain ⟨v0,hv0⟩:=hk0 0 0 hcp hk
      have ha0:(a.add (0*P.cellsOf e)).add 0=a:=by simp [Addr.add]
      rw [ha0] at hv0
      obtain ⟨hsp,c,et,f,hbk,_⟩:=g05 hv0
      have hat:∀ i j,(a.add (i*P.cellsOf e)).add j=⟨a.block,a.off+(i*P.cellsOf e+j),none⟩:=by
       intro i j
       rw [add_none hsp,Addr.add_none,Nat.add_assoc]
      have hcell:∀ o,W.cell? ⟨a.block,o,none⟩=c[o]?:=fun o=>e0U hbk
      have hsz:a.off+cap*P.cellsOf e≤c.size:=by
       obtain ⟨v,hv⟩:=hk0 (cap - 1) (P.cellsOf e - 1) (by omega) (by omega)
       rw [hat,hcell] at hv
       have:=(Array.getElem?_eq_some_iff.1 hv).1
       have e1:(cap - 1)*P.cellsOf e+P.cellsOf e=cap*P.cellsOf e:=by
        rw [← Nat.succ_mul,show (cap - 1).succ=cap from by omega]
       omega
      have hle:len*P.cellsOf e≤cap*P.cellsOf e:=Nat.mul_le_mul_right _ hlc
      obtain ⟨R2,ro2,le2⟩:=p0U R1 ro1 (p:=⟨a.block,a.off,cap*P.cellsOf e⟩) (vs:=ls.flatten) hbk (by rw [hfl,hll];exact hle) hsz (fun i x hx=>by
       have hi:i<len*P.cellsOf e:=by rw [← hll,← hfl];exact (List.getElem?_eq_some_iff.1 hx).1
       have hdiv:i/P.cellsOf e<len:=(Nat.div_lt_iff_lt_mul hk).2 hi
       have hmod:i%P.cellsOf e<P.cellsOf e:=Nat.mod_lt _ hk
       have hdm:i/P.cellsOf e*P.cellsOf e+i%P.cellsOf e=i:=by rw [Nat.mul_comm];exact Nat.div_add_mod _ _
       obtain ⟨l,q1,q2⟩:=o0M ls (P.cellsOf e) hlens (i/P.cellsOf e) (i%P.cellsOf e) (by omega) hmod
       rw [hdm,hx] at q2
       have hcs':(css.map fun c=>((),c))[i/P.cellsOf e]? = some ((),css[i/P.cellsOf e]'(by omega)):=by simp [hcl,hdiv]
       obtain ⟨l',q3,q4,_⟩:=hls _ _ hcs'
       rw [q1] at q3
       cases q3
       obtain ⟨y,q5,q6⟩:=q4.get _ _ q2.symm
       refine ⟨y,?_,q6⟩
       obtain ⟨_,q7⟩:=V2 (hcs _ _ (List.getElem?_eq_getElem (by omega:i/P.cellsOf e<css.length))).1
       have q8:=q7 _ hmod
       rw [hat,hcell,hdm] at q8
       rw [q8]
       exact q5)
      refine ⟨_,_,[.slice h1.next 0 len cap true (P.cellsOf e)],.cons (.slice (p:=⟨a.block,a.off,cap*P.cellsOf e⟩) (Phi.set_same _ _ _) (fun _=>rfl) (Nat.le_refl _) hlc (.inr ⟨Nat.le_of_eq (Nat.zero_add _),?_⟩)) .nil,R2,ro2,le1.trans le2,f1.push _,?_⟩
      ·obtain ⟨b,o,s⟩:=a
       cases hsp
       rfl
      ·refine .slice ht (by simp) (b8 _) (by rw [hfl,hll]) hlc hcm fun i hi=>?_
       have hil:i<css.length:=by omega
       obtain ⟨l,q1,_,q3⟩:=hls i ((),css[i]) (by simp [hil])
       rw [hfg i l q1]
       exact q3.fr ((Fr.refl _).push _)
   | _=>cases hp
theorem t0v {B:Nat} {w0:World} {b0:Nat} {d:Nat} {t e:TypeId} {v:Value} {dd:DataW H} {ps:List MemPlace} (ht:P.underlying t=some (.slice e)) (hp:a0b P d t=true)
  (hval:Value.okWide P W .any b0 t v) (hd:DataW.Trod enc P W base (fun _=>true) held t v dd ps) (hw:∀ n ∈ dd.weights P t,n≤reachBytes) {φ:Phi} {h:AH} (hR:Rel B w0 φ h W) (hro:RO φ h) :
  ∃ φ' h' a,Con φ' a v∧Rel B w0 φ' h' W∧RO φ' h'∧φ.le φ'∧Fr h h'∧TyZ P h' t [a]:=by
 have hc:Cell.okWide P W .any b0 t v:=by
  unfold Value.okWide at hval
  rw [ht] at hval
  exact hval
 have hs:=n08 hc
 have hcells:v.cells.toList=[v]:=by cases v <;> first | rfl | cases hs
 obtain ⟨fuel,hd⟩:=hd
 rw [hcells] at hd
 obtain ⟨φ',h',l,c1,R1,ro1,le1,f1,t1⟩:=i0b d fuel t [v] _ hp hd hw (fun a len hm=>by
  simp only [List.mem_singleton] at hm
  rw [← hm] at hc
  exact l05 hc) φ h hR hro
 cases c1 with
 | cons c1 c2 =>
  cases c2
  exact ⟨φ',h',_,c1,R1,ro1,le1,f1,t1⟩
variable {h:AH}
theorem TyZ.int_inv {t:TypeId} {k:IntKind} {l:List AV} (ht:P.underlying t=some (.int k)) (s:TyZ P h t l):∃ n,l=[.int k n]∧(Lit.int k n).wf=true:=by
 cases s with
 | int ht' hn=>rw [ht] at ht';cases ht';exact ⟨_,rfl,hn⟩
 | bool ht'=>rw [ht] at ht';cases ht'
 | str ht'=>rw [ht] at ht';cases ht'
 | nils ht'=>rw [ht] at ht';cases ht'
 | slice ht'=>rw [ht] at ht';cases ht'
 | struct ht'=>rw [ht] at ht';cases ht'
theorem TyZ.str_inv {t:TypeId} {l:List AV} (ht:P.underlying t=some .string) (s:TyZ P h t l):∃ x,l=[.str x]∧x.length≤reachBytes:=by
 cases s with
 | str ht' hs=>exact ⟨_,rfl,hs⟩
 | int ht'=>rw [ht] at ht';cases ht'
 | bool ht'=>rw [ht] at ht';cases ht'
 | nils ht'=>rw [ht] at ht';cases ht'
 | slice ht'=>rw [ht] at ht';cases ht'
 | struct ht'=>rw [ht] at ht';cases ht'
theorem TyZ.slice_inv {t e:TypeId} {k:Nat} {l:List AV} (ht:P.underlying t=some (.slice e)) (hb:0<P.bytesOf e) (hk:P.cellsOf e=k) (s:TyZ P h t l) :
  ∃ v n vs,l=[v]∧n≤reachBytes∧Sl h k n v vs∧∀ i,i<n→TyZ P h e ((vs.drop (i*k)).take k):=by
 subst hk
 cases s with
 | nils ht'=>exact ⟨_,0,[],rfl,Nat.zero_le _,Sl.nil _,fun i hi=>absurd hi (by omega)⟩
 | @slice _ e' id len cap vs ht' hi hg hv hl hc hel =>
  rw [ht] at ht'
  cases ht'
  exact ⟨_,len,vs,rfl,Nat.le_trans (Nat.le_trans hl (Nat.le_mul_of_pos_right _ hb)) hc,⟨hv,.inr ⟨id,0,cap,true,vs,true,rfl,hi,hl,hg,by omega,by rw [List.drop_zero,List.take_of_length_le (by omega)]⟩⟩,hel⟩
 | int ht'=>rw [ht] at ht';cases ht'
 | bool ht'=>rw [ht] at ht';cases ht'
 | str ht'=>rw [ht] at ht';cases ht'
 | struct ht'=>rw [ht] at ht';cases ht'
theorem TyZ.struct_inv {t:TypeId} {l:List AV} {ts:List (TypeId×Nat)} (ht:b0M P t=ts) (hne:ts≠[]) (s:TyZ P h t l) :
  l.length=P.cellsOf t∧∀ u o,(u,o) ∈ ts→TyZ P h u ((l.drop o).take (P.cellsOf u)):=by
 subst ht
 unfold b0M at hne ⊢
 cases s with
 | struct ht' hl hf =>
  rw [ht']
  refine ⟨hl,fun u o hm=>?_⟩
  simp only [List.mem_map,Prod.mk.injEq] at hm
  obtain ⟨f,hf',rfl,rfl⟩:=hm
  exact hf f hf'
 | int ht'=>rw [ht'] at hne;exact absurd rfl hne
 | bool ht'=>rw [ht'] at hne;exact absurd rfl hne
 | str ht'=>rw [ht'] at hne;exact absurd rfl hne
 | nils ht'=>rw [ht'] at hne;exact absurd rfl hne
 | slice ht'=>rw [ht'] at hne;exact absurd rfl hne
end Go.Dr

namespace Go.Proofs.YtkbddcapcjdenaaGreatDoor
open Go Go.Dr Go.Dk Go.RowKit Go.ChangeShapes Go.WideShapes Go.ChangeAt Go.Lib
set_option maxRecDepth 100000
theorem z0S:reachBytes<2 ^ 62:=by decide
theorem v0k:0<Tryz.prog.bytesOf 71:=of_decide_eq_true (by kernel_rfl)
theorem v0l:0<Tryz.prog.bytesOf 65:=of_decide_eq_true (by kernel_rfl)
theorem v0m:0<Tryz.prog.bytesOf 68:=of_decide_eq_true (by kernel_rfl)
theorem m0g:Tryz.prog.cellsOf 3=1:=by kernel_rfl
theorem w0R:Tryz.prog.cellsOf 9=1:=by kernel_rfl
theorem v0n:Tryz.prog.cellsOf 66=1:=by kernel_rfl
theorem v0o:Tryz.prog.cellsOf 56=1:=by kernel_rfl
theorem v0p:Tryz.prog.cellsOf 69=1:=by kernel_rfl
theorem v0q:Tryz.prog.cellsOf 38=1:=by kernel_rfl
theorem o0O:Tryz.prog.cellsOf 71=2:=by kernel_rfl
theorem o0P:Tryz.prog.cellsOf 65=2:=by kernel_rfl
theorem o0Q:Tryz.prog.cellsOf 68=2:=by kernel_rfl
theorem v0r:Tryz.prog.cellsOf 40=8:=by kernel_rfl
theorem t0d:Tryz.prog.underlying 3=some (.int .i64):=by kernel_rfl
theorem A0l:Tryz.prog.underlying 5=some (.int .u8):=by kernel_rfl
theorem w0S:Tryz.prog.cellsOf 5=1:=by kernel_rfl
theorem y0L:Tryz.prog.underlying 66=some (.int .u64):=by kernel_rfl
theorem w0T:Tryz.prog.underlying 9=some .string:=by kernel_rfl
theorem u0u:Tryz.prog.underlying 30=some (.slice 71):=by kernel_rfl
theorem y0M:Tryz.prog.underlying 56=some (.slice 65):=by kernel_rfl
theorem y0N:Tryz.prog.underlying 69=some (.slice 68):=by kernel_rfl
theorem y0O:Tryz.prog.underlying 38=some (.slice 3):=by kernel_rfl
theorem t0e:b0M Tryz.prog 71=[(56,0),(69,1)]:=by kernel_rfl
theorem t0f:b0M Tryz.prog 65=[(9,0),(9,1)]:=by kernel_rfl
theorem t0g:b0M Tryz.prog 68=[(3,0),(66,1)]:=by kernel_rfl
theorem t0h:b0M Tryz.prog 40=[(3,0),(3,1),(3,2),(3,3),(3,4),(3,5),(3,6),(38,7)]:=by kernel_rfl
theorem v0s:a0b Tryz.prog 8 30=true:=by kernel_rfl
theorem v0t:a0b Tryz.prog 5 40=true:=by kernel_rfl
theorem f0a {α:Type} (f:α→List AV):∀ l:List α,(l.map f).flatten=l.flatMap f
 | []=>rfl
 | x::l=>by rw [List.map_cons,List.flatten_cons,List.flatMap_cons,f0a f l]
theorem r0l {h:AH} {l:List AV} (s:TyZ Tryz.prog h 56 l):∃ v ls,l=[v]∧Sl h 2 ls.length v (ls.flatMap M3)∧b0j ls:=by
 obtain ⟨v,n,vs,rfl,hn,hs,he⟩:=s.slice_inv y0M v0l o0P
 obtain ⟨ls,h1,h2,h3⟩:=g0b M3 (fun x:Lab=>x.1.length<2 ^ 62∧x.2.length<2 ^ 62) 2 n vs hs.1 fun i hi=>by
  obtain ⟨hl,hf⟩:=(he i hi).struct_inv t0f (by simp)
  rw [o0P] at hl
  have f0:=hf 9 0 (by simp)
  have f1:=hf 9 1 (by simp)
  rw [w0R] at f0 f1
  obtain ⟨a,a1,a2⟩:=f0.str_inv w0T
  obtain ⟨b,b1,b2⟩:=f1.str_inv w0T
  generalize (vs.drop (i*2)).take 2=w at hl a1 b1
  match w,hl with
  | [c0,c1],_ =>
   simp at a1 b1
   subst a1 b1
   have:=z0S
   exact ⟨(a,b),rfl,Nat.lt_of_le_of_lt a2 this,Nat.lt_of_le_of_lt b2 this⟩
 rw [f0a] at h2
 subst h2
 exact ⟨v,ls,rfl,by rw [h1];exact hs,h3⟩
theorem p05 {h:AH} {l:List AV} (s:TyZ Tryz.prog h 69 l):∃ (v:AV) (sm:List Smp),l=[v]∧Sl h 2 sm.length v (sm.flatMap smC)∧∀ y ∈ sm,y.2<2 ^ 64:=by
 obtain ⟨v,n,vs,rfl,hn,hs,he⟩:=s.slice_inv y0N v0m o0Q
 obtain ⟨ls,h1,h2,h3⟩:=g0b smC (fun x:Smp=>x.2<2 ^ 64) 2 n vs hs.1 fun i hi=>by
  obtain ⟨hl,hf⟩:=(he i hi).struct_inv t0g (by simp)
  rw [o0Q] at hl
  have f0:=hf 3 0 (by simp)
  have f1:=hf 66 1 (by simp)
  rw [m0g] at f0
  rw [v0n] at f1
  obtain ⟨a,a1,a2⟩:=f0.int_inv t0d
  obtain ⟨b,b1,b2⟩:=f1.int_inv y0L
  simp [Lit.wf,IntKind.min,IntKind.max,IntKind.signed] at b2
  generalize (vs.drop (i*2)).take 2=w at hl a1 b1
  match w,hl with
  | [c0,c1],_ =>
   simp at a1 b1
   subst a1 b1
   refine ⟨(a,b.toNat),?_,by show b.toNat<_;omega⟩
   simp only [smC,Int.toNat_of_nonneg b2.1]
 rw [f0a] at h2
 subst h2
 exact ⟨v,ls,rfl,by rw [h1];exact hs,h3⟩
theorem r0m {h:AH} {l:List AV} (s:TyZ Tryz.prog h 30 l):∃ v n,∃ xs:List Se,l=[v]∧n<2 ^ 62∧Sl h 2 n v (xs.flatMap srC)∧∀ x ∈ xs,SrIn h x:=by
 obtain ⟨v,n,vs,rfl,hn,hs,he⟩:=s.slice_inv u0u v0k o0O
 obtain ⟨xs,h1,h2,h3⟩:=g0b srC (fun x:Se=>SrIn h x) 2 n vs hs.1 fun i hi=>by
  obtain ⟨hl,hf⟩:=(he i hi).struct_inv t0e (by simp)
  rw [o0O] at hl
  have f0:=hf 56 0 (by simp)
  have f1:=hf 69 1 (by simp)
  rw [v0o] at f0
  rw [v0p] at f1
  obtain ⟨lv0,ls,a1,a2,a3⟩:=r0l f0
  obtain ⟨sv0,sm,b1,b2,b3⟩:=p05 f1
  generalize (vs.drop (i*2)).take 2=w at hl a1 b1
  match w,hl with
  | [y0,y1],_ =>
   simp at a1 b1
   subst a1 b1
   exact ⟨((y0,ls),(y1,sm)),rfl,⟨a2,b2,a3,b3⟩⟩
 rw [f0a] at h2
 subst h2
 have:=z0S
 exact ⟨v,n,xs,rfl,by omega,hs,h3⟩
theorem o0R:∀ ps:List Int,(ps.map fun x:Int=>[AV.int .i64 x]).flatten=iv ps
 | []=>rfl
 | b::bs=>by rw [List.map_cons,List.flatten_cons,o0R bs];rfl
theorem v0u {h:AH} {l:List AV} (s:TyV Tryz.prog h 38 l):∃ v ps,l=[v]∧Sl h 1 ps.length v (iv ps):=by
 obtain ⟨v,n,vs,rfl,hn,hs,he⟩:=s.slice_inv y0O m0g
 obtain ⟨ps,h1,h2,_⟩:=g0b (fun x:Int=>[AV.int .i64 x]) (fun _=>True) 1 n vs hs.1 fun i hi=>by
  obtain ⟨z,e,h1⟩:=(he i hi).int_inv t0d
  exact ⟨z,e,trivial⟩
 have h4:vs=iv ps:=by
  rw [h2,o0R]
 subst h4
 exact ⟨v,ps,rfl,by rw [h1];exact hs⟩
theorem v0v {h:AH} {l:List AV} (s:TyV Tryz.prog h 40 l):∃ (f:Ft) (ps:List Int),l=f.cells∧Sl h 1 ps.length f.par (iv ps):=by
 obtain ⟨hl,hf⟩:=s.struct_inv t0h (by simp)
 rw [v0r] at hl
 have hi:∀ o,(3,o) ∈ ([(3,0),(3,1),(3,2),(3,3),(3,4),(3,5),(3,6),(38,7)]:List (TypeId×Nat))→∃ n,(l.drop o).take 1=[.int .i64 n]:=fun o ho=>by
  have:=hf 3 o ho
  rw [m0g] at this
  obtain ⟨n,h1,_⟩:=this.int_inv t0d
  exact ⟨n,h1⟩
 obtain ⟨n0,a0⟩:=hi 0 (by simp)
 obtain ⟨n1,a1⟩:=hi 1 (by simp)
 obtain ⟨n2,a2⟩:=hi 2 (by simp)
 obtain ⟨n3,a3⟩:=hi 3 (by simp)
 obtain ⟨n4,a4⟩:=hi 4 (by simp)
 obtain ⟨n5,a5⟩:=hi 5 (by simp)
 obtain ⟨n6,a6⟩:=hi 6 (by simp)
 have h7:=hf 38 7 (by simp)
 rw [v0q] at h7
 obtain ⟨p,ps,a7,k1⟩:=v0u h7
 match l,hl with
 | [y0,y1,y2,y3,y4,y5,y6,y7],_ =>
  simp at a0 a1 a2 a3 a4 a5 a6 a7
  subst a0 a1 a2 a3 a4 a5 a6 a7
  exact ⟨⟨n0,n1,n2,n3,n4,n5,n6,y7⟩,ps,rfl,k1⟩
def tabZ:List Int:=Lib.deBruijn64tab.map fun n:Nat=>(n:Int)
theorem w0U:tabZ.length=64:=by decide
theorem r0n:Tryz.prog.globalNamed "math/bits.deBruijn64tab"=some 0:=by kernel_rfl
theorem y0P:(Rows.blockMakesRow.laid:List (String×DataW Unit))=[("math/bits.deBruijn64tab",tabData .u8 tabZ)]:=by kernel_rfl
def v0w (n:Nat) (ρ:Nat→Value):Phi:=⟨fun g=>if g<n then some ⟨g,0,if g=0 then 64 else 0⟩ else none,ρ⟩
def o0S (n:Nat):AH:=AH.set ⟨n,.leaf⟩ 0 (.cells (by8 Lib.deBruijn64tab) true)
theorem e0F {n i:Nat} {o:AObj} (e:(o0S n).get i=some o):i=0∧o=.cells (by8 Lib.deBruijn64tab) true:=by
 by_cases h:i=0
 ·subst h
  have:(o0S n).get 0=some (.cells (by8 Lib.deBruijn64tab) true):=d9 _ _
  rw [this] at e
  exact ⟨rfl,(Option.some.inj e).symm⟩
 ·have:(o0S n).get i=(⟨n,.leaf⟩:AH).get i:=c9 h
  rw [this] at e
  cases e
theorem D0k {W:World} {n:Nat} {ρ:Nat→Value} {c:Array Value} {e:TypeId} {f:Nat×Nat} (hn:0<n) (hW:W.heap[0]? = some (.cells c e f)) (hc:c=(tabZ.map fun z=>Value.int .u8 z).toArray) :
  Rel W.heap.size W (v0w n ρ) (o0S n) W:=by
 refine ⟨fun i p e=>?_,fun i p o e1 e2=>?_,fun i p o _ e2 hw=>?_,fun i j p q oi oj hij _ _ e1 e2=>?_,.refl _ _,Nat.le_refl _⟩
 ·simp only [v0w] at e
  split at e
  ·assumption
  ·cases e
 ·obtain ⟨rfl,rfl⟩:=e0F e2
  simp only [v0w,if_pos hn,if_true,Option.some.injEq] at e1
  subst e1
  refine ⟨c,e,f.1,f.2,hW,?_,?_,?_,fun h=>by cases h⟩
  ·show (by8 Lib.deBruijn64tab).length≤64
   decide
  ·show 0+64≤c.size
   rw [hc]
   simp [w0U]
  ·intro i x hx
   rw [b0J] at hx
   obtain ⟨y,hy,rfl⟩:=Option.map_eq_some_iff.1 hx
   refine ⟨.int .u8 (y:Int),?_,.int _ _⟩
   rw [hc]
   simp [tabZ,hy]
 ·obtain ⟨rfl,rfl⟩:=e0F e2
  cases hw
 ·obtain ⟨rfl,_⟩:=e0F e1
  obtain ⟨rfl,_⟩:=e0F e2
  exact absurd rfl hij
theorem roT (n:Nat) (ρ:Nat→Value):RO (v0w n ρ) (o0S n):=fun j q o _ e=>by
 obtain ⟨_,rfl⟩:=e0F e
 rfl
theorem globT {ρ:Nat→Value}:GlobRel Tryz.prog (v0w Tryz.prog.globals.size ρ):=fun g hg=>⟨if g=0 then 64 else 0,by simp only [v0w];rw [if_pos hg]⟩
theorem z0T:0<Tryz.prog.globals.size:=of_decide_eq_true (by kernel_rfl)
theorem tyT:(Tryz.prog.globals[0]?).map (·.type)=some 216:=by kernel_rfl
theorem D0l:Tryz.prog.underlying 216=some (.array 64 5):=by kernel_rfl
theorem A0m:Tryz.prog.cellsOf 216=64:=by kernel_rfl
theorem r0o {n:Nat} (hn:0<n):TabIn (o0S n):=⟨hn,d9 _ _⟩
theorem j01 {H:Type} {enc:TypeId×Value→H} {held:Bool} {W:World} {base:Nat} {b0 b1:Nat} {v0 v1:Value} {d0 d1:DataW H} {p0 p1:List MemPlace}
  (hv0:Value.okWide Tryz.prog W .any b0 30 v0) (hv1:Value.okWide Tryz.prog W .any b1 40 v1)
  (h0:DataW.Trod enc Tryz.prog W base (fun _=>true) held 30 v0 d0 p0) (h1:DataW.Trod enc Tryz.prog W base (fun _=>true) held 40 v1 d1 p1)
  (hw0:∀ n ∈ d0.weights Tryz.prog 30,n≤reachBytes) (hl:laidMetH Tryz.prog Rows.blockMakesRow.laid W) :
  Calls Tryz.prog 6 #[v0,v1] W fun e W'=>e=.returned (.bool true)∧Below W.heap.size W W':=by
 rw [y0P] at hl
 have hl2:laidMet Tryz.prog [("math/bits.deBruijn64tab",tabData .u8 tabZ)] W:=hl
 have ht:TabIs Tryz.prog W "math/bits.deBruijn64tab" .u8 tabZ:=tabIs_of_head r0n tyT D0l A0l w0S A0m hl2
 have hcell:∃ c e f,W.heap[0]? = some (.cells c e f)∧c=(tabZ.map fun z=>Value.int .u8 z).toArray:=by
  unfold TabIs World.var? at ht
  rw [r0n] at ht
  simp only [Option.bind_some] at ht
  split at ht
  ·rename_i cs e f hh
   exact ⟨cs,e,f,hh,Option.some.inj ht⟩
  ·cases ht
 obtain ⟨c,e,f,hW,hc⟩:=hcell
 obtain ⟨φ1,g1,a0,c0,R1,ro1,le1,f1,t0⟩:=t0v (B:=W.heap.size) (w0:=W) u0u v0s hv0 h0 hw0 (D0k (n:=Tryz.prog.globals.size) (ρ:=fun _=>.pointer none) z0T hW hc) (roT _ _)
 obtain ⟨φ2,g2,l1,c1,R2,ro2,le2,f2,t1⟩:=t0a (B:=W.heap.size) (w0:=W) Tryz.underlying40 v0t hv1 h1 R1 ro1
 obtain ⟨u,n,xs,e1,hn,s1,q1⟩:=r0m t0
 cases e1
 obtain ⟨ft,ups,rfl,hp⟩:=v0v t1
 exact y01 (f:=a0s) (args':=[v0,v1]) Tryz.checked.mixed B00 (B0N _ _) (m0C (s1.fr f2) hn (fun x hx=>⟨(q1 x hx).lab.fr f2,(q1 x hx).smp.fr f2,(q1 x hx).short,(q1 x hx).v64⟩) hp (((r0o z0T).fr f1).fr f2)) (.cons (c0.mono le2) (.cons c1 .nil)) (globT.le (le1.trans le2)) R2
end Go.Proofs.YtkbddcapcjdenaaGreatDoor
