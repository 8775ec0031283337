/-
  Texts joined.
-/
import Derived.Test.YtkbddcapcjdenaaGreatDoorT11
import Derived.Test.YtkbddcapcjdenaaGreatDoorT10

namespace Go.Dk
open Go Go.Dr
set_option maxRecDepth 100000
theorem b0r (z:Int) (h:AH) (K:AV→AH→Prop):Ev P SI (.fn A4) [.int .i64 z] h K=K (.slice h.next 0 4 4 true 1) (h.push (.cells (by8 (be 4 (n64 z))) false)):=by
 refine Ev.eq (k8 p0H rfl rfl ?_) K
 have cp:=g06 (n64 z) 4 (l0G z) (by omega)
 rw [show ((4:Nat):Int)=4 from rfl] at cp
 simp [i0O,l0F,cp]
theorem v0F (z:Int) (h:AH) (K:AV→AH→Prop):Ev P SI (.fn d0G) [.int .i64 z] h K=K (.slice h.next 0 8 8 true 1) (h.push (.cells (by8 (be 8 (n64 z))) false)):=by
 refine Ev.eq (k8 s0j rfl rfl ?_) K
 have cp:=g06 (n64 z) 8 (l0G z) (by omega)
 rw [show ((8:Nat):Int)=8 from rfl] at cp
 simp [k0V,l0F,cp]
theorem d0R {h:AH} {n:Nat} {v:AV} {T:List Txt} {s:Txt} (hv:Sl h 1 n v (tx T)) (hn:n≤2 ^ 40) (hs:s ∈ T) (K:AV→AH→Prop):Ev P SI (.fn K6) [v,.str s] h K=K (.int .i64 (pl T s:Int)) h:=by
 refine Ev.eq (k8 n0K rfl rfl ?_) K
 have hl:T.length=n:=by have:=hv.1;simpa [tx] using this
 have hp:=f04 hs
 simp [h0r,hv.len]
 refine m8 (n:=n) (by rfl) (fun j σ ds g=>ds=[]∧σ 1=.str s∧σ 7=v∧σ 8=.int .i64 (n:Int)∧g=h∧j≤pl T s) (by omega) (by simp) (by simp) (fun j σ ds g hJ=>by simp [hJ.2.2.2.1]) ?_ ?_
 ·rintro j σ ds g hj hi ⟨rfl,e1,e7,e8,rfl,hle⟩
  obtain ⟨x,hx⟩:=j7 (l:=T) (j:=j) (by omega)
  obtain ⟨id,o,a1,a2,_⟩:=hv.get1 (k:=.i64) (i:=(j:Int)) rfl hj (x:=.str x) (by simp [tx,hx])
  by_cases he:x=s
  ·subst he
   have:pl T x=j:=by
    by_cases hlt:j<pl T x
    ·exfalso
     have:=List.not_of_lt_findIdx (p:=fun y=>y == x) (xs:=T) (i:=j) (by simpa [pl,List.idxOf] using hlt)
     simp [List.getElem?_eq_some_iff.1 hx |>.2] at this
    ·omega
   simp [e1,e7,e8,hi,a1,a2,this]
  ·have hne:j≠pl T s:=fun e=>he (by have:=f05 hs;rw [← e,hx] at this;exact Option.some.inj this)
   simp [e1,e7,e8,hi,a1,a2,he]
   omega
 ·rintro σ ds g ⟨rfl,e1,e7,e8,rfl,hle⟩
  omega
def l0g:List Lab→Txt→Txt
 | [],_=>[]
 | k::l,n=>if k.1=n then k.2 else l0g l n
theorem j0R:∀ (l:List Lab) (j:Nat) (n:Txt),(∀ i x,i<j→l[i]? = some x→x.1≠n)→l0g l n=l0g (l.drop j) n
 | l,0,n,_=>rfl
 | [],j+1,n,_=>by simp
 | k::l,j+1,n,h=>by
  have h0:=h 0 k (by omega) rfl
  rw [l0g,if_neg h0,List.drop_succ_cons]
  exact j0R l j n (fun i x hi hx=>h (i+1) x (by omega) (by simpa using hx))
theorem v0G {h:AH} {n:Nat} {v:AV} {l:List Lab} {s:Txt} (hv:Sl h 2 n v (l.flatMap E2)) (hn:n≤2 ^ 40):Ev P SI (.fn b0L) [v,.str s] h fun r g=>r=.str (l0g l s)∧Fr h g:=by
 refine k8 s0k rfl rfl ?_
 have hl:=X9 hv
 simp [k0W,hv.len]
 refine m8 (n:=n) (by rfl) (fun j σ ds g=>ds=[]∧σ 1=.str s∧σ 7=v∧σ 8=.int .i64 (n:Int)∧Fr h g∧∀ i x,i<j→l[i]? = some x→x.1≠s) (by omega) (by simp) ⟨rfl,by simp,by simp,by simp,.refl _,fun i x hi=>by omega⟩ (fun j σ ds g hJ=>by simp [hJ.2.2.2.1]) ?_ ?_
 ·rintro j σ ds g hj hi ⟨rfl,e1,e7,e8,fr,hne⟩
  obtain ⟨⟨nm,vl⟩,hx⟩:=j7 (l:=l) (j:=j) (by omega)
  obtain ⟨i1,o1,a1,a2,_⟩:=a0z (hv.fr fr) (k:=.i64) (i:=(j:Int)) rfl hx
  have stn:=l6 (h:=g) (n:=2) (z:=[.str [],.str []]) (l:=[.str nm,.str vl]) rfl rfl rfl
  have fp:=Fr.push fr (.cells [.str nm,.str vl] false)
  have ge:(g.push (.cells [.str nm,.str vl] false)).get g.next=some (.cells [.str nm,.str vl] false):=b8 _
  have m0:load1 (g.push (.cells [.str nm,.str vl] false)) g.next 0=.ok (.str nm):=b7 ge
  have m1:load1 (g.push (.cells [.str nm,.str vl] false)) g.next 1=.ok (.str vl):=b7 ge
  by_cases he:nm=s
  ·subst he
   have:l0g l nm=vl:=by
    rw [j0R l j nm hne,i0n hx,l0g,if_pos rfl]
   simp [e1,e7,e8,hi,a1,a2,s7,stn,m0,m1,this]
   exact fp
  ·simp [e1,e7,e8,hi,a1,a2,s7,stn,m0,m1,he]
   refine ⟨fp,fun i a b hi' hx'=>?_⟩
   by_cases hij:i=j
   ·subst hij;rw [hx] at hx';cases hx';exact he
   ·exact hne i (a,b) (by omega) hx'
 ·rintro σ ds g ⟨rfl,e1,e7,e8,fr,hne⟩
  have:l0g l s=[]:=by rw [j0R l n s hne,List.drop_of_length_le (by omega)];rfl
  simp [this]
  exact fr
theorem t0g {α:Type} {lt:α→α→Prop} (ht:∀ a b c,lt a b→lt b c→lt a c) {l:List α} {q:Nat} {s:α} (h:l.Pairwise lt) (h1:∀ x ∈ l.take q,lt x s) (h2:∀ x ∈ l.drop q,lt s x):(l.take q++[s]++l.drop q).Pairwise lt:=by
 rw [List.append_assoc,List.pairwise_append]
 refine ⟨h.sublist (List.take_sublist _ _),?_,fun a ha b hb=>?_⟩
 ·rw [List.singleton_append,List.pairwise_cons]
  exact ⟨h2,h.sublist (List.drop_sublist _ _)⟩
 ·rw [List.singleton_append] at hb
  rcases List.mem_cons.1 hb with rfl | hb
  ·exact h1 a ha
  ·exact ht _ _ _ (h1 a ha) (h2 b hb)
theorem o0D:∀ (l:List Txt),d8 (tx l)=true
 | []=>rfl
 | x::l=>by
  show (AV.scalar (.str x)&&d8 (tx l))=true
  rw [o0D l];rfl
theorem j0S (a b:List Txt):tx (a++b)=tx a++tx b:=by simp [tx]
def x0d (h:AH) (n:Nat) (l:List Txt) (s:Txt) (r:AV) (g:AH):Prop:=∃ l' n',Sl g 1 n' r (tx l')∧s06 l'∧(∀ x,x ∈ l'↔x ∈ l∨x=s)∧Fr h g∧n'≤n+1
theorem m0v {h:AH} {n:Nat} {v:AV} {l:List Txt} {s:Txt} (hv:Sl h 1 n v (tx l)) (hA:s06 l) (hn:n≤2 ^ 30):Ev P SI (.fn c0l) [v,.str s] h (x0d h n l s):=by
 refine k8 p0G rfl rfl ?_
 have hl:l.length=n:=by have:=hv.1;simpa [tx] using this
 simp [i0N,hv.len]
 refine M5 (fun q σ ds g=>q≤n∧ds=[]∧σ 0=v∧σ 1=.str s∧σ 5=.int .i64 (q:Int)∧g=h∧∀ i y,q≤i→l[i]? = some y→Op.bytesLess y s=false) n ⟨Nat.le_refl _,rfl,by simp,by simp,by simp,rfl,fun i y hi hy=>by have:=(List.getElem?_eq_some_iff.1 hy).1;omega⟩ ?_
 rintro q σ ds g ⟨hq,rfl,e0,e1,e5,rfl,hge⟩
 obtain ⟨a,b,v1,g1,v2,g2,v3,g3,f1,f2,f3,f4,f5,f6,f7⟩:=D0e (x:=[.str s]) (bytes:=16) hv hq rfl (by rw [show tx l++[AV.str s]=tx (l++[s]) from by rw [j0S];rfl];exact o0D _) (by omega) (by omega) .i64 .i64
 have fin:(∀ i y,i<q→l[i]? = some y→Op.bytesLess y s=true)→(∀ y,l[q]? = some y→y≠s)→x0d g n l s v3 g3:=by
  intro hlt hne
  refine ⟨l.take q++[s]++l.drop q,n+1,?_,?_,fun x=>?_,f7,Nat.le_refl _⟩
  ·have:=f6.sl
   rw [Nat.mul_one] at this
   rw [j0S,j0S]
   simpa [tx] using this
  ·refine t0g j0K hA (fun x hx=>?_) (fun x hx=>?_)
   ·obtain ⟨i,hi1,hi2⟩:=List.mem_iff_getElem.1 hx
    rw [List.getElem_take] at hi2
    rw [List.length_take] at hi1
    exact hlt i x (by omega) (by rw [List.getElem?_eq_getElem (by omega),hi2])
   ·obtain ⟨i,hi1,hi2⟩:=List.mem_iff_getElem.1 hx
    rw [List.getElem_drop] at hi2
    rw [List.length_drop] at hi1
    have hgx:l[q+i]? = some x:=by rw [List.getElem?_eq_getElem (by omega),hi2]
    have hql:q<l.length:=by omega
    obtain ⟨y,hy⟩:=j7 (l:=l) (j:=q) hql
    have h1:=hge q y (Nat.le_refl _) hy
    have h2:=hne y hy
    have h3:ltT s y:=by
     rcases q0D y s with h | h | h
     ·rw [h] at h1;cases h1
     ·exact absurd h h2
     ·exact h
    by_cases hi0:i=0
    ·subst hi0;rw [Nat.add_zero,hy] at hgx;cases hgx;exact h3
    ·have h4:ltT y x:=by
      have:=List.pairwise_iff_getElem.1 hA q (q+i) hql (by omega) (by omega)
      rw [List.getElem?_eq_some_iff.1 hy |>.2,hi2] at this
      exact this
     exact j0K _ _ _ h3 h4
  ·have:x ∈ l↔x ∈ l.take q∨x ∈ l.drop q:=by rw [← List.mem_append,List.take_append_drop]
   rw [this];simp only [List.mem_append,List.mem_singleton]
   constructor
   ·rintro ((a | a) | a)
    ·exact .inl (.inl a)
    ·exact .inr a
    ·exact .inl (.inr a)
   ·rintro ((a | a) | a)
    ·exact .inl (.inl a)
    ·exact .inr a
    ·exact .inl (.inr a)
 have same:(∀ y,l[q]? = some y→y=s)→q<n→x0d g n l s v g:=by
  intro he hqn
  obtain ⟨y,hy⟩:=j7 (l:=l) (j:=q) (by omega)
  have:=he y hy
  subst this
  refine ⟨l,n,hv,hA,fun x=>?_,.refl _,Nat.le_succ _⟩
  constructor
  ·exact .inl
  ·rintro (h | rfl)
   ·exact h
   ·exact List.mem_of_getElem? hy
 have after:∀ σ':Sg,σ' 0=v→σ' 1=.str s→σ' 5=.int .i64 (q:Int)→(∀ i y,i<q→l[i]? = some y→Op.bytesLess y s=true)→True:=fun _ _ _ _ _=>trivial
 by_cases hqn:q<n
 ·obtain ⟨y,hy⟩:=j7 (l:=l) (j:=q) (by omega)
  obtain ⟨id,o,x1,x2,_⟩:=hv.get1 (k:=.i64) (i:=(q:Int)) rfl hqn (x:=.str y) (by simp [tx,hy])
  cases q with
  | zero =>
   rw [show ((0:Nat):Int)=0 from rfl] at f1 f2 x1 e5
   have hn0:(0:Int)<(n:Int):=by omega
   by_cases hys:y=s
   ·subst hys
    simp [e0,e1,e5,hv.len,hqn,x1,x2]
    exact same (fun z hz=>by rw [hy] at hz;cases hz;rfl) hqn
   ·simp [e0,e1,e5,hv.len,hqn,x1,x2,hys,f1,f2,i9,f3,f4,f5]
    exact fin (fun i y hi=>by omega) (fun z hz=>by rw [hy] at hz;cases hz;exact hys)
  | succ q =>
   obtain ⟨z,hz⟩:=j7 (l:=l) (j:=q) (by omega)
   obtain ⟨id2,o2,y1,y2,_⟩:=hv.get1 (k:=.i64) (i:=(q:Int)) rfl (by omega) (x:=.str z) (by simp [tx,hz])
   have w0:b9 .i64 (q:Int)=(q:Int):=wrap_i64 (by omega) (by omega)
   have c0:(0:Int)<(q:Int)+1:=by omega
   push_cast at f1 f2 x1 e5
   have c1:(q:Int)+1<(n:Int):=by omega
   cases hc:Op.bytesLess z s with
   | false =>
    simp [e0,e1,e5,c0,w0,y1,y2,hc,l7]
    refine ⟨q,by omega,by omega,rfl,fun i y' hi hy'=>?_⟩
    by_cases e:i=q
    ·subst e;rw [hz] at hy';cases hy';exact hc
    ·exact hge i y' (by omega) hy'
   | true =>
    have hlt:∀ i y,i<q+1→l[i]? = some y→Op.bytesLess y s=true:=fun i y' hi hy'=>by
     by_cases e:i=q
     ·subst e;rw [hz] at hy';cases hy';exact hc
     ·have hil:=(List.getElem?_eq_some_iff.1 hy').1
      have:=List.pairwise_iff_getElem.1 hA i q hil (by omega) (by omega)
      rw [List.getElem?_eq_some_iff.1 hy' |>.2,List.getElem?_eq_some_iff.1 hz |>.2] at this
      exact c0H this hc
    by_cases hys:y=s
    ·subst hys
     simp [e0,e1,e5,c0,w0,y1,y2,hc,hv.len,c1,x1,x2]
     exact same (fun z hz=>by rw [hy] at hz;cases hz;rfl) hqn
    ·simp [e0,e1,e5,c0,w0,y1,y2,hc,hv.len,c1,x1,x2,hys,f1,f2,i9,f3,f4,f5]
     exact fin hlt (fun z hz=>by rw [hy] at hz;cases hz;exact hys)
 ·have hqe:q=n:=by omega
  subst hqe
  have hnone:∀ y,l[q]? = some y→y≠s:=fun y hy=>by have:=(List.getElem?_eq_some_iff.1 hy).1;omega
  cases q with
  | zero =>
   rw [show ((0:Nat):Int)=0 from rfl] at f1 f2 e5
   simp [e0,e1,e5,hv.len,f1,f2,i9,f3,f4,f5]
   exact fin (fun i y hi=>by omega) hnone
  | succ q =>
   obtain ⟨z,hz⟩:=j7 (l:=l) (j:=q) (by omega)
   obtain ⟨id2,o2,y1,y2,_⟩:=hv.get1 (k:=.i64) (i:=(q:Int)) rfl (by omega) (x:=.str z) (by simp [tx,hz])
   have w0:b9 .i64 (q:Int)=(q:Int):=wrap_i64 (by omega) (by omega)
   have c0:(0:Int)<(q:Int)+1:=by omega
   have hvl:=hv.len
   push_cast at f1 f2 e5 hvl
   cases hc:Op.bytesLess z s with
   | false =>
    simp [e0,e1,e5,c0,w0,y1,y2,hc,l7]
    refine ⟨q,by omega,by omega,rfl,fun i y' hi hy'=>?_⟩
    by_cases e:i=q
    ·subst e;rw [hz] at hy';cases hy';exact hc
    ·exact hge i y' (by omega) hy'
   | true =>
    have hlt:∀ i y,i<q+1→l[i]? = some y→Op.bytesLess y s=true:=fun i y' hi hy'=>by
     by_cases e:i=q
     ·subst e;rw [hz] at hy';cases hy';exact hc
     ·have hil:=(List.getElem?_eq_some_iff.1 hy').1
      have:=List.pairwise_iff_getElem.1 hA i q hil (by omega) (by omega)
      rw [List.getElem?_eq_some_iff.1 hy' |>.2,List.getElem?_eq_some_iff.1 hz |>.2] at this
      exact c0H this hc
    simp [e0,e1,e5,c0,w0,y1,y2,hc,hvl,f1,f2,i9,f3,f4,f5]
    exact fin hlt hnone
end Go.Dk

namespace Go.Dk
open Go Go.Dr
set_option maxRecDepth 100000
def TxK (h:AH) (m:Nat) (p:Txt→Prop) (v:AV) (g:AH):Prop:=∃ l n,Sl g 1 n v (tx l)∧s06 l∧(∀ x,x ∈ l↔p x)∧Fr h g∧n≤m
def p03 (l:List (List Lab)) (x:Txt):Prop:=∃ y ∈ l,∃ k ∈ y,x=k.1∨x=k.2
theorem x0G (l:List (List Lab)) (x:Txt):p03 (l++[[]]) x↔p03 l x:=by
 unfold p03
 constructor
 ·rintro ⟨y,hy,k,hk,h⟩
  rcases List.mem_append.1 hy with hy | hy
  ·exact ⟨y,hy,k,hk,h⟩
  ·rw [List.mem_singleton.1 hy] at hk;cases hk
 ·rintro ⟨y,hy,k,hk,h⟩
  exact ⟨y,List.mem_append_left _ hy,k,hk,h⟩
theorem v03 (l:List (List Lab)) (r:List Lab) (k:Lab) (x:Txt):p03 (l++[r++[k]]) x↔(p03 (l++[r]) x∨x=k.1)∨x=k.2:=by
 unfold p03
 constructor
 ·rintro ⟨y,hy,k',hk,h⟩
  rcases List.mem_append.1 hy with hy | hy
  ·exact .inl (.inl ⟨y,List.mem_append_left _ hy,k',hk,h⟩)
  ·rw [List.mem_singleton.1 hy] at hk
   rcases List.mem_append.1 hk with hk | hk
   ·exact .inl (.inl ⟨r,List.mem_append_right _ (List.mem_singleton.2 rfl),k',hk,h⟩)
   ·rw [List.mem_singleton.1 hk] at h
    rcases h with h | h
    ·exact .inl (.inr h)
    ·exact .inr h
 ·have hk:k ∈ r++[k]:=List.mem_append_right _ (List.mem_singleton.2 rfl)
  have hr:r++[k] ∈ l++[r++[k]]:=List.mem_append_right _ (List.mem_singleton.2 rfl)
  rintro ((⟨y,hy,k',hk',h⟩ | h) | h)
  ·rcases List.mem_append.1 hy with hy | hy
   ·exact ⟨y,List.mem_append_left _ hy,k',hk',h⟩
   ·rw [List.mem_singleton.1 hy] at hk'
    exact ⟨_,hr,k',List.mem_append_left _ hk',h⟩
  ·exact ⟨_,hr,k,hk,.inl h⟩
  ·exact ⟨_,hr,k,hk,.inr h⟩
theorem r00 {h:AH} {n:Nat} {v:AV} {xs:List (AV×Ep)} (s:Sl h 5 n v (xs.flatMap enC)) (hn:n≤100000) (he:∀ x ∈ xs,EnOk h x∧x.2.ls.length≤8) :
  Ev P SI (.fn e0c) [v] h fun r g=>∃ T k,Sl g 1 k r (tx T)∧IsT T (xs.map (·.2.ls))∧Fr h g∧k≤16*n:=by
 refine k8 n0I rfl rfl ?_
 have hl:xs.length=n:=by have:=s.1;rw [b04] at this;omega
 simp [h0p,s.len]
 refine m8 (n:=n) (by rfl) (fun j σ ds g=>ds=[]∧σ 8=v∧σ 9=.int .i64 (n:Int)∧TxK h (16*j) (p03 ((xs.take j).map (·.2.ls))) (σ 3) g) (by omega) (by simp)
  ⟨rfl,by simp,by simp,[],0,by simpa [tx] using Sl.nil 1,.nil,fun x=>by simp [p03],.refl _,by omega⟩ (fun j σ ds g hJ=>by simp [hJ.2.2.1]) ?_ ?_
 ·rintro j σ ds g hj hi ⟨rfl,e8,e9,l0,n0,sl0,as0,mem0,fr,hn0⟩
  obtain ⟨x,hx⟩:=j7 (l:=xs) (j:=j) (by omega)
  obtain ⟨hok,hl8⟩:=he x (List.mem_of_getElem? hx)
  obtain ⟨id,o,a1,a2,_⟩:=f0K (s.fr fr) hx
  have okg:=hok.fr fr
  have hlc:=Sl.oneCell okg
  have stn:=l6 (h:=g) (n:=5) (z:=[.nils,.int .i64 0,.int .i64 0,.int .i64 0,.int .i64 0]) (l:=enC x) rfl rfl (by simp [enC,d8,hlc.2])
  have fp:=Fr.push (.refl g) (.cells (enC x) false)
  have ge:(g.push (.cells (enC x) false)).get g.next=some (.cells (enC x) false):=b8 _
  generalize hg1:g.push (.cells (enC x) false)=g1 at *
  have m0:load1 g1 g.next 0=.ok x.1:=b7 ge
  have lv:b0u x.1=.ok (.int .i64 (x.2.ls.length:Int)):=(okg.fr fp).len
  have hll:=X9 hok
  obtain ⟨tv,htv⟩:∃ tv,σ 3=tv:=⟨_,rfl⟩
  rw [htv] at sl0
  simp [e8,hi,a1,s7,a2,stn,m0,lv]
  refine m8 (n:=x.2.ls.length) (by rfl) (fun i σ' ds g'=>ds=[]∧σ' 8=v∧σ' 9=.int .i64 (n:Int)∧σ' 10=.int .i64 (j:Int)∧σ' 15=x.1∧σ' 16=.int .i64 (x.2.ls.length:Int) ∧
    TxK h (16*j+2*i) (p03 ((xs.take j).map (·.2.ls)++[x.2.ls.take i])) (σ' 3) g') (by omega) (by simp)
   ⟨rfl,by simp [e8],by simp [e9],by simp [hi],by simp,by simp,l0,n0,by simpa [htv] using sl0.fr fp,as0,fun y=>by rw [mem0,List.take_zero,x0G],fr.trans fp,by omega⟩ (fun j σ ds g hJ=>by simp [hJ.2.2.2.2.2.1]) ?_ ?_
  ·rintro i σ' ds g' hi' hii ⟨rfl,f8,f9,f10,f15,f16,l1,n1,sl1,as1,mem1,fr1,hn1⟩
   obtain ⟨⟨nm,vl⟩,hk⟩:=j7 (l:=x.2.ls) (j:=i) hi'
   obtain ⟨i1,o1,b1,b2,_⟩:=a0z (hok.fr fr1) (k:=.i64) (i:=(i:Int)) rfl hk
   obtain ⟨tv1,htv1⟩:∃ tv,σ' 3=tv:=⟨_,rfl⟩
   rw [htv1] at sl1
   have stn2:=l6 (h:=g') (n:=2) (z:=[.str [],.str []]) (l:=[.str nm,.str vl]) rfl rfl rfl
   have fp2:=Fr.push (.refl g') (.cells [.str nm,.str vl] false)
   have ge2:(g'.push (.cells [.str nm,.str vl] false)).get g'.next=some (.cells [.str nm,.str vl] false):=b8 _
   have gn2:(g'.push (.cells [.str nm,.str vl] false)).next=g'.next+1:=rfl
   generalize hg2:g'.push (.cells [.str nm,.str vl] false)=g2 at *
   have q0:load1 g2 g'.next 0=.ok (.str nm):=b7 ge2
   have q1:load1 g2 g'.next 1=.ok (.str vl):=b7 ge2
   simp [f15,hii,b1,b2,s7,stn2,q0,q1,htv1]
   refine (m0v (sl1.fr fp2) as1 (by omega)).mono ?_
   rintro r1 g3 ⟨l2,n2,sl2,as2,mem2,f3,hn2⟩
   have q2:load1 g3 g'.next 1=.ok (.str vl):=b7 (id:=g'.next) (vs:=[.str nm,.str vl]) (ro:=false) (by rw [f3.get _ (by omega)];exact ge2)
   simp [q2]
   refine (m0v sl2 as2 (by omega)).mono ?_
   rintro r2 g4 ⟨l3,n3,sl3,as3,mem3,f4,hn3⟩
   simp [f8,f9,f10,f15,f16,hii]
   refine ⟨l3,n3,sl3,as3,fun y=>?_,((fr1.trans fp2).trans f3).trans f4,by omega⟩
   rw [mem3,mem2,mem1,← List.map_take,u9 _ _ _ hk,v03]
  ·rintro σ' ds g' ⟨rfl,f8,f9,f10,f15,f16,l1,n1,sl1,as1,mem1,fr1,hn1⟩
   rw [List.take_of_length_le (l:=x.2.ls) (Nat.le_refl _)] at mem1
   simp [f8,f9,f10,hi]
   refine ⟨l1,n1,sl1,as1,fun y=>?_,fr1,by omega⟩
   rw [mem1,← List.map_take,u9 _ _ _ hx,List.map_append]
   rfl
 ·rintro σ ds g ⟨rfl,e8,e9,l0,n0,sl0,as0,mem0,fr,hn0⟩
  rw [List.take_of_length_le (by omega)] at mem0
  simp
  exact ⟨l0,n0,sl0,⟨as0,mem0⟩,fr,hn0⟩
end Go.Dk

namespace Go.Dk
open Go Go.Dr
set_option maxRecDepth 100000
theorem X8 {B n k:Nat} {g:AH} {v:AV} {l bs:List Nat} (o:Own B g 1 n v (by8 l)) (hk:bs.length=k) (hB:B≤g.next) (hb:n+k≤2 ^ 40) :
  ∃ v' g',H6 1 1 v (.slice g.next 0 k k true 1) (g.push (.cells (by8 bs) false))=okV v' g'∧Own B g' 1 (n+k) v' (by8 (l++bs))∧FrB B g g' ∧
   (∀ i,i<g.next→j9 v≠some i→g'.get i=g.get i)∧g.next<g'.next∧∀ i,j9 v'=some i→j9 v=some i∨g.next<i:=by
 have fp:=Fr.push (.refl g) (.cells (by8 bs) false)
 have sx:=(Own.fresh (B:=0) (h:=g) (es:=1) (n:=k) (l:=by8 bs) true (Nat.zero_le _) (by simp [hk])).sl
 obtain ⟨v',g',e,o2,f,p,q⟩:=(o.fr fp).append (bytes:=1) sx (Nat.le_succ_of_le hB) (C8 _) (by omega) (by omega)
 have gn:(g.push (.cells (by8 bs) false)).next=g.next+1:=rfl
 have fn:=f.next
 refine ⟨v',g',e,by rw [M1];exact o2,(fp.b hB).trans f,fun i hi hne=>by rw [p i (by omega) hne,c7 (by omega)],by omega,fun i hi=>?_⟩
 rcases q i hi with h | h
 ·exact .inl h
 ·exact .inr (by omega)
def y9 (x:Ep):Ent:=⟨x.ls,x.sz,x.mn,x.mx⟩
theorem t0K (T:List Txt) (l:List Lab) (k:Lab):c04 T (l++[k])=c04 T l++be 4 (pl T k.1)++be 4 (pl T k.2):=by
 simp [c04]
theorem w0k (T:List Txt) (l:List Lab):(c04 T l).length=8*l.length:=by
 unfold c04
 induction l with
 | nil=>rfl
 | cons k l ih=>rw [List.flatMap_cons,List.length_append,List.length_append,r8,r8,ih,List.length_cons];omega
theorem y0c (T:List Txt) (x:Ep):(c05 T (y9 x)).length=21+8*x.ls.length:=by
 simp only [c05,y9,List.cons_append,List.length_cons,List.length_append,r8,w0k];omega
theorem s0f {h:AH} {n:Nat} {tv:AV} {T:List Txt} {x:AV×Ep} (ht:Sl h 1 n tv (tx T)) (hn:n≤2 ^ 30) (hok:EnOk h x) (hl8:x.2.ls.length≤8) (hmem:∀ k ∈ x.2.ls,k.1 ∈ T∧k.2 ∈ T) :
  Ev P SI (.fn e0d) [tv,.agg (enC x)] h fun r g=>Own h.next g 1 (21+8*x.2.ls.length) r (by8 (c05 T (y9 x.2)))∧Fr h g:=by
 refine k8 n0J rfl rfl ?_
 have hTl:T.length=n:=by have:=ht.1;simpa [tx] using this
 have hp4:∀ s,s ∈ T→n64 (pl T s:Int)=pl T s:=fun s hs=>G8 _ (by have:=f04 hs;omega)
 have ge:(h.push (.cells (enC x) false)).get h.next=some (.cells (enC x) false):=b8 _
 have f1:Fr h (h.push (.cells (enC x) false)):=Fr.push (.refl h) _
 have gn:(h.push (.cells (enC x) false)).next=h.next+1:=rfl
 generalize hg1:h.push (.cells (enC x) false)=g1 at *
 have m0:load1 g1 h.next 0=.ok x.1:=b7 ge
 have lv:b0u x.1=.ok (.int .i64 (x.2.ls.length:Int)):=(hok.fr f1).len
 have w8:b9 .u8 (x.2.ls.length:Int)=(x.2.ls.length:Int):=wrap_u8 (by omega) (by omega)
 have m0':load1 (g1.push (.cells [.int .u8 (x.2.ls.length:Int)] false)) h.next 0=.ok x.1:=b7 (id:=h.next) (vs:=enC x) (ro:=false) (by rw [c7 (by omega)];exact ge)
 have box:g0p (.agg (enC x):AV).cells h=okV (.ptr h.next 0) g1:=by rw [← hg1];rfl
 simp [h0q,hg1,m0,lv,w8,i9,m0']
 have o1:=Own.fresh (B:=h.next+1) (h:=g1) (es:=1) (n:=1) (l:=by8 [x.2.ls.length]) true (by omega) rfl
 have f2:Fr h (g1.push (.cells [.int .u8 (x.2.ls.length:Int)] false)):=f1.push _
 refine m8 (n:=x.2.ls.length) (by rfl) (fun j σ ds g=>ds=[]∧σ 0=tv∧σ 3=.ptr h.next 0∧σ 14=x.1∧σ 15=.int .i64 (x.2.ls.length:Int)∧Fr h g∧g.get h.next=some (.cells (enC x) false)∧h.next<g.next ∧
   Own (h.next+1) g 1 (1+8*j) (σ 5) (by8 (x.2.ls.length::c04 T (x.2.ls.take j)))) (by omega) (by simp)
  ⟨rfl,by simp,by simp,by simp,by simp,f2,by rw [c7 (by omega)];exact ge,by show h.next<g1.next+1;omega,by simpa [c04,by8] using o1⟩ (fun j σ ds g hJ=>by simp [hJ.2.2.2.2.1]) ?_ ?_
 ·rintro j σ ds g hj hi ⟨rfl,e0,e3,e14,e15,fr,gx,hlt,ho⟩
  obtain ⟨⟨nm,vl⟩,hx⟩:=j7 (l:=x.2.ls) (j:=j) hj
  obtain ⟨hT1,hT2⟩:=hmem _ (List.mem_of_getElem? hx)
  obtain ⟨i1,o1',a1,a2,_⟩:=a0z (hok.fr fr) (k:=.i64) (i:=(j:Int)) rfl hx
  obtain ⟨bv,hbv⟩:∃ bv,σ 5=bv:=⟨_,rfl⟩
  rw [hbv] at ho
  have stn:=l6 (h:=g) (n:=2) (z:=[.str [],.str []]) (l:=[.str nm,.str vl]) rfl rfl rfl
  have fp:=Fr.push (.refl g) (.cells [.str nm,.str vl] false)
  have ge2:(g.push (.cells [.str nm,.str vl] false)).get g.next=some (.cells [.str nm,.str vl] false):=b8 _
  have gn2:(g.push (.cells [.str nm,.str vl] false)).next=g.next+1:=rfl
  have ho2:=ho.fr fp
  generalize hg2:g.push (.cells [.str nm,.str vl] false)=g2 at *
  have q0:load1 g2 g.next 0=.ok (.str nm):=b7 ge2
  have q1:load1 g2 g.next 1=.ok (.str vl):=b7 ge2
  have pl1:=fun K=>d0R (K:=K) (ht.fr (fr.trans fp)) (by omega) hT1
  obtain ⟨b,hb⟩:∃ b,pl T nm=b:=⟨_,rfl⟩
  obtain ⟨c,hc⟩:∃ c,pl T vl=c:=⟨_,rfl⟩
  have hb4:=hp4 nm hT1
  have hc4:=hp4 vl hT2
  rw [hb] at hb4 pl1
  rw [hc] at hc4
  have q1b:load1 (g2.push (.cells (by8 (be 4 b)) false)) g.next 1=.ok (.str vl):=b7 (id:=g.next) (vs:=[.str nm,.str vl]) (ro:=false) (by rw [c7 (by omega)];exact ge2)
  obtain ⟨v3,g3,c1,o3,fb3,p3,n3,i3⟩:=X8 (bs:=be 4 b) (k:=4) ho2 (by simp) (by omega) (by omega)
  have hidb:j9 bv≠some g.next:=fun hid=>by have:=(D0 ho hid).2;omega
  have ge3:g3.get g.next=some (.cells [.str nm,.str vl] false):=by rw [p3 _ (by omega) hidb];exact ge2
  have q2:load1 g3 g.next 1=.ok (.str vl):=b7 ge3
  have fr3:Fr h g3:=⟨by have:=fr.next;omega,fun i hi'=>by rw [fb3.get i (by omega),← hg2,c7 (by have:=fr.next;omega)];exact fr.get i hi'⟩
  have pl2:=fun K=>d0R (K:=K) (ht.fr fr3) (by omega) hT2
  rw [hc] at pl2
  obtain ⟨v4,g4,d1,o4,fb4,p4,n4,i4⟩:=X8 (bs:=be 4 c) (k:=4) o3 (by simp) (by omega) (by omega)
  simp [e14,hi,a1,a2,s7,stn,q0,q1,hbv,e0,pl1,b0r,hb4,q1b,c1,q2,pl2,hc4,d1,e3,e15]
  have hx3:g2.get h.next=some (.cells (enC x) false):=by rw [← hg2,c7 (by omega)];exact gx
  refine ⟨?_,?_,by omega,?_⟩
  ·exact ⟨by have:=fr3.next;omega,fun i hi'=>by rw [fb4.get i (by omega)];exact fr3.get i hi'⟩
  ·rw [fb4.get _ (by omega),fb3.get _ (by omega)];exact hx3
  ·rw [u9 _ _ _ hx,t0K,hb,hc]
   have e1:1+8*(j+1)=1+8*j+4+4:=by omega
   rw [e1]
   simp only [List.cons_append,List.append_assoc] at o4 ⊢
   exact o4
 ·rintro σ ds g ⟨rfl,e0,e3,e14,e15,fr,gx,hlt,ho⟩
  rw [List.take_of_length_le (Nat.le_refl _)] at ho
  obtain ⟨bv,hbv⟩:∃ bv,σ 5=bv:=⟨_,rfl⟩
  rw [hbv] at ho
  have m2:∀ g':AH,g'.get h.next=some (.cells (enC x) false)→load1 g' h.next 2=.ok (.int .i64 x.2.sz):=fun g' hg=>b7 (vs:=enC x) (ro:=false) hg
  have m3:∀ g':AH,g'.get h.next=some (.cells (enC x) false)→load1 g' h.next 3=.ok (.int .i64 x.2.mn):=fun g' hg=>b7 (vs:=enC x) (ro:=false) hg
  have m4:∀ g':AH,g'.get h.next=some (.cells (enC x) false)→load1 g' h.next 4=.ok (.int .i64 x.2.mx):=fun g' hg=>b7 (vs:=enC x) (ro:=false) hg
  obtain ⟨v1,g1',c1,o1',fb1,p1,n1,i1⟩:=X8 (bs:=be 4 (n64 x.2.sz)) (k:=4) ho (by simp) (by omega) (by omega)
  obtain ⟨v2,g2,c2,o2,fb2,p2,n2,i2⟩:=X8 (bs:=be 8 (n64 x.2.mn)) (k:=8) o1' (by simp) (by omega) (by omega)
  obtain ⟨v3,g3,c3,o3,fb3,p3,n3,i3⟩:=X8 (bs:=be 8 (n64 x.2.mx)) (k:=8) o2 (by simp) (by omega) (by omega)
  have gx1:g1'.get h.next=some (.cells (enC x) false):=by rw [fb1.get _ (by omega)];exact gx
  have gx2:g2.get h.next=some (.cells (enC x) false):=by rw [fb2.get _ (by omega)];exact gx1
  have gp:∀ (g':AH) (o:AObj),h.next<g'.next→g'.get h.next=some (.cells (enC x) false)→(g'.push o).get h.next=some (.cells (enC x) false):=fun g' o hl hg=>by rw [c7 (by omega)];exact hg
  simp [hbv,e3,m2 g gx,m3 g gx,m4 g gx,b0r,v0F,m3 _ (gp g _ hlt gx),m4 _ (gp g _ hlt gx),c1,m3 _ gx1,m4 _ gx1,m4 _ (gp g1' _ (by omega) gx1),c2,m4 _ gx2,c3]
  refine ⟨?_,?_⟩
  ·have e1:21+8*x.2.ls.length=1+8*x.2.ls.length+4+8+8:=by omega
   rw [e1]
   have:=o3.base (B':=h.next) (by omega)
   simp only [c05,y9,List.cons_append,List.append_assoc] at this ⊢
   exact this
  ·exact ⟨by have:=fr.next;omega,fun i hi'=>by rw [fb3.get i (by omega),fb2.get i (by omega),fb1.get i (by omega)];exact fr.get i hi'⟩
end Go.Dk

namespace Go.Dk
open Go Go.Dr
set_option maxRecDepth 100000
noncomputable def o0X:CC :=
 (.block 2
 (.loop
 (.seq
 (.ops [
 .row ⟨(some 23),none,.bin .lss a7 false (.t 22) (.t 21)⟩])
 (.seq
 (.cond (.t 23)
 .skip
 (.exit 2))
 (.seq
 (.block 3
 (.seq
 (.ops [
 .row ⟨(some 24),none,.idxV 1 (.t 20) (.t 22)⟩,
 .row ⟨(some 25),none,.load1 (.t 24)⟩,
 .row ⟨(some 9),none,.move (.t 25)⟩])
 (.seq
 (.ops [
 .row ⟨(some 10),none,.move (.c .nils)⟩])
 (.seq
 (.ops [
 .row ⟨(some 11),none,.move (.c (.int .i64 0))⟩])
 (.seq
 (.seq
 (.ops [
 .row ⟨(some 26),none,.move (.t 1)⟩,
 .row ⟨(some 27),none,.lenV (.t 26)⟩,
 .row ⟨(some 28),none,.move (.c (.int .i64 0))⟩])
 (.block 4
 (.loop
 (.seq
 (.ops [
 .row ⟨(some 29),none,.bin .lss a7 false (.t 28) (.t 27)⟩])
 (.seq
 (.cond (.t 29)
 .skip
 (.exit 4))
 (.seq
 (.block 5
 (.seq
 (.ops [
 .row ⟨(some 30),none,.move (.t 28)⟩,
 .row ⟨(some 31),none,.idxV 5 (.t 26) (.t 28)⟩,
 .row ⟨(some 32),none,.loadN 5 (.t 31)⟩,
 .row ⟨(some 13),none,.new [.nils,(.int .i64 0),(.int .i64 0),(.int .i64 0),(.int .i64 0)]⟩,
 .row ⟨(some 12),none,.move (.t 30)⟩,
 .row ⟨none,none,.store 5 (.t 13) (.t 32)⟩])
 (.seq
 (.ops [
 .row ⟨(some 33),none,.fieldAddr 0 (.t 13)⟩,
 .row ⟨(some 34),none,.load1 (.t 33)⟩,
 .row ⟨(some 35),none,.move (.t 7)⟩,
 .row ⟨(some 36),none,.callV (.c (.func (.func b0L) [] [])) [(.t 34),(.t 35)]⟩,
 .row ⟨(some 37),none,.move (.t 9)⟩,
 .row ⟨(some 38),none,.bin .eql s8 false (.t 36) (.t 37)⟩])
 (.cond (.t 38)
 (.seq
 (.ops [
 .row ⟨(some 39),none,.move (.t 10)⟩,
 .row ⟨(some 40),none,.move (.t 12)⟩,
 .row ⟨(some 41),none,.callV (.c (.func (.func A4) [] [])) [(.t 40)]⟩,
 .row ⟨(some 42),none,.app 1 1 (.t 39) (.t 41)⟩,
 .row ⟨(some 10),none,.move (.t 42)⟩])
 (.ops [
 .row ⟨(some 43),none,.move (.t 11)⟩,
 .row ⟨(some 44),none,.bin .add a7 true (.t 43) (.c (.int .i64 1))⟩,
 .row ⟨(some 11),none,.move (.t 44)⟩]))
 .skip))))
 (.ops [
 .row ⟨(some 45),none,.bin .add a7 true (.t 28) (.c (.int .i64 1))⟩,
 .row ⟨(some 28),none,.move (.t 45)⟩])))))))
 (.seq
 (.ops [
 .row ⟨(some 46),none,.move (.t 11)⟩,
 .row ⟨(some 47),none,.bin .gtr a7 true (.t 46) (.c (.int .i64 0))⟩])
 (.cond (.t 47)
 (.ops [
 .row ⟨(some 48),none,.move (.t 5)⟩,
 .row ⟨(some 49),none,.move (.t 0)⟩,
 .row ⟨(some 50),none,.move (.t 7)⟩,
 .row ⟨(some 51),none,.callV (.c (.func (.func K6) [] [])) [(.t 49),(.t 50)]⟩,
 .row ⟨(some 52),none,.callV (.c (.func (.func A4) [] [])) [(.t 51)]⟩,
 .row ⟨(some 53),none,.app 1 1 (.t 48) (.t 52)⟩,
 .row ⟨(some 54),none,.move (.t 0)⟩,
 .row ⟨(some 55),none,.move (.t 9)⟩,
 .row ⟨(some 56),none,.callV (.c (.func (.func K6) [] [])) [(.t 54),(.t 55)]⟩,
 .row ⟨(some 57),none,.callV (.c (.func (.func A4) [] [])) [(.t 56)]⟩,
 .row ⟨(some 58),none,.app 1 1 (.t 53) (.t 57)⟩,
 .row ⟨(some 59),none,.move (.t 11)⟩,
 .row ⟨(some 60),none,.callV (.c (.func (.func A4) [] [])) [(.t 59)]⟩,
 .row ⟨(some 61),none,.app 1 1 (.t 58) (.t 60)⟩,
 .row ⟨(some 62),none,.move (.t 10)⟩,
 .row ⟨(some 63),none,.app 1 1 (.t 61) (.t 62)⟩,
 .row ⟨(some 5),none,.move (.t 63)⟩])
 .skip)))))))
 (.ops [
 .row ⟨(some 64),none,.bin .add a7 true (.t 22) (.c (.int .i64 1))⟩,
 .row ⟨(some 22),none,.move (.t 64)⟩]))))))
noncomputable def o0Y:CC :=
 (.block 4
 (.loop
 (.seq
 (.ops [
 .row ⟨(some 29),none,.bin .lss a7 false (.t 28) (.t 27)⟩])
 (.seq
 (.cond (.t 29)
 .skip
 (.exit 4))
 (.seq
 (.block 5
 (.seq
 (.ops [
 .row ⟨(some 30),none,.move (.t 28)⟩,
 .row ⟨(some 31),none,.idxV 5 (.t 26) (.t 28)⟩,
 .row ⟨(some 32),none,.loadN 5 (.t 31)⟩,
 .row ⟨(some 13),none,.new [.nils,(.int .i64 0),(.int .i64 0),(.int .i64 0),(.int .i64 0)]⟩,
 .row ⟨(some 12),none,.move (.t 30)⟩,
 .row ⟨none,none,.store 5 (.t 13) (.t 32)⟩])
 (.seq
 (.ops [
 .row ⟨(some 33),none,.fieldAddr 0 (.t 13)⟩,
 .row ⟨(some 34),none,.load1 (.t 33)⟩,
 .row ⟨(some 35),none,.move (.t 7)⟩,
 .row ⟨(some 36),none,.callV (.c (.func (.func b0L) [] [])) [(.t 34),(.t 35)]⟩,
 .row ⟨(some 37),none,.move (.t 9)⟩,
 .row ⟨(some 38),none,.bin .eql s8 false (.t 36) (.t 37)⟩])
 (.cond (.t 38)
 (.seq
 (.ops [
 .row ⟨(some 39),none,.move (.t 10)⟩,
 .row ⟨(some 40),none,.move (.t 12)⟩,
 .row ⟨(some 41),none,.callV (.c (.func (.func A4) [] [])) [(.t 40)]⟩,
 .row ⟨(some 42),none,.app 1 1 (.t 39) (.t 41)⟩,
 .row ⟨(some 10),none,.move (.t 42)⟩])
 (.ops [
 .row ⟨(some 43),none,.move (.t 11)⟩,
 .row ⟨(some 44),none,.bin .add a7 true (.t 43) (.c (.int .i64 1))⟩,
 .row ⟨(some 11),none,.move (.t 44)⟩]))
 .skip))))
 (.ops [
 .row ⟨(some 45),none,.bin .add a7 true (.t 28) (.c (.int .i64 1))⟩,
 .row ⟨(some 28),none,.move (.t 45)⟩]))))))
theorem r02:∀ (l:List Lab) (n v:Txt),b0Y l→v≠[]→(l0g l n=v↔(n,v) ∈ l)
 | [],n,v,_,hv=>by simp [l0g];exact fun h=>hv h
 | k::l,n,v,hp,hv=>by
  have hp2:b0Y l:=(List.nodup_cons.1 hp).2
  unfold l0g
  by_cases hk:k.1=n
  ·rw [if_pos hk]
   constructor
   ·rintro rfl;rw [← hk];exact List.mem_cons_self
   ·intro h
    rcases List.mem_cons.1 h with h | h
    ·rw [← h]
    ·have hm:k.1 ∈ l.map (·.1):=List.mem_map.2 ⟨(n,v),h,hk.symm⟩
     exact absurd hm (List.nodup_cons.1 hp).1
  ·rw [if_neg hk,r02 l n v hp2 hv]
   constructor
   ·exact List.mem_cons_of_mem _
   ·intro h
    rcases List.mem_cons.1 h with h | h
    ·rw [← h] at hk;exact absurd rfl hk
    ·exact h
def k0c (l:List Ent) (k:j0L) (j:Nat):List Nat:=(List.range j).filter fun i=>match l[i]? with | some x=>decide (k ∈ x.ls) | none=>false
theorem v06 (l:List Ent) (k:j0L) (j:Nat) (x:Ent) (hx:l[j]? = some x):k0c l k (j+1)=k0c l k j++if k ∈ x.ls then [j] else []:=by
 unfold k0c
 rw [List.range_succ,List.filter_append]
 congr 1
 by_cases h:k ∈ x.ls <;> simp [hx,h]
theorem u0A (l:List Ent) (k:j0L) (j:Nat):(k0c l k j).length≤j:=by
 have:=List.length_filter_le (fun i=>match l[i]? with | some x=>decide (k ∈ x.ls) | none=>false) (List.range j)
 rw [List.length_range] at this
 exact this
theorem z0l {Q:G9} {σ:Sg} {h g0:AH} {n:Nat} {v:AV} {xs:List (AV×Ep)} {nm vl:Txt} (h7:σ 7=.str nm) (h9:σ 9=.str vl) (h10:σ 10=.nils) (h11:σ 11=.int .i64 0) (h26:σ 26=v) (h27:σ 27=.int .i64 (n:Int)) (h28:σ 28=.int .i64 0)
  (s:Sl h 5 n v (xs.flatMap enC)) (hn:n≤100000) (he:∀ x ∈ xs,EnOk h x∧x.2.ls.length≤8∧b0Y x.2.ls) (f0:Fr h g0) (hvl:vl≠[])
  (hQ:∀ σ' g' pv,σ' 10=pv→σ' 11=.int .i64 ((plc (xs.map fun x=>y9 x.2) (nm,vl)).length:Int)→(∀ t,t<10∨(13<t∧t<28)→σ' t=σ t)→Fr g0 g' →
   Own g0.next g' 1 (4*(plc (xs.map fun x=>y9 x.2) (nm,vl)).length) pv (by8 ((plc (xs.map fun x=>y9 x.2) (nm,vl)).flatMap (be 4)))→Q .normal σ' [] g') :
  wpC P SI o0Y Q σ [] g0:=by
 have hl:xs.length=n:=by have:=s.1;rw [b04] at this;omega
 generalize hents:(xs.map fun x=>y9 x.2)=ents at *
 have hel:ents.length=n:=by rw [← hents,List.length_map,hl]
 simp only [o0Y,E0]
 refine m8 (n:=n) (by rfl) (fun j σ' ds g=>ds=[]∧(∀ t,t<10∨(13<t∧t<28)→σ' t=σ t)∧Fr g0 g∧σ' 11=.int .i64 ((k0c ents (nm,vl) j).length:Int)∧Own g0.next g 1 (4*(k0c ents (nm,vl) j).length) (σ' 10) (by8 ((k0c ents (nm,vl) j).flatMap (be 4)))) (by omega) h28
  ⟨rfl,fun _ _=>rfl,.refl _,by simp [k0c,h11],by rw [h10];simpa [k0c,by8] using Own.nil (h:=g0) g0.next 1⟩ ?_ ?_ ?_
 ·rintro j σ' ds g ⟨rfl,hσ,_⟩
  simp [hσ 27 (by omega),h27]
 ·rintro j σ' ds g hj hi ⟨rfl,hσ,fr,e11,ho⟩
  obtain ⟨x,hx⟩:=j7 (l:=xs) (j:=j) (by omega)
  obtain ⟨hok,hl8,hpt⟩:=he x (List.mem_of_getElem? hx)
  have hxe:ents[j]? = some (y9 x.2):=by rw [← hents];simp [hx]
  have fh:=f0.trans fr
  obtain ⟨id,o,a1,a2,_⟩:=f0K (s.fr fh) hx
  have okg:=hok.fr fh
  have hlc:=Sl.oneCell okg
  have e7:=(hσ 7 (by omega)).trans h7
  have e9:=(hσ 9 (by omega)).trans h9
  have e26:=(hσ 26 (by omega)).trans h26
  obtain ⟨pv,hpv⟩:∃ pv,σ' 10=pv:=⟨_,rfl⟩
  rw [hpv] at ho
  have stn:=l6 (h:=g) (n:=5) (z:=[.nils,.int .i64 0,.int .i64 0,.int .i64 0,.int .i64 0]) (l:=enC x) rfl rfl (by simp [enC,d8,hlc.2])
  have fp:=Fr.push (.refl g) (.cells (enC x) false)
  have ge:(g.push (.cells (enC x) false)).get g.next=some (.cells (enC x) false):=b8 _
  generalize hg1:g.push (.cells (enC x) false)=g1 at *
  have m0:load1 g1 g.next 0=.ok x.1:=b7 ge
  simp [hi,e26,a1,s7,a2,stn,m0,e7]
  refine (v0G (okg.fr fp) (by omega)).mono ?_
  rintro r g2 ⟨rfl,f2⟩
  have hlen:=u0A ents (nm,vl) j
  have hsucc:=v06 ents (nm,vl) j _ hxe
  have hiff:=r02 x.2.ls nm vl hpt hvl
  by_cases hg:l0g x.2.ls nm=vl
  ·rw [if_pos (show (nm,vl) ∈ (y9 x.2).ls from hiff.1 hg)] at hsucc
   have F2:Fr g0 g2:=(fr.trans fp).trans f2
   have ho2:=(ho.fr fp).fr f2
   obtain ⟨c,hc⟩:∃ c,(k0c ents (nm,vl) j).length=c:=⟨_,rfl⟩
   rw [hc] at e11 ho2 hlen
   have hn64:n64 (j:Int)=j:=G8 j (by omega)
   obtain ⟨v3,g3,c1,o3,fb3,p3,n3,i3⟩:=X8 (bs:=be 4 j) (k:=4) ho2 (by simp) F2.next (by omega)
   have w:b9 .i64 ((c:Int)+1)=(c:Int)+1:=wrap_i64 (by omega) (by omega)
   simp [e9,hg,hpv,b0r,hn64,c1,e11,w,hi,-List.length_flatMap]
   refine ⟨fun t ht=>?_,?_,?_,?_⟩
   ·repeat rw [if_neg (by omega)]
    exact hσ t ht
   ·exact ⟨by have:=F2.next;omega,fun i hi'=>by rw [fb3.get i hi'];exact F2.get i hi'⟩
   ·rw [hsucc];simp [hc]
   ·rw [hsucc,List.length_append,hc,List.flatMap_append]
    simpa [Nat.mul_add] using o3
  ·rw [if_neg (show ¬ (nm,vl) ∈ (y9 x.2).ls from fun hm=>hg (hiff.2 hm)),List.append_nil] at hsucc
   simp [e9,hg,e11,hi,hpv,-List.length_flatMap]
   refine ⟨fun t ht=>?_,(fr.trans fp).trans f2,?_,?_⟩
   ·repeat rw [if_neg (by omega)]
    exact hσ t ht
   ·rw [hsucc]
   ·rw [hsucc];exact (ho.fr fp).fr f2
 ·rintro σ' ds g ⟨rfl,hσ,fr,e11,ho⟩
  simp
  have hpe:k0c ents (nm,vl) n=plc ents (nm,vl):=by unfold k0c plc;rw [hel];rfl
  rw [hpe] at e11 ho
  exact hQ _ g (σ' 10) (by simp) (by simpa using e11) (fun t ht=>by simp only [Q3];rw [if_neg (by omega)];exact hσ t ht) fr ho
end Go.Dk

namespace Go.Dk
open Go Go.Dr
set_option maxRecDepth 100000
theorem d0T {α β:Type} (f:α→List β) (l:List α) (j:Nat):((l.take j).flatMap f).length≤(l.flatMap f).length:=by
 have:(l.take j).flatMap f <+: l.flatMap f:=by
  conv=>rhs;rw [← List.take_append_drop j l]
  rw [List.flatMap_append]
  exact List.prefix_append _ _
 exact this.length_le
theorem y02 {Q:G9} {σ:Sg} {h g0:AH} {n k m:Nat} {v tv ov:AV} {xs:List (AV×Ep)} {T:List Txt} {nm:Txt} {b0:List Nat} (h0:σ 0=tv) (h1:σ 1=v) (h5:σ 5=ov) (h7:σ 7=.str nm) (h20:σ 20=tv) (h21:σ 21=.int .i64 (k:Int)) (h22:σ 22=.int .i64 0)
  (s:Sl h 5 n v (xs.flatMap enC)) (hn:n≤100000) (he:∀ x ∈ xs,EnOk h x∧x.2.ls.length≤8∧b0Y x.2.ls) (ht:Sl h 1 k tv (tx T)) (hk:k≤2 ^ 30) (hne:∀ y ∈ T,y≠[]) (hnm:nm ∈ T) (f0:Fr h g0)
  (ho:Own h.next g0 1 m ov (by8 b0)) (hm:b0.length=m) (hb:m+(T.flatMap fun v=>Y7 T (xs.map fun x=>y9 x.2) (nm,v)).length≤2 ^ 39)
  (hQ:∀ σ' g' ov',σ' 5=ov'→(∀ t,t≠5→(t<9∨(13<t∧t<20))→σ' t=σ t)→Fr h g' →
   Own h.next g' 1 (m+(T.flatMap fun v=>Y7 T (xs.map fun x=>y9 x.2) (nm,v)).length) ov' (by8 (b0++T.flatMap fun v=>Y7 T (xs.map fun x=>y9 x.2) (nm,v)))→Q .normal σ' [] g') :
  wpC P SI o0X Q σ [] g0:=by
 have hTl:T.length=k:=by have:=ht.1;simpa [tx] using this
 have hp4:∀ s,s ∈ T→n64 (pl T s:Int)=pl T s:=fun s hs=>G8 _ (by have:=f04 hs;omega)
 generalize hents:(xs.map fun x=>y9 x.2)=ents at *
 simp only [o0X,E0]
 refine m8 (n:=k) (by rfl) (fun j σ' ds g=>ds=[]∧(∀ t,t≠5→(t<9∨(13<t∧t<20))→σ' t=σ t)∧σ' 20=tv∧σ' 21=.int .i64 (k:Int)∧Fr h g ∧
   Own h.next g 1 (m+((T.take j).flatMap fun v=>Y7 T ents (nm,v)).length) (σ' 5) (by8 (b0++(T.take j).flatMap fun v=>Y7 T ents (nm,v)))) (by omega) h22
  ⟨rfl,fun _ _ _=>rfl,h20,h21,f0,by rw [h5];simpa using ho⟩ (fun j σ ds g hJ=>by simp [hJ.2.2.2.1]) ?_ ?_
 ·rintro j σ' ds g hj hi ⟨rfl,hσ,e20,e21,fr,hoj⟩
  obtain ⟨vl,hx⟩:=j7 (l:=T) (j:=j) (by omega)
  have hvl:=List.mem_of_getElem? hx
  obtain ⟨id,o,a1,a2,_⟩:=(ht.fr fr).get1 (k:=.i64) (i:=(j:Int)) rfl hj (x:=.str vl) (by simp [tx,hx])
  have e0:=(hσ 0 (by omega) (by omega)).trans h0
  have e1:=(hσ 1 (by omega) (by omega)).trans h1
  have e7:=(hσ 7 (by omega) (by omega)).trans h7
  obtain ⟨ov1,hov⟩:∃ ov1,σ' 5=ov1:=⟨_,rfl⟩
  rw [hov] at hoj
  have hpre:=d0T (fun v=>Y7 T ents (nm,v)) T (j+1)
  have hsn:(T.take (j+1)).flatMap (fun v=>Y7 T ents (nm,v))=(T.take j).flatMap (fun v=>Y7 T ents (nm,v))++Y7 T ents (nm,vl):=by
   rw [u9 _ _ _ hx,List.flatMap_append];simp
  rw [hsn,List.length_append] at hpre
  generalize hB:(T.take j).flatMap (fun v=>Y7 T ents (nm,v))=B at *
  have sl:=(s.fr fr).len
  simp only [Q1]
  simp [hi,e20,a1,a2,e1,sl,-List.length_flatMap]
  refine z0l (h:=h) (n:=n) (v:=v) (xs:=xs) (nm:=nm) (vl:=vl) (by simp [e7]) (by simp) (by simp) (by simp) (by simp [e1]) (by simp) (by simp) s hn he fr (hne vl hvl) ?_
  intro σ2 g2 pv h210 h211 hσ2 f2 op
  rw [hents] at h211 op
  have z0:σ2 0=tv:=by rw [hσ2 0 (by omega)];simp [e0]
  have z5:σ2 5=ov1:=by rw [hσ2 5 (by omega)];simp [hov]
  have z7:σ2 7=.str nm:=by rw [hσ2 7 (by omega)];simp [e7]
  have z9:σ2 9=.str vl:=by rw [hσ2 9 (by omega)];simp
  have z20:σ2 20=tv:=by rw [hσ2 20 (by omega)];simp [e20]
  have z21:σ2 21=.int .i64 (k:Int):=by rw [hσ2 21 (by omega)];simp [e21]
  have z22:σ2 22=.int .i64 (j:Int):=by rw [hσ2 22 (by omega)];simp [hi]
  have hpost:Y7 T ents (nm,vl)=if plc ents (nm,vl)=[] then [] else be 4 (pl T nm)++be 4 (pl T vl)++be 4 (plc ents (nm,vl)).length++(plc ents (nm,vl)).flatMap (be 4):=rfl
  rw [hsn]
  rw [hpost] at hpre ⊢
  have hplen:(plc ents (nm,vl)).length≤n:=by
   have:=u0A ents (nm,vl) ents.length
   have e:k0c ents (nm,vl) ents.length=plc ents (nm,vl):=rfl
   rw [e,← hents,List.length_map] at this
   have hl:xs.length=n:=by have:=s.1;rw [b04] at this;omega
   rw [← hents];omega
  generalize hP:plc ents (nm,vl)=P' at *
  by_cases hPe:P'=[]
  ·subst hPe
   simp [h211,z20,z21,z22,-List.length_flatMap]
   refine ⟨fun t h1 h2=>?_,fr.trans f2,?_⟩
   ·repeat rw [if_neg (by omega)]
    rw [hσ2 t (by omega)]
    simp only [Q3]
    repeat rw [if_neg (by omega)]
    exact hσ t h1 h2
   ·rw [z5];exact hoj.fr f2
  ·rw [if_neg hPe] at hpre ⊢
   have hc0:0<P'.length:=List.length_pos_iff.2 hPe
   have hc0':(0:Int)<(P'.length:Int):=by omega
   have F2:=fr.trans f2
   obtain ⟨b,hb'⟩:∃ b,pl T nm=b:=⟨_,rfl⟩
   obtain ⟨c,hc'⟩:∃ c,pl T vl=c:=⟨_,rfl⟩
   have hb4:=hp4 nm hnm
   have hc4:=hp4 vl hvl
   have hq4:n64 (P'.length:Int)=P'.length:=G8 _ (by omega)
   rw [hb'] at hb4 hpre ⊢
   rw [hc'] at hc4 hpre ⊢
   have oj2:=hoj.fr f2
   simp only [List.length_append,r8,a0C] at hpre
   have hBm:(b0++B).length=m+B.length:=by rw [List.length_append,hm]
   obtain ⟨v3,g3,c1,o3,fb3,p3,n3,i3⟩:=X8 (bs:=be 4 b) (k:=4) oj2 (by simp) F2.next (by omega)
   obtain ⟨v4,g4,c2,o4,fb4,p4,n4,i4⟩:=X8 (bs:=be 4 c) (k:=4) o3 (by simp) (by have:=F2.next;omega) (by omega)
   obtain ⟨v5,g5,c3,o5,fb5,p5,n5,i5⟩:=X8 (bs:=be 4 P'.length) (k:=4) o4 (by simp) (by have:=F2.next;omega) (by omega)
   have F3:Fr h g3:=⟨by have:=F2.next;omega,fun i hi'=>by rw [fb3.get i hi'];exact F2.get i hi'⟩
   have F4:Fr h g4:=⟨by have:=F3.next;omega,fun i hi'=>by rw [fb4.get i hi'];exact F3.get i hi'⟩
   have F5:Fr h g5:=⟨by have:=F4.next;omega,fun i hi'=>by rw [fb5.get i hi'];exact F4.get i hi'⟩
   have hpid:∀ i,j9 pv=some i→g.next≤i∧i<g2.next:=fun i hi'=>D0 op hi'
   have hoid:∀ i,j9 ov1=some i→i<g.next:=fun i hi'=>(D0 hoj hi').2
   have d3:∀ i,j9 pv=some i→j9 v3≠some i:=fun i hi' hv=>by
    have:=hpid i hi'
    rcases i3 i hv with h | h
    ·have:=hoid i h;omega
    ·omega
   have d4:∀ i,j9 pv=some i→j9 v4≠some i:=fun i hi' hv=>by
    have:=hpid i hi'
    rcases i4 i hv with h | h
    ·exact d3 i hi' h
    ·omega
   have sp5:Sl g5 1 (4*P'.length) pv (by8 (P'.flatMap (be 4))):=Sl.same_get op.sl (by omega) (fun i hi'=>by
    have:=hpid i hi'
    rw [p5 i (by omega) (d4 i hi'),p4 i (by omega) (d3 i hi'),p3 i (by omega) (fun hv=>by have:=hoid i hv;omega)])
   obtain ⟨v6,g6,c4,o6,fb6,p6,q6⟩:=o5.append (bytes:=1) sp5 (by have:=F5.next;omega) (C8 _) (by omega) (by omega)
   have pl1:=fun K=>d0R (K:=K) (ht.fr F2) (by omega) hnm
   have pl2:=fun K=>d0R (K:=K) (ht.fr F3) (by omega) hvl
   rw [hb'] at pl1
   rw [hc'] at pl2
   simp [h211,hc0,z5,z0,z7,pl1,b0r,hb4,c1,z9,pl2,hc4,c2,hq4,c3,h210,c4,z20,z21,z22,-List.length_flatMap]
   refine ⟨fun t h1 h2=>?_,⟨by have:=F5.next;have:=fb6.next;omega,fun i hi'=>by rw [fb6.get i hi'];exact F5.get i hi'⟩,?_⟩
   ·repeat rw [if_neg (by omega)]
    rw [hσ2 t (by omega)]
    simp only [Q3]
    repeat rw [if_neg (by omega)]
    exact hσ t h1 h2
   ·have e1:m+(B.length+(4+(4+(4+(P'.flatMap (be 4)).length))))=m+B.length+4+4+4+4*P'.length:=by
     rw [a0C];omega
    have e2:by8 (b0++(B++(be 4 b++(be 4 c++(be 4 P'.length++P'.flatMap (be 4))))))=by8 (b0++B++be 4 b++be 4 c++be 4 P'.length)++by8 (P'.flatMap (be 4)):=by
     rw [← M1];simp only [List.append_assoc]
    rw [e1,e2]
    exact o6
 ·rintro σ' ds g ⟨rfl,hσ,e20,e21,fr,hoj⟩
  rw [List.take_of_length_le (by omega)] at hoj
  simp
  exact hQ _ g (σ' 5) (by simp) (fun t h1 h2=>by simp only [Q3];rw [if_neg (by omega)];exact hσ t h1 h2) fr hoj
theorem m0H {h:AH} {n k:Nat} {v tv:AV} {xs:List (AV×Ep)} {T:List Txt} (s:Sl h 5 n v (xs.flatMap enC)) (hn:n≤100000) (he:∀ x ∈ xs,EnOk h x∧x.2.ls.length≤8∧b0Y x.2.ls) (ht:Sl h 1 k tv (tx T)) (hk:k≤2 ^ 30) (hne:∀ y ∈ T,y≠[])
  (hb:(e0k T (xs.map fun x=>y9 x.2)).length≤2 ^ 39) :
  Ev P SI (.fn b0n) [tv,v] h fun r g=>Own h.next g 1 (e0k T (xs.map fun x=>y9 x.2)).length r (by8 (e0k T (xs.map fun x=>y9 x.2)))∧Fr h g:=by
 refine k8 k0f rfl rfl ?_
 have hTl:T.length=k:=by have:=ht.1;simpa [tx] using this
 generalize hents:(xs.map fun x=>y9 x.2)=ents at *
 simp [e0W,ht.len,-List.length_flatMap]
 refine m8 (n:=k) (by rfl) (fun j σ ds g=>ds=[]∧σ 0=tv∧σ 1=v∧σ 14=tv∧σ 15=.int .i64 (k:Int)∧Fr h g ∧
   Own h.next g 1 ((T.take j).flatMap fun nm=>T.flatMap fun v=>Y7 T ents (nm,v)).length (σ 5) (by8 ((T.take j).flatMap fun nm=>T.flatMap fun v=>Y7 T ents (nm,v)))) (by omega) (by simp)
  ⟨rfl,by simp,by simp,by simp,by simp,.refl _,by simpa [by8] using Own.nil (h:=h) h.next 1⟩ (fun j σ ds g hJ=>by simp [hJ.2.2.2.2.1]) ?_ ?_
 ·rintro j σ ds g hj hi ⟨rfl,e0,e1,e14,e15,fr,ho⟩
  obtain ⟨nm,hx⟩:=j7 (l:=T) (j:=j) (by omega)
  have hnm:=List.mem_of_getElem? hx
  obtain ⟨id,o,a1,a2,_⟩:=(ht.fr fr).get1 (k:=.i64) (i:=(j:Int)) rfl hj (x:=.str nm) (by simp [tx,hx])
  have hpre:=d0T (fun nm=>T.flatMap fun v=>Y7 T ents (nm,v)) T (j+1)
  have hsn:(T.take (j+1)).flatMap (fun nm=>T.flatMap fun v=>Y7 T ents (nm,v))=(T.take j).flatMap (fun nm=>T.flatMap fun v=>Y7 T ents (nm,v))++T.flatMap fun v=>Y7 T ents (nm,v):=by
   rw [u9 _ _ _ hx,List.flatMap_append];simp
  rw [hsn,List.length_append] at hpre
  generalize hB:(T.take j).flatMap (fun nm=>T.flatMap fun v=>Y7 T ents (nm,v))=B at *
  have hpb:(T.flatMap fun nm=>T.flatMap fun v=>Y7 T ents (nm,v)).length≤2 ^ 39:=hb
  have tl:=(ht.fr fr).len
  simp only [Q1]
  simp [hi,e14,a1,a2,e0,tl,-List.length_flatMap]
  refine y02 (h:=h) (n:=n) (k:=k) (m:=B.length) (v:=v) (tv:=tv) (xs:=xs) (T:=T) (nm:=nm) (b0:=B) (by simp [e0]) (by simp [e1]) (by simp) (by simp) (by simp) (by simp) (by simp) s hn he ht hk hne hnm fr ho rfl (by rw [hents];omega) ?_
  intro σ2 g2 ov' h25 hσ2 f2 o2
  rw [hents] at o2
  have z0:σ2 0=tv:=by rw [hσ2 0 (by omega) (by omega)];simp [e0]
  have z1:σ2 1=v:=by rw [hσ2 1 (by omega) (by omega)];simp [e1]
  have z14:σ2 14=tv:=by rw [hσ2 14 (by omega) (by omega)];simp [e14]
  have z15:σ2 15=.int .i64 (k:Int):=by rw [hσ2 15 (by omega) (by omega)];simp [e15]
  have z16:σ2 16=.int .i64 (j:Int):=by rw [hσ2 16 (by omega) (by omega)];simp [hi]
  rw [hsn,List.length_append]
  simp [z0,z1,z14,z15,z16,h25,-List.length_flatMap]
  exact ⟨f2,o2⟩
 ·rintro σ ds g ⟨rfl,e0,e1,e14,e15,fr,ho⟩
  rw [List.take_of_length_le (by omega)] at ho
  simp
  exact ⟨ho,fr⟩
end Go.Dk

namespace Go.Dk
open Go Go.Dr
set_option maxRecDepth 100000
theorem u0J:∀ x y:Txt,Op.bytesLess x y=true↔x<y
 | x,[]=>by
  cases x <;> simp [Op.bytesLess]
 | [],y::l=>by simp [Op.bytesLess]
 | a::x,b::y=>by
  have ih:=u0J x y
  rw [List.cons_lt_cons_iff,← ih]
  simp only [Op.bytesLess,Bool.or_eq_true,decide_eq_true_eq,Bool.and_eq_true,beq_iff_eq]
theorem z0x (l:List Ep):s06 (Tof l):=by
 unfold s06 Tof f0Q
 have tr:∀ a b c:Txt,decide (a≤b)=true→decide (b≤c)=true→decide (a≤c)=true:=fun a b c h1 h2=>by simp only [decide_eq_true_eq] at *;exact List.le_trans h1 h2
 have to:∀ a b:Txt,(decide (a≤b)||decide (b≤a))=true:=fun a b=>by simp only [Bool.or_eq_true,decide_eq_true_eq];exact List.le_total a b
 have h1:=List.pairwise_mergeSort tr to (f0o [] (l.map (·.ls)))
 have h2:(f0Q (f0o [] (l.map (·.ls)))).Nodup:=o0n l
 unfold f0Q at h2
 refine (h1.and h2).imp fun {a b} h=>?_
 obtain ⟨h3,h4⟩:=h
 simp only [decide_eq_true_eq] at h3
 rcases q0D a b with h | h | h
 ·exact h
 ·exact absurd h h4
 ·exact absurd ((u0J b a).1 h) (List.not_lt.2 h3)
theorem q0a (l:List Ep):IsT (Tof l) (l.map (·.ls)):=⟨z0x l,fun s=>a01 l s⟩
theorem o05 (T:List Txt):∀ (l:List Ep) (off:Nat),evE T off l=(List.range l.length).flatMap fun i=>match (l.map y9)[i]? with | some x=>x.ls.map fun k=>((pl T k.1,pl T k.2),off+i) | none=>[]
 | [],_=>rfl
 | x::l,off=>by
  rw [evE,o05 T l (off+1),List.length_cons,List.range_succ_eq_map,List.flatMap_cons,List.flatMap_map]
  congr 1
  rw [List.flatMap_def,List.flatMap_def]
  congr 1
  refine List.map_congr_left fun i _=>?_
  simp only [List.map_cons,List.getElem?_cons_succ]
  rw [show off+1+i=off+(i+1) by omega]
theorem y0b (T:List Txt) (l:List Ep):L5 T (l.map y9)=evE T 0 l:=by
 rw [o05]
 unfold L5
 rw [List.length_map]
 rw [List.flatMap_def,List.flatMap_def]
 congr 1
 refine List.map_congr_left fun i _=>?_
 cases (l.map y9)[i]? with
 | none=>rfl
 | some x=>simp
theorem w0j (T:List Txt) (x:Ep) (h8:x.ls.length≤8) (hp:∀ k ∈ x.ls,pl T k.1<2 ^ 62∧pl T k.2<2 ^ 62):(itE T x).flatMap itB=c05 T (y9 x):=by
 have h1:∀ l:List Lab,(∀ k ∈ l,pl T k.1<2 ^ 62∧pl T k.2<2 ^ 62)→(l.flatMap fun k=>[It.w (pl T k.1:Int) 4,.w (pl T k.2:Int) 4]).flatMap itB=c04 T l:=by
  intro l
  induction l with
  | nil=>intro _;rfl
  | cons k l ih =>
   intro h
   obtain ⟨a,b⟩:=h k List.mem_cons_self
   have ih:=ih fun y hy=>h y (List.mem_cons_of_mem _ hy)
   unfold c04 at ih ⊢
   rw [List.flatMap_cons,List.flatMap_append,ih,List.flatMap_cons]
   congr 1
   simp only [List.flatMap_cons,List.flatMap_nil,List.append_nil,itB,G8 _ (Nat.lt_trans a (by decide)),G8 _ (Nat.lt_trans b (by decide))]
 have hb1:be 1 (n64 (x.ls.length:Int))=[x.ls.length]:=by
  rw [G8 _ (by omega)]
  simp only [be,List.nil_append,List.cons.injEq,and_true]
  omega
 unfold itE c05
 rw [List.cons_append,List.flatMap_cons,List.flatMap_append,h1 x.ls hp]
 simp only [List.flatMap_cons,List.flatMap_nil,List.append_nil,itB,hb1,y9,List.append_assoc,List.cons_append,List.nil_append]
theorem s0e {l:List Ep} (hn:l.length≤10000) (hc:W9 l=true) {T:List Txt} (hT:IsT T (l.map (·.ls))):R7 l=v0s T (l.map y9):=by
 have h8:=d0l hc
 have hTT:T=Tof l:=hT.unique (q0a l)
 subst hTT
 have hTl:=l0q l h8
 have hmem:∀ x ∈ l,∀ k ∈ x.ls,k.1 ∈ Tof l∧k.2 ∈ Tof l:=fun x hx k hk =>
  ⟨(a01 l _).2 ⟨x.ls,List.mem_map.2 ⟨x,hx,rfl⟩,k,hk,.inl rfl⟩,(a01 l _).2 ⟨x.ls,List.mem_map.2 ⟨x,hx,rfl⟩,k,hk,.inr rfl⟩⟩
 have hpl:∀ s ∈ Tof l,pl (Tof l) s<2 ^ 62:=fun s hs=>by have:=f04 hs;omega
 have hplist:l.map (·.ls)=(l.map y9).map (·.ls):=by rw [List.map_map];rfl
 have e1:([It.w ((Tof l).length:Int) 4]).flatMap itB=be 4 (Tof l).length:=by
  simp only [List.flatMap_cons,List.flatMap_nil,List.append_nil,itB,G8 _ (show (Tof l).length<2 ^ 64 by omega)]
 have e2:((Tof l).map It.t).flatMap itB=(Tof l).flatMap fun s=>s.length::bT s:=by
  rw [List.flatMap_map,List.flatMap_def,List.flatMap_def]
  congr 1
  refine List.map_congr_left fun s hs=>?_
  obtain ⟨y,hy,k,hk,hsk⟩:=(a01 l s).1 hs
  obtain ⟨x,hx,rfl⟩:=List.mem_map.1 hy
  obtain ⟨a,b,_⟩:=(b0c (d0k hc x hx).1).2 k hk
  have:s.length≤40:=by rcases hsk with rfl | rfl <;> omega
  simp only [itB]
  rw [Nat.mod_eq_of_lt (by omega)]
 have e3:([It.w (l.length:Int) 4]).flatMap itB=be 4 l.length:=by
  simp only [List.flatMap_cons,List.flatMap_nil,List.append_nil,itB,G8 _ (show l.length<2 ^ 64 by omega)]
 have e4:(l.flatMap (itE (Tof l))).flatMap itB=(l.map y9).flatMap (c05 (Tof l)):=by
  rw [List.flatMap_assoc,List.flatMap_map,List.flatMap_def,List.flatMap_def]
  congr 1
  exact List.map_congr_left fun x hx=>w0j _ x (h8 x hx) fun k hk=>⟨hpl _ (hmem x hx k hk).1,hpl _ (hmem x hx k hk).2⟩
 have hevs:L5 (Tof l) (l.map y9)=evE (Tof l) 0 l:=y0b _ l
 have hmm:c02 l=L6 (L5 (Tof l) (l.map y9)):=by rw [hevs];rfl
 have hpart:∀ x ∈ l.map y9,b0Y x.ls:=fun x hx=>by
  obtain ⟨y,hy,rfl⟩:=List.mem_map.1 hx
  exact g0y (d0k hc y hy).1
 have hkey:∀ p ∈ (c02 l).map (·.1),p.1<2 ^ 62∧p.2<2 ^ 62:=by
  intro p hp
  unfold c02 at hp
  rw [j0N,← hevs] at hp
  obtain ⟨e,he,rfl⟩:=List.mem_map.1 hp
  unfold L5 at he
  obtain ⟨i,_,hi⟩:=List.mem_flatMap.1 he
  cases hx:(l.map y9)[i]? with
  | none=>rw [hx] at hi;cases hi
  | some x =>
   rw [hx] at hi
   obtain ⟨k,hk,rfl⟩:=List.mem_map.1 hi
   obtain ⟨y,hy,rfl⟩:=List.mem_map.1 (List.mem_of_getElem? hx)
   have:=hmem y hy k hk
   exact ⟨hpl _ this.1,hpl _ this.2⟩
 have e5:(itP (c02 l) (i0D ((c02 l).map (·.1)))).flatMap itB=e0k (Tof l) (l.map y9):=by
  have hnd:((c02 l).map (·.1)).Nodup:=s08 _
  rw [← w06 (by rw [← hplist];exact q0a l) hpart (w0T hnd) (fun p=>by rw [i0E,hmm])]
  unfold itP
  rw [List.flatMap_assoc,List.flatMap_def,List.flatMap_def]
  congr 1
  refine List.map_congr_left fun p hp=>?_
  obtain ⟨a,b⟩:=hkey p ((i0E _ p).1 hp)
  rw [← hmm]
  simp only [List.flatMap_cons,List.flatMap_nil,List.append_nil,itB,i0K,G8 _ (Nat.lt_trans a (show (2:Nat) ^ 62<2 ^ 64 by decide)),G8 _ (Nat.lt_trans b (show (2:Nat) ^ 62<2 ^ 64 by decide)),List.append_assoc]
 unfold R7 a02 v0s u0f
 rw [List.flatMap_append,List.flatMap_append,List.flatMap_append,List.flatMap_append,e1,e2,e3,e4,e5,List.length_map]
end Go.Dk

namespace Go.Dk
open Go Go.Dr
set_option maxRecDepth 100000
theorem x09 {B n k:Nat} {g:AH} {v x:AV} {l bs:List Nat} (o:Own B g 1 n v (by8 l)) (s:Sl g 1 k x (by8 bs)) (hB:B≤g.next) (hb:n+k≤2 ^ 40) :
  ∃ v' g',H6 1 1 v x g=okV v' g'∧Own B g' 1 (n+k) v' (by8 (l++bs))∧FrB B g g':=by
 obtain ⟨v',g',e,o2,f,p,q⟩:=o.append (bytes:=1) s hB (C8 _) (by omega) (by omega)
 exact ⟨v',g',e,by rw [M1];exact o2,f⟩
theorem p09 {h:AH} {n:Nat} {v:AV} {xs:List (AV×Ep)} (s:Sl h 5 n v (xs.flatMap enC)) (hn:n≤10000) (he:∀ x ∈ xs,EnOk h x∧X0 x.2.ls∧x.2.ls.length<2 ^ 62) :
  Ev P SI (.fn c0S) [v] h (j0b h (xs.map (·.2))):=by
 refine k8 m0n rfl rfl ?_
 have hl:xs.length=n:=by have:=s.1;rw [b04] at this;omega
 simp only [f09,Q1]
 simp
 refine (o0G s (by omega) he).mono ?_
 rintro r g ⟨rfl,f1⟩
 cases hc:W9 (xs.map (·.2)) with
 | false =>
  simp [j0b,hc]
  exact f1
 | true =>
  have hll:(xs.map (·.2)).length≤10000:=by rw [List.length_map];omega
  have h8:=d0l hc
  have h8x:∀ x ∈ xs,x.2.ls.length≤8:=fun x hx=>h8 x.2 (List.mem_map.2 ⟨x,hx,rfl⟩)
  have hcx:∀ x ∈ xs,R9 x.2.ls=true:=fun x hx=>(d0k hc x.2 (List.mem_map.2 ⟨x,hx,rfl⟩)).1
  simp
  refine (r00 (s.fr f1) (by omega) (fun x hx=>⟨(he x hx).1.fr f1,h8x x hx⟩)).mono ?_
  rintro tv g2 ⟨T,k,ht,hT,f2,hk⟩
  have F2:=f1.trans f2
  have hTl:T.length=k:=by have:=ht.1;simpa [tx] using this
  have hT':IsT T ((xs.map (·.2)).map (·.ls)):=by rw [List.map_map];exact hT
  have hbe:=s0e hll hc hT'
  have hBl:=m06 hll hc
  have hents:(xs.map (·.2)).map y9=xs.map fun x=>y9 x.2:=by rw [List.map_map];rfl
  rw [hents] at hbe
  have hel:(xs.map fun x=>y9 x.2).length=n:=by rw [List.length_map,hl]
  have hmemT:∀ x ∈ xs,∀ y ∈ x.2.ls,y.1 ∈ T∧y.2 ∈ T:=fun x hx y hy =>
   ⟨(hT.2 _).2 ⟨x.2.ls,List.mem_map.2 ⟨x,hx,rfl⟩,y,hy,.inl rfl⟩,(hT.2 _).2 ⟨x.2.ls,List.mem_map.2 ⟨x,hx,rfl⟩,y,hy,.inr rfl⟩⟩
  have hTs:∀ y ∈ T,y.length≤40∧y≠[]:=fun y hy=>by
   obtain ⟨z,hz,k,hk,hyk⟩:=(hT.2 y).1 hy
   obtain ⟨x,hx,rfl⟩:=List.mem_map.1 hz
   obtain ⟨a,b,c,d⟩:=(b0c (hcx x hx)).2 k hk
   rcases hyk with rfl | rfl
   ·exact ⟨by omega,c⟩
   ·exact ⟨b,d⟩
  have hkn:n64 (k:Int)=k:=G8 _ (by omega)
  have hnn:n64 (n:Int)=n:=G8 _ (by omega)
  have hfin:v0s T (xs.map fun x=>y9 x.2)=be 4 k++(T.flatMap fun s=>s.length::bT s)++be 4 n++(xs.map fun x=>y9 x.2).flatMap (c05 T)++e0k T (xs.map fun x=>y9 x.2):=by
   unfold v0s u0f;rw [hTl,hel]
  rw [hfin] at hbe
  rw [hbe] at hBl
  simp only [List.length_append,r8] at hBl
  have o1:=Own.fresh (B:=g2.next) (h:=g2) (es:=1) (n:=4) (l:=by8 (be 4 k)) true (Nat.le_refl _) (by simp)
  have tl:=ht.len
  have tl2:=(ht.fr (Fr.push (.refl g2) (.cells (by8 (be 4 k)) false))).len
  simp [tl,b0r,hkn,tl2,-List.length_flatMap]
  refine m8 (n:=k) (by rfl) (fun j σ ds g=>ds=[]∧σ 0=v∧σ 4=tv∧σ 18=tv∧σ 19=.int .i64 (k:Int)∧Fr g2 g∧Own g2.next g 1 (4+((T.take j).flatMap fun s=>s.length::bT s).length) (σ 5) (by8 (be 4 k++(T.take j).flatMap fun s=>s.length::bT s))) (by omega) (by simp)
   ⟨rfl,by simp,by simp,by simp,by simp,Fr.push (.refl g2) _,by simpa using o1⟩ (fun j σ ds g hJ=>by simp [hJ.2.2.2.2.1]) ?_ ?_
  ·rintro j σ ds g' hj hi ⟨rfl,e0,e4,e18,e19,fr,ho⟩
   obtain ⟨y,hy⟩:=j7 (l:=T) (j:=j) (by omega)
   obtain ⟨id,o,a1,a2,_⟩:=(ht.fr fr).get1 (k:=.i64) (i:=(j:Int)) rfl hj (x:=.str y) (by simp [tx,hy])
   obtain ⟨hy40,_⟩:=hTs y (List.mem_of_getElem? hy)
   obtain ⟨bv,hbv⟩:∃ bv,σ 5=bv:=⟨_,rfl⟩
   rw [hbv] at ho
   have hpre:=d0T (fun s=>s.length::bT s) T (j+1)
   have hsn:(T.take (j+1)).flatMap (fun s=>s.length::bT s)=(T.take j).flatMap (fun s=>s.length::bT s)++(y.length::bT y):=by
    rw [u9 _ _ _ hy,List.flatMap_append];simp
   have hyl:(y.length::bT y).length=1+y.length:=by simp [bT];omega
   rw [hsn,List.length_append,hyl] at hpre
   generalize hB:(T.take j).flatMap (fun s=>s.length::bT s)=B at *
   have w8:b9 .u8 (y.length:Int)=(y.length:Int):=wrap_u8 (by omega) (by omega)
   obtain ⟨v3,g3,c1,o3,fb3,p3,n3,i3⟩:=X8 (bs:=[y.length]) (k:=1) ho rfl fr.next (by omega)
   have c1':H6 1 1 bv (.slice g'.next 0 1 1 true 1) (g'.push (.cells [.int .u8 (y.length:Int)] false))=okV v3 g3:=c1
   obtain ⟨v4,g4,c2,o4,fb4,p4,q4⟩:=o3.append_src (bytes:=1) (p0z y) (by simp) (by have:=fr.next;omega) (C8 _) (by omega) (by omega)
   simp [e18,hi,a1,a2,hbv,w8,i9,c1',c2,e0,e4,e19,-List.length_flatMap]
   rw [hsn]
   refine ⟨⟨by have:=fr.next;have:=fb4.next;omega,fun i hi'=>by rw [fb4.get i hi',fb3.get i hi'];exact fr.get i hi'⟩,?_⟩
   have e1:4+(B++y.length::bT y).length=4+B.length+1+y.length:=by rw [List.length_append,hyl];omega
   rw [e1]
   have e2:by8 (be 4 k++(B++y.length::bT y))=by8 (be 4 k++B++[y.length])++by8 (y.map UInt8.toNat):=by
    rw [← M1];simp [bT]
   rw [e2]
   exact o4
  ·rintro σ ds g3 ⟨rfl,e0,e4,e18,e19,fr,ho⟩
   rw [List.take_of_length_le (by omega)] at ho
   obtain ⟨bv,hbv⟩:∃ bv,σ 5=bv:=⟨_,rfl⟩
   rw [hbv] at ho
   generalize hH:(T.flatMap fun s=>s.length::bT s)=H at *
   have sl3:=(s.fr (F2.trans fr)).len
   obtain ⟨v4,g4,c1,o4,fb4,p4,n4,i4⟩:=X8 (bs:=be 4 n) (k:=4) ho (by simp) fr.next (by omega)
   have fr4:Fr g2 g4:=⟨by have:=fr.next;omega,fun i hi'=>by rw [fb4.get i hi'];exact fr.get i hi'⟩
   have sl4:=(s.fr (F2.trans fr4)).len
   simp [hbv,e0,sl3,b0r,hnn,c1,sl4,-List.length_flatMap]
   refine m8 (n:=n) (by rfl) (fun j σ ds g=>ds=[]∧σ 0=v∧σ 4=tv∧σ 38=v∧σ 39=.int .i64 (n:Int)∧Fr g2 g∧Own g2.next g 1 (8+H.length+(((xs.map fun x=>y9 x.2).take j).flatMap (c05 T)).length) (σ 5) (by8 (be 4 k++H++be 4 n++((xs.map fun x=>y9 x.2).take j).flatMap (c05 T)))) (by omega) (by simp)
    ⟨rfl,by simp [e0],by simp [e4],by simp,by simp,fr4,?_⟩ (fun j σ ds g hJ=>by simp [hJ.2.2.2.2.1]) ?_ ?_
   ·have e1:8+H.length=4+H.length+4:=by omega
    simpa [e1] using o4
   ·rintro j σ' ds g' hj hi ⟨rfl,f0,f4,f38,f39,fr',ho'⟩
    obtain ⟨x,hx⟩:=j7 (l:=xs) (j:=j) (by omega)
    have hxm:=List.mem_of_getElem? hx
    have hxe:(xs.map fun x=>y9 x.2)[j]? = some (y9 x.2):=by simp [hx]
    have fh:=F2.trans fr'
    obtain ⟨id,o,a1,a2,_⟩:=f0K (s.fr fh) hx
    have okg:=(he x hxm).1.fr fh
    have hlc:=Sl.oneCell okg
    have stn:=l6 (h:=g') (n:=5) (z:=[.nils,.int .i64 0,.int .i64 0,.int .i64 0,.int .i64 0]) (l:=enC x) rfl rfl (by simp [enC,d8,hlc.2])
    have fp:=Fr.push (.refl g') (.cells (enC x) false)
    have ln:loadN (g'.push (.cells (enC x) false)) g'.next 0 5=.ok (enC x):=A8 (b8 _) rfl
    obtain ⟨bv',hbv'⟩:∃ bv,σ' 5=bv:=⟨_,rfl⟩
    rw [hbv'] at ho'
    have hpre:=d0T (c05 T) (xs.map fun x=>y9 x.2) (j+1)
    have hsn:((xs.map fun x=>y9 x.2).take (j+1)).flatMap (c05 T)=((xs.map fun x=>y9 x.2).take j).flatMap (c05 T)++c05 T (y9 x.2):=by
     rw [u9 _ _ _ hxe,List.flatMap_append];simp
    rw [hsn,List.length_append] at hpre
    simp only [Q1]
    simp [f38,hi,a1,s7,a2,stn,f4,ln,-List.length_flatMap]
    refine (s0f (ht.fr (fr'.trans fp)) (by omega) (okg.fr fp) (h8x x hxm) (hmemT x hxm)).mono ?_
    rintro r g5 ⟨o5,f5⟩
    have el:=y0c T x.2
    generalize hB:((xs.map fun x=>y9 x.2).take j).flatMap (c05 T)=B at *
    generalize hE:c05 T (y9 x.2)=E at *
    obtain ⟨v6,g6,c6,o6,fb6⟩:=x09 ((ho'.fr fp).fr f5) o5.sl (by have:=fr'.next;have:=f5.next;have:(g'.push (.cells (enC x) false)).next=g'.next+1:=rfl;omega) (by omega)
    simp [hbv',c6,f0,f4,f38,f39,hi,-List.length_flatMap]
    rw [hsn]
    have gn:(g'.push (.cells (enC x) false)).next=g'.next+1:=rfl
    refine ⟨⟨by have:=fr'.next;have:=f5.next;have:=fb6.next;omega,fun i hi'=>?_⟩,?_⟩
    ·have:=fr'.next
     rw [fb6.get i hi',f5.get i (by omega),c7 (by omega)];exact fr'.get i hi'
    ·have e1:8+H.length+(B++E).length=8+H.length+B.length+(21+8*x.2.ls.length):=by rw [List.length_append,el];omega
     rw [e1]
     simp only [List.append_assoc] at o6 ⊢
     exact o6
   ·rintro σ' ds g' ⟨rfl,f0,f4,f38,f39,fr',ho'⟩
    rw [List.take_of_length_le (by omega)] at ho'
    obtain ⟨bv',hbv'⟩:∃ bv,σ' 5=bv:=⟨_,rfl⟩
    rw [hbv'] at ho'
    simp [hbv',f0,f4,-List.length_flatMap]
    have fh:=F2.trans fr'
    refine (m0H (s.fr fh) (by omega) (fun x hx=>⟨(he x hx).1.fr fh,h8x x hx,g0y (hcx x hx)⟩) (ht.fr fr') (by omega) (fun y hy=>(hTs y hy).2) (by omega)).mono ?_
    rintro r g5 ⟨o5,f5⟩
    generalize hE:(xs.map fun x=>y9 x.2).flatMap (c05 T)=E at *
    generalize hP:e0k T (xs.map fun x=>y9 x.2)=Q at *
    obtain ⟨v6,g6,c6,o6,fb6⟩:=x09 (ho'.fr f5) o5.sl (by have:=fr'.next;have:=f5.next;omega) (by omega)
    simp [c6,j0b,hc,-List.length_flatMap]
    have f6:Fr h g6:=⟨by have:=F2.next;have:=fr'.next;have:=f5.next;have:=fb6.next;omega,fun i hi'=>by
     have h1:=F2.next
     have h2:=fr'.next
     rw [fb6.get i (by omega),f5.get i (by omega)];exact fh.get i hi'⟩
    refine ⟨?_,f6⟩
    rw [hbe]
    have e1:(be 4 k++H++be 4 n++E++Q).length=8+H.length+E.length+Q.length:=by simp only [List.length_append,r8];omega
    rw [e1]
    exact o6.sl
end Go.Dk

namespace Go.Dk
open Go Go.Dr
set_option maxRecDepth 100000
theorem w0n:P.eqGuardType P.depth d0M=false:=by kernel_rfl
theorem A07 (a b c d:Txt):b01 P 20 d0M (.agg [.str a,.str b]) (.agg [.str c,.str d]) =
  (match (.ok (a == c):R Bool) with | .ok true=>(match (.ok (b == d):R Bool) with | .ok true=>.ok true | .ok false=>.ok false | .error e=>.error e) | .ok false=>.ok false | .error e=>.error e):=by kernel_rfl
theorem z0B (a b:Txt) (lit:Bool):n9 P .neq d0M lit (.agg [.str a,.str b]) (.agg [.str a,.str b])=.ok (.bool false):=by
 have h:=A07 a b a b
 simp at h
 simp [n9,g0T,w0n,h,f0F]
theorem y0l (a b:Txt):R4 12 (.agg [.str a,.str b]) (.agg [.str a,.str b])=true:=by
 show Bool.and (decide (a=a)) (Bool.and (decide (b=b)) true)=true
 simp
theorem q0l {h:AH} {n:Nat} {va vb:AV} {l:List Lab} (sa:Sl h 2 n va (l.flatMap E2)) (sb:Sl h 2 n vb (l.flatMap E2)) (hn:n<2 ^ 62) (K:AV→AH→Prop) :
  Ev P SI (.fn D6) [va,vb] h K=K (.bool true) h:=by
 refine Ev.eq (k8 a0h rfl rfl ?_) K
 have hl:=X9 sa
 simp [K9,sa.len,sb.len]
 refine m8 (n:=n) (by rfl) (fun j σ ds g=>ds=[]∧σ 0=va∧σ 1=vb∧σ 12=.int .i64 (n:Int)∧g=h) (by omega) (by simp) (by simp) (fun j σ ds g hJ=>by simp [hJ.2.2.2.1]) ?_ ?_
 ·rintro j σ ds g hj hi ⟨rfl,e0,e1,e12,rfl⟩
  obtain ⟨⟨nm,vl⟩,hx⟩:=j7 (l:=l) (j:=j) (by omega)
  obtain ⟨i1,o1,a1,a2,_⟩:=a0z sa (k:=.i64) (i:=(j:Int)) rfl hx
  obtain ⟨i2,o2,b1,b2,_⟩:=a0z sb (k:=.i64) (i:=(j:Int)) rfl hx
  simp only at a2 b2
  simp [e0,e1,e12,hi,a1,a2,b1,b2,s7,z0B,y0l]
 ·rintro σ ds g ⟨rfl,e0,e1,e12,rfl⟩
  simp
theorem A08 {h:AH} {x y:AV×Ep} (hx:EnOk h x) (hy:EnOk h y) (e:x.2=y.2) (hl:x.2.ls.length<2 ^ 62):Ev P SI (.fn M2) [.agg (enC x),.agg (enC y)] h fun r g=>r=.bool true∧Fr h g:=by
 obtain ⟨xv,p⟩:=x
 obtain ⟨yv,q⟩:=y
 simp only at e hl
 subst e
 refine k8 f0M rfl rfl ?_
 have f1:=Fr.push (.refl h) (.cells (enC (xv,p)) false)
 have f2:=f1.push (.cells (enC (yv,p)) false)
 have gx:((h.push (.cells (enC (xv,p)) false)).push (.cells (enC (yv,p)) false)).get h.next=some (.cells (enC (xv,p)) false):=by
  rw [c7 (Nat.ne_of_lt (Nat.lt_succ_self _)),b8]
 have gy:((h.push (.cells (enC (xv,p)) false)).push (.cells (enC (yv,p)) false)).get (h.next+1)=some (.cells (enC (yv,p)) false):=b8 _
 generalize hg:(h.push (.cells (enC (xv,p)) false)).push (.cells (enC (yv,p)) false)=g at *
 have x0:load1 g h.next 0=.ok xv:=b7 gx
 have x1:load1 g h.next 1=.ok (.int .i64 p.pl):=b7 gx
 have x2:load1 g h.next 2=.ok (.int .i64 p.sz):=b7 gx
 have x3:load1 g h.next 3=.ok (.int .i64 p.mn):=b7 gx
 have x4:load1 g h.next 4=.ok (.int .i64 p.mx):=b7 gx
 have y0:load1 g (h.next+1) 0=.ok yv:=b7 gy
 have y1:load1 g (h.next+1) 1=.ok (.int .i64 p.pl):=b7 gy
 have y2:load1 g (h.next+1) 2=.ok (.int .i64 p.sz):=b7 gy
 have y3:load1 g (h.next+1) 3=.ok (.int .i64 p.mn):=b7 gy
 have y4:load1 g (h.next+1) 4=.ok (.int .i64 p.mx):=b7 gy
 have hx2:Sl g 2 p.ls.length xv (p.ls.flatMap E2):=EnOk.fr (x:=(xv,p)) hx f2
 have hy2:Sl g 2 p.ls.length yv (p.ls.flatMap E2):=EnOk.fr (x:=(yv,p)) hy f2
 have el:=q0l hx2 hy2 hl
 simp [b0j,hg,x0,x1,x2,x3,x4,y0,y1,y2,y3,y4,el]
 exact f2
theorem j0t {h:AH} {n:Nat} {va vb:AV} {xs ys:List (AV×Ep)} (sa:Sl h 5 n va (xs.flatMap enC)) (sb:Sl h 5 n vb (ys.flatMap enC)) (hn:n<2 ^ 62)
  (hx:∀ x ∈ xs,EnOk h x∧x.2.ls.length<2 ^ 62) (hy:∀ x ∈ ys,EnOk h x) (he:xs.map (·.2)=ys.map (·.2)) :
  Ev P SI (.fn Q0) [va,vb] h fun r g=>r=.bool true∧Fr h g:=by
 refine k8 h0a rfl rfl ?_
 simp [b07]
 refine k8 G7 rfl rfl ?_
 have hl:xs.length=n:=by have:=sa.1;rw [b04] at this;omega
 have hl2:ys.length=n:=by have:=sb.1;rw [b04] at this;omega
 simp [A6,sa.len,sb.len]
 refine m8 (n:=n) (by rfl) (fun j σ ds g=>ds=[]∧σ 0=va∧σ 15=va∧σ 1=vb∧σ 2=.func (.func M2) [] []∧σ 16=.int .i64 (n:Int)∧Fr h g) (by omega) (by simp) ⟨rfl,by simp,by simp,by simp,by simp,by simp,.refl _⟩ (fun j σ ds g hJ=>by simp [hJ.2.2.2.2.2.1]) ?_ ?_
 ·rintro j σ ds g hj hi ⟨rfl,e0,e15,e1,e2,e16,F⟩
  obtain ⟨x,hxj⟩:=j7 (l:=xs) (j:=j) (by omega)
  obtain ⟨y,hyj⟩:=j7 (l:=ys) (j:=j) (by omega)
  obtain ⟨hx1,hx2⟩:=hx x (List.mem_of_getElem? hxj)
  have hy1:=hy y (List.mem_of_getElem? hyj)
  have hxy:x.2=y.2:=by
   have h1:(xs.map (·.2))[j]? = (ys.map (·.2))[j]?:=by rw [he]
   rw [List.getElem?_map,List.getElem?_map,hxj,hyj] at h1
   exact Option.some.inj h1
  obtain ⟨i1,o1,a1,a2,_⟩:=f0K (sa.fr F) hxj
  have hxc:=Sl.oneCell hx1
  have hyc:=Sl.oneCell hy1
  have st1:=l6 (h:=g) (n:=5) (z:=[.nils,.int .i64 0,.int .i64 0,.int .i64 0,.int .i64 0]) (l:=enC x) rfl rfl (by simp [enC,d8,hxc.2])
  have f1:=Fr.push (.refl g) (.cells (enC x) false)
  have gx:(g.push (.cells (enC x) false)).get g.next=some (.cells (enC x) false):=b8 _
  have gxn:(g.push (.cells (enC x) false)).next=g.next+1:=rfl
  generalize hg1:g.push (.cells (enC x) false)=g1 at *
  obtain ⟨i2,o2,b1,b2,_⟩:=f0K ((sb.fr F).fr f1) hyj
  have st2:=l6 (h:=g1) (n:=5) (z:=[.nils,.int .i64 0,.int .i64 0,.int .i64 0,.int .i64 0]) (l:=enC y) rfl rfl (by simp [enC,d8,hyc.2])
  have f2:=Fr.push (.refl g1) (.cells (enC y) false)
  have gy:(g1.push (.cells (enC y) false)).get g1.next=some (.cells (enC y) false):=b8 _
  have gx2:=f2.get g.next (by omega)
  rw [gx] at gx2
  generalize hg2:g1.push (.cells (enC y) false)=g2 at *
  have ldx:=A8 gx2 (n:=5) rfl
  have ldy:=A8 gy (n:=5) rfl
  have F2:=(F.trans f1).trans f2
  simp [e1,e2,e15,hi,a1,a2,s7,st1,b1,b2,st2,ldx,ldy]
  refine (A08 (hx1.fr F2) (hy1.fr F2) hxy hx2).mono ?_
  rintro r g3 ⟨rfl,f3⟩
  simp [e0,e1,e2,e15,e16,hi]
  exact F2.trans f3
 ·rintro σ ds g ⟨rfl,e0,e15,e1,e2,e16,F⟩
  simp
  exact F
end Go.Dk

namespace Go.Dk
open Go Go.Dr
set_option maxRecDepth 100000
theorem r0e {h:AH} {n:Nat} {va vb:AV} {l:List Nat} (sa:Sl h 1 n va (by8 l)) (sb:Sl h 1 n vb (by8 l)) (hn:n<2 ^ 62) (K:AV→AH→Prop) :
  Ev P SI (.fn O7) [va,vb] h K=K (.bool true) h:=by
 refine Ev.eq (k8 e0u rfl rfl ?_) K
 have hl:l.length=n:=by have:=sa.1;simpa using this
 simp [Z9,sa.len,sb.len]
 refine m8 (n:=n) (by rfl) (fun j σ ds g=>ds=[]∧σ 0=va∧σ 1=vb∧σ 12=.int .i64 (n:Int)∧g=h) (by omega) (by simp) (by simp) (fun j σ ds g hJ=>by simp [hJ.2.2.2.1]) ?_ ?_
 ·rintro j σ ds g hj hi ⟨rfl,e0,e1,e12,rfl⟩
  obtain ⟨x,hx⟩:=j7 (l:=l) (j:=j) (by omega)
  obtain ⟨i1,o1,a1,a2,_⟩:=sa.get1 (k:=.i64) (i:=(j:Int)) rfl hj (x:=.int .u8 (x:Int)) (by rw [a0g,hx];rfl)
  obtain ⟨i2,o2,b1,b2,_⟩:=sb.get1 (k:=.i64) (i:=(j:Int)) rfl hj (x:=.int .u8 (x:Int)) (by rw [a0g,hx];rfl)
  simp [e0,e1,e12,hi,a1,a2,b1,b2]
 ·rintro σ ds g ⟨rfl,e0,e1,e12,rfl⟩
  simp
end Go.Dk
