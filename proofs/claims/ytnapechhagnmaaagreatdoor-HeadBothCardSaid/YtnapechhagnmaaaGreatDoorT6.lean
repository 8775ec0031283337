/-
  Texts joined.
-/
import Derived.Test.YtnapechhagnmaaaGreatDoorT4
import Derived.Test.YtnapechhagnmaaaGreatDoorT5
import Derived.Shelf.SlSortCmp.WholeK
import Derived.Shelf.SlSortCmp.NoneTotal
import Derived.Shelf.SlicesG.Cmp
import Derived.Ground.SlsfProg
import Derived.Ground.SlgcProg
import Derived.Test.YtnapechhagnmaaaGreatDoorProg

namespace Go.Dk
open Go Go.Dr
set_option maxRecDepth 100000
noncomputable abbrev SN:b0e:=fun _=>none
def q00 (vs vs':List AV) (off n k:Nat):Prop:=vs'.length=vs.length∧∀ t,vs'[t]? = if off≤t∧t<off+k∨off+n≤t+k∧t<off+n then vs[2*off+n - 1 - t]? else vs[t]?
def q01 (vs vs':List AV) (off n:Nat):Prop:=vs'.length=vs.length∧∀ t,vs'[t]? = if off≤t∧t<off+n then vs[2*off+n - 1 - t]? else vs[t]?
def l0L (vs:List AV) (off n:Nat):Prop:=∀ k,k<n→∃ i o,vs[off+k]? = some (.ptr i o)
theorem l0M (id off n cap:Nat) (x:Bool) (j:Nat) (hj:j<n):G1 1 (.slice id off n cap x 1) (.int .i64 (j:Int))=.ok (.ptr id (off+j)):=by
 rw [T7 _ _ _ _ _ _ _ _ ⟨by omega,by omega⟩,Int.toNat_natCast,Nat.mul_one]
structure SetTo (h:AH) (id:Nat) (vs:List AV) (g:AH):Prop where
 next:g.next=h.next
 at_:g.get id=some (.cells vs false)
 get:∀ i,i≠id→g.get i=h.get i
theorem SetTo.trans {h g k:AH} {id:Nat} {vs vs':List AV} (a:SetTo h id vs g) (b:SetTo g id vs' k):SetTo h id vs' k:=⟨b.next.trans a.next,b.at_,fun i hi=>(b.get i hi).trans (a.get i hi)⟩
theorem c0t {h:AH} {id off n cap:Nat} {x:Bool} {vs:List AV} (hg:h.get id=some (.cells vs false)) (hl:off+n≤vs.length) (hp:l0L vs off n) (hn:n≤2 ^ 40) :
  Ev P SN (.fn j5) [.slice id off n cap x 1] h fun r g=>r=.tuple []∧∃ vs',q01 vs vs' off n∧SetTo h id vs' g:=by
 refine m6 K1 rfl rfl ?_
 have hlen:C9 (.slice id off n cap x 1)=.ok (.int .i64 (n:Int)):=rfl
 have w0:s6 .i64 ((n:Int) - 1)=(n:Int) - 1:=wrap_i64 (by omega) (by omega)
 simp [B0,hlen,w0]
 refine f0u (fun q σ ds g=>∃ k vs',q+k=n∧2*k≤n+1∧ds=[]∧σ 0=.slice id off n cap x 1∧σ 2=.int .i64 (k:Int)∧σ 3=.int .i64 ((n:Int) - 1 - (k:Int))∧q00 vs vs' off n k∧SetTo h id vs' g) n
  ⟨0,vs,by omega,by omega,rfl,by simp,by simp,by simp,⟨rfl,fun t=>by rw [if_neg (by omega)]⟩,⟨rfl,hg,fun _ _=>rfl⟩⟩ ?_
 rintro q σ ds g ⟨k,vs',hq,hk,rfl,e0,e2,e3,⟨hr1,hr2⟩,hs⟩
 by_cases hc:2*k+1<n
 ·have c1:(k:Int)<(n:Int) - 1 - (k:Int):=by omega
  obtain ⟨j,hj⟩:∃ j,j=n - 1 - k:=⟨_,rfl⟩
  have ej:(n:Int) - 1 - (k:Int)=(j:Int):=by omega
  rw [ej] at c1 e3
  have c1':k<j:=by omega
  obtain ⟨i1,o1,p1⟩:=hp k (by omega)
  obtain ⟨i2,o2,p2⟩:=hp j (by omega)
  have r1:vs'[off+k]? = some (.ptr i1 o1):=by rw [hr2,if_neg (by omega)];exact p1
  have r2:vs'[off+j]? = some (.ptr i2 o2):=by rw [hr2,if_neg (by omega)];exact p2
  have l1:load1 g id (off+k)=.ok (.ptr i1 o1):=by rw [d6 hs.at_,r1];rfl
  have l2:load1 g id (off+j)=.ok (.ptr i2 o2):=by rw [d6 hs.at_,r2];rfl
  have x1:=l0M id off n cap x k (by omega)
  have x2:=l0M id off n cap x j (by omega)
  have s1:=e0U (v:=.ptr i2 o2) (off:=off+k) hs.at_ (by omega) rfl
  rw [e0W _ _ _ (by omega)] at s1
  have g1:(g.set id (.cells (vs'.set (off+k) (.ptr i2 o2)) false)).get id=some (.cells (vs'.set (off+k) (.ptr i2 o2)) false):=l6 _ _
  have s2:=e0U (v:=.ptr i1 o1) (off:=off+j) g1 (by rw [List.length_set];omega) rfl
  rw [e0W _ _ _ (by rw [List.length_set];omega)] at s2
  have w1:s6 .i64 ((k:Int)+1)=((k+1:Nat):Int):=by rw [wrap_i64 (by omega) (by omega)];omega
  have w2:s6 .i64 ((j:Int) - 1)=(n:Int) - 1 - ((k+1:Nat):Int):=by rw [wrap_i64 (by omega) (by omega)];omega
  simp [e0,e2,e3,c1',l1,l2,x1,x2,s1,s2,w1,w2,I0,-AH.set_set]
  refine ⟨q - 1,by omega,k+1,by omega,by omega,by omega,(vs'.set (off+k) (.ptr i2 o2)).set (off+j) (.ptr i1 o1),⟨by simp [hr1],fun t=>?_⟩,⟨hs.next,l6 _ _,fun i hi=>?_⟩⟩
  ·rw [List.getElem?_set,List.getElem?_set,List.length_set]
   by_cases t1:off+j=t
   ·subst t1
    rw [if_pos rfl,if_pos (by omega),if_pos (by omega),show 2*off+n - 1 - (off+j)=off+k from by omega,p1]
   ·rw [if_neg t1]
    by_cases t2:off+k=t
    ·subst t2
     rw [if_pos rfl,if_pos (by omega),if_pos (by omega),show 2*off+n - 1 - (off+k)=off+j from by omega,p2]
    ·rw [if_neg t2,hr2]
     by_cases t3:off≤t∧t<off+k∨off+n≤t+k∧t<off+n
     ·rw [if_pos t3,if_pos (by omega)]
     ·rw [if_neg t3,if_neg (by omega)]
  ·rw [b8 hi,b8 hi,hs.get i hi]
 ·have c1:¬ (k:Int)<(n:Int) - 1 - (k:Int):=by omega
  simp [e2,e3,c1]
  refine ⟨vs',⟨hr1,fun t=>?_⟩,hs⟩
  rw [hr2]
  by_cases t3:off≤t∧t<off+k∨off+n≤t+k∧t<off+n
  ·rw [if_pos t3,if_pos (by omega)]
  ·rw [if_neg t3]
   by_cases t4:off≤t∧t<off+n
   ·rw [if_pos t4,show 2*off+n - 1 - t=t from by omega]
   ·rw [if_neg t4]
theorem o0n {h:AH} {id i m cap:Nat} {vs:List AV} (hg:h.get id=some (.cells vs false)) (hl:i+m≤vs.length) (hp:l0L vs i m) (hn:m≤2 ^ 31) (hm:1≤m) (hcap:m≤cap) :
  Ev P SN (.fn w9) [.slice id i m cap true 1,.int .i64 1] h fun r g=>r=.tuple []∧∃ vs',SetTo h id vs' g∧vs'.length=vs.length∧∀ t,vs'[t]? = if i<t∧t<i+m then vs[t - 1]? else if t=i then vs[i+m - 1]? else vs[t]?:=by
 refine m6 Q5 rfl rfl ?_
 have hlen:C9 (.slice id i m cap true 1)=.ok (.int .i64 (m:Int)):=rfl
 have w0:s6 .i64 ((m:Int) - 1)=((m - 1:Nat):Int):=by rw [wrap_i64 (by omega) (by omega)];omega
 obtain ⟨k,hk⟩:∃ k,m - 1=k:=⟨_,rfl⟩
 rw [hk] at w0
 simp [E1,hlen,w0]
 refine m6 S1 rfl rfl ?_
 have s1:k8 1 (.slice id i m cap true 1) none (some (.int .i64 (k:Int))) none=.ok (.slice id i k cap true 1):=by
  have a:B7 (.int .i64 (k:Int)) cap=.ok k:=by simp only [B7];rw [if_pos ⟨by omega,by omega⟩,Int.toNat_natCast]
  simp [k8,C5,A0,a]
 have s2:k8 1 (.slice id i m cap true 1) (some (.int .i64 (k:Int))) none none=.ok (.slice id (i+k) (m - k) (cap - k) true 1):=by
  have a:B7 (.int .i64 (k:Int)) m=.ok k:=by simp only [B7];rw [if_pos ⟨by omega,by omega⟩,Int.toNat_natCast]
  simp [k8,C5,A0,a]
 simp [F2,s1]
 refine (c0t hg (by omega) (fun t ht=>hp t (by omega)) (by omega)).mono ?_
 rintro r g1 ⟨rfl,vs1,r1,t1⟩
 simp [s2]
 have hp1:l0L vs1 (i+k) (m - k):=fun t ht=>by
  rw [r1.2,if_neg (by omega),Nat.add_assoc];exact hp (k+t) (by omega)
 refine (c0t t1.at_ (by rw [r1.1];omega) hp1 (by omega)).mono ?_
 rintro r g2 ⟨rfl,vs2,r2,t2⟩
 have hp2:l0L vs2 i m:=fun t ht=>by
  rw [r2.2]
  by_cases b1:i+k≤i+t∧i+t<i+k+(m - k)
  ·rw [if_pos b1]
   have:=hp1 0 (by omega)
   rwa [show 2*(i+k)+(m - k) - 1 - (i+t)=i+k+0 from by omega]
  ·rw [if_neg b1,r1.2]
   by_cases b2:i≤i+t∧i+t<i+k
   ·rw [if_pos b2]
    have:=hp (2*i+k - 1 - (i+t) - i) (by omega)
    rwa [show i+(2*i+k - 1 - (i+t) - i)=2*i+k - 1 - (i+t) from by omega] at this
   ·omega
 simp
 refine (c0t t2.at_ (by rw [r2.1,r1.1];omega) hp2 (by omega)).mono ?_
 rintro r g3 ⟨rfl,vs3,r3,t3⟩
 simp
 refine ⟨vs3,(t1.trans t2).trans t3,by rw [r3.1,r2.1,r1.1],fun t=>?_⟩
 rw [r3.2]
 by_cases a:i≤t∧t<i+m
 ·rw [if_pos a,r2.2]
  by_cases b:t=i
  ·subst b
   rw [if_neg (c:=t<t∧t<t+m) (by omega),if_pos (c:=t=t) rfl,if_pos (by omega),r1.2,if_neg (by omega)]
   congr 1;omega
  ·rw [if_neg (c:=i+k≤2*i+m - 1 - t∧2*i+m - 1 - t<i+k+(m - k)) (by omega),if_pos (c:=i<t∧t<i+m) (by omega),r1.2,if_pos (by omega)]
   congr 1;omega
 ·rw [if_neg a,if_neg (c:=i<t∧t<i+m) (by omega),if_neg (c:=t=i) (by omega),r2.2,if_neg (by omega),r1.2,if_neg (by omega)]
end Go.Dk

namespace Go.Dr
section
variable {P:Program} {h:AH}
end
end Go.Dr

namespace Go.Dk
open Go Go.Dr
set_option maxRecDepth 100000
theorem g0B {h:AH} {vb:Nat} {x:AV} {ro:Bool} (hv:h.get vb=some (.cells [x] ro)):F3 h 1 (.slice vb 0 1 1 true 1)=.ok (1,[x]):=by
 have hb:Nat.ble 1 1=true:=rfl
 simp [F3,loadN,hv,hb]
theorem m0y {h:AH} {vb a o:Nat} {ro:Bool} (hv:h.get vb=some (.cells [.ptr a o] ro)) :
  Ev P SN (.fn a6) [.nils,.int .i64 0,.slice vb 0 1 1 true 1] h fun r g=>r=.slice h.next 0 1 1 false 1∧g=h.push (.cells [.ptr a o] false):=by
 refine m6 s9 rfl rfl ?_
 have s1:k8 1 .nils (some (.int .i64 0)) none none=.ok .nils:=by rfl
 have l1:C9 (.slice vb 0 1 1 true 1)=.ok (.int .i64 1):=rfl
 have l2:C9 .nils=.ok (.int .i64 0):=rfl
 have a1:M9 1 8 .nils (.slice vb 0 1 1 true 1) h=okV (.slice h.next 0 1 1 false 1) (h.push (.cells [.ptr a o] false)):=by
  simp [M9,g0B hv,M8]
 simp [l8,s1,l1,l2,a1]
theorem k00 (a o:Nat):b9 [.ptr a o]=true:=by rfl
theorem m0z {h:AH} {id n vb a o:Nat} {ro:Bool} {vs:List AV} (hv:h.get vb=some (.cells [.ptr a o] ro)) (hg:h.get id=some (.cells vs false)) (hl:vs.length=n) (hn:n≤2 ^ 30) :
  Ev P SN (.fn a6) [.slice id 0 n n false 1,.int .i64 (n:Int),.slice vb 0 1 1 true 1] h fun r g=>r=.slice h.next 0 (n+1) (n+1) false 1∧g=(h.kill id).push (.cells (vs++[.ptr a o]) false):=by
 refine m6 s9 rfl rfl ?_
 have s1:k8 1 (.slice id 0 n n false 1) (some (.int .i64 (n:Int))) none none=.ok (.slice id n 0 0 false 1):=by
  have a:B7 (.int .i64 (n:Int)) n=.ok n:=by simp only [B7];rw [if_pos ⟨by omega,by omega⟩,Int.toNat_natCast]
  simp [k8,C5,A0,a]
 have l1:C9 (.slice vb 0 1 1 true 1)=.ok (.int .i64 1):=rfl
 have l2:C9 (.slice id 0 n n false 1)=.ok (.int .i64 (n:Int)):=rfl
 have ld:loadN h id 0 n=.ok vs:=by
  subst hl
  have hb:Nat.ble vs.length vs.length=true:=Nat.ble_eq_true_of_le (Nat.le_refl _)
  simp [loadN,hg,hb]
 have a1:M9 1 8 (.slice id 0 n n false 1) (.slice vb 0 1 1 true 1) h=okV (.slice h.next 0 (n+1) (n+1) false 1) ((h.kill id).push (.cells (vs++[.ptr a o]) false)):=by
  have hb:Nat.ble (n+1) n=false:=by cases hh:Nat.ble (n+1) n with | false=>rfl | true=>exact absurd (Nat.le_of_ble_eq_true hh) (by omega)
  simp [M9,g0B hv,M8,j0,hb,ld,hg,k00]
  omega
 simp [l8,s1,l1,l2,a1]
theorem h0j:∀ k,b9 (List.replicate k (.nilp:AV))=true
 | 0=>rfl
 | k+1=>by rw [List.replicate_succ];show ((AV.nilp).scalar&&b9 (List.replicate k .nilp))=true;rw [h0j k];rfl
theorem f0W:∀ (l:List AV) (k:Nat),b9 l=true→b9 (l.drop k)=true
 | _,0,h=>h
 | [],_+1,_=>rfl
 | v::l,k+1,h=>by
  have:(v.scalar&&b9 l)=true:=h
  rw [Bool.and_eq_true] at this
  exact f0W l k this.2
theorem B8 {h:AH} {id off:Nat} {vs l:List AV} (hg:h.get id=some (.cells vs false)) (hle:off+l.length≤vs.length) (hs:b9 l=true) (h0:l≠[]) :
  B5 h id off l=.ok (h.set id (.cells (v6 vs off l) false)):=by
 cases l with
 | nil=>exact absurd rfl h0
 | cons v r =>
  unfold B5
  rw [hg]
  simp only
  rw [Nat.ble_eq_true_of_le hle,hs]
  rfl
theorem p0v {a b:Nat} (h:b<a):Nat.ble a b=false:=by cases hh:Nat.ble a b with | false=>rfl | true=>exact absurd (Nat.le_of_ble_eq_true hh) (by omega)
theorem n0p {a b:Nat} (h:a≤b):Nat.ble a b=true:=Nat.ble_eq_true_of_le h
theorem k01 {h:AH} {id n vb a o i:Nat} {ro:Bool} {vs:List AV} (hv:h.get vb=some (.cells [.ptr a o] ro)) (hvn:vb<h.next) (hg:h.get id=some (.cells vs false)) (hin:id<h.next) (hl:vs.length=n) (hn:n≤2 ^ 30) (hi:i<n) (hz:b9 vs=true) :
  Ev P SN (.fn a6) [.slice id 0 n n true 1,.int .i64 (i:Int),.slice vb 0 1 1 true 1] h fun r g=>r=.slice h.next 0 (n+1) (n+1) false 1∧g.next=h.next+1∧g.get h.next=some (.cells (vs.take i++.ptr a o::vs.drop i) false)∧∀ j,j<h.next→g.get j=h.get j:=by
 refine m6 s9 rfl rfl ?_
 have s1:k8 1 (.slice id 0 n n true 1) (some (.int .i64 (i:Int))) none none=.ok (.slice id i (n - i) (n - i) true 1):=by
  have a:B7 (.int .i64 (i:Int)) n=.ok i:=by simp only [B7];rw [if_pos ⟨by omega,by omega⟩,Int.toNat_natCast]
  simp [k8,C5,A0,a]
 have s2:k8 1 (.slice id 0 n n true 1) none (some (.int .i64 (i:Int))) none=.ok (.slice id 0 i n true 1):=by
  have a:B7 (.int .i64 (i:Int)) n=.ok i:=by simp only [B7];rw [if_pos ⟨by omega,by omega⟩,Int.toNat_natCast]
  simp [k8,C5,A0,a]
 have l1:C9 (.slice vb 0 1 1 true 1)=.ok (.int .i64 1):=rfl
 have l2:C9 (.slice id 0 n n true 1)=.ok (.int .i64 (n:Int)):=rfl
 have l3:b0I (.slice id 0 n n true 1)=.ok (.int .i64 (n:Int)):=rfl
 have w1:s6 .i64 ((n:Int)+1)=((n+1:Nat):Int):=by rw [wrap_i64 (by omega) (by omega)];omega
 have w1':s6 .i64 ((i:Int)+1)=((i+1:Nat):Int):=by rw [wrap_i64 (by omega) (by omega)];omega
 have w2:s6 .i64 ((n:Int)+1 - (i:Int))=((n+1 - i:Nat):Int):=by rw [wrap_i64 (by omega) (by omega)];omega
 have c1:¬ ((i:Int)=(n:Int)):=by omega
 have c2:¬ (i=n):=by omega
 have c3:(n:Int)<(n:Int)+1:=by omega
 have ld:loadN h id 0 i=.ok (vs.take i):=by simp [loadN,hg,n0p (show i≤vs.length by omega)]
 have hz1:b9 (List.replicate (n+1 - i) (.nilp:AV))=true:=by
  exact h0j _
 have rp:a0p [(.nilp:AV)] (n+1 - i)=List.replicate (n+1 - i) .nilp:=by rw [h0L]
 have a1:Z9 1 8 [.nilp] (.slice id 0 i n true 1) (.int .i64 ((n+1 - i:Nat):Int)) h=okV (.slice h.next 0 (n+1) (n+1) false 1) (h.push (.cells (vs.take i++List.replicate (n+1 - i) .nilp) false)):=by
  have e1:i+(n+1 - i)=n+1:=by omega
  simp only [Z9,Int.toNat_natCast,M8,j0,e1,p0v (show n<n+1 by omega),rp,hz1,ld,Nat.mul_one]
  rw [if_pos ⟨by omega,by omega,by omega⟩]
  simp
  omega
 obtain ⟨g1,e1⟩:∃ g1,g1=h.push (.cells (vs.take i++List.replicate (n+1 - i) .nilp) false):=⟨_,rfl⟩
 rw [← e1] at a1
 simp [l8,s1,s2,l1,l2,l3,c1,c2,c3,w1,w1',w2,a1]
 have hne:h.next≠id:=by omega
 have q1:g1.get h.next=some (.cells (vs.take i++List.replicate (n+1 - i) .nilp) false):=by rw [e1];exact a7 _
 have q2:∀ j,j<h.next→g1.get j=h.get j:=fun j hj=>by rw [e1];exact c9 (Nat.ne_of_lt hj)
 have b1:B7 (.int .i64 (i:Int)) (n+1)=.ok i:=by simp only [B7];rw [if_pos ⟨by omega,by omega⟩,Int.toNat_natCast]
 have b2:B7 (.int .i64 ((i+1:Nat):Int)) (n+1)=.ok (i+1):=by simp only [B7];rw [if_pos ⟨by omega,by omega⟩,Int.toNat_natCast]
 have s3:k8 1 (.slice h.next 0 (n+1) (n+1) false 1) (some (.int .i64 (i:Int))) none none=.ok (.slice h.next i (n+1 - i) (n+1 - i) false 1):=by
  simp [k8,C5,A0,b1]
 have s4:k8 1 (.slice h.next 0 (n+1) (n+1) false 1) (some (.int .i64 ((i+1:Nat):Int))) none none=.ok (.slice h.next (i+1) (n - i) (n - i) false 1):=by
  simp only [k8,C5,A0,b2];simp
 rw [show ((i+1:Nat):Int)=(i:Int)+1 from by omega] at s4
 obtain ⟨g2,e2⟩:∃ g2,g2=g1.set h.next (.cells (v6 (vs.take i++List.replicate (n+1 - i) .nilp) i [.ptr a o]) false):=⟨_,rfl⟩
 have p1:a0a 1 (.slice h.next i (n+1 - i) (n+1 - i) false 1) (.slice vb 0 1 1 true 1) g1=okV (.int .i64 1) g2:=by
  have:=B8 (off:=i) (l:=[.ptr a o]) q1 (by simp;omega) rfl (by simp)
  have hm:min 1 (n+1 - i)=1:=by omega
  simp [a0a,g0B (by rw [q2 _ hvn];exact hv),this,hm,e2]
 have q3:g2.get h.next=some (.cells (v6 (vs.take i++List.replicate (n+1 - i) .nilp) i [.ptr a o]) false):=by rw [e2];exact l6 _ _
 have q4:g2.get id=some (.cells vs false):=by rw [e2,b8 (fun e=>hne e.symm),q2 _ hin];exact hg
 have ld2:loadN g2 id i (n - i)=.ok (vs.drop i):=by
  simp only [loadN,q4]
  rw [n0p (show i+(n - i)≤vs.length by omega)]
  show Except.ok ((vs.drop i).take (n - i))=_
  rw [List.take_of_length_le (by rw [List.length_drop];omega)]
 have hd:(vs.drop i).length=n - i:=by rw [List.length_drop];omega
 have p2:a0a 1 (.slice h.next (i+1) (n - i) (n - i) false 1) (.slice id i (n - i) (n - i) true 1) g2=okV (.int .i64 ((n - i:Nat):Int)) (g2.set h.next (.cells (v6 (v6 (vs.take i++List.replicate (n+1 - i) .nilp) i [.ptr a o]) (i+1) (vs.drop i)) false)):=by
  have:=B8 (off:=i+1) (l:=vs.drop i) q3 (by rw [F8 _ _ _ (by simp;omega),hd];simp;omega) (f0W _ _ hz) (by intro hh;rw [hh] at hd;simp at hd;omega)
  have hm:min (n - i) (n - i)=n - i:=by omega
  have ht:(vs.drop i).take (n - i)=vs.drop i:=List.take_of_length_le (by omega)
  simp only [a0a,F3,Nat.mul_one,if_true,ld2,hm,ht,this]
  rfl
 have hsp:v6 (v6 (vs.take i++List.replicate (n+1 - i) .nilp) i [.ptr a o]) (i+1) (vs.drop i)=vs.take i++.ptr a o::vs.drop i:=by
  have t1:(vs.take i).length=i:=by rw [List.length_take];omega
  apply List.ext_getElem?
  intro j
  rw [a04 _ _ _ _ (by rw [F8 _ _ _ (by simp;omega),hd];simp;omega),a04 _ _ _ _ (by simp;omega),hd]
  by_cases h1:j<i
  ·rw [if_neg (by omega),if_neg (by omega),List.getElem?_append_left (by omega),List.getElem?_append_left (by omega)]
  ·by_cases h2:j=i
   ·subst h2
    rw [if_neg (by omega),if_pos (by simp),List.getElem?_append_right (by omega),t1]
    simp
   ·rw [List.getElem?_append_right (l₁:=vs.take i) (l₂:=.ptr a o::vs.drop i) (by omega),t1,show j - i=(j - (i+1))+1 from by omega]
    by_cases h3:j<n+1
    ·rw [if_pos (by omega),List.getElem?_cons_succ]
    ·rw [if_neg (by omega),if_neg (by simp;omega),List.getElem?_eq_none (by simp;omega),List.getElem?_cons_succ,List.getElem?_eq_none (by omega)]
 rw [hsp] at p2
 simp [s1,s3,s4,p1,p2,w1']
 refine ⟨by rw [e2,e1];rfl,fun j hj=>?_⟩
 ·rw [b8 (by omega),e2,b8 (by omega),q2 _ hj]
end Go.Dk

namespace Go.Proofs
open Go.Shelf
def Tryz.pSort_ren:Go.Shelf.Ren:=⟨fun | 6=>74 | 15=>90 | 14=>89 | 28=>108 | 29=>109 | 20=>100 | 21=>101 | 22=>102 | 23=>103 | 24=>104 | 25=>105 | 26=>106 | 27=>107 | 46=>116 | 47=>117 | 48=>118 | 49=>119 | 50=>120 | 57=>135 | n=>n,fun | 22=>46 | 24=>51 | 25=>115 | 3=>3 | 39=>120 | 0=>0 | 53=>151 | 55=>49 | 4=>4 | 46=>145 | 45=>144 | 50=>81 | 5=>5 | 9=>9 | 66=>165 | 70=>169 | 76=>186 | 77=>187 | n=>n,fun | n=>n⟩
theorem Tryz.pSort:Go.Proofs.SlLaysF0.n6 Tryz.prog Tryz.pSort_ren:={
 mixed:=by kernel_rfl
 f6:=⟨Tryz.f74.name,by decide,Tryz.func74.trans (congrArg some (by kernel_rfl))⟩
 f14:=⟨Tryz.f89.name,by decide,Tryz.func89.trans (congrArg some (by kernel_rfl))⟩
 f15:=Tryz.func90.trans (congrArg some (by kernel_rfl))
 f20:=⟨Tryz.f100.name,by decide,Tryz.func100.trans (congrArg some (by kernel_rfl))⟩
 f21:=⟨Tryz.f101.name,by decide,Tryz.func101.trans (congrArg some (by kernel_rfl))⟩
 f22:=⟨Tryz.f102.name,by decide,Tryz.func102.trans (congrArg some (by kernel_rfl))⟩
 f23:=⟨Tryz.f103.name,by decide,Tryz.func103.trans (congrArg some (by kernel_rfl))⟩
 f24:=⟨Tryz.f104.name,by decide,Tryz.func104.trans (congrArg some (by kernel_rfl))⟩
 f25:=⟨Tryz.f105.name,by decide,Tryz.func105.trans (congrArg some (by kernel_rfl))⟩
 f26:=⟨Tryz.f106.name,by decide,Tryz.func106.trans (congrArg some (by kernel_rfl))⟩
 f27:=⟨Tryz.f107.name,by decide,Tryz.func107.trans (congrArg some (by kernel_rfl))⟩
 f28:=Tryz.func108.trans (congrArg some (by kernel_rfl))
 f29:=Tryz.func109.trans (congrArg some (by kernel_rfl))
 f46:=⟨Tryz.f116.name,by decide,Tryz.func116.trans (congrArg some (by kernel_rfl))⟩
 f47:=Tryz.func117.trans (congrArg some (by kernel_rfl))
 f48:=Tryz.func118.trans (congrArg some (by kernel_rfl))
 f49:=⟨Tryz.f119.name,by decide,Tryz.func119.trans (congrArg some (by kernel_rfl))⟩
 f50:=⟨Tryz.f120.name,by decide,Tryz.func120.trans (congrArg some (by kernel_rfl))⟩
 f57:=⟨Tryz.f135.name,by decide,Tryz.func135.trans (congrArg some (by kernel_rfl))⟩
 t0:=Tryz.underlying0
 a0:=Tryz.isAgg0
 z0:=Tryz.sizeOf0
 v0:=Tryz.zeroValue0
 t3:=Tryz.underlying3
 a3:=Tryz.isAgg3
 z3:=Tryz.sizeOf3
 v3:=Tryz.zeroValue3
 t4:=Tryz.underlying4
 a4:=Tryz.isAgg4
 z4:=Tryz.sizeOf4
 v4:=Tryz.zeroValue4
 t5:=Tryz.underlying5
 a5:=Tryz.isAgg5
 z5:=Tryz.sizeOf5
 v5:=Tryz.zeroValue5
 t9:=Tryz.underlying9
 a9:=Tryz.isAgg9
 z9:=Tryz.sizeOf9
 v9:=Tryz.zeroValue9
 t22:=Tryz.underlying46
 a22:=Tryz.isAgg46
 z22:=Tryz.sizeOf46
 v22:=Tryz.zeroValue46
 t25:=Tryz.underlying115
 a25:=Tryz.isAgg115
 z25:=Tryz.sizeOf115
 v25:=Tryz.zeroValue115
 t39:=Tryz.underlying120
 a39:=Tryz.isAgg120
 z39:=Tryz.sizeOf120
 v39:=Tryz.zeroValue120
 t45:=Tryz.underlying144
 a45:=Tryz.isAgg144
 z45:=Tryz.sizeOf144
 v45:=Tryz.zeroValue144
 t46:=Tryz.underlying145
 a46:=Tryz.isAgg145
 z46:=Tryz.sizeOf145
 v46:=Tryz.zeroValue145
 t50:=Tryz.underlying81
 a50:=Tryz.isAgg81
 z50:=Tryz.sizeOf81
 v50:=Tryz.zeroValue81
 t53:=Tryz.underlying151
 a53:=Tryz.isAgg151
 z53:=Tryz.sizeOf151
 v53:=Tryz.zeroValue151
 t55:=Tryz.underlying49
 a55:=Tryz.isAgg49
 z55:=Tryz.sizeOf49
 v55:=Tryz.zeroValue49
 t66:=Tryz.underlying165
 a66:=Tryz.isAgg165
 z66:=Tryz.sizeOf165
 v66:=Tryz.zeroValue165
 t70:=Tryz.underlying169
 a70:=Tryz.isAgg169
 z70:=Tryz.sizeOf169
 v70:=Tryz.zeroValue169
 t76:=Tryz.underlying186
 a76:=Tryz.isAgg186
 z76:=Tryz.sizeOf186
 v76:=Tryz.zeroValue186
 t77:=Tryz.underlying187
 a77:=Tryz.isAgg187
 z77:=Tryz.sizeOf187
 v77:=Tryz.zeroValue187 }
def Tryz.cmpInt_ren:Go.Shelf.Ren:=⟨fun | 5=>76 | 7=>91 | n=>n,fun | 22=>3 | 3=>3 | 4=>4 | n=>n,fun | n=>n⟩
theorem Tryz.cmpInt:Go.Proofs.SlLaysC2.n5 Tryz.prog Tryz.cmpInt_ren:={
 mixed:=by kernel_rfl
 f5:=⟨Tryz.f76.name,by decide,Tryz.func76.trans (congrArg some (by kernel_rfl))⟩
 f7:=⟨Tryz.f91.name,by decide,Tryz.func91.trans (congrArg some (by kernel_rfl))⟩
 t3:=Tryz.underlying3
 a3:=Tryz.isAgg3
 z3:=Tryz.sizeOf3
 v3:=Tryz.zeroValue3
 t4:=Tryz.underlying4
 a4:=Tryz.isAgg4
 z4:=Tryz.sizeOf4
 v4:=Tryz.zeroValue4
 t22:=Tryz.underlying3
 a22:=Tryz.isAgg3
 z22:=Tryz.sizeOf3
 v22:=Tryz.zeroValue3 }
end Go.Proofs
