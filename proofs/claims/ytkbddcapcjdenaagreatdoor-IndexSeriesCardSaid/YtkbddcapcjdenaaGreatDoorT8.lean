/-
  Texts joined.
-/
import Derived.Test.YtkbddcapcjdenaaGreatDoorT7
import Derived.Test.YtkbddcapcjdenaaGreatDoorT6

namespace Go.Dk
open Go Go.Dr
set_option maxRecDepth 100000
structure InO (h:AH) (id:Nat) (v:AV) (n:Nat) (b:List Nat) (at':Nat) (bad:Bool):Prop where
 cells:h.get id=some (.cells [v,.int .i64 (at':Int),.bool bad] false)
 lt:id<h.next
 sl:Sl h 1 n v (by8 b)
 ne:j9 v≠some id
 le:at'≤8*n
theorem InO.fr {h g:AH} {id:Nat} {v:AV} {n:Nat} {b:List Nat} {at':Nat} {bad:Bool} (u:InO h id v n b at' bad) (f:Fr h g):InO g id v n b at' bad :=
 ⟨by rw [f.get _ u.lt,u.cells],Nat.lt_of_lt_of_le u.lt f.next,u.sl.fr f,u.ne,u.le⟩
theorem InO.put {h:AH} {id:Nat} {v:AV} {n:Nat} {b:List Nat} {at' a2:Nat} {bad b2:Bool} (u:InO h id v n b at' bad) (ha:a2≤8*n) :
  InO (h.set id (.cells [v,.int .i64 (a2:Int),.bool b2] false)) id v n b a2 b2∧FrX id h (h.set id (.cells [v,.int .i64 (a2:Int),.bool b2] false)) :=
 ⟨⟨i8 _ _,u.lt,Sl.setX u.sl _ u.ne,u.ne,ha⟩,⟨Nat.le_refl _,fun i hi hn=>c8 hn⟩⟩
theorem InO.set {h:AH} {id j:Nat} {v:AV} {n:Nat} {b:List Nat} {at':Nat} {bad:Bool} (u:InO h id v n b at' bad) (o:AObj) (hj:id≠j) (hv:j9 v≠some j):InO (h.set j o) id v n b at' bad :=
 ⟨by rw [c8 hj,u.cells],u.lt,Sl.setX u.sl _ hv,u.ne,u.le⟩
theorem InO.frB {h g:AH} {B id:Nat} {v:AV} {n:Nat} {b:List Nat} {at':Nat} {bad:Bool} (u:InO h id v n b at' bad) (f:FrB B h g) (hid:id<B) (hv:∀ i,j9 v=some i→i<B):InO g id v n b at' bad:=by
 refine ⟨by rw [f.get _ hid,u.cells],Nat.lt_of_lt_of_le u.lt f.next,⟨u.sl.1,?_⟩,u.ne,u.le⟩
 rcases u.sl.2 with e | ⟨i,off,cap,x,vs,ro,e1,e2,e3,e4,e5,e6⟩
 ·exact .inl e
 ·exact .inr ⟨i,off,cap,x,vs,ro,e1,Nat.lt_of_lt_of_le e2 f.next,e3,by rw [f.get i (hv i (by rw [e1];rfl))];exact e4,e5,e6⟩
def InK (h:AH) (id:Nat) (v:AV) (n:Nat) (b:List Nat) (at' cnt:Nat) (bad:Bool) (r:AV) (g:AH):Prop :=
 ∃ (x a2:Nat) (b2:Bool),r=.int .u64 (x:Int)∧x<2 ^ cnt∧InO g id v n b a2 b2∧FrX id h g ∧
  ((C9 (j5 b) at' cnt=some x∧b2=bad∧a2=at'+cnt)∨(C9 (j5 b) at' cnt=none∧b2=true∧x=0))
theorem D0H (b:List Nat) (a y:Nat) (hy:b[a/8]? = some y):((j5 b).drop a).take 1=v8 (y/2 ^ (7 - a%8)) 1:=by
 have:=h0v b a 1 y hy (by omega)
 rw [show 8 - a%8 - 1=7 - a%8 from by omega] at this
 exact this
theorem W7 {h:AH} {id:Nat} {v:AV} {n:Nat} {b:List Nat} {at' cnt:Nat} {bad:Bool} (u:InO h id v n b at' bad) (hb:∀ x ∈ b,x<256) (hn:n≤2 ^ 36) (hc:cnt≤64) :
  Ev P SI (.fn C4) [.ptr id 0,.int .i64 (cnt:Int)] h (InK h id v n b at' cnt bad):=by
 refine k8 k07 rfl rfl ?_
 have hbl:b.length=n:=by have:=u.sl.1;simpa using this
 have hbs:=Q7 b
 have hle0:=u.le
 simp [f0C]
 refine m8 (n:=cnt) (by rfl) (fun j σ ds g=>ds=[]∧σ 0=.ptr id 0∧σ 6=.int .i64 (cnt:Int)∧InO g id v n b (at'+j) bad∧FrX id h g∧σ 5=.int .u64 ((val (((j5 b).drop at').take j):Nat):Int)) (by omega) (by simp)
  ⟨rfl,by simp,by simp,u,.refl _ _,by simp⟩ (fun j σ ds g hJ=>by simp [hJ.2.2.1]) ?_ ?_
 ·rintro j σ ds g hj hi ⟨rfl,e0,e6,I,fx,e5⟩
  have hle:=I.le
  have lb:load1 g id 0=.ok v:=b7 I.cells
  have la:load1 g id 1=.ok (.int .i64 ((at'+j:Nat):Int)):=b7 I.cells
  obtain ⟨a,ha⟩:∃ a,a=at'+j:=⟨_,rfl⟩
  rw [← ha] at la I hle
  obtain ⟨N,hN⟩:∃ N,N=8*n:=⟨_,rfl⟩
  have w1:b9 .i64 (8*(n:Int))=(N:Int):=by rw [wrap_i64 (by omega) (by omega)];omega
  by_cases hge:N≤a
  ·have st:=n8 (v:=.bool true) (off:=2) I.cells (by simp) rfl
   simp [i9] at st
   have I2:=I.put (a2:=a) (b2:=true) hle
   have ht:C9 (j5 b) at' cnt=none:=by unfold C9;rw [if_neg (by omega)]
   simp [e0,lb,la,I.sl.len,I.sl.same,w1,hge,st]
   exact ⟨0,a,true,rfl,Nat.two_pow_pos _,I2.1,fx.trans I2.2,.inr ⟨ht,rfl,rfl⟩⟩
  obtain ⟨y,hy⟩:=j7 (l:=b) (j:=a/8) (by omega)
  have hy256:y<256:=hb _ (List.mem_of_getElem? hy)
  have hbit:=D0H b a y hy
  have hstep:((j5 b).drop at').take (j+1)=((j5 b).drop at').take j++v8 (y/2 ^ (7 - a%8)) 1:=by
   rw [List.take_add,List.drop_drop,← ha,hbit]
  have hval:val (((j5 b).drop at').take (j+1))=val (((j5 b).drop at').take j)*2+(y/2 ^ (7 - a%8))%2:=by
   rw [hstep,f0x,W0,e0R]
  have hvl:val (((j5 b).drop at').take (j+1))<2 ^ 64:=by
   have h1:=g0w (((j5 b).drop at').take (j+1))
   have h2:(((j5 b).drop at').take (j+1)).length=j+1:=by simp;omega
   rw [h2] at h1
   exact Nat.lt_of_lt_of_le h1 (Nat.pow_le_pow_right (by omega) (by omega))
  have x1:(a:Int).tdiv 8=((a/8:Nat):Int):=r0y _ 8
  have x1':b9 .i64 ((a/8:Nat):Int)=((a/8:Nat):Int):=wrap_i64 (by omega) (by omega)
  have x2:(a:Int).tmod 8=((a%8:Nat):Int):=i0V _ 8
  have x3:b9 .i64 (7 - ((a%8:Nat):Int))=((7 - a%8:Nat):Int):=by rw [wrap_i64 (by omega) (by omega)];omega
  have x4:=s0L (P:=P) t6 false .i64 y (7 - a%8) (by omega)
  have x5:=s0N (P:=P) t6 true (y/2 ^ (7 - a%8)) 1 (Nat.lt_of_le_of_lt (Nat.div_le_self _ _) hy256) (by omega)
  rw [show (y/2 ^ (7 - a%8)) &&& 1=(y/2 ^ (7 - a%8))%2 from by rw [show (1:Nat)=2 ^ 1 - 1 from rfl,g0J],show ((1:Nat):Int)=1 from rfl] at x5
  have hm2:(y/2 ^ (7 - a%8))%2<2:=Nat.mod_lt _ (by decide)
  obtain ⟨id3,o3,k1,k2,_⟩:=I.sl.get1 (k:=.i64) (i:=((a/8:Nat):Int)) rfl (show a/8<n by omega) (x:=.int .u8 (y:Int)) (by rw [a0g,hy];rfl)
  generalize val (((j5 b).drop at').take j)=xv at *
  generalize hV:val (((j5 b).drop at').take (j+1))=V at *
  generalize (y/2 ^ (7 - a%8))%2=bt at *
  generalize y/2 ^ (7 - a%8)=ys at *
  generalize 7 - a%8=sh at *
  generalize hr:a%8=r at *
  generalize hq8:a/8=a8 at *
  have x6:b9 .u64 (bt:Int)=(bt:Int):=wrap_u64 (by omega) (by omega)
  have x7:b9 .u64 ((xv:Int)*2)=((xv*2:Nat):Int):=by rw [wrap_u64 (by omega) (by omega)];omega
  have x8:b9 .u64 (((xv*2:Nat):Int)+(bt:Int))=(V:Int):=by rw [wrap_u64 (by omega) (by omega)];omega
  have x9:b9 .i64 ((a:Int)+1)=((a+1:Nat):Int):=by rw [wrap_i64 (by omega) (by omega)];omega
  have st:=n8 (v:=.int .i64 ((a+1:Nat):Int)) (off:=1) I.cells (by simp) rfl
  obtain ⟨a1,ha1⟩:∃ a1,a1=a+1:=⟨_,rfl⟩
  rw [← ha1] at st x9
  simp [i9] at st
  have I2:=I.put (a2:=a1) (b2:=bad) (by omega)
  generalize xv*2=xv2 at *
  have hge':¬ (N:Int)≤a:=by omega
  simp [e0,e6,hi,lb,la,I.sl.len,I.sl.same,w1,hge,e5,x1,x1',k1,k2,x2,x3,x4,x5,x6,x7,x8,x9,st,hV,-h07,-h04]
  rw [show at'+(j+1)=a1 from by omega]
  exact ⟨I2.1,fx.trans I2.2⟩
 ·rintro σ ds g ⟨rfl,e0,e6,I,fx,e5⟩
  have hle:=I.le
  have ht:C9 (j5 b) at' cnt=some (val (((j5 b).drop at').take cnt)):=by unfold C9;rw [if_pos (by omega)]
  have hlt:=m0a ht
  generalize val (((j5 b).drop at').take cnt)=x at *
  simp [e5]
  exact ⟨x,at'+cnt,bad,rfl,hlt,I,fx,.inl ⟨ht,rfl,rfl⟩⟩
end Go.Dk

namespace Go.Dk
open Go Go.Dr
set_option maxRecDepth 100000
def z0i (bs:A5) (at':Nat) (bad:Bool) (x:Int) (a2:Nat) (b2:Bool):Prop :=
 (bad=true→b2=true)∧∀ n0 z,(-9223372036854775808≤n0∧n0<9223372036854775808)→bad=false→at'≤bs.length→bs.drop at'=a0q n0++z→x=n0∧b2=false∧bs.drop a2=z∧a2≤bs.length
def sy (w raw:Nat):Int:=if 0<w∧w<64∧2 ^ (w - 1)≤raw then (raw:Int) - ((2 ^ w:Nat):Int) else b9 .i64 (raw:Int)
theorem x0L (n:Int) (h:-9223372036854775808≤n∧n<9223372036854775808):sy (y7 (m7 n)) (u64 n%2 ^ y7 (m7 n))=n:=by
 unfold m7
 by_cases h0:n=0
 ·subst h0;rfl
 rw [if_neg h0]
 by_cases h1:-64≤n∧n<64
 ·rw [if_pos h1]
  simp only [y7,sy,C5]
  unfold u64
  split <;> omega
 rw [if_neg h1]
 by_cases h2:-2048≤n∧n<2048
 ·rw [if_pos h2]
  simp only [y7,sy,C5]
  unfold u64
  split <;> omega
 rw [if_neg h2]
 by_cases h3:-2147483648≤n∧n<2147483648
 ·rw [if_pos h3]
  simp only [y7,sy,C5]
  unfold u64
  split <;> omega
 rw [if_neg h3]
 simp only [y7,sy,C5]
 unfold u64
 split <;> omega
theorem z0j {bs:A5} {a0 a k:Nat} {n:Int} {z:A5} (e:bs.drop a0=a0q n++z) (hp:pre 4 (bs.drop a0)=some (k,bs.drop a)) (ha:a≤bs.length) :
  k=m7 n∧C9 bs a (y7 k)=some (u64 n%2 ^ y7 k)∧bs.drop (a+y7 k)=z∧a+y7 k≤bs.length:=by
 have hk:=e0C n
 have hp2:pre 4 (bs.drop a0)=some (m7 n,v8 (u64 n) (y7 (m7 n))++z):=by
  rw [e,a0q,List.append_assoc _ _ z]
  exact p0M _ hk _
 rw [hp] at hp2
 simp only [Option.some.injEq,Prod.mk.injEq] at hp2
 obtain ⟨rfl,h2⟩:=hp2
 obtain ⟨t1,t2,t3⟩:=M7 h2 ha
 exact ⟨rfl,t1,t2,t3⟩
theorem z0k {bs:A5} {a0:Nat} {n:Int} {z:A5} (e:bs.drop a0=a0q n++z):pre 4 (bs.drop a0)≠none:=by
 rw [e,a0q,List.append_assoc _ _ z,p0M _ (e0C n) _]
 exact fun h=>by cases h
def C0j (h:AH) (id:Nat) (v:AV) (n:Nat) (b:List Nat) (at':Nat) (bad:Bool) (r:AV) (g:AH):Prop :=
 ∃ (x:Int) (a2:Nat) (b2:Bool),r=.int .i64 x∧InO g id v n b a2 b2∧FrX id h g∧z0i (j5 b) at' bad x a2 b2
def D0A (h:AH) (id:Nat) (v:AV) (n:Nat) (b:List Nat) (at':Nat) (bad:Bool) (st:AV) (g:AH):Prop :=
 ∃ (k a:Nat) (b1:Bool),st=.int .i64 (k:Int)∧k≤4∧InO g id v n b a b1∧FrX id h g ∧
   ((b1=bad∧pre 4 ((j5 b).drop at')=some (k,(j5 b).drop a))∨(b1=true∧pre 4 ((j5 b).drop at')=none))
theorem h0x {h:AH} {id:Nat} {v:AV} {n:Nat} {b:List Nat} {at':Nat} {bad:Bool} (u:InO h id v n b at' bad) (hb:∀ x ∈ b,x<256) (hn:n≤2 ^ 36) :
  Ev P SI (.fn T7) [.ptr id 0] h (C0j h id v n b at' bad):=by
 refine k8 h0C rfl rfl ?_
 have hbl:b.length=n:=by have:=u.sl.1;simpa using this
 have hbs:=Q7 b
 simp [c0F]
 refine D3 (Q:=fun x σ ds g=>x=.exit 0∧ds=[]∧σ 0=.ptr id 0∧D0A h id v n b at' bad (σ 3) g) ?_ ?_
 ·refine M5 (fun q σ ds g=>∃ k a:Nat,q+k=4∧ds=[]∧σ 0=.ptr id 0∧σ 3=.int .i64 (k:Int)∧InO g id v n b a bad∧FrX id h g ∧
    pre 4 ((j5 b).drop at')=(pre (4 - k) ((j5 b).drop a)).map fun p=>(p.1+k,p.2)) 4 ⟨0,at',rfl,rfl,by simp,by simp,u,.refl _ _,by simp⟩ ?_
  rintro q σ ds g ⟨k,a,hq,rfl,e0,e3,I,fx,hp⟩
  have hle:=I.le
  by_cases hk:k<4
  case neg =>
   have hk4:k=4:=by omega
   subst hk4
   rw [Nat.sub_self,pre] at hp
   have e3':σ 3=.int .i64 4:=e3
   simp [e0,e3']
   exact ⟨4,a,bad,rfl,by omega,I,fx,.inl ⟨rfl,by simpa using hp⟩⟩
  have hk':(k:Int)<4:=by omega
  have hm:4 - k=(3 - k)+1:=by omega
  simp [e0,e3,hk']
  refine (W7 (cnt:=1) I hb hn (by omega)).mono ?_
  rintro r g2 ⟨x,a2,b2,rfl,hx,I2,f2,hr⟩
  have F2:=fx.trans f2
  cases hd:(j5 b).drop a with
  | nil =>
   rw [p0b hd] at hr
   rcases hr with ⟨h,_⟩ | ⟨_,rfl,rfl⟩
   ·cases h
   rw [hd,hm,pre] at hp
   simp [e0,e3]
   exact ⟨k,a2,true,rfl,by omega,I2,F2,.inr ⟨rfl,by simpa using hp⟩⟩
  | cons y d =>
   obtain ⟨t1,t2,t3⟩:=n0o hd
   rw [t1] at hr
   rcases hr with ⟨h,rfl,rfl⟩ | ⟨h,_⟩
   rotate_left
   ·cases h
   cases h
   cases y with
   | false =>
    rw [hd,hm,pre] at hp
    simp [e0,e3]
    exact ⟨k,a+1,b2,rfl,by omega,I2,F2,.inl ⟨rfl,by rw [hp,t2];simp⟩⟩
   | true =>
    rw [hd,hm,pre] at hp
    have w2:b9 .i64 ((k:Int)+1)=((k+1:Nat):Int):=by rw [wrap_i64 (by omega) (by omega)];omega
    generalize hk1:k+1=k1 at *
    simp [e0,e3,w2,l7]
    refine ⟨q - 1,by omega,k1,by omega,rfl,a+1,I2,F2,?_⟩
    rw [hp,t2,show 4 - k1=3 - k from by omega]
    cases pre (3 - k) d with
    | none=>rfl
    | some p =>
     simp only [Option.map_some]
     congr 2
     omega
 rintro x σ ds g ⟨rfl,rfl,e0,k,a,b1,e3,hk4,I,fx,hc⟩
 have hwN:=g0O k
 have gn:(g.push (.cells [.int .i64 0,.int .i64 7,.int .i64 12,.int .i64 32,.int .i64 64] false)).get g.next=some (.cells [.int .i64 0,.int .i64 7,.int .i64 12,.int .i64 32,.int .i64 64] false):=b8 _
 have fp:=Fr.push (.refl g) (.cells [.int .i64 0,.int .i64 7,.int .i64 12,.int .i64 32,.int .i64 64] false)
 have ix:=N9 (es:=1) (id:=g.next) (off:=0) (len:=5) (cap:=5) (x:=true) (k:=.i64) (i:=(k:Int)) ⟨by omega,by omega⟩
 rw [Int.toNat_natCast,Nat.mul_one,Nat.zero_add] at ix
 have lw:load1 (g.push (.cells [.int .i64 0,.int .i64 7,.int .i64 12,.int .i64 32,.int .i64 64] false)) g.next k=.ok (.int .i64 (y7 k:Int)):=by
  rw [b7 gn]
  rcases (show k=0∨k=1∨k=2∨k=3∨k=4 by omega) with rfl | rfl | rfl | rfl | rfl <;> rfl
 generalize hg1:g.push (.cells [.int .i64 0,.int .i64 7,.int .i64 12,.int .i64 32,.int .i64 64] false)=g1 at *
 have I1:=I.fr fp
 obtain ⟨w,hw⟩:∃ w,w=y7 k:=⟨_,rfl⟩
 rw [← hw] at lw hwN
 have hw64:w=0∨w=7∨w=12∨w=32∨w=64:=by
  rw [hw]
  rcases (show k=0∨k=1∨k=2∨k=3∨k=4 by omega) with rfl | rfl | rfl | rfl | rfl <;> simp [y7]
 simp [i9,hg1,e3,ix,lw,e0]
 refine (W7 (cnt:=w) I1 hb hn hwN).mono ?_
 rintro r g2 ⟨raw,a2,b2,rfl,hraw,I2,f2,hr⟩
 have F2:FrX id h g2:=(fx.trans (Fr.x fp)).trans f2
 have fin:z0i (j5 b) at' bad (sy w raw) a2 b2:=by
  refine ⟨fun hbad=>?_,fun n0 z hrng hbad hle hd=>?_⟩
  ·subst hbad
   have hb1:b1=true:=by rcases hc with ⟨h,_⟩ | ⟨h,_⟩ <;> exact h
   rcases hr with ⟨_,h,_⟩ | ⟨_,h,_⟩
   ·rw [h,hb1]
   ·exact h
  ·rcases hc with ⟨hb1,hp⟩ | ⟨_,hp⟩
   ·obtain ⟨rfl,t1,t2,t3⟩:=z0j hd hp (by have:=I.le;omega)
    rw [← hw] at t1 t2 t3
    rw [t1] at hr
    rcases hr with ⟨h,h2,h3⟩ | ⟨h,_⟩
    ·have e:=Option.some.inj h
     refine ⟨?_,by rw [h2,hb1,hbad],by rw [h3];exact t2,by rw [h3];exact t3⟩
     rw [← e,hw]
     exact x0L n0 hrng
    ·cases h
   ·exact absurd hp (z0k hd)
 have fin2:C0j h id v n b at' bad (.int .i64 (sy w raw)) g2:=⟨_,_,_,rfl,I2,F2,fin⟩
 rcases hw64 with rfl | rfl | rfl | rfl | rfl
 ·simp
  simpa [sy] using fin2
 ·have wr:b9 .i64 (raw:Int)=(raw:Int):=wrap_i64 (by omega) (by omega)
  by_cases h64:64≤raw
  ·have h64':(64:Int)≤raw:=by omega
   have wd:b9 .i64 ((raw:Int) - 128)=(raw:Int) - 128:=wrap_i64 (by omega) (by omega)
   simp [wr,show b9 .i64 64=64 from rfl,show b9 .i64 128=128 from rfl,h64',wd,show b9 .i64 6=6 from rfl]
   simpa [sy,h64] using fin2
  ·have h64':¬ (64:Int)≤raw:=by omega
   simp [wr,show b9 .i64 64=64 from rfl,h64',show b9 .i64 6=6 from rfl]
   simpa [sy,h64,wr] using fin2
 ·have wr:b9 .i64 (raw:Int)=(raw:Int):=wrap_i64 (by omega) (by omega)
  by_cases h64:2048≤raw
  ·have h64':(2048:Int)≤raw:=by omega
   have wd:b9 .i64 ((raw:Int) - 4096)=(raw:Int) - 4096:=wrap_i64 (by omega) (by omega)
   simp [wr,show b9 .i64 2048=2048 from rfl,show b9 .i64 4096=4096 from rfl,h64',wd,show b9 .i64 11=11 from rfl]
   simpa [sy,h64] using fin2
  ·have h64':¬ (2048:Int)≤raw:=by omega
   simp [wr,show b9 .i64 2048=2048 from rfl,h64',show b9 .i64 11=11 from rfl]
   simpa [sy,h64,wr] using fin2
 ·have wr:b9 .i64 (raw:Int)=(raw:Int):=wrap_i64 (by omega) (by omega)
  by_cases h64:2147483648≤raw
  ·have h64':(2147483648:Int)≤raw:=by omega
   have wd:b9 .i64 ((raw:Int) - 4294967296)=(raw:Int) - 4294967296:=wrap_i64 (by omega) (by omega)
   simp [wr,show b9 .i64 2147483648=2147483648 from rfl,show b9 .i64 4294967296=4294967296 from rfl,h64',wd,show b9 .i64 31=31 from rfl]
   simpa [sy,h64] using fin2
  ·have h64':¬ (2147483648:Int)≤raw:=by omega
   simp [wr,show b9 .i64 2147483648=2147483648 from rfl,h64',show b9 .i64 31=31 from rfl]
   simpa [sy,h64,wr] using fin2
 ·simp
  simpa [sy] using fin2
end Go.Dk

namespace Go.Dk
open Go Go.Dr
set_option maxRecDepth 100000
def D0z (h:AH) (id:Nat) (v:AV) (n:Nat) (b:List Nat) (at':Nat) (bad:Bool) (r:AV) (g:AH):Prop :=
 ∃ (x a2:Nat) (b2:Bool),r=.int .u64 (x:Int)∧x<2 ^ 64∧InO g id v n b a2 b2∧FrX id h g∧v0Y (j5 b) at' bad x a2 b2
theorem n0T {h:AH} {id:Nat} {v:AV} {n:Nat} {b:List Nat} {at':Nat} {bad:Bool} (u:InO h id v n b at' bad) (hb:∀ x ∈ b,x<256) (hn:n≤2 ^ 36) :
  Ev P SI (.fn L4) [.ptr id 0] h (D0z h id v n b at' bad):=by
 refine k8 h0D rfl rfl ?_
 simp [c0G]
 refine (W7 (cnt:=1) u hb hn (by omega)).mono ?_
 rintro r g1 ⟨x1,a1,b1,rfl,hx1,u1,f1,hc1⟩
 have bb1:bad=true→b1=true:=by
  rintro rfl
  rcases hc1 with ⟨_,h,_⟩ | ⟨_,h,_⟩ <;> exact h
 by_cases h10:x1=0
 ·subst h10
  simp
  refine ⟨0,a1,b1,rfl,by omega,u1,f1,bb1,?_⟩
  intro x0 z hx0 hbad hal hd
  subst hbad
  by_cases h0:x0=0
  ·subst h0
   rw [d0v,if_pos rfl] at hd
   obtain ⟨p1,p2,p3⟩:=M7 hd hal
   rcases hc1 with ⟨_,rfl,rfl⟩ | ⟨hn1,_⟩
   ·exact ⟨rfl,rfl,p2,p3⟩
   ·rw [p1] at hn1;cases hn1
  ·obtain ⟨p1,_⟩:=b0S hx0 h0 hd hal
   rw [p1] at hc1
   rcases hc1 with ⟨h,_⟩ | ⟨h,_⟩ <;> cases h
 simp [h10]
 refine (W7 (cnt:=6) u1 hb hn (by omega)).mono ?_
 rintro r g2 ⟨x2,a2,b2,rfl,hx2,u2,f2,hc2⟩
 have bb2:b1=true→b2=true:=by
  rintro rfl
  rcases hc2 with ⟨_,h,_⟩ | ⟨_,h,_⟩ <;> exact h
 have w2:b9 .i64 (x2:Int)=(x2:Int):=wrap_i64 (by omega) (by omega)
 simp [w2]
 refine (W7 (cnt:=6) u2 hb hn (by omega)).mono ?_
 rintro r g3 ⟨x3,a3,b3,rfl,hx3,u3,f3,hc3⟩
 have bb3:b2=true→b3=true:=by
  rintro rfl
  rcases hc3 with ⟨_,h,_⟩ | ⟨_,h,_⟩ <;> exact h
 have w3:b9 .i64 (x3:Int)=(x3:Int):=wrap_i64 (by omega) (by omega)
 obtain ⟨w,hw⟩:∃ w,w=x3+1:=⟨_,rfl⟩
 have w4:b9 .i64 ((x3:Int)+1)=(w:Int):=by rw [wrap_i64 (by omega) (by omega)];omega
 obtain ⟨hs,hhs⟩:∃ hs,hs=x2+w:=⟨_,rfl⟩
 have w5:b9 .i64 ((x2:Int)+(w:Int))=(hs:Int):=by rw [wrap_i64 (by omega) (by omega)];omega
 simp [w3,w4]
 refine (W7 (cnt:=w) u3 hb hn (by omega)).mono ?_
 rintro r g4 ⟨x5,a5,b5,rfl,hx5,u5,f5,hc5⟩
 have bb5:b3=true→b5=true:=by
  rintro rfl
  rcases hc5 with ⟨_,h,_⟩ | ⟨_,h,_⟩ <;> exact h
 have F5:=((f1.trans f2).trans f3).trans f5
 have hno:∀ x0 z,x0<2 ^ 64→at'≤(j5 b).length→(j5 b).drop at'=d0v x0++z→x0≠0:=by
  rintro x0 z hx0 hal hd rfl
  rw [d0v,if_pos rfl] at hd
  obtain ⟨p1,_⟩:=M7 hd hal
  rw [p1] at hc1
  rcases hc1 with ⟨h,_⟩ | ⟨h,_⟩ <;> cases h
  exact h10 rfl
 have hall:∀ x0 z,x0<2 ^ 64→bad=false→at'≤(j5 b).length→(j5 b).drop at'=d0v x0++z →
   b5=false∧x2=64 - Lib.bitLen x0∧w=c0u x0∧¬ 64<hs∧x5=x0/2 ^ Lib.ctz 64 x0∧64 - x2 - w=Lib.ctz 64 x0∧(j5 b).drop a5=z∧a5≤(j5 b).length:=by
  intro x0 z hx0 hbad hal hd
  subst hbad
  obtain ⟨p1,p2,p3,p4,p5,p6,p7,p8,p9⟩:=b0S hx0 (hno x0 z hx0 hal hd) hd hal
  rw [p1] at hc1
  rcases hc1 with ⟨_,rfl,rfl⟩ | ⟨h,_⟩
  rotate_left
  ·cases h
  rw [p2] at hc2
  rcases hc2 with ⟨h2,rfl,rfl⟩ | ⟨h,_⟩
  rotate_left
  ·cases h
  rw [p3] at hc3
  rcases hc3 with ⟨h3,rfl,rfl⟩ | ⟨h,_⟩
  rotate_left
  ·cases h
  have e2:=Option.some.inj h2
  have e3:=Option.some.inj h3
  have e4:w=c0u x0:=by omega
  rw [e4,p4] at hc5
  rcases hc5 with ⟨h5,rfl,rfl⟩ | ⟨h,_⟩
  rotate_left
  ·cases h
  have e5:=Option.some.inj h5
  refine ⟨rfl,e2.symm,e4,by omega,e5.symm,?_,p5,p6⟩
  rw [e4,← e2]
  exact p9
 by_cases hle:64<hs
 ·have hle':(64:Int)<hs:=by omega
  have st:=n8 (v:=.bool true) (off:=2) u5.cells (by simp) rfl
  simp [i9] at st
  have I2:=u5.put (a2:=a5) (b2:=true) u5.le
  simp [w5,hle',st]
  exact ⟨0,a5,true,rfl,by omega,I2.1,F5.trans I2.2,fun _=>rfl,fun x0 z hx0 hbad hal hd=>absurd hle (hall x0 z hx0 hbad hal hd).2.2.2.1⟩
 ·have hle':¬ (64:Int)<hs:=by omega
  have w6:b9 .i64 (64 - (x2:Int))=((64 - x2:Nat):Int):=by rw [wrap_i64 (by omega) (by omega)];omega
  have w7:b9 .i64 (((64 - x2:Nat):Int) - (w:Int))=((64 - x2 - w:Nat):Int):=by rw [wrap_i64 (by omega) (by omega)];omega
  have s5:=e04 (P:=P) j0 false .i64 x5 (64 - x2 - w) (by omega)
  have hres:x5*2 ^ (64 - x2 - w)%2 ^ 64<2 ^ 64:=Nat.mod_lt _ (by omega)
  have fin:v0Y (j5 b) at' bad (x5*2 ^ (64 - x2 - w)%2 ^ 64) a5 b5:=by
   refine ⟨fun h=>bb5 (bb3 (bb2 (bb1 h))),?_⟩
   intro x0 z hx0 hbad hal hd
   obtain ⟨q1,q2,q3,q4,q5,q6,q7,q8⟩:=hall x0 z hx0 hbad hal hd
   have h0:=hno x0 z hx0 hal hd
   refine ⟨?_,q1,q7,q8⟩
   rw [q6,q5,u0u hx0 h0,Nat.mod_eq_of_lt hx0]
  generalize x5*2 ^ (64 - x2 - w)%2 ^ 64=res at *
  generalize 64 - x2 - w=sh at *
  generalize 64 - x2=sh2 at *
  simp [w5,hle',w6,w7,s5,-O0]
  exact ⟨res,a5,b5,rfl,hres,u5,F5,fin⟩
theorem v0W {bs:A5} {cnt j:Nat} {r:List Smp} {at':Nat} {step:Int} (hj:j+1<cnt) (hJ:∀ l0 z,a0B l0 z bs cnt→p0l bs l0 z (j+1) r at' step) {t:Int} {w:Nat} (hr:r[j]? = some (t,w))
  {n:Int} {a1 a2 x:Nat} {b1 b2:Bool} (h1:z0i bs at' false n a1 b1) (h2:v0Y bs a1 b1 x a2 b2) :
  ∀ l0 z,a0B l0 z bs cnt→s0G bs l0 z (j+1) (b9 .i64 (t+b9 .i64 (step+n))) (w ^^^ x) a2 b2 (b9 .i64 (step+n)):=by
 intro l0 z hk
 obtain ⟨hrt,hle,hc⟩:=hJ l0 z hk
 obtain ⟨hR,hlen,_⟩:=hk
 rcases hc with ⟨h,_⟩ | ⟨_,t0,w0,hp,hd⟩
 ·omega
 rw [Nat.add_sub_cancel] at hp
 have:l0[j]? = some (t,w):=by
  rw [hrt,List.getElem?_take_of_lt (by omega)] at hr
  exact hr
 rw [hp] at this
 cases this
 obtain ⟨⟨t',w'⟩,hx⟩:=j7 (l:=l0) (j:=j+1) (by omega)
 obtain ⟨ht',hw'⟩:=hR _ (List.mem_of_getElem? hx)
 obtain ⟨ht0,hw0⟩:=hR _ (List.mem_of_getElem? hp)
 simp only at ht' hw' ht0 hw0
 rw [i0n hx,e0L,List.append_assoc,List.append_assoc] at hd
 have hrg:∀ y,-9223372036854775808≤b9 .i64 y∧b9 .i64 y<9223372036854775808:=fun y=>by rw [C5];omega
 obtain ⟨e1,e0,e2,e3⟩:=h1.2 _ _ (hrg _) rfl hle hd
 subst e1 e0
 obtain ⟨f1,f2,f3,f4⟩:=h2.2 _ _ (Nat.xor_lt_two_pow hw' hw0) rfl e3 e2
 subst f1
 have s1:b9 .i64 (step+b9 .i64 (b9 .i64 (t' - t) - step))=b9 .i64 (t' - t):=by
  simp only [C5]
  omega
 have s2:b9 .i64 (t+b9 .i64 (t' - t))=t':=by
  simp only [C5]
  omega
 have s3:w ^^^ (w' ^^^ w)=w':=by rw [Nat.xor_comm w',← Nat.xor_assoc,Nat.xor_self,Nat.zero_xor]
 rw [s1,s2,s3]
 exact ⟨f2,hx,f4,f3⟩
end Go.Dk

namespace Go.Dk
open Go Go.Dr
set_option maxRecDepth 100000
structure DecI (h g:AH) (v':AV) (n':Nat) (b':List Nat) (cnt j:Nat) (acc:AV) (r:List Smp) (at':Nat) (bad:Bool) (step:Int):Prop where
 fr:Fr h g
 un:UnO g h.next v' n' b' at' bad
 own:Own (h.next+1) g 2 r.length acc (r.flatMap smC)
 len:r.length=j
 rng:SmpR r
 far:at'≤8*n'+300
 rel:∀ l0 z,a0B l0 z (j5 b') cnt→p0l (j5 b') l0 z j r at' step
def D0v (h:AH) (v':AV) (n':Nat) (b':List Nat) (cnt:Nat) (acc:AV) (g:AH):Prop :=
 ∃ r at' bad step,SmpR r∧Fr h g∧UnO g h.next v' n' b' at' bad∧Own (h.next+1) g 2 r.length acc (r.flatMap smC)∧r.length≤cnt ∧
  (bad=true→∀ l0 z,¬ a0B l0 z (j5 b') cnt)∧(bad=false→∀ l0 z,a0B l0 z (j5 b') cnt→p0l (j5 b') l0 z cnt r at' step)
def D0w (h:AH) (v':AV) (n':Nat) (b':List Nat) (cnt j:Nat) (acc st:AV) (g:AH):Prop :=
 ∃ r at' step,st=.int .i64 step∧DecI h g v' n' b' cnt j acc r at' false step
def D0x (h g:AH) (v':AV) (n':Nat) (b':List Nat) (cnt j:Nat) (st:AV) (g':AH):Prop :=
 FrX h.next g g'∧∃ T V a2 b2 step,st=.int .i64 step∧(-9223372036854775808≤T∧T<9223372036854775808)∧V<2 ^ 64∧g'.get g.next=some (.cells [.int .i64 T,.int .u64 ((V:Nat):Int)] false)∧g.next<g'.next ∧
  UnO g' h.next v' n' b' a2 b2∧(b2=false→a2≤8*n'+300)∧∀ l0 z,a0B l0 z (j5 b') cnt→s0G (j5 b') l0 z j T V a2 b2 step
theorem i0X (y:Int):-9223372036854775808≤b9 .i64 y∧b9 .i64 y<9223372036854775808:=by rw [C5];omega
theorem UnO.set {h:AH} {id j:Nat} {v:AV} {n:Nat} {b:List Nat} {at':Nat} {bad:Bool} (u:UnO h id v n b at' bad) (o:AObj) (hj:id≠j) (hv:j9 v≠some j):UnO (h.set j o) id v n b at' bad :=
 ⟨by rw [c8 hj,u.cells],u.lt,Sl.setX u.sl _ hv,u.ne⟩
theorem SmpR.snoc {r:List Smp} (h:SmpR r) {T:Int} {V:Nat} (hT:-9223372036854775808≤T∧T<9223372036854775808) (hV:V<2 ^ 64):SmpR (r++[(T,V)]):=by
 intro x hx
 rcases List.mem_append.1 hx with h1 | h1
 ·exact h x h1
 ·simp at h1;subst h1;exact ⟨hT,hV⟩
theorem p0P {h:AH} {n:Nat} {v:AV} {b:List Nat} (s:Sl h 1 n v (by8 b)) (hb:∀ x ∈ b,x<256) (hn:n≤2 ^ 30) (ht:TabIn h) :
  Ev P SI (.fn c0W) [v] h (DecS h b):=by
 refine k8 n0h rfl rfl ?_
 have hbl:b.length=n:=by have:=s.1;simpa using this
 by_cases hlt:n<2
 ·have hlt':(n:Int)<2:=by omega
  simp [d0p,s.len,hlt',DecS]
  refine ⟨.refl _,?_⟩
  intro l0 h0
  obtain ⟨_,_,h2,_⟩:=h0.k
  omega
 have hlt':¬ (n:Int)<2:=by omega
 obtain ⟨u,eu,su⟩:=s.slice (lo:=none) (hi:=some (.int .i64 ((2:Nat):Int))) (a:=0) (b:=2) (.inl ⟨rfl,rfl⟩) (.inr ⟨.i64,rfl⟩) (by omega) (by omega)
 obtain ⟨v',ev',sv⟩:=s.slice (lo:=some (.int .i64 ((2:Nat):Int))) (hi:=none) (a:=2) (b:=n) (.inr ⟨.i64,rfl⟩) (.inl ⟨rfl,rfl⟩) (by omega) (Nat.le_refl _)
 rw [Nat.mul_one,Nat.mul_one,H8,H7,List.drop_zero,Nat.sub_zero] at su
 rw [Nat.mul_one,Nat.mul_one,H8,H7,List.take_of_length_le (by simp;omega)] at sv
 rw [show ((2:Nat):Int)=2 from rfl] at eu ev'
 have gt:=q0o su (fun x hx=>hb x (List.mem_of_mem_take hx)) (by omega) (by omega)
 have hcl:=h03 (b.take 2) (fun x hx=>hb x (List.mem_of_mem_take hx))
 rw [List.length_take,Nat.min_eq_left (by omega)] at hcl
 have hb':∀ x ∈ b.drop 2,x<256:=fun x hx=>hb x (List.mem_of_mem_drop hx)
 have hk:=@IsS.k b
 obtain ⟨cnt,hcnt⟩:∃ cnt,cnt=beV (b.take 2):=⟨_,rfl⟩
 rw [← hcnt] at hcl hk gt
 obtain ⟨n',hn'⟩:∃ n',n'=n - 2:=⟨_,rfl⟩
 rw [← hn'] at sv
 obtain ⟨b',hbd⟩:∃ b',b'=b.drop 2:=⟨_,rfl⟩
 rw [← hbd] at sv hb' hk
 obtain ⟨N,hN⟩:∃ N,N=8*n':=⟨_,rfl⟩
 have w1:b9 .i64 ((n:Int) - 2)=(n':Int):=by rw [wrap_i64 (by omega) (by omega)];omega
 have w2:b9 .i64 (8*(n':Int))=(N:Int):=by rw [wrap_i64 (by omega) (by omega)];omega
 have w3:b9 .i64 (cnt:Int)=(cnt:Int):=wrap_i64 (by omega) (by omega)
 have f0:=Fr.push (.refl h) (.cells [v',.int .i64 (N:Int),.int .i64 0,.bool false] false)
 have u0:UnO (h.push (.cells [v',.int .i64 (N:Int),.int .i64 0,.bool false] false)) h.next v' n' b' 0 false :=
  ⟨by rw [← hN];exact b8 _,Nat.lt_succ_self _,sv.fr f0,fun e=>by have:=Sl.idLt sv e;omega⟩
 have hvc:=sv.oneCell
 have hvlt:∀ i,j9 v'=some i→i<h.next+1:=fun i e=>by have:=Sl.idLt sv e;omega
 have g0n:(h.push (.cells [v',.int .i64 (N:Int),.int .i64 0,.bool false] false)).next=h.next+1:=rfl
 generalize hg0:h.push (.cells [v',.int .i64 (N:Int),.int .i64 0,.bool false] false)=g0 at *
 have i0:DecI h g0 v' n' b' cnt 0 .nils [] 0 false 0:=⟨f0,u0,Own.nil _ _,rfl,fun x hx=>by simp at hx,by omega,fun l0 z hk=>⟨by simp,by omega,.inl ⟨rfl,rfl,by simpa using hk.2.2⟩⟩⟩
 simp [d0p,s.len,hlt',eu,gt,ev',w1,w2,w3,hvc.1,i9,hg0]
 refine D3 (Q:=fun x σ ds g=>x=.exit 0∧ds=[]∧σ 0=v∧σ 6=.ptr h.next 0∧D0v h v' n' b' cnt (σ 7) g) ?_ ?_
 ·refine m8 (n:=cnt) (by rfl) (fun j σ ds g=>ds=[]∧σ 0=v∧σ 6=.ptr h.next 0∧σ 32=.int .i64 (cnt:Int)∧D0w h v' n' b' cnt j (σ 7) (σ 8) g) (by omega) (by simp)
   ⟨rfl,by simp,by simp,by simp,[],0,0,by simp,by simpa using i0⟩ (fun j σ ds g hJ=>by simp [hJ.2.2.2.1]) ?_ ?_
  ·rintro j σ ds g hj hi ⟨rfl,e0,e6,e32,r,at',step,e8,I⟩
   have gg:(g.push (.cells [.int .i64 0,.int .u64 0] false)).get g.next=some (.cells [.int .i64 0,.int .u64 0] false):=b8 _
   have gn:(g.push (.cells [.int .i64 0,.int .u64 0] false)).next=g.next+1:=rfl
   have fp:=Fr.push (.refl g) (.cells [.int .i64 0,.int .u64 0] false)
   generalize hg1:g.push (.cells [.int .i64 0,.int .u64 0] false)=g1 at *
   have hlt1:=I.un.lt
   have far:=I.far
   have un1:=I.un.fr fp
   have ow1:=I.own.fr fp
   have hbl':b'.length=n':=by have:=I.un.sl.1;simpa using this
   have hbs:=Q7 b'
   generalize h7:σ 7=acc at *
   simp [hi,hg1]
   refine D3 (c:=.cond (.c (.bool (decide (j=0)))) _ _) (Q:=fun x σ ds g'=>x=.normal∧ds=[]∧σ 0=v∧σ 6=.ptr h.next 0∧σ 7=acc∧σ 10=.ptr g.next 0∧σ 32=.int .i64 (cnt:Int)∧σ 33=.int .i64 (j:Int)∧D0x h g v' n' b' cnt j (σ 8) g') ?_ ?_
   ·by_cases hj0:j=0
    ·subst hj0
     simp [e6]
     refine (a0M (cnt:=64) un1 hb' (by omega) (by omega) (by omega)).mono ?_
     rintro rr g2 ⟨x1,b1,rfl,u2,f2,hx1,hc1⟩
     simp [e6]
     refine (a0M (cnt:=64) u2 hb' (by omega) (by omega) (by omega)).mono ?_
     rintro rr g3 ⟨x2,b2,rfl,u3,f3,hx2,hc2⟩
     have F3:=f2.trans f3
     have gg3:=F3.get g.next (by omega) (by omega)
     rw [gg] at gg3
     have st:=a0l gg3 (show d8 [.int .i64 (b9 .i64 (x1:Int)),.int .u64 (x2:Int)]=true by rfl)
     have hI0:step=0∨True:=.inr trivial
     have hN:=j0y (by omega) I.rel hc1 hc2
     simp [i9,st,e0,e6,h7,e32,hi]
     refine ⟨⟨Nat.le_trans fp.next F3.next,fun i hi hn=>by rw [c8 (by omega),F3.get i (by omega) hn,fp.get i hi]⟩,b9 .i64 (x1:Int),x2,at'+64+64,b2,step,e8,i0X _,hx2,i8 _ _,?_,?_,?_,?_⟩
     ·show g.next<g3.next
      have:=F3.next
      omega
     ·exact u3.set _ (by omega) (fun e=>by have:=hvlt _ e;omega)
     ·rintro rfl
      rcases hc2 with ⟨h,_⟩ | ⟨_,h,_⟩
      ·unfold C9 at h
       split at h
       ·omega
       ·cases h
      ·cases h
     ·intro l0 z hk
      have h1:=hN l0 z hk
      obtain ⟨_,_,hc⟩:=I.rel l0 z hk
      rcases hc with ⟨_,rfl,_⟩ | ⟨h,_⟩
      ·exact h1
      ·omega
    ·obtain ⟨i,rfl⟩:∃ i,j=i+1:=⟨j - 1,by omega⟩
     obtain ⟨⟨t,w⟩,hx⟩:=j7 (l:=r) (j:=i) (by have:=I.len;omega)
     obtain ⟨_,hw⟩:=I.rng _ (List.mem_of_getElem? hx)
     simp only at hw
     simp [e6,hj0]
     refine (n0U un1 hb' (by omega) (by omega)).mono ?_
     rintro rr g2 ⟨nn,a1,b1,rfl,u2,f2,ha1,hc1⟩
     have own2:=Own.frX ow1 f2 (Nat.lt_succ_self _)
     obtain ⟨id2,o2,p1,_,p2,p3,_⟩:=M3 own2.sl hx
     simp only at p2 p3
     have wj:b9 .i64 (((i+1:Nat):Int) - 1)=(i:Int):=by rw [wrap_i64 (by omega) (by omega)];omega
     obtain ⟨st2,hst2⟩:∃ st2,st2=b9 .i64 (step+nn):=⟨_,rfl⟩
     have wj2:b9 .i64 (i:Int)=(i:Int):=wrap_i64 (by omega) (by omega)
     generalize hjj:((i+1:Nat):Int)=j1 at *
     simp [e6,e8,h7,hi,wj,wj2,p1,p2,p3,← hst2]
     refine (p0W u2 hb' (by omega) (by omega)).mono ?_
     rintro rr g3 ⟨x,a2,b2,rfl,hx64,u3,f3,ha2,hV⟩
     have F3:=f2.trans f3
     have gg3:=F3.get g.next (by omega) (by omega)
     rw [gg] at gg3
     have own3:=Own.frX own2 f3 (Nat.lt_succ_self _)
     obtain ⟨id3,o3,q1,_,q2,q3,_⟩:=M3 own3.sl hx
     rw [p1] at q1
     cases q1
     simp only at q2 q3
     have xx:=l0n (P:=P) j0 false w x hw hx64
     have hwx:w ^^^ x<2 ^ 64:=Nat.xor_lt_two_pow hw hx64
     have hN:=w0C hj I.rel hx hc1 hV
     rw [← hst2] at hN
     generalize w ^^^ x=wx at *
     have st:=a0l gg3 (show d8 [.int .i64 (b9 .i64 (t+st2)),.int .u64 (wx:Int)]=true by rfl)
     simp [i9,st,e0,e6,h7,e32,hi,xx,q2,q3,-W4]
     refine ⟨by omega,⟨Nat.le_trans fp.next F3.next,fun i hi hn=>by rw [c8 (by omega),F3.get i (by omega) hn,fp.get i hi]⟩,b9 .i64 (t+st2),wx,a2,b2,st2,rfl,i0X _,hwx,i8 _ _,?_,?_,?_,hN⟩
     ·show g.next<g3.next
      have:=F3.next
      omega
     ·exact u3.set _ (by omega) (fun e=>by have:=hvlt _ e;omega)
     ·intro _
      omega
   ·clear h7 e0 e6 e32 hi e8
    rintro x σ ds g' ⟨rfl,rfl,e0,e6,e7,e10,e32,hi,fx,T,V,a2,b2,st2,e8,hT,hV,gs,hlts,u2,hfar,hN⟩
    have F':Fr h g':=FrX.fr I.fr fx (Nat.le_refl _)
    have own':=Own.frX I.own fx (Nat.lt_succ_self _)
    rw [H9]
    cases b2 with
    | true =>
     simp [e6,u2.ld,e0,e7]
     refine ⟨r,a2,true,st2,I.rng,F',u2,own',by rw [I.len];omega,fun _ l0 z hk=>?_,fun h=>(by cases h)⟩
     obtain ⟨h,_⟩:=hN l0 z hk
     cases h
    | false =>
     have hle:h.next+1≤g'.next:=by have:=u2.lt;omega
     have hrl:r.length≤65535:=by rw [I.len];omega
     obtain ⟨acc',g2,ap,o2,f2,p2,_⟩:=own'.snoc2 (x:=[.int .i64 T,.int .u64 ((V:Nat):Int)]) (bytes:=16) hle rfl rfl (by omega) (by omega)
     simp [e6,u2.ld,e7,e10,J5 gs,i9,ap,e0,e32,hi]
     refine ⟨r++[(T,V)],a2,st2,e8,⟨?_,?_,?_,?_,?_,?_,?_⟩⟩
     ·exact ⟨Nat.le_trans F'.next f2.next,fun i hi=>by rw [f2.get i (by omega),F'.get i hi]⟩
     ·exact u2.frB f2 (Nat.lt_succ_self _) hvlt
     ·rw [List.length_append,List.flatMap_append]
      exact o2
     ·rw [List.length_append,I.len];rfl
     ·exact I.rng.snoc hT hV
     ·exact hfar rfl
     ·exact q0x I.rel hN
  ·rintro σ ds g ⟨rfl,e0,e6,e32,r,at',step,e8,I⟩
   simp [e0,e6]
   exact ⟨r,at',false,step,I.rng,I.fr,I.un,I.own,by rw [I.len];omega,fun h=>(by cases h),fun _=>I.rel⟩
 ·rintro x σ ds g ⟨rfl,rfl,e0,e6,r,at',bad,step,hR,F,un,own,hrl,hbad,hgood⟩
  generalize h7:σ 7=acc at *
  have hv:∀ x ∈ r,x.2<2 ^ 64:=fun x hx=>(hR x hx).2
  simp [e0,e6,h7]
  refine (p0O own.sl (by omega) hv (ht.fr F)).mono ?_
  rintro rr g2 ⟨f2,hrr⟩
  have un2:=un.fr f2
  have s2:=(s.fr F).fr f2
  have F2:=F.trans f2
  have fail:(∀ l0,¬ IsS b l0)→DecS h b (.tuple [.nils,.int .i64 5]) g2:=fun hno=>⟨F2,.inr ⟨hno,rfl⟩⟩
  have uniq:∀ l0,IsS b l0→bad=false∧r=l0:=by
   intro l0 h0
   obtain ⟨z,hz,_⟩:=hk h0
   cases bad with
   | true=>exact absurd hz (hbad rfl l0 z)
   | false =>
    obtain ⟨h1,_⟩:=hgood rfl l0 z hz
    refine ⟨rfl,?_⟩
    rw [h1,← hz.2.1,List.take_length]
  by_cases hc:a0S r=true
  ·rw [if_pos hc] at hrr
   obtain ⟨w,rfl,sw⟩:=hrr
   cases bad with
   | true =>
    simp [e6,un2.ld]
    exact fail fun l0 h0=>by have:=(uniq l0 h0).1;cases this
   | false =>
    have henc:∀ x ∈ P0 r,x<256:=by
     intro x hx
     rw [P0] at hx
     rcases List.mem_append.1 hx with h | h
     ·exact k0Q _ _ _ h
     ·exact p01 _ _ h
    have be:=k05 sw s2 henc hb
    by_cases heq:P0 r=b
    ·simp [e0,e6,h7,un2.ld,be,heq]
     exact ⟨F2,.inl ⟨r,acc,⟨hR,hc,heq⟩,fun l0 h0=>(uniq l0 h0).2.symm,rfl,own.sl.fr f2⟩⟩
    ·simp [e0,e6,un2.ld,be,heq]
     refine fail fun l0 h0=>?_
     have:=(uniq l0 h0).2
     rw [this] at heq
     exact heq h0.2.2
  ·rw [if_neg hc] at hrr
   subst hrr
   have hno:∀ l0,¬ IsS b l0:=fun l0 h0=>by
    have:=(uniq l0 h0).2
    rw [this] at hc
    exact hc h0.2.1
   cases bad <;> simp [e6,un2.ld] <;> exact fail hno
end Go.Dk

namespace Go.Dk
open Go Go.Dr
set_option maxRecDepth 100000
def StepOk (r:List Smp) (st:Int):Prop:=(r.length≤1→st=0)∧∀ (j:Nat) (a b:Smp),r.length=j+2→r[j+1]? = some a→r[j]? = some b→st=b9 .i64 (a.1 - b.1)
structure RDecI (h g:AH) (v':AV) (n':Nat) (b':List Nat) (cnt j:Nat) (acc:AV) (r:List Smp) (at':Nat) (step:Int):Prop where
 fr:Fr h g
 un:InO g h.next v' n' b' at' false
 own:Own (h.next+1) g 2 r.length acc (r.flatMap smC)
 len:r.length=j
 rng:SmpR r
 rel:∀ l0 z,a0B l0 z (j5 b') cnt→p0l (j5 b') l0 z j r at' step
 stp:StepOk r step
def B03 (h:AH) (v':AV) (n':Nat) (b':List Nat) (cnt j:Nat) (acc:AV) (g:AH):Prop :=
 ∃ r at' step,RDecI h g v' n' b' cnt j acc r at' step
def B04 (h:AH) (b':List Nat) (cnt:Nat) (acc:AV) (g:AH):Prop :=
 ∃ r at' step,SmpR r∧Fr h g∧Own (h.next+1) g 2 r.length acc (r.flatMap smC)∧r.length≤cnt∧(∀ l0 z,a0B l0 z (j5 b') cnt→p0l (j5 b') l0 z cnt r at' step)
def w01 (h g:AH) (v':AV) (n':Nat) (b':List Nat) (cnt j:Nat) (r:List Smp) (g':AH):Prop :=
 FrX h.next g g'∧∃ T V a2 b2 step,(-9223372036854775808≤T∧T<9223372036854775808)∧V<2 ^ 64∧g'.get g.next=some (.cells [.int .i64 T,.int .u64 ((V:Nat):Int)] false)∧g.next<g'.next ∧
  InO g' h.next v' n' b' a2 b2∧(∀ l0 z,a0B l0 z (j5 b') cnt→s0G (j5 b') l0 z j T V a2 b2 step)∧StepOk (r++[(T,V)]) step
theorem StepOk.one {T:Int} {V:Nat} {st:Int} (h:st=0):StepOk ([]++[(T,V)]) st:=⟨fun _=>h,fun j a b hl=>by simp at hl⟩
theorem StepOk.snoc {r:List Smp} {j:Nat} {t n step:Int} {w V:Nat} (hl:r.length=j+1) (hr:r[j]? = some (t,w)):StepOk (r++[(b9 .i64 (t+b9 .i64 (step+n)),V)]) (b9 .i64 (step+n)):=by
 refine ⟨fun h=>by rw [List.length_append,List.length_singleton] at h;omega,fun i a b hli ha hb=>?_⟩
 rw [List.length_append,List.length_singleton] at hli
 have hi:i=j:=by omega
 subst hi
 rw [List.getElem?_append_right (by omega),show i+1 - r.length=0 from by omega] at ha
 rw [List.getElem?_append_left (by omega),hr] at hb
 cases ha
 cases hb
 simp only [C5]
 omega
theorem s04 (t s n:Int):b9 .i64 (b9 .i64 (t+s)+n)=b9 .i64 (t+b9 .i64 (s+n)):=by
 simp only [C5]
 omega
theorem s05 (t n:Int):b9 .i64 (t+n)=b9 .i64 (t+b9 .i64 (0+n)):=by
 simp only [C5]
 omega
theorem i0H {g:AH} {id:Nat} {a b:AV} (hg:g.get id=some (.cells [a,b] false)) {x:AV} (hx:x.scalar=true) :
  B9 g id 0 [x]=.ok (g.set id (.cells [x,b] false))∧B9 g id 1 [x]=.ok (g.set id (.cells [a,x] false)):=by
 refine ⟨?_,?_⟩
 ·rw [n8 hg (by simp) hx];rfl
 ·rw [n8 hg (by simp) hx];rfl
theorem i0I {h:AH} {n:Nat} {v:AV} {b:List Nat} (s:Sl h 1 n v (by8 b)) (hb:∀ x ∈ b,x<256) (hn:n≤2 ^ 30) :
  Ev P SI (.fn c00) [v] h (DecS h b):=by
 refine k8 l0D rfl rfl ?_
 have hbl:b.length=n:=by have:=s.1;simpa using this
 by_cases hlt:n<2
 ·have hlt':(n:Int)<2:=by omega
  simp [c0E,s.len,hlt',DecS]
  refine ⟨.refl _,?_⟩
  intro l0 h0
  obtain ⟨_,_,h2,_⟩:=h0.k
  omega
 have hlt':¬ (n:Int)<2:=by omega
 obtain ⟨u,eu,su⟩:=s.slice (lo:=none) (hi:=some (.int .i64 ((2:Nat):Int))) (a:=0) (b:=2) (.inl ⟨rfl,rfl⟩) (.inr ⟨.i64,rfl⟩) (by omega) (by omega)
 obtain ⟨v',ev',sv⟩:=s.slice (lo:=some (.int .i64 ((2:Nat):Int))) (hi:=none) (a:=2) (b:=n) (.inr ⟨.i64,rfl⟩) (.inl ⟨rfl,rfl⟩) (by omega) (Nat.le_refl _)
 rw [Nat.mul_one,Nat.mul_one,H8,H7,List.drop_zero,Nat.sub_zero] at su
 rw [Nat.mul_one,Nat.mul_one,H8,H7,List.take_of_length_le (by simp;omega)] at sv
 rw [show ((2:Nat):Int)=2 from rfl] at eu ev'
 have gt:=p0c su (fun x hx=>hb x (List.mem_of_mem_take hx)) (by omega) (by omega)
 have hcl:=h03 (b.take 2) (fun x hx=>hb x (List.mem_of_mem_take hx))
 rw [List.length_take,Nat.min_eq_left (by omega)] at hcl
 have hb':∀ x ∈ b.drop 2,x<256:=fun x hx=>hb x (List.mem_of_mem_drop hx)
 have hk:=@IsS.k b
 obtain ⟨cnt,hcnt⟩:∃ cnt,cnt=beV (b.take 2):=⟨_,rfl⟩
 rw [← hcnt] at hcl hk gt
 obtain ⟨n',hn'⟩:∃ n',n'=n - 2:=⟨_,rfl⟩
 rw [← hn'] at sv
 obtain ⟨b',hbd⟩:∃ b',b'=b.drop 2:=⟨_,rfl⟩
 rw [← hbd] at sv hb' hk
 have w3:b9 .i64 (cnt:Int)=(cnt:Int):=wrap_i64 (by omega) (by omega)
 have f0:=Fr.push (.refl h) (.cells [v',.int .i64 0,.bool false] false)
 have u0:InO (h.push (.cells [v',.int .i64 0,.bool false] false)) h.next v' n' b' 0 false :=
  ⟨b8 _,Nat.lt_succ_self _,sv.fr f0,fun e=>by have:=Sl.idLt sv e;omega,by omega⟩
 have hvc:=sv.oneCell
 have hvlt:∀ i,j9 v'=some i→i<h.next+1:=fun i e=>by have:=Sl.idLt sv e;omega
 have g0n:(h.push (.cells [v',.int .i64 0,.bool false] false)).next=h.next+1:=rfl
 generalize hg0:h.push (.cells [v',.int .i64 0,.bool false] false)=g0 at *
 have i0:RDecI h g0 v' n' b' cnt 0 .nils [] 0 0:=⟨f0,u0,Own.nil _ _,rfl,fun x hx=>by simp at hx,fun l0 z hk=>⟨by simp,by omega,.inl ⟨rfl,rfl,by simpa using hk.2.2⟩⟩,fun _=>rfl,fun j a b hl=>by simp at hl⟩
 simp [c0E,s.len,hlt',eu,gt,ev',w3,hvc.1,i9,hg0]
 have fail0:∀ g2,Fr h g2→(∀ l0 z,¬ a0B l0 z (j5 b') cnt)→DecS h b (.tuple [.nils,.int .i64 5]) g2:=fun g2 F2 hno=>⟨F2,.inr ⟨fun l0 h0=>by obtain ⟨z,hz,_⟩:=hk h0;exact hno l0 z hz,rfl⟩⟩
 refine D3 (Q:=fun x σ ds g=>ds=[]∧((x=.exit 0∧σ 0=v∧B04 h b' cnt (σ 7) g)∨(x=.ret∧σ 2=.nils∧σ 3=.int .i64 5∧Fr h g∧∀ l0 z,¬ a0B l0 z (j5 b') cnt))) ?_ ?_
 ·refine m8 (n:=cnt) (by rfl) (fun j σ ds g=>ds=[]∧σ 0=v∧σ 6=.ptr h.next 0∧σ 26=.int .i64 (cnt:Int)∧B03 h v' n' b' cnt j (σ 7) g) (by omega) (by simp)
   ⟨rfl,by simp,by simp,by simp,[],0,0,by simpa using i0⟩ (fun j σ ds g hJ=>by simp [hJ.2.2.2.1]) ?_ ?_
  ·rintro j σ ds g hj hi ⟨rfl,e0,e6,e26,r,at',step,I⟩
   have gg:(g.push (.cells [.int .i64 0,.int .u64 0] false)).get g.next=some (.cells [.int .i64 0,.int .u64 0] false):=b8 _
   have gn:(g.push (.cells [.int .i64 0,.int .u64 0] false)).next=g.next+1:=rfl
   have fp:=Fr.push (.refl g) (.cells [.int .i64 0,.int .u64 0] false)
   have stz:J2 2 (.ptr g.next 0) (.agg [.int .i64 0,.int .u64 0]) (g.push (.cells [.int .i64 0,.int .u64 0] false))=V0 (.ok (g.push (.cells [.int .i64 0,.int .u64 0] false))):=l6 rfl rfl rfl
   generalize hg1:g.push (.cells [.int .i64 0,.int .u64 0] false)=g1 at *
   have hlt1:=I.un.lt
   have un1:=I.un.fr fp
   have ow1:=I.own.fr fp
   have hvg:j9 v'≠some g.next:=fun e=>by have:=hvlt _ e;omega
   generalize h7:σ 7=acc at *
   have hag:j9 acc≠some g.next:=fun e=>by have:=Sl.idLt I.own.sl e;omega
   have fxp:FrX h.next g g1:=Fr.x fp
   have laid:∀ {g3:AH} {T:Int} {V a2:Nat} {b2:Bool} {st2:Int},FrX h.next g g3→g3.get g.next=some (.cells [.int .i64 T,.int .u64 (V:Int)] false)→g.next<g3.next→(-9223372036854775808≤T∧T<9223372036854775808)→V<2 ^ 64 →
     InO g3 h.next v' n' b' a2 b2→(∀ l0 z,a0B l0 z (j5 b') cnt→s0G (j5 b') l0 z j T V a2 b2 st2)→StepOk (r++[(T,V)]) st2→w01 h g v' n' b' cnt j r g3 :=
    fun fx gs hl hT hV u hN hs=>⟨fx,_,_,_,_,_,hT,hV,gs,hl,u,hN,hs⟩
   have setX:∀ {g3:AH} (o:AObj),FrX h.next g g3→FrX h.next g (g3.set g.next o):=fun o fx=>⟨fx.next,fun i hi hn=>by rw [c8 (by omega),fx.get i hi hn]⟩
   simp [hi,hg1,stz]
   refine D3 (c:=.cond (.c (.bool (decide (j=0)))) _ _) (Q:=fun x σ ds g'=>x=.normal∧ds=[]∧σ 0=v∧σ 6=.ptr h.next 0∧σ 7=acc∧σ 9=.ptr g.next 0∧σ 26=.int .i64 (cnt:Int)∧σ 27=.int .i64 (j:Int)∧w01 h g v' n' b' cnt j r g') ?_ ?_
   ·by_cases hj0:j=0
    ·subst hj0
     have hr0:r=[]:=List.length_eq_zero_iff.1 I.len
     have hst0:step=0:=I.stp.1 (by rw [hr0];simp)
     simp [e6]
     refine (W7 (cnt:=64) un1 hb' (by omega) (by omega)).mono ?_
     rintro rr g2 ⟨x1,a1,b1,rfl,hx1,u2,f2,hc1⟩
     have gg2:=f2.get g.next (by omega) (by omega)
     rw [gg] at gg2
     obtain ⟨st1,_⟩:=i0H (x:=.int .i64 (b9 .i64 (x1:Int))) gg2 rfl
     have u2':=u2.set (.cells [.int .i64 (b9 .i64 (x1:Int)),.int .u64 0] false) (j:=g.next) (by omega) hvg
     have f2':=setX (.cells [.int .i64 (b9 .i64 (x1:Int)),.int .u64 0] false) (fxp.trans f2)
     have gs2:(g2.set g.next (.cells [.int .i64 (b9 .i64 (x1:Int)),.int .u64 0] false)).get g.next=some (.cells [.int .i64 (b9 .i64 (x1:Int)),.int .u64 0] false):=i8 _ _
     have hl2:g.next<(g2.set g.next (.cells [.int .i64 (b9 .i64 (x1:Int)),.int .u64 0] false)).next:=by
      show g.next<g2.next
      have:=f2.next
      omega
     generalize hg2:g2.set g.next (.cells [.int .i64 (b9 .i64 (x1:Int)),.int .u64 0] false)=g2' at *
     simp [e6,st1]
     refine (W7 (cnt:=64) u2' hb' (by omega) (by omega)).mono ?_
     rintro rr g3 ⟨x2,a2,b2,rfl,hx2,u3,f3,hc2⟩
     have gg3:=f3.get g.next hl2 (by omega)
     rw [gs2] at gg3
     obtain ⟨_,st2⟩:=i0H (x:=.int .u64 (x2:Int)) gg3 rfl
     have u3':=u3.set (.cells [.int .i64 (b9 .i64 (x1:Int)),.int .u64 (x2:Int)] false) (j:=g.next) (by omega) hvg
     simp [e0,e6,h7,e26,hi,st2]
     refine laid (st2:=0) (setX _ (f2'.trans f3)) (i8 _ _) (by show g.next<g3.next;have:=f3.next;omega) (i0X _) hx2 u3' ?_ (by rw [hr0];exact StepOk.one rfl)
     intro l0 z hk
     have hI:=I.rel l0 z hk
     have h1:C9 (j5 b') at' 64=some x1∧b1=false∨C9 (j5 b') at' 64=none∧b1=true∧x1=0:=by
      rcases hc1 with ⟨q1,q2,_⟩ | q
      ·exact .inl ⟨q1,q2⟩
      ·exact .inr q
     rcases hc1 with ⟨q1,rfl,rfl⟩ | ⟨q1,rfl,rfl⟩
     ·have h2:C9 (j5 b') (at'+64) 64=some x2∧b2=false∨C9 (j5 b') (at'+64) 64=none∧b2=true∧x2=0:=by
       rcases hc2 with ⟨q1,q2,_⟩ | q
       ·exact .inl ⟨q1,q2⟩
       ·exact .inr q
      have hN:=j0y (by omega) I.rel h1 h2 l0 z hk
      rcases hc2 with ⟨q1,q2,rfl⟩ | ⟨_,rfl,_⟩
      ·exact hN
      ·cases hN.1
     ·have hN:=j0y (x2:=0) (b2:=true) (by omega) I.rel h1 (.inr ⟨by
       unfold C9 at q1 ⊢
       split at q1
       ·cases q1
       ·rw [if_neg (by omega)],rfl,rfl⟩) l0 z hk
      cases hN.1
    ·obtain ⟨i,rfl⟩:∃ i,j=i+1:=⟨j - 1,by omega⟩
     obtain ⟨⟨t,w⟩,hx⟩:=j7 (l:=r) (j:=i) (by have:=I.len;omega)
     obtain ⟨_,hw⟩:=I.rng _ (List.mem_of_getElem? hx)
     simp only at hw
     obtain ⟨id1,o1,p1,_,p2,p3,hid1⟩:=M3 ow1.sl hx
     simp only at p2 p3
     have next:∀ {g2:AH} {nn:Int} {a1:Nat} {b1:Bool},InO g2 h.next v' n' b' a1 b1→FrX h.next g1 g2→z0i (j5 b') at' false nn a1 b1 →
       ∃ g2',B9 g2 g.next 0 [.int .i64 (b9 .i64 (t+b9 .i64 (step+nn)))]=.ok g2'∧load1 g2 id1 o1=.ok (.int .i64 t)∧load1 g2' id1 (o1+1)=.ok (.int .u64 (w:Int)) ∧
        Ev P SI (.fn L4) [.ptr h.next 0] g2' fun rr g3=>∃ x:Nat,rr=.int .u64 (x:Int)∧load1 g3 id1 (o1+1)=.ok (.int .u64 (w:Int)) ∧
         n9 P .xor j0 false (.int .u64 (w:Int)) (.int .u64 (x:Int))=.ok (.int .u64 ((w ^^^ x:Nat):Int))∧∃ g3',B9 g3 g.next 1 [.int .u64 ((w ^^^ x:Nat):Int)]=.ok g3'∧w01 h g v' n' b' cnt (i+1) r g3':=by
      intro g2 nn a1 b1 u2 f2 hI
      have own2:=Own.frX ow1 f2 (Nat.lt_succ_self _)
      have gg2:=f2.get g.next (by omega) (by omega)
      rw [gg] at gg2
      obtain ⟨st1,_⟩:=i0H (x:=.int .i64 (b9 .i64 (t+b9 .i64 (step+nn)))) gg2 rfl
      have hT:=i0X (t+b9 .i64 (step+nn))
      have hstp:∀ V:Nat,StepOk (r++[(b9 .i64 (t+b9 .i64 (step+nn)),V)]) (b9 .i64 (step+nn)):=fun V=>StepOk.snoc I.len hx
      have hN:=fun {a2 x:Nat} {b2:Bool}=>v0W (a2:=a2) (x:=x) (b2:=b2) hj I.rel hx hI
      generalize b9 .i64 (t+b9 .i64 (step+nn))=T at *
      have u2':=u2.set (.cells [.int .i64 T,.int .u64 0] false) (j:=g.next) (by omega) hvg
      have f2':=setX (.cells [.int .i64 T,.int .u64 0] false) (fxp.trans f2)
      have own2':=own2.set (.cells [.int .i64 T,.int .u64 0] false) hag
      have gs2:(g2.set g.next (.cells [.int .i64 T,.int .u64 0] false)).get g.next=some (.cells [.int .i64 T,.int .u64 0] false):=i8 _ _
      have hl2:g.next<(g2.set g.next (.cells [.int .i64 T,.int .u64 0] false)).next:=by
       show g.next<g2.next
       have:=f2.next
       omega
      obtain ⟨idq,oq,q1,_,q2,_,_⟩:=M3 own2.sl hx
      rw [p1] at q1
      cases q1
      obtain ⟨idq,oq,q1,_,_,q3,_⟩:=M3 own2'.sl hx
      rw [p1] at q1
      cases q1
      simp only at q2 q3
      refine ⟨_,st1,q2,q3,?_⟩
      generalize g2.set g.next (.cells [.int .i64 T,.int .u64 0] false)=g2' at *
      refine (n0T u2' hb' (by omega)).mono ?_
      rintro rr g3 ⟨x,a2,b2,rfl,hx64,u3,f3,hV⟩
      have own3:=Own.frX own2' f3 (Nat.lt_succ_self _)
      obtain ⟨idq,oq,q1,_,_,q4,_⟩:=M3 own3.sl hx
      rw [p1] at q1
      cases q1
      simp only at q4
      have gg3:=f3.get g.next hl2 (by omega)
      rw [gs2] at gg3
      have hwx:w ^^^ x<2 ^ 64:=Nat.xor_lt_two_pow hw hx64
      obtain ⟨_,st2⟩:=i0H (x:=.int .u64 ((w ^^^ x:Nat):Int)) gg3 rfl
      have u3':=u3.set (.cells [.int .i64 T,.int .u64 ((w ^^^ x:Nat):Int)] false) (j:=g.next) (by omega) hvg
      exact ⟨x,rfl,q4,l0n _ _ _ _ hw hx64,_,st2,laid (setX _ (f2'.trans f3)) (i8 _ _) (by show g.next<g3.next;have:=f3.next;omega) hT hwx u3' (hN hV) (hstp _)⟩
     by_cases hi0:i=0
     ·subst hi0
      have hst0:step=0:=I.stp.1 (by have:=I.len;omega)
      subst hst0
      have p1':E9 2 acc (.int .i64 0)=.ok (.ptr id1 o1):=p1
      simp [e6,h7,p1',p2]
      refine (h0x un1 hb' (by omega)).mono ?_
      rintro rr g2 ⟨nn,a1,b1,rfl,u2,f2,hI⟩
      obtain ⟨g2',s1,s2,s3,s4⟩:=next u2 f2 hI
      rw [← s05] at s1
      simp [e6,h7,p1',s1,s2,s3]
      refine s4.mono ?_
      rintro rr g3 ⟨x,rfl,r1,r2,g3',r3,r4⟩
      generalize w ^^^ x=wx at *
      simp [e0,e6,h7,e26,hi,r1,r2,r3,-W4]
      exact r4
     ·obtain ⟨k,rfl⟩:∃ k,i=k+1:=⟨i - 1,by omega⟩
      obtain ⟨⟨tq,wq⟩,hy⟩:=j7 (l:=r) (j:=k) (by have:=I.len;omega)
      have hstp:=I.stp.2 k _ _ I.len hx hy
      simp only at hstp
      obtain ⟨idy,oy,y1,_,y2,_,_⟩:=M3 ow1.sl hy
      simp only at y2
      have c1:¬ ((k+1+1:Nat):Int)=1:=by omega
      have w1:b9 .i64 (((k+1+1:Nat):Int) - 1)=((k+1:Nat):Int):=by rw [wrap_i64 (by omega) (by omega)];omega
      have w2:b9 .i64 (((k+1+1:Nat):Int) - 2)=(k:Int):=by rw [wrap_i64 (by omega) (by omega)];omega
      have hc0:¬ (k+1+1=0):=by omega
      have stage:∀ {g2:AH},FrX h.next g1 g2→load1 g2 idy oy=.ok (.int .i64 tq):=by
       intro g2 f2
       obtain ⟨idq,oq,q1,_,q2,_,_⟩:=M3 (Own.frX ow1 f2 (Nat.lt_succ_self _)).sl hy
       rw [y1] at q1
       cases q1
       exact q2
      generalize hjj:((k+1+1:Nat):Int)=j1 at *
      generalize hj2:((k+1:Nat):Int)=j2 at *
      have hst':b9 .i64 (t - tq)=step:=hstp.symm
      simp [e6,h7,hc0,c1,w1,w2,p1,p2,y1,y2,hst']
      refine (h0x un1 hb' (by omega)).mono ?_
      rintro rr g2 ⟨nn,a1,b1,rfl,u2,f2,hI⟩
      obtain ⟨g2',s1,s2,s3,s4⟩:=next u2 f2 hI
      rw [← s04] at s1
      have sg:=stage f2
      simp [e6,h7,w1,p1,s1,s2,s3,sg]
      refine s4.mono ?_
      rintro rr g3 ⟨x,rfl,r1,r2,g3',r3,r4⟩
      generalize w ^^^ x=wx at *
      simp [e0,e6,h7,e26,hi,r1,r2,r3,-W4]
      exact r4
   ·clear h7 e0 e6 e26 hi
    rintro x σ ds g' ⟨rfl,rfl,e0,e6,e7,e9,e26,hi,fx,T,V,a2,b2,st2,hT,hV,gs,hlts,u2,hN,hs⟩
    have F':Fr h g':=FrX.fr I.fr fx (Nat.le_refl _)
    have own':=Own.frX I.own fx (Nat.lt_succ_self _)
    have lbad:load1 g' h.next 2=.ok (.bool b2):=b7 u2.cells
    rw [r03,H9]
    cases b2 with
    | true =>
     simp [e6,lbad]
     refine ⟨F',fun l0 z hk=>?_⟩
     obtain ⟨h,_⟩:=hN l0 z hk
     cases h
    | false =>
     have hle:h.next+1≤g'.next:=by have:=u2.lt;omega
     have hrl:r.length≤65535:=by rw [I.len];omega
     obtain ⟨acc',g2,ap,o2,f2,p2,_⟩:=own'.snoc2 (x:=[.int .i64 T,.int .u64 ((V:Nat):Int)]) (bytes:=16) hle rfl rfl (by omega) (by omega)
     simp [e6,lbad,e7,e9,J5 gs,i9,ap,e0,e26,hi]
     refine ⟨r++[(T,V)],a2,st2,⟨?_,?_,?_,?_,?_,?_,?_⟩⟩
     ·exact ⟨Nat.le_trans F'.next f2.next,fun i hi=>by rw [f2.get i (by omega),F'.get i hi]⟩
     ·exact u2.frB f2 (Nat.lt_succ_self _) hvlt
     ·rw [List.length_append,List.flatMap_append]
      exact o2
     ·rw [List.length_append,I.len];rfl
     ·exact I.rng.snoc hT hV
     ·exact q0x I.rel hN
     ·exact hs
  ·rintro σ ds g ⟨rfl,e0,e6,e26,r,at',step,I⟩
   simp [e0]
   exact ⟨r,at',step,I.rng,I.fr,I.own,by rw [I.len];omega,I.rel⟩
 ·rintro x σ ds g ⟨rfl,⟨rfl,e0,r,at',step,hR,F,own,hrl,hgood⟩ | ⟨rfl,e2,e3,F,hno⟩⟩
  rotate_left
  ·simp [e2,e3]
   exact fail0 _ F hno
  generalize h7:σ 7=acc at *
  have hv:∀ x ∈ r,x.2<2 ^ 64:=fun x hx=>(hR x hx).2
  simp [e0,h7]
  refine (i0q own.sl (by omega) hv).mono ?_
  rintro rr g2 ⟨f2,hrr⟩
  have s2:=(s.fr F).fr f2
  have F2:=F.trans f2
  have fail:(∀ l0,¬ IsS b l0)→DecS h b (.tuple [.nils,.int .i64 5]) g2:=fun hno=>⟨F2,.inr ⟨hno,rfl⟩⟩
  have uniq:∀ l0,IsS b l0→r=l0:=by
   intro l0 h0
   obtain ⟨z,hz,_⟩:=hk h0
   obtain ⟨h1,_⟩:=hgood l0 z hz
   rw [h1,← hz.2.1,List.take_length]
  by_cases hc:a0S r=true
  ·rw [if_pos hc] at hrr
   obtain ⟨w,rfl,sw⟩:=hrr
   have henc:∀ x ∈ P0 r,x<256:=by
    intro x hx
    rw [P0] at hx
    rcases List.mem_append.1 hx with h | h
    ·exact k0Q _ _ _ h
    ·exact p01 _ _ h
   have c1:=b0q sw
   have c2:=b0q s2
   by_cases heq:P0 r=b
   ·have c1':=c1
    rw [heq] at c1'
    simp [e0,h7,c1',c2]
    exact ⟨F2,.inl ⟨r,acc,⟨hR,hc,heq⟩,fun l0 h0=>(uniq l0 h0).symm,rfl,own.sl.fr f2⟩⟩
   ·have heq':¬ Q9 (P0 r)=Q9 b:=fun e=>heq (u0P henc hb e)
    simp [e0,h7,c1,c2,heq']
    refine fail fun l0 h0=>?_
    have:=uniq l0 h0
    rw [this] at heq
    exact heq h0.2.2
  ·rw [if_neg hc] at hrr
   subst hrr
   have hno:∀ l0,¬ IsS b l0:=fun l0 h0=>by
    have:=uniq l0 h0
    rw [this] at hc
    exact hc h0.2.1
   simp
   exact fail hno
end Go.Dk

namespace Go.Dk
open Go Go.Dr
set_option maxRecDepth 100000
theorem i0U {h:AH} {m:Nat} {v:AV} {r:List Nat} (s:Sl h 1 m v (by8 r)) (hm:m<2 ^ 62) :
  (r=[]∧m=0)∨∃ n t,r=n::t∧m=t.length+1∧(∃ id o,E9 1 v (.int .i64 0)=.ok (.ptr id o)∧(∀ g,Sl g 1 m v (by8 r)→load1 g id o=.ok (.int .u8 (n:Int)))) ∧
   (n≤t.length→∃ u w,E8 1 v (some (.int .i64 1)) (some (.int .i64 (1+(n:Int)))) none=.ok u∧(∀ g,Sl g 1 m v (by8 r)→Sl g 1 n u (by8 (t.take n))) ∧
    E8 1 v (some (.int .i64 (1+(n:Int)))) none none=.ok w∧(∀ g,Sl g 1 m v (by8 r)→Sl g 1 (t.length - n) w (by8 (t.drop n)))):=by
 cases r with
 | nil=>exact .inl ⟨rfl,by have:=s.1;simpa using this.symm⟩
 | cons n t =>
  have hm1:m=t.length+1:=by have:=s.1;simp at this;omega
  refine .inr ⟨n,t,rfl,hm1,?_,fun hn=>?_⟩
  ·obtain ⟨id,o,g1,g2,_⟩:=s.get1 (k:=.i64) (i:=0) (j:=0) rfl (by omega) (x:=.int .u8 (n:Int)) rfl
   refine ⟨id,o,g1,fun g sg=>?_⟩
   obtain ⟨id2,o2,k1,k2,_⟩:=sg.get1 (k:=.i64) (i:=0) (j:=0) rfl (by omega) (x:=.int .u8 (n:Int)) rfl
   rw [g1] at k1
   cases k1
   exact k2
  ·obtain ⟨u,eu,_⟩:=s.slice (lo:=some (.int .i64 ((1:Nat):Int))) (hi:=some (.int .i64 ((1+n:Nat):Int))) (a:=1) (b:=1+n) (.inr ⟨.i64,rfl⟩) (.inr ⟨.i64,rfl⟩) (by omega) (by omega)
   obtain ⟨w,ew,_⟩:=s.slice (lo:=some (.int .i64 ((1+n:Nat):Int))) (hi:=none) (a:=1+n) (b:=m) (.inr ⟨.i64,rfl⟩) (.inl ⟨rfl,rfl⟩) (by omega) (by omega)
   have ec:((1+n:Nat):Int)=1+(n:Int):=by omega
   refine ⟨u,w,by rw [← ec];exact eu,fun g sg=>?_,by rw [← ec];exact ew,fun g sg=>?_⟩
   ·obtain ⟨u',eu',su⟩:=sg.slice (lo:=some (.int .i64 ((1:Nat):Int))) (hi:=some (.int .i64 ((1+n:Nat):Int))) (a:=1) (b:=1+n) (.inr ⟨.i64,rfl⟩) (.inr ⟨.i64,rfl⟩) (by omega) (by omega)
    rw [eu] at eu'
    cases eu'
    rw [show 1+n - 1=n from by omega,Nat.mul_one,Nat.mul_one,H8,H7,List.drop_succ_cons,List.drop_zero] at su
    exact su
   ·obtain ⟨w',ew',sw⟩:=sg.slice (lo:=some (.int .i64 ((1+n:Nat):Int))) (hi:=none) (a:=1+n) (b:=m) (.inr ⟨.i64,rfl⟩) (.inl ⟨rfl,rfl⟩) (by omega) (by omega)
    rw [ew] at ew'
    cases ew'
    rw [show m - (1+n)=t.length - n from by omega,Nat.mul_one,Nat.mul_one,H8,H7,show 1+n=n+1 from by omega,List.drop_succ_cons,List.take_of_length_le (by simp)] at sw
    exact sw
def A0w (h:AH) (n j:Nat) (v:AV) (r0:List Nat) (ls0:List Lab) (x:Lab) (i:Nat) (b0:AV) (g:AH):Prop :=
 ∃ (m:Nat) (r:List Nat) (ls:List Lab),Sl h 1 m b0 (by8 r)∧(∀ y ∈ r,y<256)∧m<2 ^ 62∧Own h.next g 2 n v (ls.flatMap E2)∧FrB h.next h g∧ls.length=n ∧
  ((i=0∧r=r0∧ls=ls0)∨(i=1∧∃ nm,L7 r0=some (nm,r)∧ls=ls0.set j (nm,x.2))∨(i=2∧∃ nm r1 vl,L7 r0=some (nm,r1)∧L7 r1=some (vl,r)∧ls=ls0.set j (nm,vl)))
def n0O (h:AH) (b:List Nat) (r:AV) (g:AH):Prop :=
 Fr h g∧match f0h b with
  | .ok (l,rest)=>∃ v w,r=.tuple [v,w,.int .i64 0]∧Own h.next g 2 l.length v (l.flatMap E2)∧Sl g 1 rest.length w (by8 rest)
  | .error e=>r=.tuple [.nils,.nils,.int .i64 e]
theorem n0P {h:AH} {n:Nat} {v:AV} {b:List Nat} (s:Sl h 1 n v (by8 b)) (hn:n≤2 ^ 40) (hb:∀ x ∈ b,x<256):Ev P SI (.fn b0X) [v] h (n0O h b):=by
 refine k8 l0l rfl rfl ?_
 rcases i0U s (by omega) with ⟨rfl,rfl⟩ | ⟨k,t,rfl,hm,⟨id0,o0,i1,i2⟩,_⟩
 ·simp [b03,s.len]
  exact ⟨.refl _,rfl⟩
 have c0:¬ n=0:=by omega
 have hk:k<256:=hb k (by simp)
 have i2':=i2 h s
 obtain ⟨b0,eb,sb⟩:=s.slice (lo:=some (.int .i64 ((1:Nat):Int))) (hi:=none) (a:=1) (b:=n) (.inr ⟨.i64,rfl⟩) (.inl ⟨rfl,rfl⟩) (by omega) (Nat.le_refl _)
 rw [Nat.mul_one,Nat.mul_one,H8,H7,List.drop_succ_cons,List.drop_zero,List.take_of_length_le (by omega)] at sb
 rw [show ((1:Nat):Int)=1 from rfl] at eb
 have mk:=j0Q (h:=h) 2 32 k [.str [],.str []] .u8 .u8 (by omega) (by omega)
 rw [r0h] at mk
 have hcell:((List.replicate k (([],[]):Lab)).flatMap E2).length=k*2:=by rw [S8 (es:=2) _ (fun _ _=>rfl)];simp
 have ow:=Own.fresh (B:=h.next) (h:=h) (es:=2) (n:=k) (l:=(List.replicate k (([],[]):Lab)).flatMap E2) true (Nat.le_refl _) hcell
 generalize hg0:h.push (.cells ((List.replicate k (([],[]):Lab)).flatMap E2) false)=g0 at *
 generalize hvv:AV.slice h.next 0 k k true 2=vv at *
 have f0:FrB h.next h g0:=by rw [← hg0];exact (Fr.push (.refl h) _).b (Nat.le_refl _)
 simp [b03,s.len,c0,i1,i2',mk,eb,ow.sl.len]
 refine m8 (n:=k) (by rfl) (fun j σ ds g=>∃ (m:Nat) (r:List Nat) (ls:List Lab) (b0:AV),σ 0=b0∧σ 5=vv∧σ 20=.int .i64 (k:Int)∧ds=[]∧Sl h 1 m b0 (by8 r)∧(∀ y ∈ r,y<256)∧m<2 ^ 62 ∧
   Own h.next g 2 k vv (ls.flatMap E2)∧FrB h.next h g∧ls.length=k∧R0 k t=(R0 (k - j) r).map (fun p=>(ls.take j++p.1,p.2))) (by omega) (by simp)
  ⟨n - 1,t,List.replicate k ([],[]),b0,by simp,by simp,by simp,rfl,sb,fun y hy=>hb y (List.mem_cons_of_mem _ hy),by omega,ow,f0,by simp,by simp⟩
  (fun j σ ds g ⟨_,_,_,_,hJ⟩=>by simp [hJ.2.2.1]) ?_ ?_
 ·rintro j σ ds g hj hi ⟨m,r,ls,b0,e0,e5,e20,rfl,sr,hr,hmb,og,fg,hll,hlab⟩
  obtain ⟨id,o,p1,_⟩:=og.sl.get (k:=.i64) (i:=(j:Int)) rfl hj
  have hxj:ls[j]? = some ls[j]:=List.getElem?_eq_getElem (by omega)
  have hkj:k - j=(k - (j+1))+1:=by omega
  simp [e0,e5,e20,hi,p1,i9]
  refine m8 (n:=2) (by rfl) (fun i σ ds g=>ds=[]∧σ 5=vv∧σ 20=.int .i64 (k:Int)∧σ 21=.int .i64 (j:Int)∧σ 32=.agg [.ptr id o,.ptr id (o+1)]∧A0w h k j vv r ls ls[j] i (σ 0) g) (by omega) (by simp)
   ⟨rfl,by simp [e5],by simp [e20],by simp [hi],by simp,m,r,ls,by simpa [e0] using sr,hr,hmb,og,fg,hll,.inl ⟨rfl,rfl,rfl⟩⟩ (fun i σ ds g hJ=>by simp) ?_ ?_
  ·rintro i σ ds g hi2 hi33 ⟨rfl,a5,a20,a21,a32,m',r',ls',sr',hr',hm',og',fg',hll',hcase⟩
   have bad:L7 r'=none→f0h (k::t)=.error 3:=by
    intro hp
    have hno:R0 (k - j) r=none:=by
     rw [hkj,R0]
     rcases hcase with ⟨_,rfl,_⟩ | ⟨_,nm,h1,_⟩ | ⟨rfl,_⟩
     ·rw [hp]
     ·rw [h1];simp only [hp]
     ·omega
    rw [hno] at hlab
    simp only [f0h,hlab,Option.map_none]
   have srg:=sr'.fr fg'.fr
   have pi:a0f true 2 1 (.agg [.ptr id o,.ptr id (o+1)]) (.int .i64 (i:Int))=.ok (.ptr id (o+i)):=by
    rcases (show i=0∨i=1 by omega) with rfl | rfl <;> simp [a0f,g0o]
   generalize hb':σ 0=b' at *
   rcases i0U sr' hm' with ⟨rfl,rfl⟩ | ⟨q,u,rfl,hmq,⟨id1,o1,q1,q2⟩,hq⟩
   ·have:=bad rfl
    simp [a5,a20,a21,a32,hi33,pi,hb',srg.len,n0O,this]
    exact ⟨fg'.next,fg'.get⟩
   have q2:=q2 g srg
   have cm:¬ m'=0:=by omega
   have wm:b9 .i64 ((m':Int) - 1)=(u.length:Int):=by rw [wrap_i64 (by omega) (by omega)];omega
   have hq256:q<256:=hr' q (by simp)
   have wq:b9 .i64 (q:Int)=(q:Int):=wrap_i64 (by omega) (by omega)
   by_cases hle:q≤u.length
   case neg =>
    have:=bad (by simp [L7,hle])
    have c2:(u.length:Int)<q:=by omega
    simp [a5,a20,a21,a32,hi33,pi,hb',srg.len,cm,q1,q2,wm,wq,c2,n0O,this]
    exact ⟨fg'.next,fg'.get⟩
   have c2:¬ (u.length:Int)<q:=by omega
   have w1:b9 .i64 (1+(q:Int))=1+(q:Int):=wrap_i64 (by omega) (by omega)
   obtain ⟨su,sw,y1,y2,y3,y4⟩:=hq hle
   have cs:=b0q (y2 g srg)
   have hpc:L7 (q::u)=some (Q9 (u.take q),u.drop q):=by simp [L7,hle]
   have sw':=y4 h sr'
   have hmw:u.length - q<2 ^ 62:=by omega
   obtain ⟨id2,o2,g2,z1,z2,z3,z4,z5⟩:=og'.store (k:=.i64) (i:=(j:Int)) rfl hj (c:=i) (by omega) (x:=.str (Q9 (u.take q))) rfl
   rw [p1] at z1
   cases z1
   simp [a5,a20,a21,a32,hi33,pi,hb',srg.len,cm,q1,q2,wm,wq,c2,w1,y1,y3,cs,z2]
   rcases hcase with ⟨rfl,rfl,rfl⟩ | ⟨rfl,nm,h1,rfl⟩ | ⟨h1,_⟩
   ·rw [r0f _ _ _ _ hxj] at z3
    exact ⟨_,_,_,sw',fun y hy=>hr' y (List.mem_cons_of_mem _ (List.mem_of_mem_drop hy)),hmw,z3,fg'.trans z4,by simp [hll'],.inr (.inl ⟨rfl,_,hpc,rfl⟩)⟩
   ·rw [r0g _ _ _ (nm,ls[j].2) (List.getElem?_set_self (by omega)),List.set_set] at z3
    exact ⟨_,_,_,sw',fun y hy=>hr' y (List.mem_cons_of_mem _ (List.mem_of_mem_drop hy)),hmw,z3,fg'.trans z4,by simpa using hll',.inr (.inr ⟨rfl,_,_,_,h1,hpc,rfl⟩)⟩
   ·omega
  ·rintro σ ds g ⟨rfl,a5,a20,a21,a32,m',r',ls',sr',hr',hm',og',fg',hll',hcase⟩
   rcases hcase with ⟨h0,_⟩ | ⟨h1,_⟩ | ⟨_,nm,r1,vl,h1,h2,rfl⟩
   ·omega
   ·omega
   simp [a5,a20,a21]
   refine ⟨m',r',sr',hr',hm',_,og',fg',hll',?_⟩
   rw [hlab,hkj,R0,h1]
   simp only [h2]
   cases R0 (k - (j+1)) r' with
   | none=>rfl
   | some p =>
    simp only [Option.map_some]
    congr 2
    rw [u9 (ls.set j (nm,vl)) j (nm,vl) (List.getElem?_set_self (by omega)),List.take_set,List.set_eq_of_length_le (by simp;omega),List.append_assoc]
    rfl
 ·rintro σ ds g ⟨m,r,ls,b0,e0,e5,e20,rfl,sr,hr,hmb,og,fg,hll,hlab⟩
  rw [Nat.sub_self,R0,Option.map_some,List.append_nil,List.take_of_length_le (by omega)] at hlab
  obtain ⟨_,hrl,hsh,hrm⟩:=e0H hlab
  simp only at hrl hlab
  have hshort:X0 ls:=fun x hx=>by have:=hsh x hx;omega
  simp [e0,e5]
  refine (i0g og.sl hshort).mono ?_
  rintro rr g1 ⟨rfl,fa⟩
  have fr1:Fr h g1:=fg.fr.trans fa
  cases hc:R9 ls with
  | false =>
   simp [n0O,f0h,hlab,hc]
   exact fr1
  | true =>
   have o0:Own g1.next (g1.push (.cells [] false)) 1 0 (.slice g1.next 0 0 0 true 1) []:=⟨by simp,.inr ⟨g1.next,0,true,[],rfl,Nat.le_refl _,by simp,b8 _,by simp,by simp⟩⟩
   have f2:=fr1.push (.cells [] false)
   have hml:m=r.length:=by have:=sr.1;simpa using this.symm
   subst hml
   obtain ⟨v1,g2,ap,o1,fb,_⟩:=o0.append (bytes:=1) (sr.fr f2) (by simp) (C8 _) (by omega) (by omega)
   simp [e0,ap,n0O,f0h,hlab,hc]
   rw [Nat.zero_add,List.nil_append] at o1
   have f3:Fr g1 g2:=⟨Nat.le_trans (Nat.le_succ _) fb.next,fun i hi=>(fb.get i hi).trans (c7 (by omega))⟩
   refine ⟨fr1.trans f3,_,_,⟨rfl,rfl⟩,?_,o1.sl⟩
   rw [hll,e5]
   exact (og.fr fa).fr f3
end Go.Dk

namespace Go.Dk
open Go Go.Dr
set_option maxRecDepth 100000
def p0r (h:AH) (n:Nat) (v:AV) (b:List Nat) (r:AV) (g:AH):Prop :=
 g=h∧match L7 b with
  | some (s,t)=>∃ w,r=.tuple [.str s,w,.bool true]∧∀ g',Sl g' 1 n v (by8 b)→Sl g' 1 t.length w (by8 t)
  | none=>r=.tuple [.str [],.nils,.bool false]
theorem f0W {h:AH} {n:Nat} {v:AV} {b:List Nat} (s:Sl h 1 n v (by8 b)) (hn:n≤2 ^ 40) (hb:∀ x ∈ b,x<256):Ev P SI (.fn b0E) [v] h (p0r h n v b):=by
 refine k8 n0w rfl rfl ?_
 rcases i0U s (by omega) with ⟨rfl,rfl⟩ | ⟨k,t,rfl,hm,⟨id0,o0,i1,i2⟩,hq⟩
 ·simp [b0y,s.len,p0r,L7]
 have i2:=i2 h s
 have hk:k<256:=hb k (by simp)
 have c0:¬ n=0:=by omega
 have w1:b9 .i64 ((n:Int) - 1)=(t.length:Int):=by rw [wrap_i64 (by omega) (by omega)];omega
 have wq:b9 .i64 (k:Int)=(k:Int):=wrap_i64 (by omega) (by omega)
 have w2:b9 .i64 (1+(k:Int))=1+(k:Int):=wrap_i64 (by omega) (by omega)
 by_cases hle:k≤t.length
 ·have c2:¬ (t.length:Int)<k:=by omega
  obtain ⟨su,sw,y1,y2,y3,y4⟩:=hq hle
  have cs:=b0q (y2 h s)
  simp [b0y,s.len,c0,i1,i2,w1,wq,w2,c2,y1,y3,cs,p0r,L7,hle]
  exact y4
 ·have c2:(t.length:Int)<k:=by omega
  simp [b0y,s.len,c0,i1,i2,w1,wq,w2,c2,p0r,L7,hle]
theorem p0s {h:AH} {n:Nat} {v:AV} {b:List Nat} (s:Sl h 1 n v (by8 b)) (hn:n≤2 ^ 30) (hb:∀ x ∈ b,x<256):Ev P SI (.fn c0Z) [v] h (n0O h b):=by
 refine k8 l0C rfl rfl ?_
 rcases i0U s (by omega) with ⟨rfl,rfl⟩ | ⟨k,t,rfl,hm,⟨id0,o0,i1,i2⟩,_⟩
 ·simp [c0D,s.len]
  exact ⟨.refl _,rfl⟩
 have c0:¬ n=0:=by omega
 have hk:k<256:=hb k (by simp)
 have i2':=i2 h s
 have wk:b9 .i64 (k:Int)=(k:Int):=wrap_i64 (by omega) (by omega)
 obtain ⟨b0,eb,sb⟩:=s.slice (lo:=some (.int .i64 ((1:Nat):Int))) (hi:=none) (a:=1) (b:=n) (.inr ⟨.i64,rfl⟩) (.inl ⟨rfl,rfl⟩) (by omega) (Nat.le_refl _)
 rw [Nat.mul_one,Nat.mul_one,H8,H7,List.drop_succ_cons,List.drop_zero,List.take_of_length_le (by omega)] at sb
 rw [show ((1:Nat):Int)=1 from rfl] at eb
 simp [c0D,s.len,c0,i1,i2',eb,wk]
 refine m8 (n:=k) (by rfl) (fun j σ ds g=>∃ (m:Nat) (r:List Nat) (ls:List Lab),ds=[]∧σ 22=.int .i64 (k:Int)∧Sl h 1 m (σ 0) (by8 r)∧(∀ y ∈ r,y<256)∧m≤2 ^ 30 ∧
   Own h.next g 2 j (σ 6) (ls.flatMap E2)∧FrB h.next h g∧ls.length=j∧R0 k t=(R0 (k - j) r).map (fun p=>(ls++p.1,p.2))) (by omega) (by simp)
  ⟨n - 1,t,[],rfl,by simp,by simpa using sb,fun y hy=>hb y (List.mem_cons_of_mem _ hy),by omega,by simpa using Own.nil _ _,.refl _ _,rfl,by simp⟩
  (fun j σ ds g ⟨_,_,_,hJ⟩=>by simp [hJ.2.1]) ?_ ?_
 ·rintro j σ ds g hj hi ⟨m,r,ls,rfl,e22,sr,hr,hmb,og,fg,hll,hlab⟩
  have hkj:k - j=(k - (j+1))+1:=by omega
  have bad:R0 (k - j) r=none→f0h (k::t)=.error 3:=fun hno=>by
   rw [hno] at hlab
   simp only [f0h,hlab,Option.map_none]
  have srg:=sr.fr fg.fr
  simp
  refine (f0W srg (by omega) hr).mono ?_
  rintro r1 g1 ⟨rfl,h1⟩
  cases hp1:L7 r with
  | none =>
   rw [hp1] at h1
   simp only at h1
   subst h1
   have:=bad (by rw [hkj,R0,hp1])
   simp
   refine (f0W (n:=0) (b:=[]) (Sl.nil 1) (by omega) (by simp)).mono ?_
   rintro r2 g2 ⟨rfl,h2⟩
   have h2:r2=.tuple [.str [],.nils,.bool false]:=h2
   subst h2
   simp [n0O,this]
   exact ⟨fg.next,fg.get⟩
  | some p =>
   obtain ⟨nm,r'⟩:=p
   rw [hp1] at h1
   obtain ⟨w,rfl,sw⟩:=h1
   have pl:=e0F hp1
   have hml:r.length=m:=by have:=sr.1;simpa using this
   simp
   refine (f0W (sw _ srg) (by omega) (fun y hy=>hr y (e0G hp1 y hy))).mono ?_
   rintro r2 g2 ⟨rfl,h2⟩
   cases hp2:L7 r' with
   | none =>
    rw [hp2] at h2
    simp only at h2
    subst h2
    have:=bad (by rw [hkj,R0,hp1];simp only [hp2])
    simp [n0O,this]
    exact ⟨fg.next,fg.get⟩
   | some p =>
    obtain ⟨vl,r''⟩:=p
    rw [hp2] at h2
    obtain ⟨w2,rfl,sw2⟩:=h2
    have pl2:=e0F hp2
    obtain ⟨v',g3,ea,oa,fa⟩:=og.snoc (bytes:=32) (x:=[.str nm,.str vl]) fg.next rfl rfl (by omega) (by omega)
    simp [i9,ea,hi,e22]
    refine ⟨_,_,sw2 h (sw h sr),fun y hy=>hr y (e0G hp1 y (e0G hp2 y hy)),by omega,ls++[(nm,vl)],by simpa [E2] using oa,fg.trans fa,by simp [hll],?_⟩
    rw [hlab,hkj,R0,hp1]
    simp only [hp2]
    cases R0 (k - (j+1)) r'' with
    | none=>rfl
    | some p=>simp
 ·rintro σ ds g ⟨m,r,ls,rfl,e22,sr,hr,hmb,og,fg,hll,hlab⟩
  rw [Nat.sub_self,R0,Option.map_some,List.append_nil] at hlab
  obtain ⟨_,hrl,hsh,hrm⟩:=e0H hlab
  simp only at hrl hlab
  have hshort:X0 ls:=fun x hx=>by have:=hsh x hx;omega
  simp
  refine (g07 og.sl hshort).mono ?_
  rintro rr g1 ⟨rfl,fa⟩
  have fr1:Fr h g1:=fg.fr.trans fa
  cases hc:R9 ls with
  | false =>
   simp [n0O,f0h,hlab,hc]
   exact fr1
  | true =>
   have o0:Own g1.next (g1.push (.cells [] false)) 1 0 (.slice g1.next 0 0 0 true 1) []:=⟨by simp,.inr ⟨g1.next,0,true,[],rfl,Nat.le_refl _,by simp,b8 _,by simp,by simp⟩⟩
   have f2:=fr1.push (.cells [] false)
   have hml:m=r.length:=by have:=sr.1;simpa using this.symm
   subst hml
   obtain ⟨v1,g2,ap,o1,fb,_⟩:=o0.append (bytes:=1) (sr.fr f2) (by simp) (C8 _) (by omega) (by omega)
   simp [ap,n0O,f0h,hlab,hc]
   rw [Nat.zero_add,List.nil_append] at o1
   have f3:Fr g1 g2:=⟨Nat.le_trans (Nat.le_succ _) fb.next,fun i hi=>(fb.get i hi).trans (c7 (by omega))⟩
   refine ⟨fr1.trans f3,_,_,⟨rfl,rfl⟩,?_,o1.sl⟩
   rw [hll]
   exact (og.fr fa).fr f3
end Go.Dk

namespace Go.Dk
open Go Go.Dr
set_option maxRecDepth 100000
open Classical in
noncomputable def h0i (b:List Nat):Option (List Smp):=if h:∃ l,IsS b l then some h.choose else none
theorem DecS.m {h g:AH} {b:List Nat} {r:AV} (d:DecS h b r g):Fr h g∧match h0i b with
  | some l=>∃ v,r=.tuple [v,.int .i64 0]∧Sl g 2 l.length v (l.flatMap smC)
  | none=>r=.tuple [.nils,.int .i64 5]:=by
 obtain ⟨f,d⟩:=d
 refine ⟨f,?_⟩
 rcases d with ⟨l,v,h1,h2,h3,h4⟩ | ⟨hno,h3⟩
 ·have hex:∃ l,IsS b l:=⟨l,h1⟩
  have:h0i b=some l:=by
   unfold h0i
   rw [dif_pos hex,h2 _ hex.choose_spec]
  rw [this]
  exact ⟨v,h3,h4⟩
 ·have:h0i b=none:=by
   unfold h0i
   rw [dif_neg (fun ⟨l,hl⟩=>hno l hl)]
  rw [this]
  exact h3
noncomputable def d06 (b:List Nat) (k:Nat):Option (List Lab×List Smp×Nat) :=
 if b.length - 4<k then none else
  match f0h ((b.drop 4).take k) with
  | .error _=>none
  | .ok (l,rest)=>match h0i rest with
   | none=>none
   | some s=>if s.length=0∨20<s.length then none else some (l,s,4+k)
noncomputable def G4 (b:List Nat):Option (List Lab×List Smp×Nat):=if b.length<4 then none else d06 b (beV (b.take 4))
def Y1 (h:AH) (b:List Nat) (r:AV) (g:AH):Prop :=
 Fr h g∧match G4 b with
  | some (l,s,n)=>∃ lv sv,r=.tuple [lv,sv,.int .i64 (n:Int)]∧Own h.next g 2 l.length lv (l.flatMap E2)∧Sl g 2 s.length sv (s.flatMap smC)
  | none=>r=.tuple [.nils,.nils,.int .i64 0]
theorem p0m {b:List Nat} {l:List Lab} {rest:List Nat} (e:f0h b=.ok (l,rest)):rest.length≤b.length∧(∀ x ∈ rest,x ∈ b)∧(∀ x ∈ l,x.1.length≤b.length∧x.2.length≤b.length):=by
 cases b with
 | nil=>cases e
 | cons n r =>
  simp only [f0h] at e
  cases hl:R0 n r with
  | none=>rw [hl] at e;cases e
  | some p =>
   obtain ⟨l',rest'⟩:=p
   rw [hl] at e
   simp only at e
   split at e
   ·cases e
    obtain ⟨h1,h2,h3,h4⟩:=e0H hl
    refine ⟨by simp;omega,fun x hx=>List.mem_cons_of_mem _ (h4 x hx),fun x hx=>?_⟩
    have:=h3 x hx
    simp
    omega
   ·cases e
theorem q0E {h:AH} {n:Nat} {v:AV} {b:List Nat} (s:Sl h 1 n v (by8 b)) (hn:n≤2 ^ 30) (hb:∀ x ∈ b,x<256) (ht:TabIn h):Ev P SI (.fn e0f) [v] h (Y1 h b):=by
 refine k8 n0Z rfl rfl ?_
 have hbl:b.length=n:=by have:=s.1;simpa using this
 by_cases h4:n<4
 ·have h4':(n:Int)<4:=by omega
  have:G4 b=none:=by unfold G4;rw [if_pos (by omega)]
  simp [b0J,s.len,h4',Y1,this]
  exact .refl _
 have h4':¬ (n:Int)<4:=by omega
 obtain ⟨u,eu,su⟩:=s.slice (lo:=none) (hi:=some (.int .i64 ((4:Nat):Int))) (a:=0) (b:=4) (.inl ⟨rfl,rfl⟩) (.inr ⟨.i64,rfl⟩) (by omega) (by omega)
 rw [Nat.mul_one,Nat.mul_one,H8,H7,List.drop_zero,Nat.sub_zero] at su
 have gt:=q0o su (fun x hx=>hb x (List.mem_of_mem_take hx)) (by omega) (by omega)
 have hcl:=h03 (b.take 4) (fun x hx=>hb x (List.mem_of_mem_take hx))
 rw [List.length_take,Nat.min_eq_left (by omega)] at hcl
 have hco:G4 b=d06 b (beV (b.take 4)):=by
  unfold G4;rw [if_neg (by omega)]
 unfold d06 at hco
 generalize beV (b.take 4)=k at *
 obtain ⟨m,hm⟩:∃ m,m=n - 4:=⟨_,rfl⟩
 have w1:b9 .i64 ((n:Int) - 4)=(m:Int):=by rw [wrap_i64 (by omega) (by omega)];omega
 have w2:b9 .u64 (m:Int)=(m:Int):=wrap_u64 (by omega) (by omega)
 rw [show ((4:Nat):Int)=4 from rfl] at eu
 by_cases hlt:m<k
 ·rw [if_pos (by omega)] at hco
  simp [b0J,s.len,h4',eu,gt,w1,w2,hlt,Y1,hco]
  exact .refl _
 rw [if_neg (by omega)] at hco
 have w3:b9 .i64 (k:Int)=(k:Int):=wrap_i64 (by omega) (by omega)
 have w4:b9 .i64 (4+(k:Int))=((4+k:Nat):Int):=by rw [wrap_i64 (by omega) (by omega)];omega
 obtain ⟨q,eq,sq⟩:=s.slice (lo:=some (.int .i64 ((4:Nat):Int))) (hi:=some (.int .i64 ((4+k:Nat):Int))) (a:=4) (b:=4+k) (.inr ⟨.i64,rfl⟩) (.inr ⟨.i64,rfl⟩) (by omega) (by omega)
 rw [Nat.mul_one,Nat.mul_one,H8,H7,Nat.add_sub_cancel_left] at sq
 rw [show ((4:Nat):Int)=4 from rfl] at eq
 obtain ⟨k4,hk4⟩:∃ k4,k4=4+k:=⟨_,rfl⟩
 rw [← hk4] at w4 eq hco
 simp [b0J,s.len,h4',eu,gt,w1,w2,hlt,w3,w4,eq]
 refine (n0P sq (by omega) (fun x hx=>hb x (List.mem_of_mem_drop (List.mem_of_mem_take hx)))).mono ?_
 rintro r g ⟨f1,hr⟩
 cases hd:f0h ((b.drop 4).take k) with
 | error e =>
  rw [hd] at hr hco
  simp only at hr hco
  have he:e≠0:=by
   rintro rfl
   revert hd
   cases (b.drop 4).take k with
   | nil=>intro hd;cases hd
   | cons x y =>
    simp only [f0h]
    cases R0 x y with
    | none=>intro hd;cases hd
    | some p =>
     obtain ⟨l,rr⟩:=p
     simp only
     split
     ·intro hd;cases hd
     ·intro hd;cases hd
  subst hr
  simp [he,Y1,hco]
  exact f1
 | ok p =>
  obtain ⟨l,rest⟩:=p
  obtain ⟨hl1,hl2,_⟩:=p0m hd
  rw [hd] at hr hco
  simp only at hr hco
  obtain ⟨lv,rv,rfl,sl,sr⟩:=hr
  have hrl:rest.length≤2 ^ 30:=by simp at hl1;omega
  simp
  refine (p0P sr (fun x hx=>hb x (List.mem_of_mem_drop (List.mem_of_mem_take (hl2 x hx)))) hrl (ht.fr f1)).mono ?_
  rintro r g2 hd2
  obtain ⟨f2,hd2⟩:=hd2.m
  cases hs:h0i rest with
  | none =>
   rw [hs] at hd2 hco
   simp only at hd2 hco
   subst hd2
   simp [Y1,hco]
   exact f1.trans f2
  | some ss =>
   rw [hs] at hd2 hco
   simp only at hd2 hco
   obtain ⟨sv,rfl,s2⟩:=hd2
   by_cases c0:ss.length=0
   ·rw [if_pos (.inl c0)] at hco
    have c0':ss=[]:=List.length_eq_zero_iff.1 c0
    simp [s2.len,c0',Y1,hco]
    exact f1.trans f2
   ·by_cases c20:20<ss.length
    ·rw [if_pos (.inr c20)] at hco
     have c20':(20:Int)<ss.length:=by omega
     have c0':ss≠[]:=fun h=>c0 (by rw [h];rfl)
     simp [s2.len,c0',c20',Y1,hco]
     exact f1.trans f2
    ·rw [if_neg (by omega)] at hco
     have c20':¬ (20:Int)<ss.length:=by omega
     have c0':ss≠[]:=fun h=>c0 (by rw [h];rfl)
     simp [s2.len,c0',c20',w3,w4,Y1,hco]
     exact ⟨f1.trans f2,_,_,⟨rfl,rfl⟩,sl.fr f2,s2⟩
end Go.Dk

namespace Go.Dk
open Go Go.Dr
set_option maxRecDepth 100000
theorem s0Q {h:AH} {n:Nat} {v:AV} {bs:List Nat} (hv:Sl h 1 n v (by8 bs)) (hb:∀ x ∈ bs,x<256) (hn:4≤n) :
  ∃ v',(∀ g,Sl g 1 n v (by8 bs)→Sl g 1 (n - 4) v' (by8 (bs.drop 4)))∧∀ K,Ev P SI (.fn a0J) [v,.int .i64 4] h K=K (.tuple [.int .i64 (b9 .i64 (beV (bs.take 4):Int)),v',.bool true]) h :=
 w0p (k:=4) hv hb (by omega) (by omega) hn
theorem q0P {h:AH} {n:Nat} {v:AV} {l:List AV} (hv:Sl h 1 n v l) (hn:n<4) (K:AV→AH→Prop) :
  Ev P SI (.fn a0J) [v,.int .i64 4] h K=K (.tuple [.int .i64 0,.nils,.bool false]) h:=l0m (k:=4) hv hn K
theorem q0Q {h:AH} {n:Nat} {v:AV} {b:List Nat} (s:Sl h 1 n v (by8 b)) (hn:n≤2 ^ 30) (hb:∀ x ∈ b,x<256):Ev P SI (.fn e0i) [v] h (Y1 h b):=by
 refine k8 n0v rfl rfl ?_
 have hbl:b.length=n:=by have:=s.1;simpa using this
 by_cases h4:n<4
 ·have:G4 b=none:=by unfold G4;rw [if_pos (by omega)]
  simp [b0x,q0P s h4,Y1,this]
  exact .refl _
 obtain ⟨v',sv',gt⟩:=s0Q s hb (by omega)
 have sv:=sv' h s
 have hcl:=h03 (b.take 4) (fun x hx=>hb x (List.mem_of_mem_take hx))
 rw [List.length_take,Nat.min_eq_left (by omega)] at hcl
 have hco:G4 b=d06 b (beV (b.take 4)):=by
  unfold G4;rw [if_neg (by omega)]
 unfold d06 at hco
 generalize beV (b.take 4)=k at *
 obtain ⟨m,hm⟩:∃ m,m=n - 4:=⟨_,rfl⟩
 rw [← hm] at sv
 have w3:b9 .i64 (k:Int)=(k:Int):=wrap_i64 (by omega) (by omega)
 rw [w3] at gt
 by_cases hlt:m<k
 ·rw [if_pos (by omega)] at hco
  simp [b0x,gt,sv.len,hlt,Y1,hco]
  exact .refl _
 rw [if_neg (by omega)] at hco
 have w4:b9 .i64 ((k:Int)+4)=((4+k:Nat):Int):=by rw [wrap_i64 (by omega) (by omega)];omega
 obtain ⟨q,eq,sq⟩:=sv.slice (lo:=none) (hi:=some (.int .i64 (k:Int))) (a:=0) (b:=k) (.inl ⟨rfl,rfl⟩) (.inr ⟨.i64,rfl⟩) (by omega) (by omega)
 rw [Nat.mul_one,Nat.mul_one,H8,H7,List.drop_zero,Nat.sub_zero] at sq
 obtain ⟨k4,hk4⟩:∃ k4,k4=4+k:=⟨_,rfl⟩
 rw [← hk4] at w4 hco
 simp [b0x,gt,sv.len,hlt,eq]
 refine (p0s sq (by omega) (fun x hx=>hb x (List.mem_of_mem_drop (List.mem_of_mem_take hx)))).mono ?_
 rintro r g ⟨f1,hr⟩
 cases hd:f0h ((b.drop 4).take k) with
 | error e =>
  rw [hd] at hr hco
  simp only at hr hco
  have he:e≠0:=by
   rintro rfl
   revert hd
   cases (b.drop 4).take k with
   | nil=>intro hd;cases hd
   | cons x y =>
    simp only [f0h]
    cases R0 x y with
    | none=>intro hd;cases hd
    | some p =>
     obtain ⟨l,rr⟩:=p
     simp only
     split
     ·intro hd;cases hd
     ·intro hd;cases hd
  subst hr
  simp [he,Y1,hco]
  exact f1
 | ok p =>
  obtain ⟨l,rest⟩:=p
  obtain ⟨hl1,hl2,_⟩:=p0m hd
  rw [hd] at hr hco
  simp only at hr hco
  obtain ⟨lv,rv,rfl,sl,sr⟩:=hr
  have hrl:rest.length≤2 ^ 30:=by simp at hl1;omega
  simp
  refine (i0I sr (fun x hx=>hb x (List.mem_of_mem_drop (List.mem_of_mem_take (hl2 x hx)))) hrl).mono ?_
  rintro r g2 hd2
  obtain ⟨f2,hd2⟩:=hd2.m
  cases hs:h0i rest with
  | none =>
   rw [hs] at hd2 hco
   simp only at hd2 hco
   subst hd2
   simp [Y1,hco]
   exact f1.trans f2
  | some ss =>
   rw [hs] at hd2 hco
   simp only at hd2 hco
   obtain ⟨sv,rfl,s2⟩:=hd2
   by_cases c0:ss.length=0
   ·rw [if_pos (.inl c0)] at hco
    have c0':ss=[]:=List.length_eq_zero_iff.1 c0
    simp [s2.len,c0',Y1,hco]
    exact f1.trans f2
   ·have c1:¬ (ss.length:Int)<1:=by omega
    by_cases c20:20<ss.length
    ·rw [if_pos (.inr c20)] at hco
     have c20':(20:Int)<ss.length:=by omega
     simp [s2.len,c1,c20',Y1,hco]
     exact f1.trans f2
    ·rw [if_neg (by omega)] at hco
     have c20':¬ (20:Int)<ss.length:=by omega
     simp [s2.len,c1,c20',w4,Y1,hco]
     exact ⟨f1.trans f2,_,_,⟨rfl,rfl⟩,sl.fr f2,s2⟩
end Go.Dk
