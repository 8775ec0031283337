/-
  Texts joined.
-/
import Derived.Test.YtkbddcapcjdenaaGreatDoorT2
import Derived.Test.YtkbddcapcjdenaaGreatDoorT1

namespace Go.Dr
section
variable {P:Program} {S:h0y} {Q:G7} {σ:Sg} {ds:List ADef} {h:AH}
attribute [simp]  IntKind.bits
@[simp] theorem AV.cells_agg (l:List AV):(AV.agg l).cells=l:=nr rfl
@[simp] theorem AV.cells_int (k:IntKind) (n:Int):(AV.int k n).cells=[.int k n]:=nr rfl
@[simp] theorem AV.cells_nils:AV.nils.cells=[.nils]:=nr rfl
@[simp] theorem AV.cells_slice (id off n cap:Nat) (x:Bool) (es:Nat):(AV.slice id off n cap x es).cells=[.slice id off n cap x es]:=nr rfl
@[simp] theorem AV.cells_bool (b:Bool):(AV.bool b).cells=[.bool b]:=nr rfl
@[simp] theorem AV.cells_str (s:List UInt8):(AV.str s).cells=[.str s]:=nr rfl
@[simp] theorem AV.scalar_int (k:IntKind) (n:Int):(AV.int k n).scalar=true:=nr rfl
@[simp] theorem AV.scalar_nils:AV.nils.scalar=true:=nr rfl
@[simp] theorem AV.scalar_slice (id off n cap:Nat) (x:Bool) (es:Nat):(AV.slice id off n cap x es).scalar=true:=nr rfl
@[simp] theorem AV.scalar_bool (b:Bool):(AV.bool b).scalar=true:=nr rfl
@[simp] theorem AV.scalar_str (s:List UInt8):(AV.str s).scalar=true:=nr rfl
@[simp] theorem AV.scalar_ptr (id off:Nat):(AV.ptr id off).scalar=true:=nr rfl
@[simp] theorem y0y:d7 []=true:=nr rfl
@[simp] theorem x0n (v:AV) (l:List AV):d7 (v::l)=(v.scalar&&d7 l):=nr rfl
@[simp] theorem C0a {α:Type} (why:String) (a:α):ofO why (some a)=.ok a:=nr rfl
theorem b9 {id off:Nat} {vs:List AV} {ro:Bool} (hg:h.get id=some (.cells vs ro)):load1 h id off=ofO "load: out of the known cells" vs[off]?:=by
 unfold load1
 rw [hg]
 simp only []
 cases vs[off]? <;> rfl
@[simp] theorem A0w (off:Nat) (vs:List AV) (ro:Bool):load1 (h.push (.cells vs ro)) h.next off=ofO "load: out of the known cells" vs[off]?:=b9 (b8 _)
theorem y9 {id n:Nat} {vs:List AV} {ro:Bool} (hg:h.get id=some (.cells vs ro)) (hl:vs.length=n):loadN h id 0 n=.ok vs:=by
 unfold loadN
 rw [hg]
 have:Nat.ble (0+n) vs.length=true:=Nat.ble_eq_true_of_le (by omega)
 simp only [this,cond_true,List.drop_zero]
 rw [List.take_of_length_le (by omega)]
@[simp] theorem z0X (n id off:Nat):o7 n (.ptr id off) h=match loadN h id off n with | .ok l=>okV (.agg l) h | .error e=>.error e:=nr rfl
theorem PT.one_set {α:Type} (v w:Option α):∀ (f n:Nat),n<f→(PT.one v f n).set w n=PT.one w f n:=by
 intro f
 induction f with
 | zero=>intro n h;omega
 | succ f ih =>
  intro n h
  rw [PT.one_succ,PT.one_succ]
  by_cases h0:n=0
  ·rw [if_pos h0,if_pos h0,PT.set_node,if_pos h0]
  ·rw [if_neg h0,if_neg h0]
   by_cases h1:n%2=1
   ·rw [if_pos h1,if_pos h1,PT.set_node,if_neg h0,if_pos h1,ih _ (by omega)]
   ·rw [if_neg h1,if_neg h1,PT.set_node,if_neg h0,if_neg h1,ih _ (by omega)]
theorem PT.set_set {α:Type} (v w:Option α):∀ (t:PT α) (n:Nat),(t.set v n).set w n=t.set w n:=by
 intro t
 induction t with
 | leaf=>intro n;exact PT.one_set v w (n+1) n (by omega)
 | node l u r ihl ihr =>
  intro n
  rw [PT.set_node,PT.set_node]
  by_cases h0:n=0
  ·rw [if_pos h0,if_pos h0,PT.set_node,if_pos h0]
  ·rw [if_neg h0,if_neg h0]
   by_cases h1:n%2=1
   ·rw [if_pos h1,if_pos h1,PT.set_node,if_neg h0,if_pos h1,ihl]
   ·rw [if_neg h1,if_neg h1,PT.set_node,if_neg h0,if_neg h1,ihr]
@[simp] theorem AH.set_push (o o':AObj):(h.push o).set h.next o'=h.push o':=by
 simp only [AH.push,AH.set,PT.set_set]
@[simp] theorem AH.set_set (i:Nat) (o o':AObj):(h.set i o).set i o'=h.set i o':=by
 simp only [AH.set,PT.set_set]
theorem l9 {id off:Nat} {vs:List AV} {v:AV} (hg:h.get id=some (.cells vs false)) (hl:off<vs.length) (hs:v.scalar=true) :
  C9 h id off [v]=.ok (h.set id (.cells (J5 vs off [v]) false)):=by
 have:Nat.ble (off+1) vs.length=true:=Nat.ble_eq_true_of_le hl
 simp [C9,hg,this,hs]
theorem b0s {id:Nat} {vs:List AV} {v:AV} {l:List AV} (hg:h.get id=some (.cells vs false)) (hl:vs.length=(v::l).length) (hs:d7 (v::l)=true) :
  C9 h id 0 (v::l)=.ok (h.set id (.cells (v::l) false)):=by
 have h1:Nat.ble (0+(v::l).length) vs.length=true:=Nat.ble_eq_true_of_le (by omega)
 have h2:J5 vs 0 (v::l)=v::l:=by
  simp only [J5,List.take_zero,List.nil_append,Nat.zero_add,← hl,List.drop_length,List.append_nil]
 simp only [C9,hg,h1,hs,Bool.and_self,cond_true,h2]
@[simp] theorem z0Y (id off:Nat) (v:AV) (hv:v.cells=[v]):J0 1 (.ptr id off) v h=U7 (C9 h id off [v]):=by
 simp only [J0,hv,List.length_singleton,Nat.beq_refl,cond_true]
theorem a0S (n id off:Nat) (l:List AV) (hl:l.length=n):J0 n (.ptr id off) (.agg l) h=U7 (C9 h id off l):=by
 subst hl
 simp only [J0,AV.cells_agg,Nat.beq_refl,cond_true]
theorem g0B (v:AV):∀ n,c0z [v] n=List.replicate n v
 | 0=>rfl
 | n+1=>by rw [c0z,g0B v n];rfl
theorem k0j (es bytes k:Nat) (z:List AV) (a b:IntKind) (h1:bytes*k≤2 ^ 40) (h2:k≤2 ^ 40) :
  f0Y es bytes z (.int a (k:Int)) (.int b (k:Int)) h=okV (.slice h.next 0 k k true es) (h.push (.cells (c0z z k) false)):=by
 simp only [f0Y,Int.toNat_natCast]
 rw [if_pos ⟨by omega,by omega,by exact_mod_cast h1,by exact_mod_cast h2⟩]
@[simp] theorem D0s (a:AV) (l:List AV):l0D (a::l) 0=a:=nr rfl
@[simp] theorem D0t (a b:AV) (l:List AV):l0D (a::b::l) 1=b:=nr rfl
@[simp] theorem D0u (a b c:AV) (l:List AV):l0D (a::b::c::l) 2=c:=nr rfl
@[simp] theorem D0v (a b c d:AV) (l:List AV):l0D (a::b::c::d::l) 3=d:=nr rfl
@[simp] theorem D0w (a b c d e:AV) (l:List AV):l0D (a::b::c::d::e::l) 4=e:=nr rfl
theorem v0T (c:List AV):g0j σ c []=.ok c:=nr rfl
theorem t0I (c:List AV) (off size:Nat) (x:CO) (rest:List (Nat×Nat×CO)):g0j σ c ((off,size,x)::rest) =
  if (x.evS σ).cells.length=size∧off+(x.evS σ).cells.length≤c.length then g0j σ (J5 c off (x.evS σ).cells) rest else .error "fill":=by
 rw [g0j]
 by_cases h:(x.evS σ).cells.length=size∧off+(x.evS σ).cells.length≤c.length
 ·rw [if_pos h]
  have h1:Nat.beq (x.evS σ).cells.length size=true:=PT.beqT h.1
  have h2:Nat.ble (off+(x.evS σ).cells.length) c.length=true:=Nat.ble_eq_true_of_le h.2
  simp only [h1,h2,Bool.and_self,cond_true]
 ·rw [if_neg h]
  have:(Nat.beq (x.evS σ).cells.length size&&Nat.ble (off+(x.evS σ).cells.length) c.length)=false:=by
   rw [Bool.eq_false_iff]
   intro e
   rw [Bool.and_eq_true] at e
   exact h ⟨Nat.eq_of_beq_eq_true e.1,Nat.le_of_ble_eq_true e.2⟩
  simp only [this,cond_false]
theorem v0U (z:List AV) (pl:List (Nat×Nat×CO)):i00 z pl σ=match g0j σ z pl with | .ok l=>.ok (.agg l) | .error e=>.error e:=nr rfl
theorem m0U (len es:Nat) (z:List AV) (pl:List (Nat×Nat×CO)):Y9 len es z pl σ h=match g0j σ z pl with
 | .ok l=>okV (.slice h.next 0 len len true es) (h.push (.cells l false))
 | .error e=>.error e:=nr rfl
theorem i8 (vs:List AV) (off:Nat) (l:List AV):J5 vs off l=vs.take off++(l++vs.drop (off+l.length)):=nr rfl
attribute [simp]  v0T t0I v0U m0U
theorem r0W (res:List CRes) (K:AV→AH→Prop):w00 P S res K .ret σ ds h=e0a P S ds h (fun h=>o0x (c0p h σ res) K h):=by
 simp only [w00,h0p]
@[simp] theorem A0x (K:AH→Prop):e0a P S [] h K=K h:=nr rfl
theorem k0k (id:Nat) (K:AH→Prop):e0a P S (.collected id::ds) h K=(h.get id=some (.deferred (some []))∧e0a P S ds (h.set id (.deferred none)) K):=nr rfl
theorem A0y (n:Nat) (f:CO) (params:Array Tmp) (a b:Code):wpC P S (.go n f params a b) Q σ ds h=w0Z P S (f.evS σ) n params a b Q σ ds h:=nr rfl
theorem v0V (g:FuncId) (first captured:List AV) (n:Nat) (params:Array Tmp) (a b:Code):w0Z P S (.func (.func g) first captured) n params a b Q σ ds h =
  ∀ tmps:PT AV,(∀ i,f03 tmps i=σ i)→Ev P S (.fn g) (first++(.func (.yield (h.next+1)) [] []::captured))
   ((h.push (.deferred (some []))).push (.loop { state:=.ready,pending:=none,n:=n,tmps:=tmps,params:=params,assign:=a,body:=b })) (Kgo Q σ ds h.next):=nr rfl
theorem Sl.slice3 {es n:Nat} {v:AV} {l:List AV} (s:Sl h es n v l) {k1 k2 k3:IntKind} {a b:Nat} (hab:a≤b) (hbn:b≤n) :
  ∃ v',B8 es v (some (.int k1 (a:Int))) (some (.int k2 (b:Int))) (some (.int k3 (b:Int)))=.ok v'∧Sl h es (b - a) v' ((l.drop (a*es)).take ((b - a)*es)):=by
 obtain ⟨hl,s⟩:=s
 have h1:a*es≤b*es:=Nat.mul_le_mul_right es hab
 have h2:b*es≤n*es:=Nat.mul_le_mul_right es hbn
 have hlen:((l.drop (a*es)).take ((b - a)*es)).length=(b - a)*es:=by
  rw [List.length_take,List.length_drop,hl,Nat.sub_mul];omega
 rcases s with ⟨rfl,rfl⟩ | ⟨id,off,cap,x,vs,ro,rfl,e2,e6,e3,e4,rfl⟩
 ·obtain rfl:b=0:=by omega
  obtain rfl:a=0:=by omega
  refine ⟨.nils,?_,hlen,.inl ⟨rfl,rfl⟩⟩
  simp [B8,a0j,S8,d0m]
 ·have hA:∀ (k:IntKind) (c m:Nat),c≤m→d0m (.int k (c:Int)) m=.ok c:=by
   intro k c m hc
   simp only [d0m]
   rw [if_pos ⟨by omega,by omega⟩,Int.toNat_natCast]
  refine ⟨.slice id (off+a*es) (b - a) (b - a) true es,?_,hlen,.inr ⟨id,off+a*es,b - a,true,vs,ro,rfl,e2,Nat.le_refl _,e3,?_,?_⟩⟩
  ·simp only [B8,a0j,S8,hA k3 b cap (by omega),hA k2 b b (Nat.le_refl _),hA k1 a b hab,Option.isNone_some,Bool.false_and,if_true,Option.isSome_some,Bool.or_true,Bool.false_eq_true,if_false]
  ·rw [Nat.sub_mul];omega
  ·rw [List.drop_take,List.drop_drop,List.take_take,Nat.sub_mul,Nat.min_eq_left (by omega)]
theorem Sl.oneCell {es n:Nat} {v:AV} {l:List AV} (s:Sl h es n v l):v.cells=[v]∧v.scalar=true:=by
 rcases s.2 with ⟨rfl,_⟩ | ⟨id,off,cap,x,vs,ro,rfl,_⟩ <;> exact ⟨rfl,rfl⟩
theorem Own.set {B es n j:Nat} {v:AV} {l:List AV} (s:Own B h es n v l) (o:AObj) (hj:l6 v≠some j):Own B (h.set j o) es n v l:=by
 refine ⟨s.1,?_⟩
 rcases s.2 with e | ⟨id,off,x,vs,e1,e2,e3,e4,e5,e6⟩
 ·exact .inl e
 ·exact .inr ⟨id,off,x,vs,e1,e2,e3,by rw [c9 (by intro e;apply hj;rw [e1,e];rfl)];exact e4,e5,e6⟩
theorem Own.ne {B es n j:Nat} {v:AV} {l:List AV} (s:Own B h es n v l) (hj:j<B):l6 v≠some j:=by
 rcases s.2 with ⟨rfl,_⟩ | ⟨id,off,x,vs,rfl,e2,_⟩
 ·intro e;cases e
 ·intro e;cases e;omega
theorem Sl.same {es n:Nat} {v:AV} {l:List AV} (s:Sl h es n v l):V1 12 v v=true:=by
 rcases s.2 with ⟨rfl,_⟩ | ⟨id,off,cap,x,vs,ro,rfl,_⟩
 ·exact w0v
 ·exact u0c _ _ _ _ _ _
theorem m0V (vs:List AV) (k:Nat) (x:AV) (hk:k<vs.length):J5 vs k [x]=vs.set k x:=by
 rw [J5,List.length_singleton,List.set_eq_take_append_cons_drop,if_pos hk]
 rfl
theorem Own.store {B es n:Nat} {v:AV} {l:List AV} (s:Own B h es n v l) {k:IntKind} {i:Int} {j c:Nat} (hi:i=j) (hj:j<n) (hc:c<es) {x:AV} (hx:x.scalar=true) :
  ∃ id o h',E0 es v (.int k i)=.ok (.ptr id o)∧C9 h id (o+c) [x]=.ok h'∧Own B h' es n v (l.set (j*es+c) x)∧FrB B h h'∧h'.next=h.next:=by
 subst hi
 rcases s.2 with ⟨rfl,rfl⟩ | ⟨id,off,x',vs,rfl,e2,e3,e4,e5,rfl⟩
 ·omega
 ·have hle:j*es+es≤n*es:=by
   have:=Nat.mul_le_mul_right es (show j+1≤n from hj)
   rw [Nat.add_mul,Nat.one_mul] at this
   exact this
  refine ⟨id,off+j*es,h.set id (.cells (vs.set (off+j*es+c) x) false),by rw [O0 _ _ _ _ _ _ _ _ ⟨by omega,by omega⟩,Int.toNat_natCast],?_,⟨?_,.inr ⟨id,off,x',vs.set (off+j*es+c) x,rfl,e2,e3,d9 _ _,by rw [List.length_set];exact e5,?_⟩⟩,⟨Nat.le_refl _,fun i hi=>c9 (by omega)⟩,rfl⟩
  ·rw [l9 e4 (by omega) hx,m0V _ _ _ (by omega)]
  ·rw [List.length_set];exact s.1
  ·rw [List.drop_set,if_neg (by omega),List.take_set,show off+j*es+c - off=j*es+c from by omega]
end
end Go.Dr

namespace Go.Dr
abbrev RL (α:Type):=R (List α)
def a0N {α β:Type} (f:α→RL β):List α→RL β
 | []=>.ok []
 | x::l=>match f x with
  | .ok r=>match a0N f l with
   | .ok s=>.ok (r++s)
   | .error e=>.error e
  | .error e=>.error e
abbrev K8:=Tgt→List AV→AH→RL (AV×AH)
def i02 (h:AH) (it:AV):RL (AV×AH) :=
 match it with
 | .ptr id 0=>match h.get id with
  | some (.miter m since seen last)=>match m with
   | none=>.ok [(.tuple [.bool false],h)]
   | some m=>match h.get m with
    | some (.map es clock) =>
     if !seen.isEmpty&&!es.isEmpty&&es.all (fun e=>Nat.ble last e.born) then .error "next: all gone" else
     match es.filter (fun e=>!seen.contains e.born) with
     | []=>.ok [(.tuple [.bool false],h)]
     | l=>if l.all (fun e=>Nat.blt e.born since) then .ok (l.map fun e=>(.tuple [.bool true,e.key,e.val],h.set id (.miter (some m) since (seen++[e.born]) clock))) else .error "next: a new entry"
    | _=>.error "next"
  | _=>.error "next"
 | _=>.error "next"
def m0o (call:K8):F6:=fun t args h=>match call t args h with
 | .ok [x]=>.ok x
 | .ok _=>.error "several ends"
 | .error e=>.error e
def h0A (a:AAct) (d:Option Tmp) (x:AV×AH):AAct×AH:=(k0t x.1 fun v=>a.put d v,x.2)
section
variable (P:Program)
def l0V (o:Oper) (it:CO) (a:AAct) (h:AH):RL (AAct×AH) :=
 match i02 h (it.ev a) with
 | .ok l=>.ok (l.map (h0A a o.dst))
 | .error e=>.error e
def t0t (call:K8) (o:Oper) (a:AAct) (r:RN):RL (AAct×AH) :=
 match r with
 | .ok (r,h)=>match r with
  | .value v=>.ok [h0A a o.dst (v,h)]
  | .skip=>.ok [(a.put o.dst o9,h)]
  | .defer d=>bif a.rd then .error "defer in a round" else .ok [((⟨a.n,a.ts,d::a.ds,a.rd⟩:AAct).put o.dst o9,h)]
  | .enter f args=>match call (.fn f) args h with
   | .ok l=>.ok (l.map (h0A a o.dst))
   | .error e=>.error e
  | .yield f args=>match call (.yield f) args h with
   | .ok l=>.ok (l.map (h0A a o.dst))
   | .error e=>.error e
 | .error e=>.error (o.pos++": "++e)
def m0q:Op→Option Operand
 | .next x false=>some x
 | _=>none
def b0C (call:K8) (o:Oper) (a:AAct) (h:AH):RL (AAct×AH) :=
 match m0q o.op with
 | some x=>match cO P x with
  | .ok c=>l0V o c a h
  | .error e=>.error (o.pos++": read: "++e)
 | none=>match comp P o with
  | .ok c=>t0t call o a (evC P c a h)
  | .error e=>.error (o.pos++": read: "++e)
def a0m (call:K8) (ops:Array Oper):List Oper→AAct→AH→RL (AAct×AH)
 | [],a,h=>.ok [(a,h)]
 | o::l,a,h =>
  match u9 ops o a with
  | .ok true=>match b0C P call o a h with
   | .ok r=>a0N (fun x=>a0m call ops l x.1 x.2) r
   | .error e=>.error e
  | .ok false=>a0m call ops l (a.put o.dst o9) h
  | .error e=>.error e
abbrev XD:=RL (AX×AAct×AH)
def a0d (body:AAct→AH→XD):Nat→AAct→AH→XD
 | 0,_,_=>.error "fuel"
 | n+1,a,h=>match body a h with
  | .ok r=>a0N (fun x=>match x.1 with | .normal=>a0d body n x.2.1 x.2.2 | _=>.ok [x]) r
  | .error e=>.error e
def h0H (did:Nat) (a:AAct) (h:AH):R (AX×AAct×AH) :=
 match h.get (did+1) with
 | some (.loop r)=>match r.state with
  | .busy=>.error "rangeFunc: busy"
  | _=>match r.pending with
   | none=>.ok (.normal,⟨a.n,a.ts,.collected did::a.ds,a.rd⟩,h.set (did+1) (.loop { r with state:=.exhausted }))
   | some .ret=>.ok (.ret,⟨a.n,a.ts,.collected did::a.ds,a.rd⟩,h.set (did+1) (.loop { r with state:=.exhausted }))
   | some (.exit id)=>.ok (.exit id,⟨a.n,a.ts,.collected did::a.ds,a.rd⟩,h.set (did+1) (.loop { r with state:=.exhausted }))
   | some _=>.error "rangeFunc: jump"
 | _=>.error "rangeFunc"
def m0r {α:Type}:R α→RL α
 | .ok x=>.ok [x]
 | .error e=>.error e
def i03 (call:K8) (f:AV) (params:Array Tmp) (assign body:Code) (a:AAct) (h:AH):XD :=
 match f with
 | .func (.func g) first captured=>bif a.rd then .error "rangeFunc in a round" else
  a0y h.next fun did =>
  match call (.fn g) (first++(.func (.yield (did+1)) [] []::captured))
    ((h.push (.deferred (some []))).push (.loop { state:=.ready,pending:=none,n:=a.n,tmps:=a.ts,params,assign,body })) with
  | .ok l=>a0N (fun x=>m0r (h0H did a x.2)) l
  | .error e=>.error e
 | _=>.error "rangeFunc: of what"
def m6 (call:K8) (lf:Nat):Code→AAct→AH→XD
 | .region _ ops draw,a,h=>match draw with
  | true=>match d0q P (m0o call) ops a h with
   | .ok (a,h)=>.ok [(.normal,a,h)]
   | .error e=>.error e
  | false=>match a0m P call ops ops.toList a h with
   | .ok l=>.ok (l.map fun x=>(.normal,x.1,x.2))
   | .error e=>.error e
 | .seq x y,a,h=>match m6 call lf x a h with
  | .ok l=>a0N (fun x=>match x.1 with | .normal=>m6 call lf y x.2.1 x.2.2 | _=>.ok [x]) l
  | .error e=>.error e
 | .cond c x y,a,h=>match cO P c with
  | .ok c=>match c.ev a with
   | .bool true=>m6 call lf x a h
   | .bool false=>m6 call lf y a h
   | _=>.error "cond"
  | .error e=>.error e
 | .block id c,a,h=>match m6 call lf c a h with
  | .ok l=>.ok (l.map fun x=>match x.1 with | .exit i=>bif Nat.beq i id then (.normal,x.2.1,x.2.2) else x | _=>x)
  | .error e=>.error e
 | .loop c,a,h=>a0d (m6 call lf c) lf a h
 | .scope c,a,h=>match m6 call lf c a h with
  | .ok l=>.ok l
  | .error e=>.error e
 | .rangeFunc f params assign body,a,h=>match cO P f with
  | .ok f=>i03 call (f.ev a) params assign body a h
  | .error e=>.error e
 | c,a,h=>m0r (r6 P (m0o call) lf c a h)
def D8 (call:K8):List ADef→AH→RL AH
 | [],h=>.ok [h]
 | d::l,h=>match d with
  | .collected id=>match h.get id with
   | some (.deferred (some []))=>D8 call l (h.set id (.deferred none))
   | _=>.error "collected"
  | .call fn captured args=>match b0d fn captured args h with
   | .ok (.enter f args,h)=>match call (.fn f) args h with
    | .ok r=>a0N (fun x=>D8 call l x.2) r
    | .error e=>.error e
   | .ok _=>.error "defer"
   | .error e=>.error e
def f0e (call:K8) (fn:Func) (x:AX×AAct×AH):RL (AV×AH) :=
 match x.1 with
 | .normal | .ret=>match D8 call x.2.1.ds x.2.2 with
  | .ok l=>a0N (fun h=>match K0 P h x.2.1 fn.results.toList with
   | .ok l=>.ok [(b0n l,h)]
   | .error e=>.error (fn.name++": "++e)) l
  | .error e=>.error (fn.name++": "++e)
 | _=>.error "left by a jump"
def b0D (call:K8) (fn:Func) (r:XD):RL (AV×AH) :=
 match r with
 | .ok l=>a0N (f0e P call fn) l
 | .error e=>.error (fn.name++"/"++e)
def O5 (call:K8) (lf:Nat) (l:Nat) (r:ALoop) (x:AX×AAct×AH):RL (AV×AH) :=
 match x.1 with
 | .normal=>match x.2.2.get l with
  | some (.loop q)=>match q.state with
   | .ready=>match m6 P call lf r.body x.2.1 (x.2.2.set l (.loop { q with state:=.busy })) with
    | .ok s=>a0N (fun y=>m0r (N9 l (.ok y))) s
    | .error e=>.error e
   | _=>.error "yield: state"
  | _=>.error "yield: loop"
 | _=>.error "yield: assign"
def c0r (call:K8) (lf:Nat) (l:Nat) (r:ALoop) (args:List AV) (h:AH):RL (AV×AH) :=
 bif Nat.beq args.length r.params.size then
  match m6 P call lf r.assign (E4 r.params.toList args ⟨r.n,r.tmps,[],true⟩) h with
  | .ok s=>a0N (O5 P call lf l r) s
  | .error e=>.error e
 else .error "yield: arguments"
end
def y0U (x y:AEntry):Bool:=Bool.and (V1 12 x.key y.key) (Bool.and (V1 12 x.val y.val) (Nat.beq x.born y.born))
def y0V {α:Type} (f:α→α→Bool):List α→List α→Bool
 | [],[]=>true
 | x::l,y::m=>Bool.and (f x y) (y0V f l m)
 | _,_=>false
def A0q:Option (List ADef)→Option (List ADef)→Bool
 | none,none=>true
 | some [],some []=>true
 | _,_=>false
def D0p:Option Nat→Option Nat→Bool
 | none,none=>true
 | some x,some y=>Nat.beq x y
 | _,_=>false
def B02:AObj→AObj→Bool
 | .cells l r,.cells m s=>Bool.and (r == s) (y0V (V1 12) l m)
 | .map l c,.map m d=>Bool.and (Nat.beq c d) (y0V y0U l m)
 | .deferred a,.deferred b=>A0q a b
 | .siter s p,.siter t q=>Bool.and (Nat.beq p q) (decide (s=t))
 | .miter m a b c,.miter n x y z=>Bool.and (D0p m n) (Bool.and (Nat.beq a x) (Bool.and (y0V Nat.beq b y) (Nat.beq c z)))
 | _,_=>false
def w09:Option AObj→Option AObj→Bool
 | none,none=>true
 | some x,some y=>B02 x y
 | _,_=>false
def u0A (h k:AH):Nat→Bool
 | 0=>true
 | n+1=>Bool.and (w09 (h.get n) (k.get n)) (u0A h k n)
def q0d (k:AH):Nat→Nat→AH→AH
 | 0,_,h=>h
 | n+1,i,h=>bif w09 (h.get i) (k.get i) then q0d k n (i+1) h else q0d k n (i+1) (h.kill i)
def B03 (base:Nat) (x y:AV×AH):Option (AV×AH) :=
 bif Bool.and (V1 12 x.1 y.1) (Bool.and (Nat.beq x.2.next y.2.next) (u0A x.2 y.2 base)) then some (x.1,q0d y.2 (x.2.next - base) base x.2) else none
def u0B (base:Nat) (x:AV×AH):List (AV×AH)→Option (AV×AH)
 | []=>some x
 | y::l=>match B03 base x y with
  | some z=>u0B base z l
  | none=>none
def D0q (base:Nat) (r:RL (AV×AH)):RL (AV×AH) :=
 match r with
 | .ok (x::y::l)=>match u0B base x (y::l) with
  | some z=>.ok [z]
  | none=>.ok (x::y::l)
 | r=>r
def a0n (S:FuncId→Option (List AV→AH→R (AV×AH))) (call:K8):K8:=fun t args h =>
 match t with
 | .fn f=>match S f with
  | some _=>.error "a deferred call of a summary"
  | none=>call (.fn f) args h
 | .yield l=>call (.yield l) args h
end Go.Dr

namespace Go.Dr
open Go.RowKit
variable {P:Program} {B:Nat} {w0 w w':World} {φ:Phi} {h h':AH}
theorem T6 {α β:Type} {f:α→RL β}:∀ {l:List α} {s:List β},a0N f l=.ok s→∀ x ∈ l,∃ r,f x=.ok r∧∀ y ∈ r,y ∈ s
 | [],_,_,_,hx=>by cases hx
 | a::l,s,he,x,hx=>by
  simp only [a0N] at he
  split at he
  ·rename_i r hr
   split at he
   ·rename_i s' hs
    cases he
    rcases List.mem_cons.1 hx with rfl | hx
    ·exact ⟨r,hr,fun y hy=>List.mem_append_left _ hy⟩
    ·obtain ⟨r',h1,h2⟩:=T6 hs x hx
     exact ⟨r',h1,fun y hy=>List.mem_append_right _ (h2 y hy)⟩
   ·cases he
  ·cases he
theorem l0U {α:Type} {r:R α} {l:List α} (he:m0r r=.ok l):∃ x,r=.ok x∧l=[x]:=by
 cases r with
 | ok x=>cases he;exact ⟨x,rfl,rfl⟩
 | error e=>cases he
def FnD (P:Program) (B:Nat) (w0:World) (kind:CallKind) (f:FuncId) (args:List AV) (h:AH) (K:AV→AH→Prop):Prop :=
 ∀ φ w args',ConL φ args args'→GlobRel P φ→Rel B w0 φ h w →
  (∀ w,(callFunc f ⟨args'⟩).run P w=.ok (.enter f ⟨args'⟩) w) ∧
  CallsK P kind f ⟨args'⟩ w (fun v' w'=>∃ v h' φ',K v h'∧Con φ' v v'∧Rel B w0 φ' h' w'∧Ext φ h φ' h')
def A0o (P:Program) (B:Nat) (w0:World) (l:Nat) (args:List AV) (h:AH) (K:AV→AH→Prop):Prop :=
 ∀ φ w p args',φ l=some p→ConL φ args args'→GlobRel P φ→Rel B w0 φ h w →
  ∃ fn tmps assign body,(Instr.yield p.blk ⟨args'⟩).run P w=.ok (.round p.blk fn tmps assign body) w ∧
   ∀ c cs,∃ v h' v' φ' w',K v h'∧Steps P (lone (Frame.round p.blk fn tmps assign body .normal) (c::cs) w) (lone (c.finish v') cs w')∧Con φ' v v'∧Rel B w0 φ' h' w'∧Ext φ h φ' h'
def d0L (P:Program) (B:Nat) (w0:World) (call:K8):Prop:=∀ f args h l,call (.fn f) args h=.ok l→FnD P B w0 .normal f args h fun v h'=>(v,h') ∈ l
def t0r (P:Program) (B:Nat) (w0:World) (call:K8):Prop:=∀ f args h l,call (.fn f) args h=.ok l→FnD P B w0 .deferred f args h fun v h'=>(v,h') ∈ l
def c00 (P:Program) (B:Nat) (w0:World) (call:K8):Prop:=∀ i args h l,call (.yield i) args h=.ok l→A0o P B w0 i args h fun v h'=>(v,h') ∈ l
theorem q0c {call:K8} {t:Tgt} {args:List AV} {x:AV×AH} (he:m0o call t args h=.ok x):call t args h=.ok [x]:=by
 unfold m0o at he
 split at he
 ·rename_i hc;cases he;exact hc
 ·cases he
 ·cases he
theorem L1 {call:K8} (hC:d0L P B w0 call):b04 P B w0 (m0o call):=by
 intro f args h v h' he φ w args' ha hG hR
 obtain ⟨h1,h2⟩:=hC _ _ _ _ (q0c he) φ w args' ha hG hR
 refine ⟨h1,fun cs=>?_⟩
 obtain ⟨v',w',fr,fn,⟨v2,h3,φ',k,c⟩,r⟩:=h2 cs
 have:=List.mem_singleton.1 k
 cases this
 exact ⟨v',w',fr,fn,⟨φ',c⟩,r⟩
theorem G8 {call:K8} (hY:c00 P B w0 call):a02 P B w0 (m0o call):=by
 intro l args h v h' he φ w p args' hp ha hG hR
 obtain ⟨fn,tmps,assign,body,h1,h2⟩:=hY _ _ _ _ (q0c he) φ w p args' hp ha hG hR
 refine ⟨fn,tmps,assign,body,h1,fun c cs=>?_⟩
 obtain ⟨v2,h3,v',φ',w',k,r⟩:=h2 c cs
 have:=List.mem_singleton.1 k
 cases this
 exact ⟨v',φ',w',r⟩
theorem r0B {n:Nat} (hn:0<n):∃ i w',i<n∧(choose (.mapNext n)).run P w=.ok i w'∧(w'=w∨w'=w.drew):=by
 by_cases h1:n≤1
 ·exact ⟨0,w,hn,by simp [choose,Sem.run,Question.forced,h1],.inl rfl⟩
 ·exact ⟨w.tape w.drawn (.mapNext n)%n,w.drew,Nat.mod_lt _ hn,by simp [choose,Sem.run,Question.forced,Question.cut,h1],.inr rfl⟩
theorem ConE.at:∀ {l:List AEntry} {es:List MapEntry},ConE φ l es→∀ (i:Nat) (e':MapEntry),es[i]? = some e'→∃ e:AEntry,l[i]? = some e∧Con φ e.key e'.key∧Con φ e.val e'.val∧e'.born=e.born
 | _,_,.nil,i,e',he=>by simp at he
 | _,_,.cons h1 h2 h3 t,0,e',he=>by cases he;exact ⟨_,rfl,h1,h2,h3⟩
 | _,_,.cons h1 h2 h3 t,i+1,e',he=>by
  obtain ⟨e,g⟩:=ConE.at t i e' (by simpa using he)
  exact ⟨e,by simpa using g.1,g.2⟩
theorem ConE.length:∀ {l:List AEntry} {es:List MapEntry},ConE φ l es→es.length=l.length
 | _,_,.nil=>rfl
 | _,_,.cons _ _ _ t=>by simp [t.length]
theorem w06 {ty:TypeId} {it:AV} {it':Value} {l:List (AV×AH)} (hR:Rel B w0 φ h w) (hi:Con φ it it') (hr:i02 h it=.ok l) :
  ∃ x v' w',x ∈ l∧(Instr.next it' false ty).run P w=.ok v' w'∧Con φ x.1 v'∧Rel B w0 φ x.2 w'∧Ext φ h φ x.2:=by
 unfold i02 at hr
 split at hr
 ·rename_i id
  cases hi with
  | @ptr _ _ p hp =>
  split at hr
  ·rename_i m since seen last hg
   obtain ⟨g0,m',g1,g2⟩:=hR.obj _ _ _ hp hg
   rw [g0]
   have hget:(getObj p.blk).run P w=.ok (.mapIter m' since ⟨seen⟩ last) w:=by simp [getObj,Sem.run,g1]
   split at hr
   ·cases hr
    have:m'=none:=g2
    subst this
    refine ⟨_,.tuple #[.bool false],w,List.mem_singleton.2 rfl,?_,.tuple (.cons (.bool _) .nil),hR,.refl _ _⟩
    simp only [Instr.next,Nat.add_zero,Sem.run_bind,hget,Result.andThen_ok]
    rfl
   ·rename_i m
    obtain ⟨q,hq,rfl⟩:=g2
    split at hr
    ·rename_i al clock hgm
     obtain ⟨es,k1,k2⟩:=hR.obj _ _ _ hq hgm
     split at hr
     ·cases hr
     ·rename_i hall
      have hall':¬ ((!(⟨seen⟩:Array Nat).isEmpty&&!(⟨es⟩:Array MapEntry).isEmpty&&(⟨es⟩:Array MapEntry).all (fun e=>decide (e.born ≥ last)))=true):=by
       intro hh
       apply hall
       rw [← hh]
       have e1:(⟨seen⟩:Array Nat).isEmpty=seen.isEmpty:=by cases seen <;> rfl
       have e2:(⟨es⟩:Array MapEntry).isEmpty=al.isEmpty:=by rw [← k2.isEmpty];cases es <;> rfl
       have e3:((⟨es⟩:Array MapEntry).all fun e=>decide (e.born ≥ last))=al.all fun e=>Nat.ble last e.born:=by
        rw [← k2.all (f:=fun b=>Nat.ble last b)]
        simp only [List.all_toArray]
        congr 1;funext e
        rw [Bool.eq_iff_iff];simp
       rw [e1,e2,e3]
      have hfil:=k2.filter (f:=fun b=>!seen.contains b)
      have hleft:(⟨es⟩:Array MapEntry).filter (fun e=>!(⟨seen⟩:Array Nat).contains e.born)=⟨es.filter fun e=>!seen.contains e.born⟩:=by
       apply Array.ext';simp
      generalize hL:es.filter (fun e=>!seen.contains e.born)=L at hleft hfil
      generalize al.filter (fun e=>!seen.contains e.born)=A at hr hfil
      split at hr
      ·cases hfil
       cases hr
       refine ⟨_,.tuple #[.bool false],w,List.mem_singleton.2 rfl,?_,.tuple (.cons (.bool _) .nil),hR,.refl _ _⟩
       simp only [Instr.next,Nat.add_zero,Sem.run_bind,hget,Result.andThen_ok,D9 k1]
       rw [if_neg hall']
       simp only [hleft]
       simp [Question.forced]
      ·rename_i hne
       split at hr
       ·rename_i hsince
        cases hr
        have hold:∀ e' ∈ L,e'.born<since:=by
         intro e' he'
         obtain ⟨i,hi⟩:=List.mem_iff_getElem?.1 he'
         obtain ⟨e,ge,_,_,gb⟩:=hfil.at i e' hi
         rw [List.all_eq_true] at hsince
         have:=hsince e (List.mem_of_getElem? ge)
         rw [gb];simpa [Nat.blt_eq] using this
        have f1:(⟨L⟩:Array MapEntry).filter (fun e=>decide (e.born<since))=⟨L⟩:=by
         apply Array.ext'
         simp only [Array.toList_filter]
         exact List.filter_eq_self.2 fun e he=>by simpa using hold e he
        have f2:(⟨L⟩:Array MapEntry).filter (fun e=>decide (e.born ≥ since))=#[]:=by
         apply Array.ext'
         simp only [Array.toList_filter]
         exact List.filter_eq_nil_iff.2 fun e he=>by have:=hold e he;simp;omega
        have hpos:0<L.length:=by
         rw [hfil.length]
         cases A with
         | nil=>exact absurd rfl hne
         | cons a A=>simp
        have f3:(⟨L⟩:Array MapEntry).isEmpty=false:=by
         cases L with
         | nil=>simp at hpos
         | cons a L=>rfl
        obtain ⟨i,w1,hi,hch,hw1⟩:=r0B (P:=P) (w:=w) (n:=L.length) hpos
        have hLi:L[i]? = some L[i]:=List.getElem?_eq_getElem hi
        obtain ⟨e,ge,c1,c2,c3⟩:=hfil.at i _ hLi
        have hg1:w1.heap[p.blk]? = some (.mapIter (some q.blk) since ⟨seen⟩ last):=by rcases hw1 with rfl | rfl <;> exact g1
        have hR1:Rel B w0 φ h w1:=by
         rcases hw1 with rfl | rfl
         ·exact hR
         ·exact hR.drew
        have hset:∀ o,(setObj p.blk o).run P w1=.ok () (w1.putObj p.blk o):=fun o=>by simp [setObj,Sem.run,hg1,World.putObj]
        refine ⟨_,.tuple #[.bool true,L[i].key,L[i].val],w1.putObj p.blk (.mapIter (some q.blk) since ((⟨seen⟩:Array Nat).push L[i].born) clock),List.mem_map.2 ⟨e,List.mem_of_getElem? ge,rfl⟩,?_,.tuple (.cons (.bool _) (.cons c1 (.cons c2 .nil))),?_,.write hp _⟩
        ·simp only [Instr.next,Nat.add_zero,Sem.run_bind,hget,Result.andThen_ok,D9 k1]
         rw [if_neg hall']
         simp only [hleft,f1,f2,f3,Bool.false_eq_true,if_false]
         have hsz:((#[]:Array (Option MapEntry))++((⟨L⟩:Array MapEntry)++#[]).map some).size=L.length:=by simp
         rw [hsz,Sem.run_bind,hch,Result.andThen_ok]
         have hge:((#[]:Array (Option MapEntry))++((⟨L⟩:Array MapEntry)++#[]).map some)[i]? = some (some L[i]):=by simp [hLi]
         rw [hge]
         simp only [Sem.run_bind,hset,Result.andThen_ok,Sem.run_pure]
        ·refine hR1.write (w':=w1.putObj p.blk (.mapIter (some q.blk) since ((⟨seen⟩:Array Nat).push L[i].born) clock)) hp hg rfl rfl (World.putObj_below (hR.own _ _ _ hp hg rfl) _) (fun k hk=>World.putObj_heap_other hk) ?_
         refine ⟨g0,some q.blk,?_,q,hq,rfl⟩
         rw [World.putObj_heap_same (Array.getElem?_eq_some_iff.1 hg1).1,c3]
         simp
       ·cases hr
    ·cases hr
  ·cases hr
 ·cases hr
theorem j06 {o:Op} {x:Operand} (h:m0q o=some x):o=.next x false:=by
 unfold m0q at h
 split at h
 ·cases h;rfl
 ·cases h
theorem t0s {call:K8} (hC:d0L P B w0 call) (hY:c00 P B w0 call) {o:Oper} {a:AAct} {l:List (AAct×AH)} (he:b0C P call o a h=.ok l)
  {b:Frame} {tm:Array Value} {ds:List Deferred} (s:St P B w0 φ a h b.roundOf.isSome tm ds w) {ops:Array Oper} {i:Nat} {rest:List Nat} (ho:ops[i]? = some o)
  (hw:Region.wanted o (yielded ops tm)=true) (k:List Item) (cs:List Frame) :
  ∃ x φ' tm' ds' w',x ∈ l∧Steps P (lone (mk b tm ds (.inRegion ops (i::rest)::k)) cs w) (lone (mk b tm' ds' (.inRegion ops rest::k)) cs w') ∧
   St P B w0 φ' x.1 x.2 b.roundOf.isSome tm' ds' w'∧Ext φ h φ' x.2:=by
 unfold b0C at he
 split at he
 ·rename_i x hx
  have hop:=j06 hx
  split at he
  ·rename_i c hc
   unfold l0V at he
   split at he
   ·rename_i r hn
    cases he
    obtain ⟨y,v',w',hy,hrun,hcon,hR',hE⟩:=w06 (P:=P) (ty:=o.type) s.rel (H0 (ds:=ds) hc s.glob s.act) hn
    have h2:(execOp (Act.eval ⟨tm,ds⟩) o).run P w=.ok (.value v') w':=by
     simp only [execOp,hop,Sem.run_bind,hrun,Result.andThen_ok,Sem.run_pure]
    refine ⟨_,φ,_,ds,w',List.mem_map.2 ⟨y,hy,rfl⟩,.one (go_value ho hw (.inr fun c e=>?_) h2),?_,hE⟩
    ·rw [hop] at e;cases e
    ·simp only [h0A,s9]
     exact s.put (.refl _) hcon hR' _
   ·cases he
  ·cases he
 ·split at he
  ·rename_i c hc
   unfold t0t at he
   split at he
   ·rename_i n h1 hr
    have hs:=k0n (ds:=ds) hc hr s.glob s.act s.rel
    have hd:(∀ d,n≠.defer d)→b.roundOf=none∨∀ c,o.op≠.defer c:=fun hn=>.inr fun call e=>by
     obtain ⟨d,e⟩:=h08 e hc hr
     exact hn d e
    split at he
    ·rename_i v
     cases he
     obtain ⟨v',w',φ',h2,h3,h4,h5⟩:=hs
     refine ⟨_,φ',_,ds,w',List.mem_singleton.2 rfl,.one (go_value ho hw (hd (by simp)) h2),?_,h5⟩
     simp only [h0A,s9]
     exact s.put h5.le h3 h4 _
    ·cases he
     obtain ⟨w',h2,h4,h5⟩:=hs
     exact ⟨_,φ,_,ds,w',List.mem_singleton.2 rfl,.one (go_opskip ho hw (hd (by simp)) h2),s.put (.refl _) X5 h4 _,h5⟩
    ·rename_i d
     cases hrd:a.rd with
     | true=>rw [hrd] at he;cases he
     | false =>
      rw [hrd] at he;cases he
      obtain ⟨rfl,d',hd',h2⟩:=hs
      have hb:b.roundOf=none:=by have:=s.rd;rw [hrd] at this;cases hb:b.roundOf with
       | none=>rfl
       | some l=>rw [hb] at this;cases this
      refine ⟨_,φ,_,_,w,List.mem_singleton.2 rfl,.one (go_defer ho hw hb h2),?_,.refl _ _⟩
      have s2:St P B w0 φ (⟨a.n,a.ts,d::a.ds,false⟩:AAct) h1 b.roundOf.isSome tm (d'::ds) w:=⟨⟨s.act.size,s.act.val⟩,.cons hd' s.defs,s.rel,s.glob,by rw [hb];rfl⟩
      exact s2.put (.refl _) X5 s.rel _
    ·rename_i f args
     obtain ⟨rfl,args',hargs,h2⟩:=hs
     split at he
     ·rename_i r hcall
      cases he
      obtain ⟨hen,hK⟩:=hC _ _ _ _ hcall φ w args' hargs s.glob s.rel
      obtain ⟨v',w',fr,fn,⟨v,h3,φ',hm,c1,c2,c3⟩,hst,e1,e2,e3,e4,e5,e6⟩:=hK (mk b tm ds (.inRegion ops (i::rest)::k)::cs)
      rw [hen] at h2
      refine ⟨_,φ',i0W tm o.dst v',ds,w',List.mem_map.2 ⟨_,hm,rfl⟩,.head (go_enter ho hw (hd (by simp)) h2) (hst.trans (.one ?_)),?_,c3⟩
      ·rw [← a0K ho]
       exact go_leave e2 e3 e4 e5 e6
      ·simp only [h0A,s9]
       exact s.put c3.le c1 c2 _
     ·cases he
    ·rename_i f args
     obtain ⟨rfl,p,args',hp,hargs,h2⟩:=hs
     split at he
     ·rename_i r hcall
      cases he
      obtain ⟨fn,tmps,assign,body,hy,hK⟩:=hY _ _ _ _ hcall φ w p args' hp hargs s.glob s.rel
      obtain ⟨v,h3,v',φ',w',hm,hst,c1,c2,c3⟩:=hK (mk b tm ds (.inRegion ops (i::rest)::k)) cs
      rw [hy] at h2
      refine ⟨_,φ',i0W tm o.dst v',ds,w',List.mem_map.2 ⟨_,hm,rfl⟩,.head (go_round ho hw (hd (by simp)) h2) ?_,?_,c3⟩
      ·rw [← a0K ho]
       exact hst
      ·simp only [h0A,s9]
       exact s.put c3.le c1 c2 _
     ·cases he
   ·cases he
  ·cases he
theorem j07 {call:K8} (hC:d0L P B w0 call) (hY:c00 P B w0 call) {ops:Array Oper} {b:Frame} (k:List Item) (cs:List Frame) :
  ∀ (l:List Oper) (is:List Nat) (a:AAct) (r:List (AAct×AH)) (h:AH) (φ:Phi) (tm:Array Value) (ds:List Deferred) (w:World),is.map (ops[·]?)=l.map some→a0m P call ops l a h=.ok r →
   St P B w0 φ a h b.roundOf.isSome tm ds w→∃ x φ' tm' ds' w',x ∈ r∧Steps P (lone (mk b tm ds (.inRegion ops is::k)) cs w) (lone (mk b tm' ds' k) cs w') ∧
    St P B w0 φ' x.1 x.2 b.roundOf.isSome tm' ds' w'∧Ext φ h φ' x.2
 | [],is,a,r,h,φ,tm,ds,w,hl,he,s=>by
  have:is=[]:=by simpa using hl
  subst this
  cases he
  exact ⟨_,φ,tm,ds,w,List.mem_singleton.2 rfl,.one go_regionEnd,s,.refl _ _⟩
 | o::l,is,a,r,h,φ,tm,ds,w,hl,he,s=>by
  cases is with
  | nil=>simp at hl
  | cons i rest =>
   simp only [List.map_cons,List.cons.injEq] at hl
   obtain ⟨ho,hl⟩:=hl
   simp only [a0m] at he
   split at he
   ·rename_i hw
    split at he
    ·rename_i r1 h2
     obtain ⟨x,φ1,tm1,ds1,w1,hx,st1,s1,e1⟩:=t0s hC hY h2 s ho (X6 s.act hw) k cs (rest:=rest)
     obtain ⟨r2,h3,h4⟩:=T6 he x hx
     obtain ⟨y,φ2,tm2,ds2,w2,hy,st2,s2,e2⟩:=j07 hC hY k cs l rest _ _ _ _ _ _ _ hl h3 s1
     exact ⟨y,φ2,tm2,ds2,w2,h4 _ hy,st1.trans st2,s2,e1.trans e2⟩
    ·cases he
   ·rename_i hw
    have s1:=s.put (.refl _) X5 s.rel o.dst
    obtain ⟨y,φ2,tm2,ds2,w2,hy,st2,s2,e2⟩:=j07 hC hY k cs l rest _ _ _ _ _ _ _ hl he s1
    exact ⟨y,φ2,tm2,ds2,w2,hy,.head (go_unwanted ho (X6 s.act hw)) st2,s2,e2⟩
   ·cases he
def CodeDOk (P:Program) (B:Nat) (w0:World) (f:AAct→AH→XD) (it:Item):Prop :=
 ∀ a h r,f a h=.ok r→∀ φ b tm ds w,St P B w0 φ a h (Option.isSome (Frame.roundOf b)) tm ds w→∀ k cs,
  ∃ x φ' tm' ds' w',x ∈ r∧Arr P (lone (mk b tm ds (it::k)) cs w) b k cs tm' ds' w' x.1∧St P B w0 φ' x.2.1 x.2.2 b.roundOf.isSome tm' ds' w'∧Ext φ h φ' x.2.2
theorem CodeDOk.of_one {f:AAct→AH→R (AX×AAct×AH)} {it:Item} (hf:p03 P B w0 f it):CodeDOk P B w0 (fun a h=>m0r (f a h)) it:=by
 intro a h r he φ b tm ds w s k cs
 obtain ⟨x,h1,rfl⟩:=l0U he
 obtain ⟨φ',tm',ds',w',h2⟩:=hf a h x.1 x.2.1 x.2.2 h1 φ b tm ds w s k cs
 exact ⟨x,φ',tm',ds',w',List.mem_singleton.2 rfl,h2⟩
theorem m0n {f:AAct→AH→XD} {c:Code} (hf:CodeDOk P B w0 f (.code c)):∀ n a h r,a0d f n a h=.ok r →
  ∀ φ b tm ds w,St P B w0 φ a h (Option.isSome (Frame.roundOf b)) tm ds w→∀ k cs,
  ∃ x φ' tm' ds' w',x ∈ r∧Arr P (lone (mk b tm ds (.code c::.inLoop c::k)) cs w) b k cs tm' ds' w' x.1∧St P B w0 φ' x.2.1 x.2.2 b.roundOf.isSome tm' ds' w'∧Ext φ h φ' x.2.2
 | 0=>fun a h r he=>by cases he
 | n+1=>fun a h r he φ b tm ds w s k cs=>by
  simp only [a0d] at he
  split at he
  ·rename_i r1 hb
   obtain ⟨⟨x,a1,h1⟩,φ1,tm1,ds1,w1,hx,r1',s1,e1⟩:=hf _ _ _ hb φ b tm ds w s (.inLoop c::k) cs
   obtain ⟨r2,h3,h4⟩:=T6 he _ hx
   cases x with
   | normal =>
    simp only at h3 r1' s1 e1
    obtain ⟨y,φ2,tm2,ds2,w2,hy,r2',s2,e2⟩:=m0n hf n _ _ _ h3 φ1 b tm1 ds1 w1 s1 k cs
    exact ⟨y,φ2,tm2,ds2,w2,h4 _ hy,.of_steps (Steps.trans r1' (.one go_inLoop)) r2',s2,e1.trans e2⟩
   | exit i =>
    cases h3
    exact ⟨_,φ1,tm1,ds1,w1,h4 _ (List.mem_singleton.2 rfl),.pass (fun id _=>rfl) (by simp) r1',s1,e1⟩
   | ret =>
    cases h3
    exact ⟨_,φ1,tm1,ds1,w1,h4 _ (List.mem_singleton.2 rfl),.pass (fun id _=>rfl) (by simp) r1',s1,e1⟩
   | goto i=>exact r1'.elim
  ·cases he
theorem w07 {b:Frame} {tm:Array Value} {ds:List Deferred} {k:List Item} {cs:List Frame} {a:AAct} {did:Nat} {h3:AH} {x:AX×AAct×AH} (he:h0H did a h3=.ok x) {m:Machine} {p:Pl} {d:Deferred}
  (s:St P B w0 φ ⟨a.n,a.ts,.collected did::a.ds,a.rd⟩ h3 b.roundOf.isSome tm (d::ds) w) (hp:φ (did+1)=some p)
  (hst:Steps P m (lone (mk b tm (d::ds) (.endRangeFunc p.blk::k)) cs w)) :
  ∃ w',Arr P m b k cs tm (d::ds) w' x.1∧St P B w0 φ x.2.1 x.2.2 b.roundOf.isSome tm (d::ds) w'∧Ext φ h3 φ x.2.2:=by
 unfold h0H at he
 split at he
 ·rename_i r hg
  obtain ⟨r',hr1,hr2⟩:=(s.rel.obj _ _ _ hp hg).loop_get
  have key:r.state≠.busy→∀ y,(∀ w1,Steps P (lone (mk b tm (d::ds) ((r.pending.map Item.code).toList++k)) cs w1) (lone (mk b tm (d::ds) ((r.pending.map Item.code).toList++k)) cs w1) →
     Arr P (lone (mk b tm (d::ds) ((r.pending.map Item.code).toList++k)) cs w1) b k cs tm (d::ds) w1 y) →
    ∃ w',Arr P m b k cs tm (d::ds) w' y∧St P B w0 φ ⟨a.n,a.ts,.collected did::a.ds,a.rd⟩ (h3.set (did+1) (.loop { r with state:=.exhausted })) b.roundOf.isSome tm (d::ds) w' ∧
     Ext φ h3 φ (h3.set (did+1) (.loop { r with state:=.exhausted })):=by
   intro hbusy y hy
   have s2:=go_endLoop (P:=P) (b:=b) (tm:=tm) (ds:=d::ds) (k:=k) (cs:=cs) hr1 (by rw [hr2.state];exact hbusy)
   rw [hr2.pending] at s2
   exact ⟨_,.of_steps (hst.trans (.one s2)) (hy _ (.refl _ _)),⟨s.act,s.defs,s.rel.putLoop hp hg hr2 .exhausted r.pending,s.glob,s.rd⟩,.write hp _⟩
  split at he
  ·cases he
  ·rename_i hbusy
   split at he
   ·rename_i hpd;cases he
    exact key hbusy .normal (fun w1 st=>by rw [hpd] at st ⊢;exact st)
   ·rename_i hpd;cases he
    exact key hbusy .ret (fun w1 st=>by rw [hpd] at st ⊢;exact ⟨k,st⟩)
   ·rename_i id hpd;cases he
    exact key hbusy (.exit id) (fun w1 st=>by rw [hpd] at st ⊢;exact ⟨k,rfl,st⟩)
   ·cases he
 ·cases he
theorem w08 {call:K8} (hC:d0L P B w0 call) {f:Operand} {c:CO} {params:Array Tmp} {assign body:Code} (hf:cO P f=.ok c) :
  CodeDOk P B w0 (fun a h=>i03 call (c.ev a) params assign body a h) (.code (.rangeFunc f params assign body)):=by
 intro a h r he φ b tm ds w s k cs
 have hv:=H0 (ds:=ds) hf s.glob s.act
 simp only [i03] at he
 split at he
 ·rename_i g first captured hfv
  cases hrd:a.rd with
  | true=>rw [hrd] at he;cases he
  | false =>
   rw [hrd] at he
   simp only [cond_false,s8] at he
   have hb:b.roundOf=none:=by have:=s.rd;rw [hrd] at this;cases hb:b.roundOf with
    | none=>rfl
    | some l=>rw [hb] at this;cases this
   rw [hfv] at hv
   generalize hev:Act.eval ⟨tm,ds⟩ f=fv at hv
   cases hv with
   | @func _ _ _ first' captured' h1 h2 =>
    have R1:=s.rel.push (room:=0) (o:=.deferred (some [])) (O:=.deferred (some [])) (a0J _ _)
    have X1:=Ext.push s.rel (.deferred (some [])) ⟨w.heap.size,0,0⟩
    generalize hφ1:φ.set h.next ⟨w.heap.size,0,0⟩=φ1 at R1 X1
    have g1:φ1 h.next=some ⟨w.heap.size,0,0⟩:=by rw [← hφ1];exact Phi.set_same _ _ _
    generalize hL:({ state:=.ready,pending:=none,n:=a.n,tmps:=a.ts,params,assign,body }:ALoop)=L at he
    generalize hL':({ state:=.ready,pending:=none,fn:=b.fn,tmps:=tm,params,assign,body,defers:=w.heap.size }:Loop)=L'
    have hLR:∀ ψ:Phi,φ.le ψ→LoopRel ψ L L':=fun ψ hle=>by
     subst hL hL'
     exact ⟨rfl,rfl,rfl,rfl,rfl,s.act.size,fun i=>(s.act.val i).mono hle⟩
    have R2:=R1.push (room:=0) (o:=.loop L) (O:=.loop L') ⟨L',a0J _ _,hLR _ (X1.le.trans (Phi.le_set _ R1.fresh))⟩
    have X2:=Ext.push R1 (.loop L) ⟨(w.alloc (.deferred (some []))).heap.size,0,0⟩
    rw [World.size_alloc] at R2 X2
    rw [AH.next_push] at R2 X2
    generalize hφ2:φ1.set (h.next+1) ⟨w.heap.size+1,0,0⟩=φ2 at R2 X2
    have g2:φ2 (h.next+1)=some ⟨w.heap.size+1,0,0⟩:=by rw [← hφ2];exact Phi.set_same _ _ _
    have X:=X1.trans X2
    split at he
    ·rename_i rl hcall
     have hargs:ConL φ2 (first++(.func (.yield (h.next+1)) [] []::captured)) (first'++(.func (.yield (w.heap.size+1)) #[] #[]::captured')) :=
      (h1.mono X.le).append (.cons (.yield g2) (h2.mono X.le))
     obtain ⟨hen,hK⟩:=hC _ _ _ _ hcall φ2 _ _ hargs (s.glob.mono X.le) R2
     have e:(⟨first'++(.func (.yield (w.heap.size+1)) #[] #[]::captured')⟩:Array Value)=⟨first'⟩++#[.func (.yield (w.heap.size+1)) #[] #[]]++⟨captured'⟩:=by simp
     rw [e] at hK hen
     obtain ⟨v',w3,fr,fn,⟨v3,h3,φ3,hm,c1,R3,X3⟩,hst,e1,e2,e3,e4,e5,e6⟩:=hK (mk b tm ({ target:=.collected w.heap.size,args:=#[] }::ds) (.inRangeFunc (w.heap.size+1)::k)::cs)
     have s0:=go_rangeFunc (P:=P) (k:=k) (cs:=cs) (params:=params) (assign:=assign) (body:=body) hb hev rfl (by rw [hL'];exact hen _)
     rw [hL'] at s0
     have s1:=Steps.head s0 (hst.trans (.one (go_leave e2 e3 e4 e5 e6)))
     rw [show (mk b tm ({ target:=.collected w.heap.size,args:=#[] }::ds) (.inRangeFunc (w.heap.size+1)::k)).finish v'=mk b tm ({ target:=.collected w.heap.size,args:=#[] }::ds) (.endRangeFunc (w.heap.size+1)::k) from rfl] at s1
     obtain ⟨r2,h4,h5⟩:=T6 he _ hm
     obtain ⟨x,h6,rfl⟩:=l0U h4
     have hp3:φ3 (h.next+1)=some ⟨w.heap.size+1,0,0⟩:=X3.le _ _ g2
     have s3:St P B w0 φ3 ⟨a.n,a.ts,.collected h.next::a.ds,a.rd⟩ h3 b.roundOf.isSome tm ({ target:=.collected w.heap.size,args:=#[] }::ds) w3 :=
      ⟨⟨s.act.size,fun i=>((s.act.val i).mono X.le).mono X3.le⟩,.cons (.collected (X3.le _ _ (X2.le _ _ g1))) ((s.defs.mono X.le).mono X3.le),R3,(s.glob.mono X.le).mono X3.le,s.rd⟩
     obtain ⟨w4,a4,s4,e4'⟩:=w07 (k:=k) (cs:=cs) h6 s3 hp3 s1
     exact ⟨x,φ3,tm,_,w4,h5 _ (List.mem_singleton.2 rfl),a4,s4,(X.trans X3).trans e4'⟩
    ·cases he
 ·cases he
theorem O4 {call:K8} {lf:Nat} (hM:P.follows .mixedOrders=true) (hC:d0L P B w0 call) (hY:c00 P B w0 call):∀ c:Code,CodeDOk P B w0 (m6 P call lf c) (.code c)
 | .skip=>.of_one (D3 hM (L1 hC) (G8 hY) (d0K (L1 hC) (G8 hY)) _)
 | .label _=>.of_one (D3 hM (L1 hC) (G8 hY) (d0K (L1 hC) (G8 hY)) _)
 | .exit id=>.of_one (D3 hM (L1 hC) (G8 hY) (d0K (L1 hC) (G8 hY)) _)
 | .ret=>.of_one (D3 hM (L1 hC) (G8 hY) (d0K (L1 hC) (G8 hY)) _)
 | .goto _=>.of_one (D3 hM (L1 hC) (G8 hY) (d0K (L1 hC) (G8 hY)) _)
 | .refuse _=>.of_one (D3 hM (L1 hC) (G8 hY) (d0K (L1 hC) (G8 hY)) _)
 | .region id ops draw=>fun a h r he φ b tm ds w s k cs=>by
  simp only [m6] at he
  split at he
  ·split at he
   ·rename_i a1 h1 h2
    cases he
    obtain ⟨φ1,tm1,ds1,w1,st1,s1,e1⟩:=d0K (L1 hC) (G8 hY) _ _ _ _ _ h2 φ b tm ds w.drew ⟨s.act,s.defs,s.rel.drew,s.glob,s.rd⟩ (w.tape w.drawn (.order b.fn id)) k cs
    refine ⟨_,φ1,tm1,ds1,w1,List.mem_singleton.2 rfl,.head go_region_draw ?_,s1,e1⟩
    rw [hM]
    exact st1
   ·cases he
  ·split at he
   ·rename_i r1 h2
    cases he
    have hl:(List.range ops.size).map (ops[·]?)=ops.toList.map some:=by
     apply List.ext_getElem
     ·simp
     ·intro i h1 h2
      simp at h1
      simp [h1]
    obtain ⟨x,φ1,tm1,ds1,w1,hx,st1,s1,e1⟩:=j07 hC hY k cs _ _ _ _ _ _ _ _ _ hl h2 s
    exact ⟨_,φ1,tm1,ds1,w1,List.mem_map.2 ⟨x,hx,rfl⟩,.head go_region st1,s1,e1⟩
   ·cases he
 | .seq x y=>fun a h r he φ b tm ds w s k cs=>by
  simp only [m6] at he
  split at he
  ·rename_i r1 hx
   obtain ⟨⟨z,a1,h1⟩,φ1,tm1,ds1,w1,hz,r1',s1,e1⟩:=O4 hM hC hY x _ _ _ hx φ b tm ds w s (.code y::k) cs
   obtain ⟨r2,h3,h4⟩:=T6 he _ hz
   cases z with
   | normal =>
    simp only at h3 r1' s1 e1
    obtain ⟨u,φ2,tm2,ds2,w2,hu,r2',s2,e2⟩:=O4 hM hC hY y _ _ _ h3 φ1 b tm1 ds1 w1 s1 k cs
    exact ⟨u,φ2,tm2,ds2,w2,h4 _ hu,.of_steps (.head go_seq r1') r2',s2,e1.trans e2⟩
   | exit i =>
    cases h3
    exact ⟨_,φ1,tm1,ds1,w1,h4 _ (List.mem_singleton.2 rfl),.pass (fun id _=>rfl) (by simp) (.of_steps (.one go_seq) r1'),s1,e1⟩
   | ret =>
    cases h3
    exact ⟨_,φ1,tm1,ds1,w1,h4 _ (List.mem_singleton.2 rfl),.pass (fun id _=>rfl) (by simp) (.of_steps (.one go_seq) r1'),s1,e1⟩
   | goto i=>exact r1'.elim
  ·cases he
 | .cond c x y=>fun a h r he φ b tm ds w s k cs=>by
  simp only [m6] at he
  split at he
  ·rename_i cc hc
   have hv:=H0 (ds:=ds) hc s.glob s.act
   split at he
   ·rename_i hb
    rw [hb] at hv
    generalize hev:Act.eval ⟨tm,ds⟩ c=v at hv
    cases hv
    obtain ⟨z,φ1,tm1,ds1,w1,hz,r1,s1,e1⟩:=O4 hM hC hY x _ _ _ he φ b tm ds w s k cs
    exact ⟨z,φ1,tm1,ds1,w1,hz,.of_steps (.one (go_cond hev)) r1,s1,e1⟩
   ·rename_i hb
    rw [hb] at hv
    generalize hev:Act.eval ⟨tm,ds⟩ c=v at hv
    cases hv
    obtain ⟨z,φ1,tm1,ds1,w1,hz,r1,s1,e1⟩:=O4 hM hC hY y _ _ _ he φ b tm ds w s k cs
    exact ⟨z,φ1,tm1,ds1,w1,hz,.of_steps (.one (go_cond hev)) r1,s1,e1⟩
   ·cases he
  ·cases he
 | .block id c=>fun a h r he φ b tm ds w s k cs=>by
  simp only [m6] at he
  split at he
  ·rename_i r0 hx
   cases he
   obtain ⟨⟨z,a1,h1⟩,φ1,tm1,ds1,w1,hz,r1,s1,e1⟩:=O4 hM hC hY c _ _ _ hx φ b tm ds w s (.inBlock id::k) cs
   refine ⟨_,φ1,tm1,ds1,w1,List.mem_map.2 ⟨_,hz,rfl⟩,?_⟩
   cases z with
   | normal=>exact ⟨.head go_block (Steps.trans r1 (.one go_inBlock)),s1,e1⟩
   | exit i =>
    obtain ⟨k1,hk1,r1⟩:=r1
    simp only at s1 e1 ⊢
    cases hb:Nat.beq i id with
    | true =>
     have:i=id:=Nat.eq_of_beq_eq_true hb
     subst this
     simp only [cond_true]
     exact ⟨.head go_block (r1.trans (.one (go_exit (by rw [hk1];simp [exitTo])))),s1,e1⟩
    | false =>
     have hne:id≠i:=fun e=>by subst e;rw [Nat.beq_refl] at hb;cases hb
     simp only [cond_false]
     exact ⟨⟨k1,by rw [hk1];simp [exitTo,hne],.head go_block r1⟩,s1,e1⟩
   | ret=>exact ⟨.of_steps (.one go_block) (.pass (fun id e=>by cases e) (by simp) r1),s1,e1⟩
   | goto l=>exact r1.elim
  ·cases he
 | .loop c=>fun a h r he φ b tm ds w s k cs=>by
  simp only [m6] at he
  obtain ⟨z,φ1,tm1,ds1,w1,hz,r1,s1,e1⟩:=m0n (O4 hM hC hY c) lf _ _ _ he φ b tm ds w s k cs
  exact ⟨z,φ1,tm1,ds1,w1,hz,.of_steps (.one go_loop) r1,s1,e1⟩
 | .scope c=>fun a h r he φ b tm ds w s k cs=>by
  simp only [m6] at he
  split at he
  ·rename_i r0 hx
   cases he
   obtain ⟨⟨z,a1,h1⟩,φ1,tm1,ds1,w1,hz,r1,s1,e1⟩:=O4 hM hC hY c _ _ _ hx φ b tm ds w s (.inScope c::k) cs
   refine ⟨_,φ1,tm1,ds1,w1,hz,?_,s1,e1⟩
   cases z with
   | normal=>exact .head go_scope (Steps.trans r1 (.one go_inScope))
   | exit i=>exact .of_steps (.one go_scope) (.pass (fun id _=>rfl) (by simp) r1)
   | ret=>exact .of_steps (.one go_scope) (.pass (fun id _=>rfl) (by simp) r1)
   | goto l=>exact r1.elim
  ·cases he
 | .rangeFunc f params assign body=>fun a h r he=>by
  simp only [m6] at he
  split at he
  ·rename_i cc hc
   exact w08 hC hc _ _ _ he
  ·cases he
end Go.Dr

namespace Go.Dr
open Go.RowKit
variable {P:Program} {B:Nat} {w0 w w':World} {φ:Phi} {h h':AH}
theorem e0x {call:K8} (hC:t0r P B w0 call) {b:Frame} {tm:Array Value} {todo:List Item} {cs:List Frame} :
  ∀ (l:List ADef) (h:AH) (r:List AH) (φ:Phi) (ds:List Deferred) (w:World),D8 call l h=.ok r→DefsR φ l ds→Rel B w0 φ h w→GlobRel P φ →
   ∃ h' φ' w',h' ∈ r∧Steps P (lone (lv b tm ds todo) cs w) (lone (lv b tm [] todo) cs w')∧Rel B w0 φ' h' w'∧Ext φ h φ' h'
 | [],h,r,φ,ds,w,he,hd,hR,hG=>by
  cases he;cases hd
  exact ⟨_,φ,w,List.mem_singleton.2 rfl,.refl _ _,hR,.refl _ _⟩
 | d::l,h,r,φ,ds,w,he,hd,hR,hG=>by
  cases hd with
  | @cons _ d' _ ds hd1 hd2 =>
   simp only [D8] at he
   cases hd1 with
   | @collected id p hp =>
    simp only at he
    split at he
    ·rename_i hg
     have ho:w.heap[p.blk]? = some (.deferred (some [])):=hR.obj _ _ _ hp hg
     have R1:=hR.putObj (O:=.deferred none) (o':=.deferred none) hp hg rfl rfl (World.putObj_heap_same (Array.getElem?_eq_some_iff.1 ho).1)
     obtain ⟨h2,φ2,w2,hm,st,R2,X2⟩:=e0x hC (b:=b) (tm:=tm) (todo:=todo) (cs:=cs) l _ _ _ _ _ he hd2 R1 hG
     exact ⟨h2,φ2,w2,hm,.head (go_collected ho) st,R2,(Ext.write hp _).trans X2⟩
    ·cases he
   | @call f c a c' a' hc ha =>
    simp only [b0d] at he
    split at he
    ·rename_i r1 hcall
     obtain ⟨hen,hK⟩:=hC _ _ _ _ hcall φ w _ (ha.append hc) hG hR
     have e:(⟨a'++c'⟩:Array Value)=⟨a'⟩++⟨c'⟩:=by simp
     rw [e] at hK hen
     obtain ⟨v',w3,fr,fn,⟨v,h3,φ3,hm,c1,R3,X3⟩,hst,e1,e2,e3,e4,e5,e6⟩:=hK (lv b tm ds todo::cs)
     obtain ⟨r2,h4,h5⟩:=T6 he _ hm
     obtain ⟨h2,φ2,w2,hm2,st,R2,X2⟩:=e0x hC (b:=b) (tm:=tm) (todo:=todo) (cs:=cs) l _ _ _ _ _ h4 (hd2.mono X3.le) R3 (hG.mono X3.le)
     exact ⟨h2,φ2,w2,h5 _ hm2,.head (go_deferred (hen _)) (hst.trans (.head (go_leaveDeferred e2 e3 e4 rfl e5 e6) st)),R2,X3.trans X2⟩
    ·cases he
theorem A08 {call dcall:K8} {lf:Nat} {kind:CallKind} (hF:t0r P B w0 dcall) (hM:P.follows .mixedOrders=true) (hC:d0L P B w0 call) (hY:c00 P B w0 call) {f:FuncId} {fn:Func} {c:Code} {args:List AV} {r:List (AV×AH)} (hf:P.funcs[f]? = some fn) (hb:fn.body=some c)
  (hn:args.length≤fn.ntmps) (he:b0D P dcall fn (m6 P call lf c ⟨fn.ntmps,laid args 0 .leaf,[],false⟩ h)=.ok r) {args':List Value} (ha:ConL φ args args') (hG:GlobRel P φ) (hR:Rel B w0 φ h w) :
  CallsK P kind f ⟨args'⟩ w (fun v' w'=>∃ v h' φ',(v,h') ∈ r∧Con φ' v v'∧Rel B w0 φ' h' w'∧Ext φ h φ' h'):=by
 intro cs
 unfold b0D at he
 split at he
 ·rename_i xs hcode
  have s0:St P B w0 φ ⟨fn.ntmps,laid args 0 .leaf,[],false⟩ h (Option.isSome (Frame.roundOf { (default:Frame) with fn:=f,kind:=kind,roundOf:=none })) _ [] w :=
   ⟨o05 ha hn,.nil,hR,hG,rfl⟩
  obtain ⟨⟨x,a1,h1⟩,φ1,tm1,ds1,w1,hx,r1,s1,e1⟩:=O4 hM hC hY c _ _ _ hcode φ _ _ _ w s0 [] cs
  obtain ⟨r2,hl,hsub⟩:=T6 he _ hx
  have henter:Frame.enter P f ⟨args'⟩ kind=mk { (default:Frame) with fn:=f,kind:=kind,roundOf:=none } ((⟨args'⟩:Array Value)++Array.replicate (fn.ntmps - (⟨args'⟩:Array Value).size) undef) [] [.code c]:=by
   simp [Frame.enter,mk,hf,hb]
  rw [← henter] at r1
  simp only at r1 s1 e1
  have key:(∃ todo,Steps P (lone (Frame.enter P f ⟨args'⟩ kind) cs w) (lone (lv { (default:Frame) with fn:=f,kind:=kind,roundOf:=none } tm1 ds1 todo) cs w1)) →
    (match D8 dcall a1.ds h1 with
     | .ok l=>a0N (fun h=>match K0 P h a1 fn.results.toList with
      | .ok l=>(.ok [(b0n l,h)]:RL (AV×AH))
      | .error e=>.error (fn.name++": "++e)) l
     | .error e=>.error (fn.name++": "++e))=.ok r2 →
    ∃ v' w' fr fn',(∃ v h' φ',(v,h') ∈ r∧Con φ' v v'∧Rel B w0 φ' h' w'∧Ext φ h φ' h')∧Steps P (lone (Frame.enter P f ⟨args'⟩ kind) cs w) (lone fr cs w') ∧
     fr.fn=f∧fr.mode=.returning∧fr.defers=[]∧fr.kind=kind∧P.funcs[fr.fn]? = some fn'∧(results fn' fr.tmps).run P w'=.ok v' w':=by
   rintro ⟨todo,hst⟩ hl
   split at hl
   ·rename_i hs hrd
    obtain ⟨h2,φ2,w2,hm,st,R2,X2⟩:=e0x hF (b:={ (default:Frame) with fn:=f,kind:=kind,roundOf:=none }) (tm:=tm1) (todo:=todo) (cs:=cs) _ _ _ _ _ _ hrd s1.defs s1.rel s1.glob
    obtain ⟨r3,h3,h4⟩:=T6 hl _ hm
    split at h3
    ·rename_i vs hvs
     cases h3
     obtain ⟨v',hv1,hv2⟩:=l0i (s1.act.mono X2.le) R2 hvs
     exact ⟨v',w2,_,fn,⟨_,h2,φ2,hsub _ (h4 _ (List.mem_singleton.2 rfl)),hv2,R2,e1.trans X2⟩,hst.trans st,rfl,rfl,rfl,rfl,hf,hv1⟩
    ·cases h3
   ·cases hl
  unfold f0e at hl
  cases x with
  | normal=>exact key ⟨_,Steps.trans r1 (.one (go_end rfl))⟩ hl
  | ret =>
   obtain ⟨k1,r1⟩:=r1
   exact key ⟨_,Steps.trans r1 (.one (go_ret rfl))⟩ hl
  | exit i=>cases hl
  | goto i=>cases hl
 ·cases he
theorem w0A {call:K8} {lf:Nat} (hM:P.follows .mixedOrders=true) (hC:d0L P B w0 call) (hY:c00 P B w0 call) {l:Nat} {r:ALoop} {args:List AV} {res:List (AV×AH)}
  (hg:h.get l=some (.loop r)) (he:c0r P call lf l r args h=.ok res) {p:Pl} {args':List Value} (hp:φ l=some p) (ha:ConL φ args args') (hG:GlobRel P φ) (hR:Rel B w0 φ h w) :
  ∃ fn tmps assign body,(Instr.yield p.blk ⟨args'⟩).run P w=.ok (.round p.blk fn tmps assign body) w ∧
   ∀ c cs,∃ v h' v' φ' w',(v,h') ∈ res∧Steps P (lone (Frame.round p.blk fn tmps assign body .normal) (c::cs) w) (lone (c.finish v') cs w')∧Con φ' v v'∧Rel B w0 φ' h' w'∧Ext φ h φ' h':=by
 obtain ⟨r',hr1,hr2⟩:=(hR.obj _ _ _ hp hg).loop_get
 unfold c0r at he
 cases hlen:Nat.beq args.length r.params.size with
 | false=>rw [hlen] at he;cases he
 | true =>
  rw [hlen] at he
  simp only [cond_true] at he
  have hlen:=Nat.eq_of_beq_eq_true hlen
  have hsz:(⟨args'⟩:Array Value).size=r'.params.size:=by rw [hr2.params,← hlen,ha.length];rfl
  refine ⟨_,_,_,_,run_yield hr1 hsz,fun c cs=>?_⟩
  rw [o06,hr2.params,hr2.assign,hr2.body]
  have hA0:ActRel φ ⟨r.n,r.tmps,[],true⟩ r'.tmps:=⟨hr2.size,fun i=>hr2.tmps i⟩
  obtain ⟨hA1,hds,hrd⟩:=f0o r.params.toList args args' _ _ hA0 ha
  generalize hb:({ (default:Frame) with fn:=r'.fn,kind:=.normal,roundOf:=some p.blk }:Frame)=b
  have s0:St P B w0 φ (E4 r.params.toList args ⟨r.n,r.tmps,[],true⟩) h b.roundOf.isSome _ [] w:=⟨hA1,by rw [hds];exact .nil,hR,hG,by rw [hrd];subst hb;rfl⟩
  generalize (List.foldl (fun tm (x:Tmp×Value)=>tm.setIfInBounds x.fst x.snd) r'.tmps (r.params.toList.zip args'))=tm0 at *
  have hround:Frame.round p.blk r'.fn tm0 r.assign r.body .normal=mk b tm0 [] (.code r.assign::[.beginRound,.code r.body]):=by subst hb;rfl
  split at he
  ·rename_i xs hassign
   obtain ⟨⟨x,a1,h1⟩,φ1,tm1,ds1,w1,hx,r1,s1,e1⟩:=O4 hM hC hY _ _ _ _ hassign φ b tm0 [] w s0 [.beginRound,.code r.body] (c::cs)
   rw [← hround] at r1
   simp only at r1 s1 e1
   obtain ⟨r2,hl,hsub⟩:=T6 he _ hx
   have hp1:=e1.le _ _ hp
   unfold O5 at hl
   cases x with
   | normal =>
    simp only at hl
    split at hl
    ·rename_i q hg1
     obtain ⟨q',hq1,hq2⟩:=(s1.rel.obj _ _ _ hp1 hg1).loop_get
     split at hl
     ·rename_i hst
      have hbr:b.roundOf=some p.blk:=by subst hb;rfl
      have hbk:b.kind=.normal:=by subst hb;rfl
      have st2:step P (lone (mk b tm1 ds1 [.beginRound,.code r.body]) (c::cs) w1)=.next (lone (mk b tm1 ds1 [.code r.body]) (c::cs) (w1.putObj p.blk (.loop { q' with state:=.busy }))) :=
       stepR_beginRound (a:=⟨tm1,ds1⟩) hbr (run_beginRound hq1 (by rw [hq2.state];exact hst))
      have hpe:q'.pending=q.pending:=hq2.pending
      have R2:Rel B w0 φ1 (h1.set l (.loop { q with state:=.busy })) (w1.putObj p.blk (.loop { q' with state:=.busy })):=by
       have:=s1.rel.putLoop hp1 hg1 hq2 .busy q.pending
       rw [show ({ q' with state:=.busy,pending:=q.pending }:Loop)={ q' with state:=.busy } from by rw [← hpe]] at this
       exact this
      have X2:Ext φ1 h1 φ1 (h1.set l (.loop { q with state:=.busy })):=.write hp1 _
      have s2:St P B w0 φ1 a1 (h1.set l (.loop { q with state:=.busy })) b.roundOf.isSome tm1 ds1 (w1.putObj p.blk (.loop { q' with state:=.busy })):=⟨s1.act,s1.defs,R2,s1.glob,s1.rd⟩
      have st3:=Steps.trans r1 (.one st2)
      split at hl
      ·rename_i ys hbody
       obtain ⟨⟨y,a2,h2⟩,φ3,tm3,ds3,w3,hy,r3,s3,e3⟩:=O4 hM hC hY _ _ _ _ hbody φ1 b tm1 ds1 _ s2 [] (c::cs)
       obtain ⟨r4,hl4,hsub4⟩:=T6 hl _ hy
       obtain ⟨z,hz,rfl⟩:=l0U hl4
       have hmem:=hsub _ (hsub4 _ (List.mem_singleton.2 rfl))
       simp only at r3 s3 e3
       unfold N9 at hz
       split at hz
       ·rename_i heq
        cases heq
        split at hz
        ·split at hz
         ·rename_i u hg2
          have hp3:=e3.le _ _ hp1
          obtain ⟨z',hz1,hz2⟩:=(s3.rel.obj _ _ _ hp3 hg2).loop_get
          have X:=e1.trans (X2.trans e3)
          split at hz
          ·cases hz
           exact ⟨_,_,.bool true,φ3,_,hmem,st3.trans (Steps.trans r3 (.one (stepR_round_end (a:=⟨tm3,ds3⟩) hbr hbk (run_endRound none hz1)))),.bool true,s3.rel.putLoop hp3 hg2 hz2 .ready none,X.trans (.write hp3 _)⟩
          ·cases hz
           obtain ⟨k1,r3⟩:=r3
           exact ⟨_,_,.bool false,φ3,_,hmem,st3.trans (Steps.trans r3 (.one (stepR_round_ret (a:=⟨tm3,ds3⟩) hbr hbk (run_endRound (some .ret) hz1)))),.bool false,s3.rel.putLoop hp3 hg2 hz2 .done (some .ret),X.trans (.write hp3 _)⟩
          ·rename_i id;cases hz
           obtain ⟨k1,hk1,r3⟩:=r3
           exact ⟨_,_,.bool false,φ3,_,hmem,st3.trans (Steps.trans r3 (.one (stepR_round_exit (a:=⟨tm3,ds3⟩) hbr hbk (by rw [hk1];rfl) (run_endRound (some (.exit id)) hz1)))),.bool false,s3.rel.putLoop hp3 hg2 hz2 .done (some (.exit id)),X.trans (.write hp3 _)⟩
          ·cases hz
         ·cases hz
        ·cases hz
       ·cases hz
      ·cases hl
     ·cases hl
    ·cases hl
   | exit i=>cases hl
   | ret=>cases hl
   | goto i=>cases hl
  ·cases he
structure View (base:Nat) (z y:AV×AH):Prop where
 val:z.1=y.1
 next:z.2.next=y.2.next
 old:∀ i,i<base→z.2.get i=y.2.get i
 new:∀ i o,i<y.2.next→z.2.get i=some o→y.2.get i=some o
theorem Rel.sub (r:Rel B w0 φ h w) {k:AH} (hn:k.next=h.next) (hs:∀ i o,i<h.next→k.get i=some o→h.get i=some o):Rel B w0 φ k w :=
 ⟨fun i p e=>by rw [hn];exact r.lt i p e,fun i p o e g=>r.obj i p o e (hs i o (r.lt i p e) g),fun i p o e g=>r.own i p o e (hs i o (r.lt i p e) g),
  fun i j p q oi oj hij e1 e2 g1 g2=>r.inj i j p q oi oj hij e1 e2 (hs _ _ (r.lt _ _ e1) g1) (hs _ _ (r.lt _ _ e2) g2),r.below,r.base⟩
end Go.Dr

namespace Go.Dr
open Go.RowKit
variable {P:Program}
def D7 (P:Program) (S:FuncId→Option (List AV→AH→R (AV×AH))) (lf:Nat):Nat→K8
 | 0,_,_,_=>.error "depth"
 | n+1,.fn f,args,h=>match S f with
  | some g=>m0r (g args h)
  | none=>match P.funcs[f]? with
   | some fn=>match fn.body with
    | some c=>bif Nat.ble args.length fn.ntmps
     then b0D P (a0n S (D7 P S lf n)) fn (m6 P (D7 P S lf n) lf c ⟨fn.ntmps,laid args 0 .leaf,[],false⟩ h) else .error "arguments"
    | none=>.error ("no body: "++fn.name)
   | none=>.error "no function"
 | n+1,.yield l,args,h=>match h.get l with
  | some (.loop r)=>c0r P (D7 P S lf n) lf l r args h
  | _=>.error "yield: no loop"
theorem m0s {B:Nat} {w0:World} {S:FuncId→Option (List AV→AH→R (AV×AH))} {lf:Nat} (hM:P.follows .mixedOrders=true) (hN:∀ (f:Nat) fn,P.funcs[f]? = some fn→fn.body.isSome=true→fn.name≠"runtime.NumGoroutine") (hS:g0u P B w0 S) :
  ∀ n,d0L P B w0 (D7 P S lf n)∧c00 P B w0 (D7 P S lf n)∧t0r P B w0 (a0n S (D7 P S lf n))
 | 0=>⟨fun f args h l e=>(by cases e),fun i args h l e=>(by cases e),fun f args h l e=>(by unfold a0n at e;simp only at e;split at e <;> cases e)⟩
 | n+1=>by
  obtain ⟨hC,hY,hF⟩:=m0s hM hN hS n
  have body:∀ (kind:CallKind) (f:FuncId) args h l,S f=none→D7 P S lf (n+1) (.fn f) args h=.ok l→FnD P B w0 kind f args h fun v h'=>(v,h') ∈ l:=by
   intro kind f args h l hs e
   unfold D7 at e
   rw [hs] at e
   simp only at e
   split at e
   ·rename_i fn hf
    split at e
    ·rename_i c hb
     cases hle:Nat.ble args.length fn.ntmps with
     | false=>rw [hle] at e;cases e
     | true =>
      rw [hle] at e
      simp only [cond_true] at e
      intro φ w args' ha hG hR
      exact ⟨fun w=>d0c hN hf (by rw [hb];rfl) w,A08 hF hM hC hY hf hb (Nat.le_of_ble_eq_true hle) e ha hG hR⟩
    ·cases e
   ·cases e
  refine ⟨fun f args h l e=>?_,fun i args h l e φ w p args' hp ha hG hR=>?_,fun f args h l e=>?_⟩
  ·cases hs:S f with
   | some g =>
    unfold D7 at e
    rw [hs] at e
    obtain ⟨⟨v,h'⟩,hx,rfl⟩:=l0U e
    intro φ w args' ha hG hR
    obtain ⟨h1,h2⟩:=hS _ _ hs _ _ _ _ hx _ _ _ ha hG hR
    refine ⟨h1,fun cs=>?_⟩
    obtain ⟨v',w',fr,fn,⟨φ',c⟩,r⟩:=h2 cs
    exact ⟨v',w',fr,fn,⟨v,h',φ',List.mem_singleton.2 rfl,c⟩,r⟩
   | none=>exact body _ _ _ _ _ hs e
  ·unfold D7 at e
   split at e
   ·rename_i r hg
    exact w0A hM hC hY hg e hp ha hG hR
   ·cases e
  ·unfold a0n at e
   simp only at e
   split at e
   ·cases e
   ·rename_i hs
    exact body _ _ _ _ _ hs e
variable {c c':K8}
def N4 (c c':K8):Prop:=∀ t args h r,c t args h=.ok r→c' t args h=.ok r
theorem E8 {α β:Type} {f g:α→RL β} (hf:∀ x r,f x=.ok r→g x=.ok r):∀ {l:List α} {s:List β},a0N f l=.ok s→a0N g l=.ok s
 | [],_,he=>he
 | a::l,s,he=>by
  simp only [a0N] at he ⊢
  split at he
  ·rename_i r hr
   split at he
   ·rename_i s' hs
    simp only [hf _ _ hr,E8 hf hs];exact he
   ·cases he
  ·cases he
theorem v0H (hc:N4 c c'):S7 (m0o c) (m0o c'):=by
 intro t args h r he
 have:=hc _ _ _ _ (q0c he)
 simp only [m0o,this]
theorem v0I (hc:N4 c c') {o:Oper} {a:AAct} {n:RN} {r:List (AAct×AH)} (he:t0t c o a n=.ok r):t0t c' o a n=.ok r:=by
 unfold t0t at he ⊢
 split at he
 ·split at he
  ·exact he
  ·exact he
  ·exact he
  ·split at he
   ·rename_i hcall;simp only [hc _ _ _ _ hcall];exact he
   ·cases he
  ·split at he
   ·rename_i hcall;simp only [hc _ _ _ _ hcall];exact he
   ·cases he
 ·cases he
theorem i04 (hc:N4 c c') {o:Oper} {a:AAct} {h:AH} {r:List (AAct×AH)} (he:b0C P c o a h=.ok r):b0C P c' o a h=.ok r:=by
 unfold b0C at he ⊢
 split at he
 ·exact he
 ·split at he
  ·exact v0I hc he
  ·cases he
theorem b0P (hc:N4 c c') {ops:Array Oper}:∀ (l:List Oper) {a:AAct} {h:AH} {r:List (AAct×AH)},a0m P c ops l a h=.ok r→a0m P c' ops l a h=.ok r
 | [],_,_,_,he=>he
 | o::l,a,h,r,he=>by
  simp only [a0m] at he ⊢
  split at he
  ·split at he
   ·rename_i hop;simp only [i04 hc hop];exact E8 (fun x r=>b0P hc l) he
   ·cases he
  ·exact b0P hc l he
  ·cases he
theorem c0s {b b':AAct→AH→XD} (hb:∀ a h r,b a h=.ok r→b' a h=.ok r):∀ {n n':Nat} {a:AAct} {h:AH} {r:List (AX×AAct×AH)},n≤n'→a0d b n a h=.ok r→a0d b' n' a h=.ok r
 | 0,_,_,_,_,_,he=>by cases he
 | n+1,0,_,_,_,hn,_=>absurd hn (by omega)
 | n+1,n'+1,a,h,r,hn,he=>by
  simp only [a0d] at he ⊢
  split at he
  ·rename_i hbody
   simp only [hb _ _ _ hbody]
   refine E8 (fun x r hr=>?_) he
   split at hr
   ·exact c0s hb (by omega) hr
   ·exact hr
  ·cases he
theorem t0u (hc:N4 c c') {f:AV} {params:Array Tmp} {assign body:Code} {a:AAct} {h:AH} {r:List (AX×AAct×AH)} (he:i03 c f params assign body a h=.ok r):i03 c' f params assign body a h=.ok r:=by
 unfold i03 at he ⊢
 split at he
 ·cases hb:a.rd with
  | true=>rw [hb] at he;cases he
  | false =>
   rw [hb] at he
   simp only [cond_false,s8] at he ⊢
   split at he
   ·rename_i hcall;simp only [hc _ _ _ _ hcall];exact he
   ·cases he
 ·cases he
theorem s7 (hc:N4 c c') {lf lf':Nat} (hl:lf≤lf'):∀ (k:Code) {a:AAct} {h:AH} {r:List (AX×AAct×AH)},m6 P c lf k a h=.ok r→m6 P c' lf' k a h=.ok r
 | .skip,_,_,_,he=>he
 | .label _,_,_,_,he=>he
 | .exit _,_,_,_,he=>he
 | .ret,_,_,_,he=>he
 | .goto _,_,_,_,he=>he
 | .refuse _,_,_,_,he=>he
 | .region _ ops draw,a,h,r,he=>by
  simp only [m6] at he ⊢
  cases draw with
  | true =>
   simp only at he ⊢
   split at he
   ·rename_i hop;simp only [d0T (v0H hc) hop];exact he
   ·cases he
  | false =>
   simp only at he ⊢
   split at he
   ·rename_i hop;simp only [b0P hc _ hop];exact he
   ·cases he
 | .seq x y,a,h,r,he=>by
  simp only [m6] at he ⊢
  split at he
  ·rename_i hx
   simp only [s7 hc hl x hx]
   refine E8 (fun x r hr=>?_) he
   split at hr
   ·exact s7 hc hl y hr
   ·exact hr
  ·cases he
 | .cond o x y,a,h,r,he=>by
  simp only [m6] at he ⊢
  split at he
  ·split at he
   ·exact s7 hc hl x he
   ·exact s7 hc hl y he
   ·cases he
  ·cases he
 | .block id k,a,h,r,he=>by
  simp only [m6] at he ⊢
  split at he
  ·rename_i hx;simp only [s7 hc hl k hx];exact he
  ·cases he
 | .loop k,a,h,r,he=>by
  simp only [m6] at he ⊢
  exact c0s (fun a h r=>s7 hc hl k) hl he
 | .scope k,a,h,r,he=>by
  simp only [m6] at he ⊢
  split at he
  ·rename_i hx;simp only [s7 hc hl k hx];exact he
  ·cases he
 | .rangeFunc f ps x y,a,h,r,he=>by
  simp only [m6] at he ⊢
  split at he
  ·exact t0u hc he
  ·cases he
theorem C3 (hc:N4 c c'):∀ (l:List ADef) {h:AH} {r:List AH},D8 c l h=.ok r→D8 c' l h=.ok r
 | [],_,_,he=>he
 | d::l,h,r,he=>by
  unfold D8 at he ⊢
  split at he
  ·split at he
   ·exact C3 hc l he
   ·cases he
  ·split at he
   ·split at he
    ·rename_i hcall;simp only [hc _ _ _ _ hcall];exact E8 (fun x r=>C3 hc l) he
    ·cases he
   ·cases he
   ·cases he
theorem q0e (hc:N4 c c') {fn:Func} {x y:XD} (hx:∀ r,x=.ok r→y=.ok r) {r:List (AV×AH)} (he:b0D P c fn x=.ok r):b0D P c' fn y=.ok r:=by
 unfold b0D at he
 split at he
 ·rename_i l
  rw [hx _ rfl]
  simp only [b0D]
  refine E8 (fun z r hr=>?_) he
  unfold f0e at hr ⊢
  split at hr
  ·split at hr
   ·rename_i hd;simp only [C3 hc _ hd];exact hr
   ·cases hr
  ·split at hr
   ·rename_i hd;simp only [C3 hc _ hd];exact hr
   ·cases hr
  ·cases hr
 ·cases he
theorem q0f (hc:N4 c c') {lf lf':Nat} (hl:lf≤lf') {l:Nat} {q:ALoop} {args:List AV} {h:AH} {r:List (AV×AH)} (he:c0r P c lf l q args h=.ok r):c0r P c' lf' l q args h=.ok r:=by
 unfold c0r at he ⊢
 cases hb:Nat.beq args.length q.params.size with
 | false=>rw [hb] at he;cases he
 | true =>
  rw [hb] at he
  simp only [cond_true] at he ⊢
  split at he
  ·rename_i hx
   simp only [s7 hc hl _ hx]
   refine E8 (fun z r hr=>?_) he
   unfold O5 at hr ⊢
   split at hr
   ·split at hr
    ·split at hr
     ·split at hr
      ·rename_i hbody;simp only [s7 hc hl _ hbody];exact hr
      ·cases hr
     ·cases hr
    ·cases hr
   ·cases hr
  ·cases he
theorem V7 {S:FuncId→Option (List AV→AH→R (AV×AH))} (hc:N4 c c'):N4 (a0n S c) (a0n S c'):=by
 intro t args h r he
 unfold a0n at he ⊢
 split at he
 ·split at he
  ·cases he
  ·exact hc _ _ _ _ he
 ·exact hc _ _ _ _ he
theorem X7 {S:FuncId→Option (List AV→AH→R (AV×AH))} {lf lf':Nat} (hl:lf≤lf'):∀ {n n':Nat},n≤n'→N4 (D7 P S lf n) (D7 P S lf' n')
 | 0,_,_=>fun t args h r he=>by cases t <;> cases he
 | n+1,0,hn=>absurd hn (by omega)
 | n+1,n'+1,hn=>fun t args h r he=>by
  have ih:=X7 (S:=S) hl (n:=n) (n':=n') (by omega)
  cases t with
  | fn f =>
   unfold D7 at he ⊢
   split at he
   ·exact he
   ·split at he
    ·split at he
     ·rename_i fn _ _ k _
      cases hb:Nat.ble args.length fn.ntmps with
      | false=>rw [hb] at he;cases he
      | true =>
       rw [hb] at he
       simp only [cond_true] at he ⊢
       exact q0e (V7 ih) (fun r hr=>s7 ih hl _ hr) he
     ·cases he
    ·cases he
  | yield l =>
   unfold D7 at he ⊢
   split at he
   ·exact q0f ih hl he
   ·cases he
end Go.Dr

namespace Go.Dr
open Go.RowKit
variable {P:Program} {c:F6} {d:K8}
def DSub (c:F6) (d:K8):Prop:=∀ t args h r,c t args h=.ok r→d t args h=.ok [r]
theorem DSub.one (hc:DSub c d):S7 c (m0o d):=fun t args h r he=>by simp only [m0o,hc _ _ _ _ he]
theorem M8 {α β:Type} {f:α→RL β} {x:α} {r:List β} (h:f x=.ok r):a0N f [x]=.ok r:=by
 simp only [a0N,h,List.append_nil]
theorem w0d {h:AH} {it:AV} {n:AN} {h':AH} (he:b0w h it false=.ok (n,h')):∃ v,n=.value v∧i02 h it=.ok [(v,h')]:=by
 unfold b0w at he
 split at he
 ·rename_i id
  simp only at he
  unfold p0s at he
  unfold i02
  split at he
  ·rename_i m since seen last hg
   simp only [hg]
   split at he
   ·cases he;exact ⟨_,rfl,rfl⟩
   ·rename_i m
    split at he
    ·rename_i es clock hgm
     simp only [hgm]
     split at he
     ·cases he
     ·rename_i hno
      rw [if_neg hno]
      split at he
      ·rename_i hf;cases he;refine ⟨_,rfl,?_⟩;simp only [hf]
      ·rename_i e hf
       split at he
       ·rename_i hlt
        cases he
        refine ⟨_,rfl,?_⟩
        simp only [hf]
        have:([e].all fun e=>Nat.blt e.born since)=true:=by simpa [Nat.blt_eq] using hlt
        simp only [this,if_true]
        rfl
       ·cases he
      ·cases he
    ·cases he
  ·cases he
 ·cases he
theorem t0Y (hc:DSub c d) {o:Oper} {a:AAct} {h:AH} {r:AAct×AH} (he:O9 P c o a h=.ok r):b0C P d o a h=.ok [r]:=by
 unfold O9 at he
 unfold b0C
 split
 ·rename_i x hx
  have hop:=j06 hx
  have hcomp:comp P o=I9 P x fun a=>.ok (.next a false):=by simp only [comp,hop]
  split at he
  ·rename_i cc hcc
   rw [hcomp] at hcc
   obtain ⟨ca,ha,hcc⟩:=u6 hcc
   cases hcc
   simp only [ha]
   split at he
   ·rename_i n h1 hr
    obtain ⟨v,rfl,hn⟩:=w0d (show b0w h (ca.ev a) false=.ok (n,h1) from hr)
    simp only [s9] at he
    cases he
    simp only [l0V,hn,List.map_cons,List.map_nil,h0A,s9]
   ·cases he
  ·cases he
 ·split at he
  ·rename_i cc hcc
   simp only [hcc]
   unfold t0t
   split at he
   ·rename_i n h1 hr
    rw [hr]
    simp only []
    split at he
    ·simp only [s9] at he;cases he;simp only [h0A,s9]
    ·cases he;rfl
    ·rename_i df
     cases hrd:a.rd with
     | true=>rw [hrd] at he;cases he
     | false=>rw [hrd] at he;cases he;rfl
    ·split at he
     ·rename_i v h2 hcall
      simp only [s9] at he
      cases he
      simp only [hc _ _ _ _ hcall,List.map_cons,List.map_nil,h0A,s9]
     ·cases he
    ·split at he
     ·rename_i v h2 hcall
      simp only [s9] at he
      cases he
      simp only [hc _ _ _ _ hcall,List.map_cons,List.map_nil,h0A,s9]
     ·cases he
   ·cases he
  ·cases he
theorem k0B (hc:DSub c d) {ops:Array Oper}:∀ (l:List Oper) {a:AAct} {h:AH} {r:AAct×AH},d00 P c ops l a h=.ok r→a0m P d ops l a h=.ok [r]
 | [],a,h,r,he=>by cases he;rfl
 | o::l,a,h,r,he=>by
  simp only [d00] at he
  simp only [a0m]
  split at he
  ·rename_i hw
   simp only [hw]
   split at he
   ·rename_i hop;simp only [t0Y hc hop];exact M8 (k0B hc l he)
   ·cases he
  ·rename_i hw
   simp only [hw]
   exact k0B hc l he
  ·cases he
theorem n0s {b:AAct→AH→R (AX×AAct×AH)} {b':AAct→AH→XD} (hb:∀ a h r,b a h=.ok r→b' a h=.ok [r]):∀ {n:Nat} {a:AAct} {h:AH} {r:AX×AAct×AH},b0x b n a h=.ok r→a0d b' n a h=.ok [r]
 | 0,_,_,_,he=>by cases he
 | n+1,a,h,r,he=>by
  simp only [b0x] at he
  simp only [a0d]
  split at he
  ·rename_i hbody
   simp only [hb _ _ _ hbody]
   exact M8 (n0s hb he)
  ·rename_i hnot
   simp only [hb _ _ _ he]
   refine M8 ?_
   split
   ·rename_i hx
    obtain ⟨x,a1,h1⟩:=r
    simp only at hx
    subst hx
    exact absurd he (hnot _ _)
   ·rfl
theorem x0N (hc:DSub c d) {f:AV} {params:Array Tmp} {assign body:Code} {a:AAct} {h:AH} {r:AX×AAct×AH} (he:q0E c f params assign body a h=.ok r):i03 d f params assign body a h=.ok [r]:=by
 unfold q0E at he
 unfold i03
 split at he
 ·cases hb:a.rd with
  | true=>rw [hb] at he;cases he
  | false =>
   rw [hb] at he
   simp only [cond_false,s8] at he ⊢
   split at he
   ·rename_i hcall
    simp only [hc _ _ _ _ hcall]
    refine M8 ?_
    unfold h0H
    rw [hb]
    split at he
    ·rename_i r1 hg
     simp only [hg]
     split at he
     ·cases he
     ·rename_i hnb
      split at he
      ·rename_i hp;cases he;simp only [hp];rfl
      ·rename_i hp;cases he;simp only [hp];rfl
      ·rename_i hp;cases he;simp only [hp];rfl
      ·cases he
    ·cases he
   ·cases he
 ·cases he
theorem J6 (hc:DSub c d) {lf:Nat}:∀ (k:Code) {a:AAct} {h:AH} {r:AX×AAct×AH},r6 P c lf k a h=.ok r→m6 P d lf k a h=.ok [r]
 | .skip,_,_,_,he=>by cases he;rfl
 | .label _,_,_,_,he=>by cases he;rfl
 | .exit _,_,_,_,he=>by cases he;rfl
 | .ret,_,_,_,he=>by cases he;rfl
 | .goto _,_,_,_,he=>by cases he
 | .refuse _,_,_,_,he=>by cases he
 | .region _ ops draw,a,h,r,he=>by
  simp only [r6] at he
  simp only [m6]
  cases draw with
  | true =>
   simp only [cond_true] at he
   split at he
   ·rename_i hop;cases he;simp only [d0T hc.one hop]
   ·cases he
  | false =>
   simp only [cond_false] at he
   split at he
   ·rename_i hop;cases he;simp only [k0B hc _ hop,List.map_cons,List.map_nil]
   ·cases he
 | .seq x y,a,h,r,he=>by
  simp only [r6] at he
  simp only [m6]
  split at he
  ·rename_i hx
   simp only [J6 hc x hx]
   exact M8 (J6 hc y he)
  ·rename_i hnot
   simp only [J6 hc x he]
   refine M8 ?_
   split
   ·rename_i hx
    obtain ⟨q,a1,h1⟩:=r
    simp only at hx
    subst hx
    exact absurd he (hnot _ _)
   ·rfl
 | .cond o x y,a,h,r,he=>by
  simp only [r6] at he
  simp only [m6]
  split at he
  ·rename_i ho
   simp only [ho]
   unfold k0A at he
   split at he
   ·rename_i hb;simp only [hb];exact J6 hc x he
   ·rename_i hb;simp only [hb];exact J6 hc y he
   ·cases he
  ·cases he
 | .block id k,a,h,r,he=>by
  simp only [r6] at he
  simp only [m6]
  split at he
  ·rename_i i a1 h1 hx
   simp only [J6 hc k hx,List.map_cons,List.map_nil]
   cases hb:Nat.beq i id with
   | true=>rw [hb] at he;cases he;rfl
   | false=>rw [hb] at he;cases he;rfl
  ·rename_i hnot
   simp only [J6 hc k he,List.map_cons,List.map_nil]
   obtain ⟨q,a1,h1⟩:=r
   cases q with
   | exit i=>exact absurd he (hnot _ _ _)
   | _=>rfl
 | .loop k,a,h,r,he=>by
  simp only [r6] at he
  simp only [m6]
  exact n0s (fun a h r=>J6 hc k) he
 | .scope k,a,h,r,he=>by
  simp only [r6] at he
  simp only [m6]
  split at he
  ·cases he
  ·simp only [J6 hc k he]
 | .rangeFunc f ps x y,a,h,r,he=>by
  simp only [r6] at he
  simp only [m6]
  split at he
  ·rename_i ho;simp only [ho];exact x0N hc he
  ·cases he
theorem b0I (hc:DSub c d):∀ (l:List ADef) {h h':AH},J1 c l h=.ok h'→D8 d l h=.ok [h']
 | [],h,h',he=>by cases he;rfl
 | x::l,h,h',he=>by
  unfold J1 at he
  unfold D8
  split at he
  ·split at he
   ·rename_i hg;simp only [hg];exact b0I hc l he
   ·cases he
  ·split at he
   ·rename_i hcf
    simp only [hcf]
    split at he
    ·rename_i hcall;simp only [hc _ _ _ _ hcall];exact M8 (b0I hc l he)
    ·cases he
   ·cases he
   ·cases he
theorem t0Z (hc:DSub c d) {fn:Func} {x:R (AX×AAct×AH)} {y:XD} (hx:∀ r,x=.ok r→y=.ok [r]) {r:AV×AH} (he:P0 P c fn x=.ok r):b0D P d fn y=.ok [r]:=by
 unfold P0 at he
 split at he
 ·rename_i x a h
  rw [hx _ rfl]
  simp only [b0D]
  refine M8 ?_
  unfold f0e
  split at he
  ·split at he
   ·rename_i hd
    simp only [b0I hc _ hd]
    refine M8 ?_
    split at he
    ·rename_i hr;cases he;simp only [hr]
    ·cases he
   ·cases he
  ·split at he
   ·rename_i hd
    simp only [b0I hc _ hd]
    refine M8 ?_
    split at he
    ·rename_i hr;cases he;simp only [hr]
    ·cases he
   ·cases he
  ·cases he
 ·cases he
theorem t00 (hc:DSub c d) {lf:Nat} {l:Nat} {q:ALoop} {args:List AV} {h:AH} {r:AV×AH} (he:f0K P c lf l q args h=.ok r):c0r P d lf l q args h=.ok [r]:=by
 unfold f0K at he
 unfold c0r
 cases hb:Nat.beq args.length q.params.size with
 | false=>rw [hb] at he;cases he
 | true =>
  rw [hb] at he
  simp only [cond_true] at he ⊢
  split at he
  ·rename_i hx
   simp only [J6 hc _ hx]
   refine M8 ?_
   unfold O5
   split at he
   ·rename_i hg
    simp only [hg]
    split at he
    ·rename_i hst
     simp only [hst]
     generalize hres:r6 P c lf q.body _ _=res at he
     cases res with
     | error e=>unfold N9 at he;cases he
     | ok z =>
      simp only [J6 hc _ hres]
      refine M8 ?_
      rw [he];rfl
    ·cases he
   ·cases he
  ·cases he
  ·cases he
theorem w0e {S:FuncId→Option (List AV→AH→R (AV×AH))} (hc:DSub c d):DSub (e0T S c) (a0n S d):=by
 intro t args h r he
 unfold e0T at he
 unfold a0n
 split at he
 ·rename_i f
  split at he
  ·cases he
  ·rename_i hs;simp only [hs];exact hc _ _ _ _ he
 ·exact hc _ _ _ _ he
theorem n0t {S:FuncId→Option (List AV→AH→R (AV×AH))} {lf:Nat}:∀ {n:Nat},DSub (D0 P S lf n) (D7 P S lf n)
 | 0=>fun t args h r he=>by cases t <;> cases he
 | n+1=>fun t args h r he=>by
  have ih:=n0t (S:=S) (lf:=lf) (n:=n)
  cases t with
  | fn f =>
   unfold D0 at he
   unfold D7
   split at he
   ·rename_i g hs;simp only [hs,he];rfl
   ·rename_i hs
    simp only [hs]
    split at he
    ·rename_i fn hf
     simp only [hf]
     split at he
     ·rename_i k hk
      simp only [hk]
      cases hb:Nat.ble args.length fn.ntmps with
      | false=>rw [hb] at he;cases he
      | true =>
       rw [hb] at he
       simp only [cond_true] at he ⊢
       exact t0Z (w0e ih) (fun r hr=>J6 ih _ hr) he
     ·cases he
    ·cases he
  | yield l =>
   unfold D0 at he
   unfold D7
   split at he
   ·rename_i hg;simp only [hg];exact t00 ih he
   ·cases he
end Go.Dr
