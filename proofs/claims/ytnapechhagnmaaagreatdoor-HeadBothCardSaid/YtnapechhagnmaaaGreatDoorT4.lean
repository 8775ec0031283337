/-
  Texts joined.
-/
import Derived.Test.YtnapechhagnmaaaGreatDoorT2
import Derived.Test.YtnapechhagnmaaaGreatDoorT3
import Derived.ProofKit
import Derived.Sort.OwnSortedInts
import Derived.Test.YtnapechhagnmaaaGreatDoorRows

namespace Go.Dr
inductive DC where
 | skip
 | ops (l:List CEnt)
 | drawn (l:List CEnt)
 | seq (x y:DC)
 | cond (c:CO) (x y:DC)
 | block (id:Nat) (c:DC)
 | loop (c:DC)
 | exit (id:Nat)
 | ret
 | go (n:Nat) (f:CO) (params:Array Tmp) (assign body:Code)
 deriving Inhabited
structure DF where
 n:Nat
 res:List CRes
 c:DC
 deriving Inhabited
section
variable (P:Program)
def D5:COp→Option CO
 | .next it false=>some it
 | _=>none
def g0T (o:Oper) (c:COp):Bool :=
 match e0M o.op with
 | some _=>true
 | none=>match D5 c with | some _=>false | none=>true
def b0U (n:Nat) (rd:Bool) (ops:Array Oper):List Oper→R (List CEnt)
 | []=>.ok []
 | o::l=>match c0J P n rd ops o with
  | .ok r=>bif g0T o r.c then match b0U n rd ops l with
   | .ok l=>.ok (.row r::l)
   | .error e=>.error e
   else .error "row: next"
  | .error e=>.error e
def S4 (n:Nat) (rd:Bool):Code→R DC
 | .skip=>.ok .skip
 | .label _=>.ok .skip
 | .region _ ops draw=>bif draw then (match m0X P ops with
   | .ok l=>match U7 P n rd ops l with | .ok l=>.ok (.drawn l) | .error e=>.error e
   | .error e=>.error e)
  else match b0U P n rd ops ops.toList with | .ok l=>.ok (.ops l) | .error e=>.error e
 | .seq x y=>match S4 n rd x with
  | .ok a=>match S4 n rd y with | .ok b=>.ok (.seq a b) | .error e=>.error e
  | .error e=>.error e
 | .cond c x y=>match cO P c with
  | .ok c=>match S4 n rd x with
   | .ok a=>match S4 n rd y with | .ok b=>.ok (.cond c a b) | .error e=>.error e
   | .error e=>.error e
  | .error e=>.error e
 | .block id c=>match S4 n rd c with | .ok a=>.ok (.block id a) | .error e=>.error e
 | .loop c=>match S4 n rd c with | .ok a=>.ok (.loop a) | .error e=>.error e
 | .exit id=>.ok (.exit id)
 | .ret=>.ok .ret
 | .scope c=>S4 n rd c
 | .rangeFunc f params assign body=>match cO P f with
  | .ok f=>bif rd then .error "rangeFunc in a round" else .ok (.go n f params assign body)
  | .error e=>.error e
 | .goto _=>.error "goto"
 | .refuse why=>.error why
def g0U (f:FuncId):R DF :=
 match P.funcs[f]? with
 | some fn=>match fn.body with
  | some c=>match S4 P fn.ntmps false c with
   | .ok cc=>match S7 P fn.results.toList with
    | .ok r=>.ok ⟨fn.ntmps,r,cc⟩
    | .error e=>.error e
   | .error e=>.error e
  | none=>.error "no body"
 | none=>.error "no function"
end
section
variable (P:Program) (S:b0e)
def clN (N:Nat):A3:=v7 P S N N
def EvN (t:Tgt) (args:List AV) (h:AH) (K:AV→AH→Prop):Prop:=∃ N l,clN P S N t args h=.ok l∧∀ x ∈ l,K x.1 x.2
def wqR (r:RN) (K:AV→AH→Prop) (D:ADef→AH→Prop):Prop :=
 match r with
 | .ok (n,h)=>match n with
  | .value v=>K v h
  | .skip=>K d8 h
  | .enter f args=>EvN P S (.fn f) args h K
  | .yield l args=>EvN P S (.yield l) args h K
  | .defer d=>D d h
 | .error _=>False
def g0V (r:RL (AV×AH)) (K:AV→AH→Prop):Prop :=
 match r with
 | .ok l=>∀ x ∈ l,K x.1 x.2
 | .error _=>False
def wqE (c:COp) (σ:Sg) (h:AH) (K:AV→AH→Prop) (D:ADef→AH→Prop):Prop :=
 match D5 c with
 | some it=>g0V (c0N h (it.evS σ)) K
 | none=>wqR P S (evS P c σ h) K D
def A9:List CEnt→C1→Sg→List ADef→AH→Prop
 | [],Q,σ,ds,h=>Q .normal σ ds h
 | .row r::l,Q,σ,ds,h=>match r.g with
  | none=>wqE P S r.c σ h (fun v h=>A9 l Q (upd σ r.d v) ds h) (fun df h=>A9 l Q (upd σ r.d d8) (df::ds) h)
  | some (t,w)=>b06 (σ t) w (wqE P S r.c σ h (fun v h=>A9 l Q (upd σ r.d v) ds h) (fun df h=>A9 l Q (upd σ r.d d8) (df::ds) h))
    (A9 l Q (upd σ r.d d8) ds h)
 | .stage _::_,_,_,_,_=>False
def p0J (f:AV) (n:Nat) (params:Array Tmp) (assign body:Code) (Q:C1) (σ:Sg) (ds:List ADef) (h:AH):Prop :=
 match f with
 | .func (.func g) first captured=>∀ tmps:PT AV,(∀ i,p0C tmps i=σ i) →
   EvN P S (.fn g) (first++(.func (.yield (h.next+1)) [] []::captured))
    ((h.push (.deferred (some []))).push (.loop { state:=.ready,pending:=none,n:=n,tmps:=tmps,params,assign,body })) (Kgo Q σ ds h.next)
 | _=>False
def wqC:DC→C1→Sg→List ADef→AH→Prop
 | .skip,Q,σ,ds,h=>Q .normal σ ds h
 | .ops l,Q,σ,ds,h=>A9 P S l Q σ ds h
 | .drawn l,Q,σ,ds,h=>p4 P S l Q σ ds h
 | .seq x y,Q,σ,ds,h=>wqC x (fun r σ ds h=>match r with | .normal=>wqC y Q σ ds h | r=>Q r σ ds h) σ ds h
 | .cond c x y,Q,σ,ds,h=>wpG (c.evS σ) true (wqC x Q σ ds h) (wqC y Q σ ds h)
 | .block id c,Q,σ,ds,h=>wqC c (e0C id Q) σ ds h
 | .loop c,Q,σ,ds,h=>∃ (I:Inv) (k:Nat),I k σ ds h∧∀ k σ ds h,I k σ ds h→wqC c (b08 I k Q) σ ds h
 | .exit id,Q,σ,ds,h=>Q (.exit id) σ ds h
 | .ret,Q,σ,ds,h=>Q .ret σ ds h
 | .go n f params assign body,Q,σ,ds,h=>p0J P S (f.evS σ) n params assign body Q σ ds h
def j0D (y:DC) (Q:C1):C1:=fun r σ ds h=>match r with | .normal=>wqC P S y Q σ ds h | r=>Q r σ ds h
end
section
variable {P:Program} {S:b0e}
theorem C4 {N N':Nat} (h:N≤N'):E2 (clN P S N) (clN P S N'):=T1 h h
theorem EvN.mono {t:Tgt} {args:List AV} {h:AH} {K K':AV→AH→Prop} (e:EvN P S t args h K) (hk:∀ v h',K v h'→K' v h'):EvN P S t args h K':=by
 obtain ⟨N,l,e,k⟩:=e
 exact ⟨N,l,e,fun x hx=>hk _ _ (k x hx)⟩
theorem Ev.toN {t:Tgt} {args:List AV} {h:AH} {K:AV→AH→Prop} (e:Ev P S t args h K):EvN P S t args h K:=by
 obtain ⟨N,v,h',e,k⟩:=e
 exact ⟨N,[(v,h')],c0w _ _ _ _ e,fun x hx=>by rw [List.mem_singleton.1 hx];exact k⟩
theorem Q3 {α β:Type} {f:Nat→α→RL β} (hm:∀ N N',N≤N'→∀ x r,f N x=.ok r→f N' x=.ok r) {Φ:β→Prop}:∀ (l:List α),(∀ x ∈ l,∃ N r,f N x=.ok r∧∀ y ∈ r,Φ y) →
  ∃ N r,L4 (f N) l=.ok r∧∀ y ∈ r,Φ y
 | [],_=>⟨0,[],rfl,fun y hy=>by cases hy⟩
 | x::l,h=>by
  obtain ⟨N1,r1,e1,k1⟩:=h x (by simp)
  obtain ⟨N2,r2,e2,k2⟩:=Q3 hm l fun y hy=>h y (List.mem_cons_of_mem _ hy)
  refine ⟨max N1 N2,r1++r2,?_,fun y hy=>?_⟩
  ·simp only [L4,hm _ _ (Nat.le_max_left N1 N2) _ _ e1,w5 (hm _ _ (Nat.le_max_right N1 N2)) e2]
  ·rcases List.mem_append.1 hy with hy | hy
   ·exact k1 y hy
   ·exact k2 y hy
def n0B (n:Nat) (rd:Bool) (o:Oper) (a:AAct) (K:AV→AH→Prop) (D:ADef→AH→Prop) (x:AAct×AH):Prop :=
 Keep n rd x.1∧((∃ v,x.1.val=upd a.val o.dst v∧x.1.ds=a.ds∧K v x.2)∨(∃ df,x.1.val=upd a.val o.dst d8∧x.1.ds=df::a.ds∧D df x.2))
theorem l0G {n:Nat} {rd:Bool} {o:Oper} {c:COp} {a:AAct} {h:AH} {K:AV→AH→Prop} {D:ADef→AH→Prop} (hc':c=a0E P o) (hk:Keep n rd a) (hd:d0S n o.dst=true)
  (hrd:rd=true→c.isDefer=false) (hag:g0T o c=true) (hw:wqE P S c a.val h K D) :
  ∃ N r,P4 P (clN P S N) o a h=.ok r∧∀ x ∈ r,n0B n rd o a K D x:=by
 have hd':d0S a.n o.dst=true:=by rw [hk.n];exact hd
 have hval:∀ v,(a.put o.dst v).val=upd a.val o.dst v:=fun v=>a.put_val _ _ hd'
 have hds:∀ v,(a.put o.dst v).ds=a.ds:=fun v=>(a.put_same _ _).2.1
 have aft:∀ v h',K v h'→n0B n rd o a K D (b07 a o.dst (v,h')):=fun v h' k=>by
  simp only [b07,i7]
  exact ⟨hk.put _ _,.inl ⟨v,hval v,hds v,k⟩⟩
 have hstuck:∀ c',c'=j0x→D5 c'=none→¬ wqR P S (evS P c' a.val h) K D:=by
  rintro _ rfl _ hw
  exact hw.elim
 unfold P4
 cases hno:e0M o.op with
 | some x =>
  have hop:=d0q hno
  have hcomp:comp P o=y3 P x fun a=>.ok (.next a false):=by simp only [comp,hop]
  simp only
  unfold a0E at hc'
  rw [hcomp] at hc'
  unfold y3 at hc'
  cases hx:cO P x with
  | error e =>
   rw [hx] at hc'
   simp only at hc'
   subst hc'
   exact hw.elim
  | ok ca =>
   rw [hx] at hc'
   simp only at hc'
   subst hc'
   simp only [wqE,D5] at hw
   simp only [e0m,CO.ev_eq]
   unfold g0V at hw
   split at hw
   ·rename_i l hl
    simp only [hl]
    refine ⟨0,_,rfl,fun y hy=>?_⟩
    obtain ⟨z,hz,rfl⟩:=List.mem_map.1 hy
    exact aft _ _ (hw z hz)
   ·exact hw.elim
 | none =>
  unfold g0T at hag
  rw [hno] at hag
  simp only at hag
  unfold wqE at hw
  split at hw
  ·rename_i it hit;rw [hit] at hag;cases hag
  ·simp only
   have hc:comp P o=.ok c:=by
    unfold a0E at hc'
    split at hc'
    ·rename_i c1 e;rw [e,hc']
    ·subst hc';exact hw.elim
   simp only [hc,i0H]
   generalize hres:evS P c a.val h=res at hw
   unfold wqR at hw
   unfold i0K
   cases res with
   | error e=>exact hw.elim
   | ok p =>
    obtain ⟨m,h1⟩:=p
    cases m with
    | value v=>exact ⟨0,_,rfl,fun x hx=>by rw [List.mem_singleton.1 hx];exact aft _ _ hw⟩
    | skip=>exact ⟨0,_,rfl,fun x hx=>by rw [List.mem_singleton.1 hx];exact ⟨hk.put _ _,.inl ⟨_,hval _,hds _,hw⟩⟩⟩
    | enter f args =>
     obtain ⟨N,l,e,k⟩:=hw
     refine ⟨N,l.map (b07 a o.dst),by simp only [e],fun x hx=>?_⟩
     obtain ⟨z,hz,rfl⟩:=List.mem_map.1 hx
     exact aft _ _ (k z hz)
    | yield f args =>
     obtain ⟨N,l,e,k⟩:=hw
     refine ⟨N,l.map (b07 a o.dst),by simp only [e],fun x hx=>?_⟩
     obtain ⟨z,hz,rfl⟩:=List.mem_map.1 hx
     exact aft _ _ (k z hz)
    | defer d =>
     have hr:a.rd=false:=by
      cases e:a.rd with
      | false=>rfl
      | true =>
       have:=hrd (hk.rd.symm.trans e)
       rw [e0D hres] at this
       cases this
     refine ⟨0,[((⟨a.n,a.ts,d::a.ds,a.rd⟩:AAct).put o.dst d8,h1)],by simp only [hr,cond_false],fun x hx=>?_⟩
     rw [List.mem_singleton.1 hx]
     refine ⟨Keep.put (a:=⟨a.n,a.ts,d::a.ds,a.rd⟩) ⟨hk.n,hk.rd⟩ _ _,.inr ⟨d,?_,?_,hw⟩⟩
     ·exact AAct.put_val ⟨a.n,a.ts,d::a.ds,a.rd⟩ o.dst d8 hd'
     ·exact (AAct.put_same _ _ _).2.1
theorem e03 {n:Nat} {rd:Bool} {ops:Array Oper}:∀ (l:List Oper) (l':List CEnt),b0U P n rd ops l=.ok l'→∀ {Q:C1} {a:AAct} {h:AH},Keep n rd a→A9 P S l' Q a.val a.ds h →
  ∃ N r,J6 P (clN P S N) ops l a h=.ok r∧∀ x ∈ r,Keep n rd x.1∧Q .normal x.1.val x.1.ds x.2
 | [],l',hc,Q,a,h,hk,hw=>by
  cases hc
  exact ⟨0,_,rfl,fun x hx=>by rw [List.mem_singleton.1 hx];exact ⟨hk,hw⟩⟩
 | o::l,l',hc,Q,a,h,hk,hw=>by
  simp only [b0U] at hc
  split at hc
  ·rename_i r hr
   cases hag:g0T o r.c with
   | false=>rw [hag] at hc;cases hc
   | true =>
    rw [hag] at hc
    simp only [cond_true] at hc
    split at hc
    ·rename_i l2 hl2
     cases hc
     obtain ⟨h1,h2,h3,h4,h5⟩:=c0g hr
     have goOn:wqE P S r.c a.val h (fun v h=>A9 P S l2 Q (upd a.val r.d v) a.ds h) (fun df h=>A9 P S l2 Q (upd a.val r.d d8) (df::a.ds) h)→j4 ops o a=.ok true →
       ∃ N s,J6 P (clN P S N) ops (o::l) a h=.ok s∧∀ x ∈ s,Keep n rd x.1∧Q .normal x.1.val x.1.ds x.2:=by
      intro hw hwant
      rw [h3] at hw
      obtain ⟨N1,s1,e1,k1⟩:=l0G h1 hk h4 h5 hag hw
      obtain ⟨N2,s2,e2,k2⟩:=Q3 (f:=fun N (x:AAct×AH)=>J6 P (clN P S N) ops l x.1 x.2) (fun N N' hn x r hr=>P9 (C4 hn) l hr)
       (Φ:=fun x=>Keep n rd x.1∧Q .normal x.1.val x.1.ds x.2) s1 fun x hx=>by
        obtain ⟨b1,b2⟩:=k1 x hx
        refine e03 l l2 hl2 b1 ?_
        rcases b2 with ⟨v,c1,c2,c3⟩ | ⟨df,c1,c2,c3⟩
        ·rw [c1,c2];exact c3
        ·rw [c1,c2];exact c3
      refine ⟨max N1 N2,s2,?_,k2⟩
      simp only [J6,hwant,c0P (C4 (Nat.le_max_left N1 N2)) e1]
      exact w5 (fun x r hr=>P9 (C4 (Nat.le_max_right N1 N2)) l hr) e2
     rcases S8 (a:=a) h2 with ⟨g,hwant⟩ | ⟨t,w,g,hwant⟩
     ·simp only [A9,g] at hw
      exact goOn hw hwant
     ·simp only [A9,g] at hw
      rcases a0F hw with ⟨b,hb,hbw,hw⟩ | ⟨hno,hw⟩
      ·rw [hb] at hwant
       exact goOn hw (by rw [hwant];simp [gw,hbw])
      ·rw [h3] at hw
       have hv:=AAct.put_val a o.dst d8 (by rw [hk.n];exact h4)
       have hd:=(a.put_same o.dst d8).2.1
       obtain ⟨N2,s2,e2,k2⟩:=e03 l l2 hl2 (hk.put o.dst d8) (by rw [hv,hd];exact hw)
       refine ⟨N2,s2,?_,k2⟩
       simp only [J6,hwant.trans hno]
       exact e2
    ·cases hc
  ·cases hc
abbrev i0X (n:Nat) (rd:Bool) (Q:C1) (y:AX×AAct×AH):Prop:=∃ x:WX,y.1=x.ax∧Keep n rd y.2.1∧Q x y.2.1.val y.2.1.ds y.2.2
theorem l0H {n:Nat} {rd:Bool} {c:Code} {cc:DC}
  (ih:∀ {Q:C1} {a:AAct} {h:AH},Keep n rd a→wqC P S cc Q a.val a.ds h→∃ N r,d4 P (clN P S N) N c a h=.ok r∧∀ y ∈ r,i0X n rd Q y)
  {I:Inv} {Q:C1} (hI:∀ k σ ds h,I k σ ds h→wqC P S cc (b08 I k Q) σ ds h):∀ (k:Nat) (a:AAct) (h:AH),Keep n rd a→I k a.val a.ds h →
  ∃ N r,(∀ lf,N≤lf→J0 (d4 P (clN P S lf) lf c) lf a h=.ok r)∧∀ y ∈ r,i0X n rd Q y:=by
 intro k
 induction k using Nat.strongRecOn with
 | _ k ihk =>
  intro a h hk hi
  obtain ⟨N,r,e,hr⟩:=ih hk (hI k _ _ _ hi)
  have hbody:∀ lf,N≤lf→d4 P (clN P S lf) lf c a h=.ok r:=fun lf hl=>j7 (C4 hl) hl _ e
  obtain ⟨N2,s,e2,hs⟩:=Q3 (α:=AX×AAct×AH) (f:=fun N (x:AX×AAct×AH)=>match x.1 with | .normal=>J0 (d4 P (clN P S N) N c) N x.2.1 x.2.2 | _=>.ok [x])
   (fun N N' hn x r hr=>by
    split at hr
    ·exact T0 (fun a h r hr=>j7 (C4 hn) hn _ hr) hn hr
    ·exact hr) (Φ:=i0X n rd Q) r fun y hy=>by
     obtain ⟨x,b1,b2,b3⟩:=hr y hy
     cases x with
     | normal =>
      obtain ⟨k',hlt,hi'⟩:=b3
      obtain ⟨N3,s3,e3,h3⟩:=ihk k' hlt _ _ b2 hi'
      refine ⟨N3,s3,?_,h3⟩
      rw [b1]
      exact e3 N3 (Nat.le_refl _)
     | exit i=>exact ⟨0,[y],by rw [b1];rfl,fun z hz=>by rw [List.mem_singleton.1 hz];exact ⟨.exit i,b1,b2,b3⟩⟩
     | ret=>exact ⟨0,[y],by rw [b1];rfl,fun z hz=>by rw [List.mem_singleton.1 hz];exact ⟨.ret,b1,b2,b3⟩⟩
  refine ⟨max N N2+1,s,fun lf hl=>?_,hs⟩
  obtain ⟨m,rfl⟩:∃ m,lf=m+1:=⟨lf - 1,by omega⟩
  simp only [J0]
  rw [hbody (m+1) (by omega)]
  have h2:N2≤m:=by omega
  refine w5 (fun x r hr=>?_) e2
  obtain ⟨x1,x2⟩:=x
  cases x1 with
  | normal=>exact T0 (fun a h r hr=>j7 (C4 (Nat.le_succ_of_le h2)) (Nat.le_succ_of_le h2) _ hr) h2 hr
  | _=>exact hr
theorem Q4 {n:Nat} {rd:Bool}:∀ (c:Code) (cc:DC),S4 P n rd c=.ok cc→∀ {Q:C1} {a:AAct} {h:AH},Keep n rd a→wqC P S cc Q a.val a.ds h →
  ∃ N r,d4 P (clN P S N) N c a h=.ok r∧∀ y ∈ r,i0X n rd Q y
 | .skip,cc,hc,Q,a,h,hk,hw=>by cases hc;exact ⟨0,_,rfl,fun y hy=>by rw [List.mem_singleton.1 hy];exact ⟨.normal,rfl,hk,hw⟩⟩
 | .label _,cc,hc,Q,a,h,hk,hw=>by cases hc;exact ⟨0,_,rfl,fun y hy=>by rw [List.mem_singleton.1 hy];exact ⟨.normal,rfl,hk,hw⟩⟩
 | .region _ ops draw,cc,hc,Q,a,h,hk,hw=>by
  simp only [S4] at hc
  cases draw with
  | true =>
   simp only [cond_true] at hc
   split at hc
   ·rename_i l hl
    split at hc
    ·rename_i l2 hl2
     cases hc
     obtain ⟨N,a',h',e,k,q⟩:=c0M l l2 hl2 hk hw
     refine ⟨N,[(.normal,a',h')],?_,fun y hy=>by rw [List.mem_singleton.1 hy];exact ⟨.normal,rfl,k,q⟩⟩
     have:W7 P (cl P S N) ops a h=.ok (a',h'):=by simp only [W7,hl,e]
     simp only [d4,Y2 (DSub.one (c0w (S:=S) (lf:=N) (n:=N))) this,clN]
    ·cases hc
   ·cases hc
  | false =>
   simp only [cond_false] at hc
   split at hc
   ·rename_i l hl
    cases hc
    obtain ⟨N,r,e,k⟩:=e03 _ l hl hk hw
    refine ⟨N,r.map fun x=>(.normal,x.1,x.2),by simp only [d4,e],fun y hy=>?_⟩
    obtain ⟨z,hz,rfl⟩:=List.mem_map.1 hy
    exact ⟨.normal,rfl,k z hz⟩
   ·cases hc
 | .seq x y,cc,hc,Q,a,h,hk,hw=>by
  simp only [S4] at hc
  split at hc
  ·rename_i c1 hx
   split at hc
   ·rename_i c2 hy
    cases hc
    simp only [wqC] at hw
    obtain ⟨N1,r1,e1,k1⟩:=Q4 x c1 hx hk hw
    obtain ⟨N2,r2,e2,k2⟩:=Q3 (α:=AX×AAct×AH) (f:=fun N (x:AX×AAct×AH)=>match x.1 with | .normal=>d4 P (clN P S N) N y x.2.1 x.2.2 | _=>.ok [x])
     (fun N N' hn x r hr=>by
      split at hr
      ·exact j7 (C4 hn) hn _ hr
      ·exact hr) (Φ:=i0X n rd Q) r1 fun z hz=>by
       obtain ⟨q,b1,b2,b3⟩:=k1 z hz
       cases q with
       | normal =>
        obtain ⟨N3,r3,e3,k3⟩:=Q4 y c2 hy b2 b3
        exact ⟨N3,r3,by rw [b1];exact e3,k3⟩
       | exit i=>exact ⟨0,[z],by rw [b1];rfl,fun u hu=>by rw [List.mem_singleton.1 hu];exact ⟨.exit i,b1,b2,b3⟩⟩
       | ret=>exact ⟨0,[z],by rw [b1];rfl,fun u hu=>by rw [List.mem_singleton.1 hu];exact ⟨.ret,b1,b2,b3⟩⟩
    refine ⟨max N1 N2,r2,?_,k2⟩
    simp only [d4]
    rw [j7 (C4 (Nat.le_max_left N1 N2)) (Nat.le_max_left N1 N2) _ e1]
    refine w5 (fun x r hr=>?_) e2
    obtain ⟨x1,x2⟩:=x
    cases x1 with
    | normal=>exact j7 (C4 (Nat.le_max_right N1 N2)) (Nat.le_max_right N1 N2) _ hr
    | _=>exact hr
   ·cases hc
  ·cases hc
 | .cond c x y,cc,hc,Q,a,h,hk,hw=>by
  simp only [S4] at hc
  split at hc
  ·rename_i c1 hc1
   split at hc
   ·rename_i c2 hx
    split at hc
    ·rename_i c3 hy
     cases hc
     simp only [wqC,wpG] at hw
     split at hw
     ·rename_i b hb
      cases b with
      | true =>
       simp only [if_pos] at hw
       obtain ⟨N,r,e1,k1⟩:=Q4 x c2 hx hk hw
       exact ⟨N,r,by simp only [d4,hc1,CO.ev_eq,hb];exact e1,k1⟩
      | false =>
       simp only [Bool.false_eq_true,if_false] at hw
       obtain ⟨N,r,e1,k1⟩:=Q4 y c3 hy hk hw
       exact ⟨N,r,by simp only [d4,hc1,CO.ev_eq,hb];exact e1,k1⟩
     ·exact hw.elim
    ·cases hc
   ·cases hc
  ·cases hc
 | .block id c,cc,hc,Q,a,h,hk,hw=>by
  simp only [S4] at hc
  split at hc
  ·rename_i c1 hc1
   cases hc
   obtain ⟨N,r,e1,k1⟩:=Q4 c c1 hc1 hk hw
   refine ⟨N,r.map fun x=>match x.1 with | .exit i=>bif Nat.beq i id then (.normal,x.2.1,x.2.2) else x | _=>x,by simp only [d4,e1];rfl,fun y hy=>?_⟩
   obtain ⟨z,hz,rfl⟩:=List.mem_map.1 hy
   obtain ⟨x,b1,b2,b3⟩:=k1 z hz
   cases x with
   | normal=>rw [b1];exact ⟨.normal,b1,b2,b3⟩
   | ret=>rw [b1];exact ⟨.ret,b1,b2,b3⟩
   | exit i =>
    rw [b1]
    simp only [WX.ax,e0C] at b3 ⊢
    by_cases hi:i=id
    ·rw [if_pos hi] at b3
     simp only [PT.beqT hi,cond_true]
     exact ⟨.normal,rfl,b2,b3⟩
    ·rw [if_neg hi] at b3
     simp only [PT.beqF hi,cond_false]
     exact ⟨.exit i,b1,b2,b3⟩
  ·cases hc
 | .loop c,cc,hc,Q,a,h,hk,hw=>by
  simp only [S4] at hc
  split at hc
  ·rename_i c1 hc1
   cases hc
   obtain ⟨I,k,hi,hI⟩:=hw
   obtain ⟨N,r,e,hr⟩:=l0H (fun hk hw=>Q4 c c1 hc1 hk hw) hI k a h hk hi
   exact ⟨N,r,by simp only [d4];exact e N (Nat.le_refl _),hr⟩
  ·cases hc
 | .exit id,cc,hc,Q,a,h,hk,hw=>by cases hc;exact ⟨0,_,rfl,fun y hy=>by rw [List.mem_singleton.1 hy];exact ⟨.exit id,rfl,hk,hw⟩⟩
 | .ret,cc,hc,Q,a,h,hk,hw=>by cases hc;exact ⟨0,_,rfl,fun y hy=>by rw [List.mem_singleton.1 hy];exact ⟨.ret,rfl,hk,hw⟩⟩
 | .scope c,cc,hc,Q,a,h,hk,hw=>by
  obtain ⟨N,r,e,k⟩:=Q4 c cc hc hk hw
  exact ⟨N,r,by simp only [d4,e],k⟩
 | .rangeFunc f params assign body,cc,hc,Q,a,h,hk,hw=>by
  simp only [S4] at hc
  split at hc
  ·rename_i f1 hf
   cases rd with
   | true=>cases hc
   | false =>
    cases hc
    simp only [wqC,p0J] at hw
    split at hw
    ·rename_i g first captured hfe
     obtain ⟨N,l,e,kl⟩:=hw a.ts (fun i=>rfl)
     rw [← hk.n] at e
     obtain ⟨N2,r2,e2,k2⟩:=Q3 (f:=fun _ (x:AV×AH)=>f0F (b09 h.next a x.2)) (fun _ _ _ x r hr=>hr) (Φ:=i0X n false Q) l fun x hx=>by
      obtain ⟨r,hr,hst,hp⟩:=kl x hx
      have key:∀ q:WX,f0F (b09 h.next a x.2)=.ok [(q.ax,⟨a.n,a.ts,.collected h.next::a.ds,a.rd⟩,x.2.set (h.next+1) (.loop { r with state:=.exhausted }))] →
        Q q a.val (.collected h.next::a.ds) (x.2.set (h.next+1) (.loop { r with state:=.exhausted }))→∃ (_:Nat) (r:List (AX×AAct×AH)),f0F (b09 h.next a x.2)=.ok r∧∀ y ∈ r,i0X n false Q y:=by
       intro q h1 h2
       exact ⟨0,_,h1,fun y hy=>by rw [List.mem_singleton.1 hy];exact ⟨q,rfl,⟨hk.n,hk.rd⟩,h2⟩⟩
      split at hp
      ·rename_i hpe;refine key .normal ?_ hp;unfold b09;simp only [hr,hpe];cases hst':r.state <;> first | exact absurd hst' hst | rfl
      ·rename_i hpe;refine key .ret ?_ hp;unfold b09;simp only [hr,hpe];cases hst':r.state <;> first | exact absurd hst' hst | rfl
      ·rename_i id hpe;refine key (.exit id) ?_ hp;unfold b09;simp only [hr,hpe];cases hst':r.state <;> first | exact absurd hst' hst | rfl
      ·exact hp.elim
     refine ⟨N,r2,?_,k2⟩
     simp only [d4,hf,CO.ev_eq,hfe,c0O,hk.rd,cond_false,j0,e]
     exact e2
    ·exact hw.elim
  ·cases hc
 | .goto _,cc,hc,Q,a,h,hk,hw=>by cases hc
 | .refuse _,cc,hc,Q,a,h,hk,hw=>by cases hc
variable (P S) in
def b0V:List ADef→AH→(AH→Prop)→Prop
 | [],h,K=>K h
 | .collected id::l,h,K=>h.get id=some (.deferred (some []))∧b0V l (h.set id (.deferred none)) K
 | .call fn captured args::l,h,K=>∃ f args' h1,N4 fn captured args h=.ok (.enter f args',h1)∧S f=none∧EvN P S (.fn f) args' h1 fun _ h2=>b0V l h2 K
theorem c0o:∀ (ds:List ADef) (h:AH) (K:AH→Prop),b0V P S ds h K→∃ N r,p7 (J7 S (clN P S N)) ds h=.ok r∧∀ h' ∈ r,K h'
 | [],h,K,hk=>⟨0,[h],rfl,fun h' hh=>by rw [List.mem_singleton.1 hh];exact hk⟩
 | .collected id::l,h,K,hk=>by
  obtain ⟨N,r,e,k⟩:=c0o l _ K hk.2
  exact ⟨N,r,by simp only [p7,hk.1,e],k⟩
 | .call fn captured args::l,h,K,hk=>by
  obtain ⟨f,args',h1,e1,hS,N1,r1,e2,hk⟩:=hk
  obtain ⟨N2,r2,e3,k⟩:=Q3 (f:=fun N (x:AV×AH)=>p7 (J7 S (clN P S N)) l x.2) (fun N N' hn x r hr=>n8 (G4 (C4 hn)) l hr) (Φ:=K) r1 fun x hx=>c0o l x.2 K (hk x hx)
  refine ⟨max N1 N2,r2,?_,k⟩
  have e4:J7 S (clN P S (max N1 N2)) (.fn f) args' h1=.ok r1:=by
   simp only [J7,hS,C4 (Nat.le_max_left N1 N2) _ _ _ _ e2]
  simp only [p7,e1,e4]
  exact w5 (fun x r hr=>n8 (G4 (C4 (Nat.le_max_right N1 N2))) l hr) e3
variable (P S) in
def n0C (res:List CRes) (K:AV→AH→Prop):C1:=fun x σ ds h=>match x with
 | .exit _=>False
 | _=>b0V P S ds h fun h=>∃ l,a0g h σ res=.ok l∧K (O4 l) h
theorem k0n {f:FuncId} {cf:DF} (h:g0U P f=.ok cf):∃ fn c,P.funcs[f]? = some fn∧fn.body=some c∧fn.ntmps=cf.n∧S4 P cf.n false c=.ok cf.c∧S7 P fn.results.toList=.ok cf.res:=by
 unfold g0U at h
 split at h
 ·rename_i fn hf
  split at h
  ·rename_i c hb
   split at h
   ·rename_i cc hcc
    split at h
    ·rename_i r hr
     cases h
     exact ⟨fn,c,hf,hb,rfl,hcc,hr⟩
    ·cases h
   ·cases h
  ·cases h
 ·cases h
theorem o0h {f:FuncId} {cf:DF} {args:List AV} {h:AH} {K:AV→AH→Prop} (hc:g0U P f=.ok cf) (hS:S f=none) (hn:Nat.ble args.length cf.n=true)
  (hw:wqC P S cf.c (n0C P S cf.res K) (e0F args) [] h):EvN P S (.fn f) args h K:=by
 obtain ⟨fn,c,hf,hb,hnt,hcc,hr⟩:=k0n hc
 have hval:(⟨cf.n,laid args 0 .leaf,[],false⟩:AAct).val=e0F args:=by
  funext i
  simp only [AAct.val,c0Q,Nat.zero_le,true_and,Nat.zero_add,Nat.sub_zero,e0F]
  by_cases hi:i<args.length
  ·rw [if_pos hi];rfl
  ·rw [if_neg hi,List.getElem?_eq_none (by omega)];rfl
 obtain ⟨N,r,e,k⟩:=Q4 c cf.c hcc (a:=⟨cf.n,laid args 0 .leaf,[],false⟩) ⟨rfl,rfl⟩ (by rw [hval];exact hw)
 obtain ⟨N2,r2,e2,k2⟩:=Q3 (f:=fun N (x:AX×AAct×AH)=>a0G P (J7 S (clN P S N)) fn x) (Φ:=fun x:AV×AH=>K x.1 x.2) (fun N N' hn x r hr=>by
   unfold a0G at hr ⊢
   split at hr
   ·split at hr
    ·rename_i hd;simp only [n8 (G4 (C4 hn)) _ hd];exact hr
    ·cases hr
   ·split at hr
    ·rename_i hd;simp only [n8 (G4 (C4 hn)) _ hd];exact hr
    ·cases hr
   ·cases hr) r fun y hy=>by
    obtain ⟨x,b1,b2,b3⟩:=k y hy
    have main:(x.ax=.normal∨x.ax=.ret)→b0V P S y.2.1.ds y.2.2 (fun h=>∃ l,a0g h y.2.1.val cf.res=.ok l∧K (O4 l) h)→∃ N r,a0G P (J7 S (clN P S N)) fn y=.ok r∧∀ z ∈ r,K z.1 z.2:=by
     intro hx hd
     obtain ⟨N3,r3,e3,k3⟩:=c0o _ _ _ hd
     obtain ⟨_,r4,e4,k4⟩:=Q3 (f:=fun _ h=>match z7 P h y.2.1 fn.results.toList with
      | .ok l=>(.ok [(O4 l,h)]:RL (AV×AH))
      | .error e=>.error (fn.name++": "++e)) (Φ:=fun x:AV×AH=>K x.1 x.2) (fun _ _ _ _ _ hr=>hr) r3 fun h' hh=>by
       obtain ⟨l,hl,hk⟩:=k3 h' hh
       exact ⟨0,[(O4 l,h')],by simp only [e0E _ _ hr l hl],fun z hz=>by rw [List.mem_singleton.1 hz];exact hk⟩
     refine ⟨N3,r4,?_,k4⟩
     unfold a0G
     rw [b1]
     rcases hx with hx | hx <;> simp only [hx,e3] <;> exact e4
    cases x with
    | normal=>exact main (.inl rfl) b3
    | ret=>exact main (.inr rfl) b3
    | exit i=>exact b3.elim
 refine ⟨max N N2+1,r2,?_,k2⟩
 have hle:N≤max N N2+1:=Nat.le_trans (Nat.le_max_left N N2) (Nat.le_succ _)
 have hcall:E2 (clN P S N) (v7 P S (max N N2+1) (max N N2)):=T1 hle (Nat.le_max_left N N2)
 have hcall2:E2 (clN P S N2) (v7 P S (max N N2+1) (max N N2)):=T1 (Nat.le_trans (Nat.le_max_right N N2) (Nat.le_succ _)) (Nat.le_max_right N N2)
 unfold clN v7
 simp only [hS,hf,hb,hnt,hn,cond_true]
 rw [j7 hcall hle c e]
 simp only [P5]
 refine w5 (fun x r hr=>?_) e2
 unfold a0G at hr ⊢
 split at hr
 ·split at hr
  ·rename_i hd;simp only [n8 (G4 hcall2) _ hd];exact hr
  ·cases hr
 ·split at hr
  ·rename_i hd;simp only [n8 (G4 hcall2) _ hd];exact hr
  ·cases hr
 ·cases hr
variable (P S) in
def r0a (l:Nat) (cb:DC) (K:AV→AH→Prop):C1:=fun x σ ds h=>match x with
 | .normal=>∃ q,h.get l=some (.loop q)∧q.state=.ready∧wqC P S cb (p0D l K) σ ds (h.set l (.loop { q with state:=.busy }))
 | _=>False
end
end Go.Dr

namespace Go.Dr
open Go.RowKit
section
variable {P:Program} {S:b0e} {Q:C1} {σ:Sg} {ds:List ADef} {h:AH}
@[simp] theorem p0R:wqC P S .skip Q σ ds h=Q .normal σ ds h:=nr rfl
@[simp] theorem q0l (l:List CEnt):wqC P S (.ops l) Q σ ds h=A9 P S l Q σ ds h:=nr rfl
@[simp] theorem o03 (l:List CEnt):wqC P S (.drawn l) Q σ ds h=p4 P S l Q σ ds h:=nr rfl
@[simp] theorem q0m (x y:DC):wqC P S (.seq x y) Q σ ds h=wqC P S x (j0D P S y Q) σ ds h:=nr rfl
@[simp] theorem o04 (id:Nat) (c:DC):wqC P S (.block id c) Q σ ds h=wqC P S c (e0C id Q) σ ds h:=nr rfl
@[simp] theorem p0S (id:Nat):wqC P S (.exit id) Q σ ds h=Q (.exit id) σ ds h:=nr rfl
@[simp] theorem q0n:wqC P S .ret Q σ ds h=Q .ret σ ds h:=nr rfl
variable (P S) in
def wqB (v:AV) (x y:DC) (Q:C1) (σ:Sg) (ds:List ADef) (h:AH):Prop:=wpG v true (wqC P S x Q σ ds h) (wqC P S y Q σ ds h)
@[simp] theorem p0T (c:CO) (x y:DC):wqC P S (.cond c x y) Q σ ds h=wqB P S (c.evS σ) x y Q σ ds h:=nr rfl
@[simp] theorem p0U (x y:DC):wqB P S (.bool true) x y Q σ ds h=wqC P S x Q σ ds h:=nr rfl
@[simp] theorem o05 (x y:DC):wqB P S (.bool false) x y Q σ ds h=wqC P S y Q σ ds h:=nr rfl
@[simp] theorem m05 (y:DC):j0D P S y Q .normal σ ds h=wqC P S y Q σ ds h:=nr rfl
@[simp] theorem o0v (y:DC) (i:Nat):j0D P S y Q (.exit i) σ ds h=Q (.exit i) σ ds h:=nr rfl
@[simp] theorem o06 (y:DC):j0D P S y Q .ret σ ds h=Q .ret σ ds h:=nr rfl
theorem o0w {c:DC} (I:Inv) (k:Nat) (h0:I k σ ds h) (hI:∀ k σ ds h,I k σ ds h→wqC P S c (b08 I k Q) σ ds h):wqC P S (.loop c) Q σ ds h:=⟨I,k,h0,hI⟩
variable (P S) in
def wqN (r:RN) (d:Option Nat) (l:List CEnt) (Q:C1) (σ:Sg) (ds:List ADef):Prop :=
 wqR P S r (fun v h=>A9 P S l Q (upd σ d v) ds h) (fun df h=>A9 P S l Q (upd σ d d8) (df::ds) h)
variable (P S) in
def j0g (v:AV) (w:Bool) (c:COp) (d:Option Nat) (l:List CEnt) (Q:C1) (σ:Sg) (ds:List ADef) (h:AH):Prop :=
 b06 v w (wqN P S (evS P c σ h) d l Q σ ds) (A9 P S l Q (upd σ d d8) ds h)
variable (P S) in
def j0h (d:Option Nat) (l:List CEnt) (Q:C1) (σ:Sg) (ds:List ADef) (v:AV) (h:AH):Prop:=A9 P S l Q (upd σ d v) ds h
@[simp] theorem o07:A9 P S [] Q σ ds h=Q .normal σ ds h:=nr rfl
theorem f0t {c:COp} (hc:D5 c=none) (K:AV→AH→Prop) (D:ADef→AH→Prop):wqE P S c σ h K D=wqR P S (evS P c σ h) K D:=by
 unfold wqE;rw [hc]
@[simp] theorem o08 (d:Option Nat) (c:COp) (l:List CEnt) (hc:D5 c=none):A9 P S (.row ⟨d,none,c⟩::l) Q σ ds h=wqN P S (evS P c σ h) d l Q σ ds:=by
 simp only [A9,wqN,f0t hc]
@[simp] theorem o0x (d:Option Nat) (it:CO) (l:List CEnt):A9 P S (.row ⟨d,none,.next it false⟩::l) Q σ ds h=g0V (c0N h (it.evS σ)) (fun v h=>A9 P S l Q (upd σ d v) ds h):=nr rfl
@[simp] theorem n0K (d:Option Nat) (t:Nat) (w:Bool) (c:COp) (l:List CEnt) (hc:D5 c=none):A9 P S (.row ⟨d,some (t,w),c⟩::l) Q σ ds h=j0g P S (σ t) w c d l Q σ ds h:=by
 simp only [A9,j0g,wqN,f0t hc]
attribute [simp]  D5
@[simp] theorem o09 (d:Option Nat) (l:List CEnt) (v:AV):wqN P S (.ok (.value v,h)) d l Q σ ds=A9 P S l Q (upd σ d v) ds h:=nr rfl
@[simp] theorem q0o (d:Option Nat) (l:List CEnt) (v:AV):wqN P S (okV v h) d l Q σ ds=A9 P S l Q (upd σ d v) ds h:=nr rfl
@[simp] theorem p0V (d:Option Nat) (l:List CEnt) (v:AV):wqN P S (d5 h (.ok v)) d l Q σ ds=A9 P S l Q (upd σ d v) ds h:=nr rfl
@[simp] theorem p0W (d:Option Nat) (l:List CEnt):wqN P S (Q9 (.ok h)) d l Q σ ds=A9 P S l Q (upd σ d d8) ds h:=nr rfl
@[simp] theorem p0a (d:Option Nat) (l:List CEnt) (f:FuncId) (args:List AV):wqN P S (.ok (.enter f args,h)) d l Q σ ds=EvN P S (.fn f) args h (j0h P S d l Q σ ds):=nr rfl
@[simp] theorem p0b (d:Option Nat) (l:List CEnt) (f:Nat) (args:List AV):wqN P S (.ok (.yield f args,h)) d l Q σ ds=EvN P S (.yield f) args h (j0h P S d l Q σ ds):=nr rfl
@[simp] theorem o0y (d:Option Nat) (l:List CEnt) (v:AV):j0h P S d l Q σ ds v h=A9 P S l Q (upd σ d v) ds h:=nr rfl
@[simp] theorem q0p (c:COp) (d:Option Nat) (l:List CEnt):j0g P S (.bool true) true c d l Q σ ds h=wqN P S (evS P c σ h) d l Q σ ds:=nr rfl
@[simp] theorem q0q (c:COp) (d:Option Nat) (l:List CEnt):j0g P S (.bool false) false c d l Q σ ds h=wqN P S (evS P c σ h) d l Q σ ds:=nr rfl
@[simp] theorem q0r (c:COp) (d:Option Nat) (l:List CEnt):j0g P S (.bool true) false c d l Q σ ds h=A9 P S l Q (upd σ d d8) ds h:=nr rfl
@[simp] theorem q0s (w:Bool) (c:COp) (d:Option Nat) (l:List CEnt):j0g P S d8 w c d l Q σ ds h=A9 P S l Q (upd σ d d8) ds h:=nr rfl
@[simp] theorem q0t (c:COp) (d:Option Nat) (l:List CEnt):j0g P S (.bool false) true c d l Q σ ds h=A9 P S l Q (upd σ d d8) ds h:=nr rfl
@[simp] theorem p0c (res:List CRes) (K:AV→AH→Prop):n0C P S res K .ret σ [] h=j0k (a0g h σ res) K h:=h0e _ _
@[simp] theorem n0L (K:AH→Prop):b0V P S [] h K=K h:=nr rfl
structure Less (k h:AH):Prop where
 next:k.next=h.next
 get:∀ i o,i<h.next→k.get i=some o→h.get i=some o
theorem i0j {B:Nat} {w0:World} (hM:P.follows .mixedOrders=true) (hnum:∀ (f:Nat) fn,P.funcs[f]? = some fn→fn.body.isSome=true→fn.name≠"runtime.NumGoroutine") (hS:b0m P B w0 S)
  {f:FuncId} {args:List AV} {v:AV} {h h':AH} (he:EvN P S (.fn f) args h fun r g=>r=v∧Less h' g∧∀ i,i<h.next→h'.get i=g.get i)
  {φ:Phi} {w:World} {args':List Value} (ha:ConL φ args args') (hG:GlobRel P φ) (hR:Rel B w0 φ h w) :
  (∀ w,(callFunc f ⟨args'⟩).run P w=.ok (.enter f ⟨args'⟩) w) ∧
  CallsK P .normal f ⟨args'⟩ w (fun v' w'=>∃ φ',Con φ' v v'∧Rel B w0 φ' h' w'∧Ext φ h φ' h'):=by
 obtain ⟨N,l,e,k⟩:=he
 obtain ⟨h1,h2⟩:=(e0N hM hnum hS N).1 _ _ _ _ e φ w args' ha hG hR
 refine ⟨h1,fun cs=>?_⟩
 obtain ⟨v',w',fr,fn,⟨u,g,φ',hm,c,R',X⟩,r⟩:=h2 cs
 obtain ⟨e1,hL,hold⟩:=k _ hm
 simp only at e1 hL hold
 subst e1
 refine ⟨v',w',fr,fn,⟨φ',c,R'.sub hL.next hL.get,⟨X.le,?_,fun i hi e=>?_⟩⟩,r⟩
 ·rw [hL.next];exact X.next
 ·obtain ⟨x1,x2⟩:=X.keep i hi e
  exact ⟨x1,(hold i hi).trans x2⟩
end
end Go.Dr

namespace Go.Dr
open Go.RowKit
variable {P:Program} {H:Type} {enc:TypeId×Value→H} {W:World} {base:Nat} {sp:Nat→Bool} {held:Bool}
theorem f0Y {α β:Type} {f:α→Option β}:∀ {l:List α} {r:List β},l.mapM f=some r→r.length=l.length∧∀ (i:Nat) (a:α),l[i]? = some a→∃ b,r[i]? = some b∧f a=some b
 | [],r,h=>by
  simp only [List.mapM_nil] at h
  cases h
  exact ⟨rfl,fun i a e=>by simp at e⟩
 | x::l,r,h=>by
  rw [List.mapM_cons] at h
  cases hx:f x with
  | none=>rw [hx] at h;cases h
  | some b =>
   cases hl:l.mapM f with
   | none=>rw [hx,hl] at h;cases h
   | some bs =>
    rw [hx,hl] at h
    cases h
    obtain ⟨h1,h2⟩:=f0Y hl
    refine ⟨by simp [h1],fun i a e=>?_⟩
    cases i with
    | zero=>simp at e;subst e;exact ⟨b,rfl,hx⟩
    | succ i=>exact h2 i a (by simpa using e)
inductive TyV (P:Program) (h:AH):TypeId→List AV→Prop
 | bool {t:TypeId} (ht:P.underlying t=some .bool) (b:Bool):TyV P h t [.bool b]
 | int {t:TypeId} {k:IntKind} {n:Int} (ht:P.underlying t=some (.int k)) (hn:(Lit.int k n).wf=true):TyV P h t [.int k n]
 | str {t:TypeId} {s:List UInt8} (ht:P.underlying t=some .string) (hs:s.length≤maxLen):TyV P h t [.str s]
 | nils {t e:TypeId} (ht:P.underlying t=some (.slice e)):TyV P h t [.nils]
 | slice {t e:TypeId} {id len cap:Nat} {vs:List AV} (ht:P.underlying t=some (.slice e)) (hi:id<h.next) (hg:h.get id=some (.cells vs true)) (hv:vs.length=len*P.cellsOf e)
   (hl:len≤cap) (hc:cap≤maxLen) (hel:∀ i,i<len→TyV P h e ((vs.drop (i*P.cellsOf e)).take (P.cellsOf e))):TyV P h t [.slice id 0 len cap true (P.cellsOf e)]
 | struct {t:TypeId} {fs:Array Field} {cs:List AV} (ht:P.underlying t=some (.struct fs)) (hl:cs.length=P.cellsOf t)
   (hf:∀ f ∈ fs.toList,TyV P h f.type ((cs.drop f.offset).take (P.cellsOf f.type))):TyV P h t cs
def d0l (P:Program):List Field→Nat→Nat→Bool
 | [],acc,tot=>Nat.beq acc tot
 | f::fs,acc,tot=>Nat.beq f.offset acc&&d0l P fs (acc+P.cellsOf f.type) tot
def a0A (P:Program):Nat→TypeId→Bool
 | 0,_=>false
 | d+1,t=>match P.underlying t with
  | some .bool | some (.int _) | some .string=>true
  | some (.slice e)=>Nat.blt 0 (P.cellsOf e)&&a0A P d e
  | some (.struct fs)=>d0l P fs.toList 0 (P.cellsOf t)&&fs.toList.all fun f=>a0A P d f.type
  | _=>false
def RO (φ:Phi) (h:AH):Prop:=∀ j q o,φ j=some q→h.get j=some o→o.writable=false
theorem a0B {n:Nat} {a:Addr} {cs:List Value} (h:W.cells? base a n=some cs):cs.length=n∧∀ i,i<n→W.cell? (a.add i)=cs[i]?:=by
 unfold World.cells? at h
 split at h
 ·obtain ⟨h1,h2⟩:=f0Y h
  rw [List.length_range] at h1
  refine ⟨h1,fun i hi=>?_⟩
  obtain ⟨b,hb,hf⟩:=h2 i i (by rw [List.getElem?_range hi])
  rw [hb,hf]
 ·cases h
theorem l0a {B:Nat} {w0 w:World} {φ:Phi} {h:AH} (r:Rel B w0 φ h w) (hro:RO φ h) {p:Pl} {vs:List AV} {c:Array Value} {e:TypeId} {f:Nat×Nat} (hb:w.heap[p.blk]? = some (.cells c e f))
  (h1:vs.length≤p.room) (h2:p.off+p.room≤c.size) (hc:∀ i x,vs[i]? = some x→∃ y,c[p.off+i]? = some y∧Con φ x y) :
  Rel B w0 (φ.set h.next p) (h.push (.cells vs true)) w∧RO (φ.set h.next p) (h.push (.cells vs true))∧φ.le (φ.set h.next p):=by
 have hle:=Phi.le_set p r.fresh
 refine ⟨(r.promise (.cells vs true)).lay (Nat.lt_succ_self _) r.fresh (a7 _) ⟨c,e,f.1,f.2,hb,h1,h2,fun i x hx=>?_,fun e=>by cases e⟩ (fun e=>by cases e) (fun j q oj hj hg hw=>?_),fun j q o hj hg=>?_,hle⟩
 ·obtain ⟨y,hy,hcon⟩:=hc i x hx
  exact ⟨y,hy,hcon.mono hle⟩
 ·have hne:j≠h.next:=fun e=>by rw [e,r.fresh] at hj;cases hj
  rw [c9 hne] at hg
  rcases hw with hw | hw
  ·cases hw
  ·rw [hro j q oj hj hg] at hw;cases hw
 ·by_cases hne:j=h.next
  ·subst hne
   rw [a7] at hg
   cases hg
   rfl
  ·rw [Phi.set_other _ _ hne] at hj
   rw [c9 hne] at hg
   exact hro j q o hj hg
theorem h0q {B:Nat} {w0 w:World} {α:Type} (T:AH→α→List AV→Prop) (hT:∀ h h' a l,Fr h h'→T h a l→T h' a l):∀ (xs:List (α×List Value)) (_:∀ x ∈ xs,∀ φ h,Rel B w0 φ h w→RO φ h →
   ∃ φ' h' l,ConL φ' l x.2∧Rel B w0 φ' h' w∧RO φ' h'∧φ.le φ'∧Fr h h'∧T h' x.1 l) (φ:Phi) (h:AH),Rel B w0 φ h w→RO φ h →
  ∃ (φ':Phi) (h':AH) (ls:List (List AV)),Rel B w0 φ' h' w∧RO φ' h'∧φ.le φ'∧Fr h h'∧ls.length=xs.length∧∀ (i:Nat) (x:α×List Value),xs[i]? = some x→∃ l,ls[i]? = some l∧ConL φ' l x.2∧T h' x.1 l
 | [],_,φ,h,r,ro=>⟨φ,h,[],r,ro,.refl _,.refl _,rfl,fun i x e=>by simp at e⟩
 | x::xs,hx,φ,h,r,ro=>by
  obtain ⟨φ1,h1,l,c1,r1,ro1,le1,f1,t1⟩:=hx x (by simp) φ h r ro
  obtain ⟨φ2,h2,ls,r2,ro2,le2,f2,hl,hall⟩:=h0q T hT xs (fun y hy=>hx y (List.mem_cons_of_mem _ hy)) φ1 h1 r1 ro1
  refine ⟨φ2,h2,l::ls,r2,ro2,le1.trans le2,f1.trans f2,by simp [hl],fun i y e=>?_⟩
  cases i with
  | zero=>simp at e;subst e;exact ⟨l,rfl,c1.mono le2,hT _ _ _ _ f2 t1⟩
  | succ i=>exact hall i y (by simpa using e)
theorem e0u {α:Type}:∀ (ls:List (List α)) (k:Nat),(∀ l ∈ ls,l.length=k)→ls.flatten.length=ls.length*k∧∀ (i:Nat) (l:List α),ls[i]? = some l→(ls.flatten.drop (i*k)).take k=l
 | [],k,_=>⟨by simp,fun i l e=>by simp at e⟩
 | x::ls,k,h=>by
  obtain ⟨h1,h2⟩:=e0u ls k fun l hl=>h l (List.mem_cons_of_mem _ hl)
  have hx:=h x (by simp)
  refine ⟨by rw [List.flatten_cons,List.length_append,h1,hx,List.length_cons,Nat.add_mul,Nat.one_mul,Nat.add_comm],fun i l e=>?_⟩
  cases i with
  | zero =>
   simp at e;subst e
   rw [List.flatten_cons,Nat.zero_mul,List.drop_zero,List.take_append_of_le_length (by omega),List.take_of_length_le (by omega)]
  | succ i =>
   rw [List.flatten_cons,Nat.add_mul,Nat.one_mul,Nat.add_comm,← List.drop_drop,← hx,List.drop_left,hx]
   exact h2 i l (by simpa using e)
theorem j0S {α:Type} (ls:List (List α)) (k:Nat) (h:∀ l ∈ ls,l.length=k) (i j:Nat) (hi:i<ls.length) (hj:j<k):∃ l,ls[i]? = some l∧ls.flatten[i*k+j]? = l[j]?:=by
 obtain ⟨h1,h2⟩:=e0u ls k h
 refine ⟨ls[i],List.getElem?_eq_getElem hi,?_⟩
 have:=h2 i _ (List.getElem?_eq_getElem hi)
 rw [← this,List.getElem?_take,if_pos hj,List.getElem?_drop]
theorem add_none {a:Addr} (h:a.spot=none) (m:Nat):a.add m=⟨a.block,a.off+m,none⟩:=by
 obtain ⟨b,o,s⟩:=a
 cases h
 exact Addr.add_none b o m
theorem f0Z {a:Addr} {v:Value} (h:W.cell? a=some v):a.spot=none∧∃ c e f,W.heap[a.block]? = some (.cells c e f)∧c[a.off]? = some v:=by
 unfold World.cell? at h
 split at h
 ·rename_i c e f hb
  split at h
  ·cases h
  ·rename_i hs
   refine ⟨by cases hs':a.spot <;> simp_all,c,e,f,hb,h⟩
 ·cases h
def j0u (W:World) (cs:List Value):Prop:=∀ (a:Addr) (len:Nat),Value.slice (some a) len 0 ∈ cs→∃ (b:Nat) (c:Array Value) (e:TypeId) (f:Nat×Nat),W.heap[b]? = some (.cells c e f)
theorem h0r {b:Nat} {x:TypeId×Nat} (h:W.shape? b=some x):∃ (c:Array Value) (e:TypeId) (f:Nat×Nat),W.heap[b]? = some (.cells c e f):=by
 unfold World.shape? at h
 split at h
 ·rename_i c e f hb;exact ⟨c,e,f,hb⟩
 ·cases h
theorem i0C {b0:Nat} {t:TypeId} {a:Addr} {len cap:Nat} (h:Cell.okWide P W .any b0 t (.slice (some a) len cap)):∃ (b:Nat) (c:Array Value) (e:TypeId) (f:Nat×Nat),W.heap[b]? = some (.cells c e f):=by
 unfold Cell.okWide at h
 split at h
 case h_8 =>
  unfold Cell.ok at h
  split at h <;> first | contradiction | skip
  all_goals (rename_i heq;first | cases heq | skip)
  obtain ⟨_,_,hh⟩:=h
  unfold World.has at hh
  obtain ⟨_,_,row,cells,hs,_⟩:=hh
  obtain ⟨c,e,f,hb⟩:=h0r hs
  exact ⟨_,c,e,f,hb⟩
 all_goals (rename_i heq;cases heq)
theorem ro0 (φ:Phi) (n:Nat):RO φ ⟨n,.leaf⟩:=fun _ _ _ _ e=>by cases e
theorem GlobRel.le {φ ψ:Phi} (h:GlobRel P φ) (hle:φ.le ψ):GlobRel P ψ:=fun g hg=>let ⟨n,e⟩:=h g hg;⟨n,hle _ _ e⟩
variable {h:AH}
def c0G (P:Program) (t:TypeId):List (TypeId×Nat):=match P.underlying t with
 | some (.struct fs)=>fs.toList.map fun f=>(f.type,f.offset)
 | _=>[]
theorem e0v {α:Type} (g:α→List AV) (p:α→Prop) (k:Nat):∀ (n:Nat) (vs:List AV),vs.length=n*k→(∀ i,i<n→∃ x,(vs.drop (i*k)).take k=g x∧p x)→∃ xs:List α,xs.length=n∧vs=(xs.map g).flatten∧∀ x ∈ xs,p x
 | 0,vs,hl,_=>⟨[],rfl,List.length_eq_zero_iff.1 (by omega),fun x hx=>by cases hx⟩
 | n+1,vs,hl,he=>by
  obtain ⟨x,h1,h2⟩:=he 0 (by omega)
  rw [Nat.zero_mul,List.drop_zero] at h1
  rw [Nat.add_mul,Nat.one_mul] at hl
  obtain ⟨xs,h3,h4,h5⟩:=e0v g p k n (vs.drop k) (by rw [List.length_drop];omega) fun i hi=>by
   obtain ⟨y,q1,q2⟩:=he (i+1) (by omega)
   refine ⟨y,?_,q2⟩
   rw [List.drop_drop,show k+i*k=(i+1)*k from by rw [Nat.add_mul,Nat.one_mul,Nat.add_comm]]
   exact q1
  refine ⟨x::xs,by simp [h3],?_,fun y hy=>?_⟩
  ·rw [List.map_cons,List.flatten_cons,← h4,← h1,List.take_append_drop]
  ·rcases List.mem_cons.1 hy with rfl | hy
   ·exact h2
   ·exact h5 y hy
end Go.Dr

namespace Go.Dr
open Go.RowKit
variable {P:Program}
def c0R (f:FuncId):b0e:=fun g=>if g=f then some (fun args h=>match args with | []=>.ok (.bool true,h) | _=>.error "arguments") else none
theorem k0e {lf n:Nat} {f:FuncId} (hM:P.follows .mixedOrders=true) (hnum:P.funcs.all (fun f=>f.name != "runtime.NumGoroutine")=true)
  (hrun:g0G (t6 P (fun _=>none) lf n (.fn f) [] ⟨P.globals.size,.leaf⟩)=true) (B:Nat) (w0:World):b0m P B w0 (c0R f):=by
 intro g s hs args h v h' he φ w args' ha hG hR
 unfold c0R at hs
 split at hs
 ·rename_i e
  subst e
  cases hs
  cases args with
  | cons a l=>cases he
  | nil =>
   cases he
   cases ha
   obtain ⟨hh,hr⟩:=j03 hrun
   obtain ⟨h1,h2⟩:=(i0G (B:=w.heap.size) (w0:=w) hM (e0G hnum) e0S n).1 _ _ _ _ _ hr (l0h P.globals.size) w [] .nil (n0w P) (p0E w _)
   refine ⟨h1,fun cs=>?_⟩
   obtain ⟨v',w',fr,fn',⟨φ',hv,hR',_⟩,rest⟩:=h2 cs
   refine ⟨v',w',fr,fn',⟨φ,?_,?_,.refl _ _⟩,rest⟩
   ·cases hv;exact .bool true
   ·exact hR.world (hR'.below.mono hR.size) fun i p o hi ho=>hR'.below.block _ (hR.obj i p o hi ho).lt
 ·cases hs
theorem m0N {S:b0e} (hM:P.follows .mixedOrders=true) (hnum:P.funcs.all (fun f=>f.name != "runtime.NumGoroutine")=true) {W:World} (hS:b0m P W.heap.size W S) {f:FuncId} {args:List AV} {args':List Value} {φ:Phi} {h:AH}
  (he:Ev P S (.fn f) args h fun r _=>r=.bool true) (ha:ConL φ args args') (hG:GlobRel P φ) (hR:Rel W.heap.size W φ h W) :
  Calls P f ⟨args'⟩ W fun e W'=>e=.returned (.bool true)∧Below W.heap.size W W':=by
 obtain ⟨N,v,h',he,rfl⟩:=he
 refine (h0y hM (e0G hnum) hS he ha hG hR).mono fun e W' hh=>?_
 cases e with
 | returned v =>
  obtain ⟨φ',h1,h2,_⟩:=hh
  cases h1
  exact ⟨rfl,h2.below⟩
 | panicked c=>exact hh.elim
 | outgrown=>exact hh.elim
end Go.Dr

namespace Go.Dr
open Go.RowKit
variable {P:Program} {B:Nat} {w0 w w':World} {φ:Phi} {h h':AH}
theorem CallsK.of_calls {f:FuncId} {args:Array Value} {R:Ending→World→Prop} {K:Value→World→Prop} (hc:Calls P f args w R) (hr:∀ e w',R e w'→∃ v,e=.returned v∧K v w'):CallsK P .normal f args w K:=by
 intro cs
 obtain ⟨e,w',fr,hR,hst,hf,hl⟩:=hc cs
 obtain ⟨v,rfl,hk⟩:=hr _ _ hR
 obtain ⟨hm,hd,hkd,fn,hfn,hres⟩:=hl
 exact ⟨v,w',fr,fn,hk,hst,hf,hm,hd,hkd,hfn,hres⟩
def q09 (zs:List Int):List Int:=zs.mergeSort fun x y=>decide (x≤y)
structure SortIs (P:Program) (f:FuncId):Prop where
 some:∀ (blk off cap:Nat) (zs:List Int) (w:World),Sort.Holds (Value.int .i64) w blk off zs.toArray→blk<w.heap.size→zs.length<4611686018427387904 →
  Calls P f #[.slice (some ⟨blk,off,none⟩) zs.length cap] w fun e w' =>
   e=.returned (.tuple #[])∧∃ n os,w'=Sort.grow (Sort.putRow (Value.int .i64) (Sort.ahead w n) blk off (zs.mergeSort fun x y=>decide (x≤y)).toArray) os
 none:∀ (p:Option Addr) (cap:Nat) (w:World),Calls P f #[.slice p 0 cap] w fun e w'=>e=.returned (.tuple #[])∧w'=w
 enter:∀ args w,(callFunc f args).run P w=.ok (.enter f args) w
end Go.Dr

namespace Go.Dk
open Go Go.Dr
set_option maxRecDepth 100000
noncomputable abbrev P:Program:=Go.Proofs.Tryz.prog
def a0L:FuncId:=8
def O5:FuncId:=11
def o3:FuncId:=24
def k9:FuncId:=40
def J1:FuncId:=25
def b0s:FuncId:=41
def i8:FuncId:=61
def I4:FuncId:=62
def O6:FuncId:=63
def h9:FuncId:=81
def A8:FuncId:=82
def C2:FuncId:=84
def E3:FuncId:=94
def a0M:FuncId:=83
def c8:FuncId:=43
def a6:FuncId:=42
def V2:FuncId:=64
def w9:FuncId:=65
def F1:FuncId:=85
def j5:FuncId:=95
def y6:FuncId:=13
def V3:FuncId:=32
def H8:FuncId:=28
def b0t:FuncId:=39
def i6:FuncId:=58
def l7:FuncId:=79
def f0K:FuncId:=59
def x6:FuncId:=51
def b0u:FuncId:=52
def f0L:FuncId:=72
def n9:FuncId:=53
def j6:FuncId:=74
def o8:FuncId:=75
def E4:FuncId:=50
def J9:FuncId:=7
def j8:FuncId:=20
def C3:FuncId:=21
def p8:FuncId:=22
def o7:FuncId:=23
def F5:FuncId:=10
def O7:FuncId:=4
def w6:FuncId:=12
def o4:FuncId:=29
def p9:FuncId:=47
def s5:FuncId:=30
def a0N:FuncId:=31
def Z3:FuncId:=48
def J2:FuncId:=67
def u7:FuncId:=68
def y7:FuncId:=86
def J3:FuncId:=69
def V4:FuncId:=70
def V5:FuncId:=49
def V6:FuncId:=71
def d7:TypeId:=3
def Q1:TypeId:=9
def o0e:TypeId:=120
def b0v:TypeId:=45
def Q2:TypeId:=56
def c0a:TypeId:=28
def h0R:TypeId:=66
def q0Z:TypeId:=4
def k0U:TypeId:=64
def T3:TypeId:=51
def d0X:TypeId:=30
def a0O:TypeId:=5
def g0R:TypeId:=21
@[simp] theorem d0t:P.underlying b0v=some (.slice Q2):=nr (by kernel_rfl)
@[simp] theorem k0V:P.underlying c0a=some (.pointer h0R):=nr (by kernel_rfl)
abbrev rR (d:Nat) (c:COp):CEnt:=.row ⟨some d,none,c⟩
abbrev rN (c:COp):CEnt:=.row ⟨none,none,c⟩
abbrev rA (d g:Nat) (c:COp):CEnt:=.row ⟨some d,some (g,true),c⟩
abbrev rB (d g:Nat) (c:COp):CEnt:=.row ⟨some d,some (g,false),c⟩
abbrev rM (d n:Nat):CEnt:=.row ⟨some d,none,.move (.t n)⟩
abbrev rL (d n:Nat):CEnt:=.row ⟨some d,none,.load1 (.t n)⟩
abbrev rF (d k n:Nat):CEnt:=.row ⟨some d,none,.fieldAddr k (.t n)⟩
abbrev rV (d n:Nat):CEnt:=.row ⟨some d,none,.lenV (.t n)⟩
abbrev rE (d n i:Nat):CEnt:=.row ⟨some d,none,.extract (.t n) i⟩
abbrev rK (d n:Nat):CEnt:=.row ⟨some d,none,.nilCheck (.t n)⟩
abbrev rC (d:Nat) (f:FuncId) (l:List CO):CEnt:=.row ⟨some d,none,.callV (.c (.func (.func f) [] [])) l⟩
abbrev rX (d:Nat) (v:AV):CEnt:=.row ⟨some d,none,.move (.c v)⟩
abbrev iV (n:Int):AV:=.int .i64 n
abbrev iC (n:Int):CO:=.c (.int .i64 n)
end Go.Dk

namespace Go.Dk
open Go Go.Dr
set_option maxRecDepth 100000
noncomputable def c0U:CC :=
 (.seq (.ops [rX 4 .nils]) (.seq (.ops [rC 10 O5 [],rM 5 10]) (.seq (.seq (.ops [rM 11 0,rM 12 1,rR 13 (.buildSlice 2 1 [.nils,.nils] [(0 ,1 ,(.t 11)),(1 ,1 ,(.t 12))]),rC 14 o3 [(.t 13)],rV 15 14,rX 16 (iV 0)]) (.block 0 (.loop (.seq (.ops [rR 17 (.bin .lss d7 false (.t 16) (.t 15))]) (.seq (.cond (.t 17) .skip (.exit 0)) (.seq (.block 1 (.seq (.ops [rR 18 (.idxV 2 (.t 14) (.t 16)),rR 19 (.loadN 2 (.t 18)),rR 7 (.new [.nils,.nils]),rN (.store 2 (.t 7) (.t 19))]) (.seq (.ops [rF 20 1 7,rL 21 20,rV 22 21,rX 23 (iV 0)]) (.block 2 (.loop (.seq (.ops [rR 24 (.bin .lss d7 false (.t 23) (.t 22))]) (.seq (.cond (.t 24) .skip (.exit 2)) (.seq (.block 3 (.seq (.ops [rR 25 (.idxV 2 (.t 21) (.t 23)),rR 26 (.loadN 2 (.t 25)),rR 9 (.new [(iV 0),(.int .u64 0)]),rN (.store 2 (.t 9) (.t 26))]) (.ops [rM 27 5,rF 28 0 7,rL 29 28,rF 30 0 9,rL 31 30,rF 32 1 9,rL 33 32,rC 34 J1 [(.t 27),(.t 29),(.t 31),(.t 33)]]))) (.ops [rR 35 (.bin .add d7 true (.t 23) (iC 1)),rM 23 35]))))))))) (.ops [rR 36 (.bin .add d7 true (.t 16) (iC 1)),rM 16 36]))))))) (.seq (.ops [rM 37 5,rC 38 y6 [(.t 37)],rM 4 38]) .ret))))
theorem g0W:l9 P a0L=.ok ⟨39,[.tmp 4],c0U⟩:=by kernel_rfl
noncomputable def e06:CC :=
 (.seq (.ops [rX 0 .nilp]) (.seq (.ops [rR 1 (.build [(.bool false),.nils] [(0 ,1 ,(.c (.bool true)))]),rR 2 (.box (.t 1)),rM 0 2]) .ret))
theorem i0Y:l9 P O5=.ok ⟨3,[.tmp 0],e06⟩:=by kernel_rfl
noncomputable def x9:CC :=
 (.seq (.ops [rX 2 .nils]) (.seq (.ops [rX 3 (iV 0)]) (.seq (.seq (.ops [rM 9 0,rV 10 9,rX 11 (iV 0)]) (.block 0 (.loop (.seq (.ops [rR 12 (.bin .lss d7 false (.t 11) (.t 10))]) (.seq (.cond (.t 12) .skip (.exit 0)) (.seq (.block 1 (.seq (.ops [rR 13 (.idxV 1 (.t 9) (.t 11)),rL 14 13,rM 5 14]) (.seq (.ops [rM 15 3,rM 16 5,rV 17 16,rR 18 (.bin .add d7 false (.t 15) (.t 17)),rM 3 18]) (.seq (.ops [rM 19 3,rR 20 (.bin .lss d7 true (.t 19) (iC 0))]) (.cond (.t 20) (.ops [rR 21 (.mkI Q1 (.c (.str [108,101,110,32,111,117,116,32,111,102,32,114,97,110,103,101]))),rN (.extract (.c .nilp) 0)]) .skip))))) (.ops [rR 22 (.bin .add d7 true (.t 11) (iC 1)),rM 11 22]))))))) (.seq (.ops [rM 23 3,rC 24 k9 [(.c .nils),(.t 23)],rM 6 24]) (.seq (.seq (.ops [rM 25 0,rV 26 25,rX 27 (iV 0)]) (.block 2 (.loop (.seq (.ops [rR 28 (.bin .lss d7 false (.t 27) (.t 26))]) (.seq (.cond (.t 28) .skip (.exit 2)) (.seq (.block 3 (.seq (.ops [rR 29 (.idxV 1 (.t 25) (.t 27)),rL 30 29,rM 8 30]) (.ops [rM 31 6,rM 32 8,rR 33 (.app 2 48 (.t 31) (.t 32)),rM 6 33]))) (.ops [rR 34 (.bin .add d7 true (.t 27) (iC 1)),rM 27 34]))))))) (.seq (.ops [rM 35 6,rM 2 35]) .ret))))))
theorem H9:l9 P o3=.ok ⟨36,[.tmp 2],x9⟩:=by kernel_rfl
noncomputable def p5:CC :=
 (.seq (.ops [rX 4 .nils]) (.seq (.seq (.ops [rM 5 1,rR 6 (.bin .lss d7 true (.t 5) (iC 0))]) (.cond (.t 6) (.ops [rR 7 (.mkI Q1 (.c (.str [99,97,110,110,111,116,32,98,101,32,110,101,103,97,116,105,118,101]))),rN (.extract (.c .nilp) 0)]) .skip)) (.seq (.seq (.ops [rM 8 1,rM 9 0,rR 10 (.capV (.t 9)),rM 11 0,rV 12 11,rR 13 (.bin .sub d7 false (.t 10) (.t 12)),rR 14 (.bin .sub d7 false (.t 8) (.t 13)),rM 1 14]) (.seq (.ops [rM 15 1,rR 16 (.bin .gtr d7 true (.t 15) (iC 0))]) (.cond (.t 16) (.ops [rM 17 0,rM 18 0,rR 19 (.capV (.t 18)),rR 20 (.sliceV 2 (.t 17) none (some (.t 19)) none),rM 21 1,rR 22 (.appZ 2 48 [.nils,.nils] (.t 20) (.t 21)),rM 23 0,rV 24 23,rR 25 (.sliceV 2 (.t 22) none (some (.t 24)) none),rM 0 25]) .skip))) (.seq (.ops [rM 26 0,rM 4 26]) .ret))))
theorem A4:l9 P k9=.ok ⟨27,[.tmp 4],p5⟩:=by kernel_rfl
noncomputable def a07:CC :=
 (.seq (.ops [rM 11 0,rK 12 11,rF 13 1 12,rL 14 13,rM 15 1,rC 16 b0s [(.t 14),(.t 15)],rM 10 16,rE 17 10 0,rE 18 10 1,rM 8 17,rM 9 18]) (.seq (.seq (.ops [rM 19 9,rR 20 (.un .not (.t 19))]) (.cond (.t 20) (.ops [rM 21 0,rM 22 0,rK 23 22,rF 24 1 23,rL 25 24,rM 26 8,rM 27 1,rR 29 (.mkM none),.stage [⟨(some 25),none,.load1 (.t 24)⟩],rC 28 c8 [(.t 27)],rR 30 (.build [.nils,.nilm] [(0 ,1 ,(.t 28)),(1 ,1 ,(.t 29))]),rR 31 (.box (.t 30)),rR 32 (.buildSlice 1 1 [.nilp] [(0 ,1 ,(.t 31))]),.stage [⟨(some 25),none,.load1 (.t 24)⟩],rC 33 a6 [(.t 25),(.t 26),(.t 32)],rK 34 21,rF 35 1 34,rN (.store 1 (.t 35) (.t 33))]) .skip)) (.ops [rM 36 0,rK 37 36,rF 38 1 37,rL 39 38,rM 40 8,rR 41 (.idxV 1 (.t 39) (.t 40)),rL 42 41,rK 43 42,rF 44 1 43,rL 45 44,rM 46 2,rM 47 3,rN (.upd d7 (.t 45) (.t 46) (.t 47))])))
theorem e0g:l9 P J1=.ok ⟨48,[],a07⟩:=by kernel_rfl
noncomputable def d0Z:CC :=
 (.seq (.ops [rX 4 (iV 0),rX 5 (.bool false)]) (.seq (.ops [rM 6 0,rM 7 1,rC 8 i8 [(.t 6),(.t 7),(.c (.func (.func I4) [] []))],rE 9 8 0,rE 10 8 1,rM 4 9,rM 5 10]) .ret))
theorem h0W:l9 P b0s=.ok ⟨11,[.tmp 4,.tmp 5],d0Z⟩:=by kernel_rfl
noncomputable def m8:CC :=
 (.seq (.ops [rX 6 (iV 0),rX 7 (.bool false)]) (.seq (.ops [rM 12 0,rV 13 12,rM 8 13]) (.seq (.ops [rM 14 8,rX 9 (iV 0),rM 10 14]) (.seq (.block 0 (.loop (.seq (.seq (.ops [rM 15 9,rM 16 10,rR 17 (.bin .lss d7 false (.t 15) (.t 16))]) (.cond (.t 17) .skip (.exit 0))) (.block 1 (.seq (.ops [rM 18 9,rM 19 10,rR 20 (.bin .add d7 false (.t 18) (.t 19)),rR 21 (.conv (.int .u64) (.t 20)),rR 22 (.bin .shr o0e true (.t 21) (.c (.int .u64 1))),rR 23 (.conv (.int .i64) (.t 22)),rM 11 23]) (.seq (.ops [rM 24 2,rM 25 0,rM 26 11,rR 27 (.idxV 1 (.t 25) (.t 26)),rL 28 27,rM 29 1,rR 30 (.callV (.t 24) [(.t 28),(.t 29)]),rR 31 (.bin .lss d7 true (.t 30) (iC 0))]) (.cond (.t 31) (.ops [rM 32 11,rR 33 (.bin .add d7 true (.t 32) (iC 1)),rM 9 33]) (.ops [rM 34 11,rM 10 34])))))))) (.seq (.ops [rM 35 9,rM 36 9,rM 37 8,rR 38 (.bin .lss d7 false (.t 36) (.t 37)),rM 39 38,rA 40 39 (.move (.t 2)),rA 41 39 (.move (.t 0)),rA 42 39 (.move (.t 9)),rA 43 39 (.idxV 1 (.t 41) (.t 42)),rA 44 39 (.load1 (.t 43)),rA 45 39 (.move (.t 1)),rA 46 39 (.callV (.t 40) [(.t 44),(.t 45)]),rA 47 39 (.bin .eql d7 true (.t 46) (iC 0)),rR 48 (.pick (.t 39) (.t 47) (.c (.bool false))),rM 6 35,rM 7 48]) .ret)))))
theorem z6:l9 P i8=.ok ⟨49,[.tmp 6,.tmp 7],m8⟩:=by kernel_rfl
noncomputable def c0b:CC :=
 (.seq (.ops [rX 4 (iV 0)]) (.seq (.ops [rM 5 0,rK 6 5,rF 7 0 6,rL 8 7,rM 9 1,rC 10 O6 [(.t 8),(.t 9)],rM 4 10]) .ret))
theorem f0M:l9 P I4=.ok ⟨11,[.tmp 4],c0b⟩:=by kernel_rfl
noncomputable def a0k:CC :=
 (.seq (.ops [rX 4 (iV 0)]) (.seq (.ops [rM 5 0,rM 6 1,rC 7 h9 [(.t 5),(.t 6),(.c (.func (.func A8) [] []))],rM 4 7]) .ret))
theorem d0x:l9 P O6=.ok ⟨8,[.tmp 4],a0k⟩:=by kernel_rfl
noncomputable def k7:CC :=
 (.seq (.ops [rX 6 (iV 0)]) (.seq (.seq (.ops [rM 11 0,rV 12 11,rX 13 (iV 0)]) (.block 0 (.loop (.seq (.ops [rR 14 (.bin .lss d7 false (.t 13) (.t 12))]) (.seq (.cond (.t 14) .skip (.exit 0)) (.seq (.block 1 (.seq (.ops [rM 15 13,rR 16 (.idxV 2 (.t 11) (.t 13)),rR 17 (.loadN 2 (.t 16)),rR 8 (.new [(.str []),(.str [])]),rM 7 15,rN (.store 2 (.t 8) (.t 17))]) (.seq (.seq (.ops [rM 18 7,rM 19 1,rV 20 19,rR 21 (.bin .geq d7 false (.t 18) (.t 20))]) (.cond (.t 21) (.seq (.ops [rX 6 (iV 1)]) .ret) .skip)) (.seq (.ops [rM 22 1,rM 23 7,rR 24 (.idxV 2 (.t 22) (.t 23)),rR 25 (.loadN 2 (.t 24)),rR 9 (.new [(.str []),(.str [])]),rN (.store 2 (.t 9) (.t 25))]) (.seq (.ops [rM 26 2,rR 27 (.loadN 2 (.t 8)),rR 28 (.loadN 2 (.t 9)),rR 29 (.callV (.t 26) [(.t 27),(.t 28)]),rM 10 29]) (.seq (.ops [rM 30 10,rR 31 (.bin .neq d7 true (.t 30) (iC 0))]) (.cond (.t 31) (.seq (.ops [rM 32 10,rM 6 32]) .ret) .skip))))))) (.ops [rR 33 (.bin .add d7 true (.t 13) (iC 1)),rM 13 33]))))))) (.seq (.seq (.ops [rM 34 0,rV 35 34,rM 36 1,rV 37 36,rR 38 (.bin .lss d7 false (.t 35) (.t 37))]) (.cond (.t 38) (.seq (.ops [rX 6 (iV (-1))]) .ret) .skip)) (.seq (.ops [rX 6 (iV 0)]) .ret))))
theorem u9:l9 P h9=.ok ⟨39,[.tmp 6],k7⟩:=by kernel_rfl
noncomputable def V7:CC :=
 (.seq (.ops [rR 2 (.box (.t 0)),rR 3 (.box (.t 1)),rX 4 (iV 0)]) (.seq (.ops [rF 5 0 2,rL 6 5,rF 7 0 3,rL 8 7,rF 10 1 2,rL 11 10,rF 12 1 3,rL 13 12,.stage [⟨(some 13),none,.load1 (.t 12)⟩,⟨(some 11),none,.load1 (.t 10)⟩,⟨(some 8),none,.load1 (.t 7)⟩,⟨(some 6),none,.load1 (.t 5)⟩],rC 9 C2 [(.t 6),(.t 8)],.stage [⟨(some 13),none,.load1 (.t 12)⟩,⟨(some 11),none,.load1 (.t 10)⟩],rC 14 C2 [(.t 11),(.t 13)],rR 15 (.buildSlice 2 1 [(iV 0),(iV 0)] [(0 ,1 ,(.t 9)),(1 ,1 ,(.t 14))]),rC 16 a0M [(.t 15)],rM 4 16]) .ret))
theorem c0p:l9 P A8=.ok ⟨17,[.tmp 4],V7⟩:=by kernel_rfl
noncomputable def G7:CC :=
 (.seq (.ops [rX 4 (iV 0)]) (.seq (.ops [rM 7 0,rC 8 E3 [(.t 7)],rM 5 8]) (.seq (.ops [rM 9 1,rC 10 E3 [(.t 9)],rM 6 10]) (.seq (.seq (.ops [rM 11 5]) (.cond (.t 11) (.seq (.seq (.ops [rM 12 6]) (.cond (.t 12) (.seq (.ops [rX 4 (iV 0)]) .ret) .skip)) (.seq (.ops [rX 4 (iV (-1))]) .ret)) .skip)) (.seq (.seq (.ops [rM 13 6]) (.cond (.t 13) (.seq (.ops [rX 4 (iV 1)]) .ret) .skip)) (.seq (.seq (.ops [rM 14 0,rM 15 1,rR 16 (.bin .lss Q1 false (.t 14) (.t 15))]) (.cond (.t 16) (.seq (.ops [rX 4 (iV (-1))]) .ret) .skip)) (.seq (.seq (.ops [rM 17 0,rM 18 1,rR 19 (.bin .gtr Q1 false (.t 17) (.t 18))]) (.cond (.t 19) (.seq (.ops [rX 4 (iV 1)]) .ret) .skip)) (.seq (.ops [rX 4 (iV 0)]) .ret))))))))
theorem b0y:l9 P C2=.ok ⟨20,[.tmp 4],G7⟩:=by kernel_rfl
noncomputable def V8:CC :=
 (.seq (.ops [rX 2 (.bool false)]) (.seq (.ops [rM 3 0,rM 4 0,rR 5 (.bin .neq Q1 false (.t 3) (.t 4)),rM 2 5]) .ret))
theorem c0q:l9 P E3=.ok ⟨6,[.tmp 2],V8⟩:=by kernel_rfl
noncomputable def c0V:CC :=
 (.seq (.ops [rX 2 (iV 0)]) (.seq (.ops [rX 3 (iV 0)]) (.seq (.seq (.ops [rM 6 0,rV 7 6,rX 8 (iV 0)]) (.block 0 (.loop (.seq (.ops [rR 9 (.bin .lss d7 false (.t 8) (.t 7))]) (.seq (.cond (.t 9) .skip (.exit 0)) (.seq (.block 1 (.seq (.ops [rR 10 (.idxV 1 (.t 6) (.t 8)),rL 11 10,rM 5 11]) (.seq (.ops [rM 12 5,rM 13 3,rR 14 (.bin .neq d7 false (.t 12) (.t 13))]) (.cond (.t 14) (.seq (.ops [rM 15 5,rM 2 15]) .ret) .skip)))) (.ops [rR 16 (.bin .add d7 true (.t 8) (iC 1)),rM 8 16]))))))) (.seq (.ops [rM 17 3,rM 2 17]) .ret))))
theorem g0X:l9 P a0M=.ok ⟨18,[.tmp 2],c0V⟩:=by kernel_rfl
noncomputable def q0:CC :=
 (.seq (.ops [rX 2 .nils]) (.seq (.seq (.ops [rM 3 0,rR 4 (.bin .eql b0v true (.t 3) (.c .nils))]) (.cond (.t 4) (.seq (.ops [rX 2 .nils]) .ret) .skip)) (.seq (.ops [rR 5 (.buildSlice 0 2 [] []),rM 6 0,rR 7 (.app 2 32 (.t 5) (.t 6)),rM 2 7]) .ret)))
theorem K0:l9 P c8=.ok ⟨8,[.tmp 2],q0⟩:=by kernel_rfl
noncomputable def l8:CC :=
 (.seq (.ops [rX 6 .nils]) (.seq (.ops [rM 10 0,rM 11 1,rR 12 (.sliceV 1 (.t 10) (some (.t 11)) none none)]) (.seq (.ops [rM 13 2,rV 14 13,rM 7 14]) (.seq (.seq (.ops [rM 15 7,rR 16 (.bin .eql d7 true (.t 15) (iC 0))]) (.cond (.t 16) (.seq (.ops [rM 17 0,rM 6 17]) .ret) .skip)) (.seq (.ops [rM 18 0,rV 19 18,rM 8 19]) (.seq (.seq (.ops [rM 20 1,rM 21 8,rR 22 (.bin .eql d7 false (.t 20) (.t 21))]) (.cond (.t 22) (.seq (.ops [rM 23 0,rM 24 2,rR 25 (.app 1 8 (.t 23) (.t 24)),rM 6 25]) .ret) .skip)) (.seq (.seq (.ops [rM 26 8,rM 27 7,rR 28 (.bin .add d7 false (.t 26) (.t 27)),rM 29 0,rR 30 (.capV (.t 29)),rR 31 (.bin .gtr d7 false (.t 28) (.t 30))]) (.cond (.t 31) (.seq (.ops [rM 32 0,rM 33 1,rR 34 (.sliceV 1 (.t 32) none (some (.t 33)) none),rM 35 8,rM 36 7,rR 37 (.bin .add d7 false (.t 35) (.t 36)),rM 38 1,rR 39 (.bin .sub d7 false (.t 37) (.t 38)),rR 40 (.appZ 1 8 [.nilp] (.t 34) (.t 39)),rM 9 40]) (.seq (.ops [rM 41 9,rM 42 1,rR 43 (.sliceV 1 (.t 41) (some (.t 42)) none none),rM 44 2,rR 45 (.copy 1 (.t 43) (.t 44))]) (.seq (.ops [rM 46 9,rM 47 1,rM 48 7,rR 49 (.bin .add d7 false (.t 47) (.t 48)),rR 50 (.sliceV 1 (.t 46) (some (.t 49)) none none),rM 51 0,rM 52 1,rR 53 (.sliceV 1 (.t 51) (some (.t 52)) none none),rR 54 (.copy 1 (.t 50) (.t 53))]) (.seq (.ops [rM 55 9,rM 6 55]) .ret)))) .skip)) (.seq (.ops [rM 56 0,rM 57 8,rM 58 7,rR 59 (.bin .add d7 false (.t 57) (.t 58)),rR 60 (.sliceV 1 (.t 56) none (some (.t 59)) none),rM 0 60]) (.seq (.seq (.ops [rM 61 2,rM 62 0,rM 63 1,rM 64 7,rR 65 (.bin .add d7 false (.t 63) (.t 64)),rR 66 (.sliceV 1 (.t 62) (some (.t 65)) none none),rC 67 V2 [(.t 61),(.t 66)],rR 68 (.un .not (.t 67))]) (.cond (.t 68) (.seq (.ops [rM 69 0,rM 70 1,rM 71 7,rR 72 (.bin .add d7 false (.t 70) (.t 71)),rR 73 (.sliceV 1 (.t 69) (some (.t 72)) none none),rM 74 0,rM 75 1,rR 76 (.sliceV 1 (.t 74) (some (.t 75)) none none),rR 77 (.copy 1 (.t 73) (.t 76))]) (.seq (.ops [rM 78 0,rM 79 1,rR 80 (.sliceV 1 (.t 78) (some (.t 79)) none none),rM 81 2,rR 82 (.copy 1 (.t 80) (.t 81))]) (.seq (.ops [rM 83 0,rM 6 83]) .ret))) .skip)) (.seq (.ops [rM 84 0,rM 85 8,rR 86 (.sliceV 1 (.t 84) (some (.t 85)) none none),rM 87 2,rR 88 (.copy 1 (.t 86) (.t 87))]) (.seq (.ops [rM 89 0,rM 90 1,rR 91 (.sliceV 1 (.t 89) (some (.t 90)) none none),rM 92 7,rC 93 w9 [(.t 91),(.t 92)]]) (.seq (.ops [rM 94 0,rM 6 94]) .ret))))))))))))
theorem s9:l9 P a6=.ok ⟨95,[.tmp 6],l8⟩:=by kernel_rfl
noncomputable def E1:CC :=
 (.ops [rM 4 0,rM 5 0,rV 6 5,rM 7 1,rR 8 (.bin .sub d7 false (.t 6) (.t 7)),rC 9 F1 [(.t 4),(.t 8)]])
theorem Q5:l9 P w9=.ok ⟨10,[],E1⟩:=by kernel_rfl
noncomputable def F2:CC :=
 (.seq (.ops [rM 4 0,rM 5 1,rR 6 (.sliceV 1 (.t 4) none (some (.t 5)) none),rC 7 j5 [(.t 6)]]) (.seq (.ops [rM 8 0,rM 9 1,rR 10 (.sliceV 1 (.t 8) (some (.t 9)) none none),rC 11 j5 [(.t 10)]]) (.ops [rM 12 0,rC 13 j5 [(.t 12)]])))
theorem S1:l9 P F1=.ok ⟨14,[],F2⟩:=by kernel_rfl
noncomputable def B0:CC :=
 (.seq (.ops [rM 4 0,rV 5 4,rR 6 (.bin .sub d7 true (.t 5) (iC 1)),rX 2 (iV 0),rM 3 6]) (.block 0 (.loop (.seq (.seq (.ops [rM 7 2,rM 8 3,rR 9 (.bin .lss d7 false (.t 7) (.t 8))]) (.cond (.t 9) .skip (.exit 0))) (.seq (.block 1 (.ops [rM 14 0,rM 15 2,rM 16 0,rM 17 3,rM 18 0,rM 19 3,rR 20 (.idxV 1 (.t 18) (.t 19)),rL 21 20,rM 22 0,rM 23 2,rR 24 (.idxV 1 (.t 22) (.t 23)),rL 25 24,rR 26 (.idxV 1 (.t 14) (.t 15)),.stage [⟨(some 25),none,.load1 (.t 24)⟩,⟨(some 21),none,.load1 (.t 20)⟩],rN (.store 1 (.t 26) (.t 21)),rR 27 (.idxV 1 (.t 16) (.t 17)),rN (.store 1 (.t 27) (.t 25))])) (.ops [rM 10 2,rR 11 (.bin .add d7 true (.t 10) (iC 1)),rM 12 3,rR 13 (.bin .sub d7 true (.t 12) (iC 1)),rM 2 11,rM 3 13]))))))
theorem K1:l9 P j5=.ok ⟨28,[],B0⟩:=by kernel_rfl
noncomputable def a08:CC :=
 (.seq (.ops [rX 2 .nils]) (.seq (.ops [rM 3 0,rC 4 V3 [(.t 3),(.c .nils),(iC (-9223372036854775808)),(iC 9223372036854775807)],rM 2 4]) .ret))
theorem e0h:l9 P y6=.ok ⟨5,[.tmp 2],a08⟩:=by kernel_rfl
noncomputable def V9:CC :=
 (.seq (.ops [rR 5 (.box (.t 1)),rR 6 (.box (.t 2)),rR 7 (.box (.t 3)),rX 8 .nils]) (.seq (.seq (.ops [rM 9 0,rC 10 H8 [(.t 9)],rM 11 10,rB 12 11 (.load1 (.t 5)),rB 13 11 (.callV (.c (.func (.func b0t) [] [])) [(.t 12)]),rB 14 11 (.un .not (.t 13)),rR 15 (.pick (.t 11) (.c (.bool true)) (.t 14))]) (.cond (.t 15) (.seq (.ops [rX 8 .nils]) .ret) .skip)) (.seq (.ops [rM 16 0,rK 17 16,rF 18 1 17,rL 19 18,rR 20 (.mkF x6 [] [(.t 5),(.t 6),(.t 7)]),rC 21 E4 [(.t 19),(.t 20)],rM 8 21]) .ret)))
theorem c0r:l9 P V3=.ok ⟨22,[.tmp 8],V9⟩:=by kernel_rfl
noncomputable def a0l:CC :=
 (.seq (.ops [rX 2 (.bool false)]) (.seq (.ops [rM 3 0,rR 4 (.bin .eql c0a true (.t 3) (.c .nilp)),rM 5 4,rB 6 5 (.move (.t 0)),rB 7 5 (.nilCheck (.t 6)),rB 8 5 (.fieldAddr 0 (.t 7)),rB 9 5 (.load1 (.t 8)),rB 10 5 (.un .not (.t 9)),rR 11 (.pick (.t 5) (.c (.bool true)) (.t 10)),rM 2 11]) .ret))
theorem d0y:l9 P H8=.ok ⟨12,[.tmp 2],a0l⟩:=by kernel_rfl
noncomputable def d00:CC :=
 (.seq (.ops [rX 2 (.bool false)]) (.seq (.ops [rM 3 0,rV 4 3,rR 5 (.bin .leq d7 true (.t 4) (iC 6)),rM 6 5,rA 7 6 (.move (.t 0)),rA 8 6 (.callV (.c (.func (.func i6) [] [])) [(.t 7),(.c (.func (.func f0K) [] []))]),rA 9 6 (.un .not (.t 8)),rR 10 (.pick (.t 6) (.t 9) (.c (.bool false))),rM 2 10]) .ret))
theorem h0X:l9 P b0t=.ok ⟨11,[.tmp 2],d00⟩:=by kernel_rfl
noncomputable def p6:CC :=
 (.seq (.ops [rX 4 (.bool false)]) (.seq (.ops [rM 5 0,rM 6 1,rC 7 l7 [(.t 5),(.t 6)],rR 8 (.bin .geq d7 true (.t 7) (iC 0)),rM 4 8]) .ret))
theorem D3:l9 P i6=.ok ⟨9,[.tmp 4],p6⟩:=by kernel_rfl
noncomputable def t8:CC :=
 (.seq (.ops [rX 4 (iV 0)]) (.seq (.seq (.ops [rM 6 0,rV 7 6,rX 8 (iV 0)]) (.block 0 (.loop (.seq (.ops [rR 9 (.bin .lss d7 false (.t 8) (.t 7))]) (.seq (.cond (.t 9) .skip (.exit 0)) (.seq (.block 1 (.seq (.ops [rM 10 8,rM 5 10]) (.seq (.ops [rM 11 1,rM 12 0,rM 13 5,rR 14 (.idxV 3 (.t 12) (.t 13)),rR 15 (.loadN 3 (.t 14)),rR 16 (.callV (.t 11) [(.t 15)])]) (.cond (.t 16) (.seq (.ops [rM 17 5,rM 4 17]) .ret) .skip)))) (.ops [rR 18 (.bin .add d7 true (.t 8) (iC 1)),rM 8 18]))))))) (.seq (.ops [rX 4 (iV (-1))]) .ret)))
theorem E5:l9 P l7=.ok ⟨19,[.tmp 4],t8⟩:=by kernel_rfl
noncomputable def Q6:CC :=
 (.seq (.ops [rR 5 (.new [.nils,.nils])]) (.seq (.seq (.ops [rL 6 1,rM 7 0,rK 8 7,rF 9 0 8,rL 10 9,.stage [⟨(some 10),none,.load1 (.t 9)⟩,⟨(some 6),none,.load1 (.t 1)⟩],rC 11 b0u [(.t 6),(.t 10)],rR 12 (.un .not (.t 11))]) (.cond (.t 12) (.seq (.ops [rR 13 (.build [.nils,.nils] []),rN (.store 2 (.t 5) (.t 13))]) .ret) .skip)) (.seq (.ops [rM 14 0,rL 15 2,rL 16 3,rC 17 n9 [(.t 14),(.t 15),(.t 16)],rN (.store 2 (.t 5) (.t 17))]) .ret)))
theorem b0z:l9 P x6=.ok ⟨18,[.many 5 2],Q6⟩:=by kernel_rfl
noncomputable def d01:CC :=
 (.seq (.ops [rR 3 (.box (.t 1)),rX 4 (.bool false)]) (.seq (.ops [rM 5 0,rR 6 (.mkF f0L [] [(.t 3)]),rC 7 i6 [(.t 5),(.t 6)],rR 8 (.un .not (.t 7)),rM 4 8]) .ret))
theorem h0Y:l9 P b0u=.ok ⟨9,[.tmp 4],d01⟩:=by kernel_rfl
noncomputable def M6:CC :=
 (.seq (.ops [rX 4 .nils]) (.seq (.ops [rX 5 .nils]) (.seq (.seq (.ops [rM 9 0,rV 10 9,rX 11 (iV 0)]) (.block 0 (.loop (.seq (.ops [rR 12 (.bin .lss d7 false (.t 11) (.t 10))]) (.seq (.cond (.t 12) .skip (.exit 0)) (.seq (.block 1 (.seq (.ops [rR 13 (.idxV 1 (.t 9) (.t 11)),rL 14 13,rM 7 14]) (.seq (.ops [rM 15 1,rM 16 7,rR 17 (.callV (.t 15) [(.t 16)]),rR 8 (.new [.nils,.nils]),rN (.store 2 (.t 8) (.t 17))]) (.seq (.ops [rF 18 1 8,rL 19 18,rV 20 19,rR 21 (.bin .gtr d7 true (.t 20) (iC 0))]) (.cond (.t 21) (.ops [rM 22 5,rR 23 (.loadN 2 (.t 8)),rR 24 (.buildSlice 1 2 [.nils,.nils] [(0 ,2 ,(.t 23))]),rR 25 (.app 2 48 (.t 22) (.t 24)),rM 5 25]) .skip))))) (.ops [rR 26 (.bin .add d7 true (.t 11) (iC 1)),rM 11 26]))))))) (.seq (.ops [rM 27 5,rM 4 27]) .ret))))
theorem a0T:l9 P E4=.ok ⟨28,[.tmp 4],M6⟩:=by kernel_rfl
noncomputable def W0:CC :=
 (.seq (.ops [rX 4 (.bool false)]) (.seq (.ops [rM 5 0,rM 6 1,rC 7 j8 [(.t 5),(.t 6),(.c (.func (.func C3) [] []))],rM 4 7]) .ret))
theorem c0s:l9 P J9=.ok ⟨8,[.tmp 4],W0⟩:=by kernel_rfl
noncomputable def j9:CC :=
 (.seq (.ops [rX 6 (.bool false)]) (.seq (.seq (.ops [rM 10 0,rV 11 10,rM 12 1,rV 13 12,rR 14 (.bin .neq d7 false (.t 11) (.t 13))]) (.cond (.t 14) (.seq (.ops [rX 6 (.bool false)]) .ret) .skip)) (.seq (.seq (.ops [rM 15 0,rV 16 15,rX 17 (iV 0)]) (.block 0 (.loop (.seq (.ops [rR 18 (.bin .lss d7 false (.t 17) (.t 16))]) (.seq (.cond (.t 18) .skip (.exit 0)) (.seq (.block 1 (.seq (.ops [rM 19 17,rR 20 (.idxV 2 (.t 15) (.t 17)),rR 21 (.loadN 2 (.t 20)),rR 8 (.new [.nils,.nils]),rM 7 19,rN (.store 2 (.t 8) (.t 21))]) (.seq (.ops [rM 22 1,rM 23 7,rR 24 (.idxV 2 (.t 22) (.t 23)),rR 25 (.loadN 2 (.t 24)),rR 9 (.new [.nils,.nils]),rN (.store 2 (.t 9) (.t 25))]) (.seq (.ops [rM 26 2,rR 27 (.loadN 2 (.t 8)),rR 28 (.loadN 2 (.t 9)),rR 29 (.callV (.t 26) [(.t 27),(.t 28)]),rR 30 (.un .not (.t 29))]) (.cond (.t 30) (.seq (.ops [rX 6 (.bool false)]) .ret) .skip))))) (.ops [rR 31 (.bin .add d7 true (.t 17) (iC 1)),rM 17 31]))))))) (.seq (.ops [rX 6 (.bool true)]) .ret))))
theorem u0:l9 P j8=.ok ⟨32,[.tmp 6],j9⟩:=by kernel_rfl
noncomputable def Q7:CC :=
 (.seq (.ops [rR 2 (.box (.t 0)),rR 3 (.box (.t 1)),rX 4 (.bool false)]) (.seq (.ops [rF 5 0 2,rL 6 5,rF 7 0 3,rL 8 7,rC 9 p8 [(.t 6),(.t 8)],rM 10 9,rA 11 10 (.fieldAddr 1 (.t 2)),rA 12 10 (.load1 (.t 11)),rA 13 10 (.fieldAddr 1 (.t 3)),rA 14 10 (.load1 (.t 13)),rA 15 10 (.callV (.c (.func (.func o7) [] [])) [(.t 12),(.t 14)]),rR 16 (.pick (.t 10) (.t 15) (.c (.bool false))),rM 4 16]) .ret))
theorem b0A:l9 P C3=.ok ⟨17,[.tmp 4],Q7⟩:=by kernel_rfl
noncomputable def B2:CC :=
 (.seq (.ops [rX 4 (.bool false)]) (.seq (.seq (.ops [rM 6 0,rV 7 6,rM 8 1,rV 9 8,rR 10 (.bin .neq d7 false (.t 7) (.t 9))]) (.cond (.t 10) (.seq (.ops [rX 4 (.bool false)]) .ret) .skip)) (.seq (.seq (.ops [rM 11 0,rV 12 11,rX 13 (iV 0)]) (.block 0 (.loop (.seq (.ops [rR 14 (.bin .lss d7 false (.t 13) (.t 12))]) (.seq (.cond (.t 14) .skip (.exit 0)) (.seq (.block 1 (.seq (.ops [rM 15 13,rM 5 15]) (.seq (.ops [rM 16 0,rM 17 5,rR 18 (.idxV 2 (.t 16) (.t 17)),rR 19 (.loadN 2 (.t 18)),rM 20 1,rM 21 5,rR 22 (.idxV 2 (.t 20) (.t 21)),rR 23 (.loadN 2 (.t 22)),rR 24 (.bin .neq Q2 false (.t 19) (.t 23)),.stage [⟨(some 23),none,.loadN 2 (.t 22)⟩,⟨(some 19),none,.loadN 2 (.t 18)⟩]]) (.cond (.t 24) (.seq (.ops [rX 4 (.bool false)]) .ret) .skip)))) (.ops [rR 25 (.bin .add d7 true (.t 13) (iC 1)),rM 13 25]))))))) (.seq (.ops [rX 4 (.bool true)]) .ret))))
theorem K2:l9 P p8=.ok ⟨26,[.tmp 4],B2⟩:=by kernel_rfl
end Go.Dk

namespace Go.Dk
open Go Go.Dr
set_option maxRecDepth 100000
noncomputable def y9:CC :=
 (.seq (.ops [rX 4 (.bool false)]) (.seq (.seq (.ops [rM 6 0,rV 7 6,rM 8 1,rV 9 8,rR 10 (.bin .neq d7 false (.t 7) (.t 9))]) (.cond (.t 10) (.seq (.ops [rX 4 (.bool false)]) .ret) .skip)) (.seq (.seq (.ops [rM 11 0,rV 12 11,rX 13 (iV 0)]) (.block 0 (.loop (.seq (.ops [rR 14 (.bin .lss d7 false (.t 13) (.t 12))]) (.seq (.cond (.t 14) .skip (.exit 0)) (.seq (.block 1 (.seq (.ops [rM 15 13,rM 5 15]) (.seq (.ops [rM 16 0,rM 17 5,rR 18 (.idxV 2 (.t 16) (.t 17)),rR 19 (.loadN 2 (.t 18)),rM 20 1,rM 21 5,rR 22 (.idxV 2 (.t 20) (.t 21)),rR 23 (.loadN 2 (.t 22)),rR 24 (.bin .neq T3 false (.t 19) (.t 23)),.stage [⟨(some 23),none,.loadN 2 (.t 22)⟩,⟨(some 19),none,.loadN 2 (.t 18)⟩]]) (.cond (.t 24) (.seq (.ops [rX 4 (.bool false)]) .ret) .skip)))) (.ops [rR 25 (.bin .add d7 true (.t 13) (iC 1)),rM 13 25]))))))) (.seq (.ops [rX 4 (.bool true)]) .ret))))
theorem I1:l9 P o7=.ok ⟨26,[.tmp 4],y9⟩:=by kernel_rfl
noncomputable def a0h:CC :=
 (.seq (.ops [rX 4 (.bool false)]) (.seq (.ops [rM 12 0,rM 13 0,rV 14 13,rR 15 (.mm false (.t 14) [(iC 30)]),rR 16 (.sliceV 3 (.t 12) none (some (.t 15)) none),rM 17 1,rM 18 1,rV 19 18,rR 20 (.mm false (.t 19) [(iC 30)]),rR 21 (.sliceV 3 (.t 17) none (some (.t 20)) none),rM 0 16,rM 1 21]) (.seq (.ops [rC 22 O5 [],rC 23 O5 [],rC 24 O5 [],rM 5 22,rM 6 23,rM 7 24]) (.seq (.ops [rM 25 5,rM 26 0,rC 27 w6 [(.t 25),(.t 26)],rM 28 6,rM 29 1,rC 30 w6 [(.t 28),(.t 29)],rM 8 27,rM 9 30]) (.seq (.ops [rM 31 7,rM 32 0,rC 33 w6 [(.t 31),(.t 32)],rM 34 7,rM 35 1,rC 36 w6 [(.t 34),(.t 35)],rM 10 33,rM 11 36]) (.seq (.seq (.ops [rM 37 8,rM 38 10,rR 39 (.bin .neq d0X false (.t 37) (.t 38)),rM 40 39,rB 41 40 (.move (.t 9)),rB 42 40 (.move (.t 11)),rB 43 40 (.bin .neq d0X false (.t 41) (.t 42)),rR 44 (.pick (.t 40) (.c (.bool true)) (.t 43))]) (.cond (.t 44) (.seq (.ops [rX 4 (.bool false)]) .ret) .skip)) (.seq (.ops [rM 45 5,rC 46 y6 [(.t 45)],rM 47 6,rC 48 y6 [(.t 47)],rC 49 a0L [(.t 46),(.t 48)],rM 50 7,rC 51 y6 [(.t 50)],rC 52 J9 [(.t 49),(.t 51)],rM 53 52,rA 54 53 (.callV (.c (.func (.func F5) [] [])) []),rR 55 (.pick (.t 53) (.t 54) (.c (.bool false))),rM 4 55]) .ret)))))))
theorem d0p:l9 P O7=.ok ⟨56,[.tmp 4],a0h⟩:=by kernel_rfl
noncomputable def U8:CC :=
 (.seq (.ops [rX 4 (iV 0)]) (.seq (.block 0 (.seq (.ops [rM 8 0,rC 9 H8 [(.t 8)],rM 7 9]) (.cond (.t 7) (.seq (.ops [rX 4 (iV 2)]) .ret) (.seq (.ops [rM 11 1,rC 12 o4 [(.t 11),(.c (.func (.func s5) [] []))],rM 10 12]) (.cond (.t 10) (.seq (.ops [rX 4 (iV 1)]) .ret) .skip))))) (.seq (.seq (.ops [rM 13 1,rV 14 13,rX 15 (iV 0)]) (.block 1 (.loop (.seq (.ops [rR 16 (.bin .lss d7 false (.t 15) (.t 14))]) (.seq (.cond (.t 16) .skip (.exit 1)) (.seq (.block 2 (.seq (.ops [rR 17 (.idxV 3 (.t 13) (.t 15)),rR 18 (.loadN 3 (.t 17)),rR 6 (.new [.nils,(iV 0),(.int .u64 0)]),rN (.store 3 (.t 6) (.t 18))]) (.ops [rM 19 0,rF 20 0 6,rL 21 20,rF 22 1 6,rL 23 22,rF 24 2 6,rL 25 24,rC 26 J1 [(.t 19),(.t 21),(.t 23),(.t 25)]]))) (.ops [rR 27 (.bin .add d7 true (.t 15) (iC 1)),rM 15 27]))))))) (.seq (.ops [rX 4 (iV 0)]) .ret))))
theorem c0h:l9 P w6=.ok ⟨28,[.tmp 4],U8⟩:=by kernel_rfl
noncomputable def x8:CC :=
 (.seq (.ops [rX 4 (.bool false)]) (.seq (.ops [rM 5 0,rM 6 1,rC 7 p9 [(.t 5),(.t 6)],rR 8 (.bin .geq d7 true (.t 7) (iC 0)),rM 4 8]) .ret))
theorem H7:l9 P o4=.ok ⟨9,[.tmp 4],x8⟩:=by kernel_rfl
noncomputable def A7:CC :=
 (.seq (.ops [rX 4 (iV 0)]) (.seq (.seq (.ops [rM 6 0,rV 7 6,rX 8 (iV 0)]) (.block 0 (.loop (.seq (.ops [rR 9 (.bin .lss d7 false (.t 8) (.t 7))]) (.seq (.cond (.t 9) .skip (.exit 0)) (.seq (.block 1 (.seq (.ops [rM 10 8,rM 5 10]) (.seq (.ops [rM 11 1,rM 12 0,rM 13 5,rR 14 (.idxV 3 (.t 12) (.t 13)),rR 15 (.loadN 3 (.t 14)),rR 16 (.callV (.t 11) [(.t 15)])]) (.cond (.t 16) (.seq (.ops [rM 17 5,rM 4 17]) .ret) .skip)))) (.ops [rR 18 (.bin .add d7 true (.t 8) (iC 1)),rM 8 18]))))))) (.seq (.ops [rX 4 (iV (-1))]) .ret)))
theorem J5:l9 P p9=.ok ⟨19,[.tmp 4],A7⟩:=by kernel_rfl
noncomputable def P8:CC :=
 (.seq (.ops [rR 1 (.box (.t 0)),rX 2 (.bool false)]) (.seq (.ops [rF 3 0 1,rL 4 3,rC 5 a0N [(.t 4)],rR 6 (.un .not (.t 5)),rM 2 6]) .ret))
theorem b0j:l9 P s5=.ok ⟨7,[.tmp 2],P8⟩:=by kernel_rfl
noncomputable def S9:CC :=
 (.seq (.ops [rX 2 (.bool false)]) (.seq (.seq (.ops [rM 6 0,rV 7 6,rR 8 (.bin .eql d7 true (.t 7) (iC 0)),rM 9 8,rB 10 9 (.move (.t 0)),rB 11 9 (.lenV (.t 10)),rB 12 9 (.bin .gtr d7 true (.t 11) (iC 8)),rR 13 (.pick (.t 9) (.c (.bool true)) (.t 12))]) (.cond (.t 13) (.seq (.ops [rX 2 (.bool false)]) .ret) .skip)) (.seq (.ops [rX 3 (.str [])]) (.seq (.seq (.ops [rM 14 0,rV 15 14,rX 16 (iV 0)]) (.block 0 (.loop (.seq (.ops [rR 17 (.bin .lss d7 false (.t 16) (.t 15))]) (.seq (.cond (.t 17) .skip (.exit 0)) (.seq (.block 1 (.seq (.ops [rR 18 (.idxV 2 (.t 14) (.t 16)),rR 19 (.loadN 2 (.t 18)),rR 5 (.new [(.str []),(.str [])]),rN (.store 2 (.t 5) (.t 19))]) (.seq (.seq (.ops [rF 20 0 5,rL 21 20,rC 22 Z3 [(.t 21)],rR 23 (.un .not (.t 22)),rM 24 23,rB 25 24 (.fieldAddr 1 (.t 5)),rB 26 24 (.load1 (.t 25)),rB 27 24 (.callV (.c (.func (.func V5) [] [])) [(.t 26)]),rB 28 24 (.un .not (.t 27)),rR 29 (.pick (.t 24) (.c (.bool true)) (.t 28)),rM 30 29,rB 31 30 (.fieldAddr 0 (.t 5)),rB 32 30 (.load1 (.t 31)),rB 33 30 (.move (.t 3)),rB 34 30 (.bin .leq Q1 false (.t 32) (.t 33)),rR 35 (.pick (.t 30) (.c (.bool true)) (.t 34))]) (.cond (.t 35) (.seq (.ops [rX 2 (.bool false)]) .ret) .skip)) (.ops [rF 36 0 5,rL 37 36,rM 3 37])))) (.ops [rR 38 (.bin .add d7 true (.t 16) (iC 1)),rM 16 38]))))))) (.seq (.ops [rX 2 (.bool true)]) .ret)))))
theorem g0H:l9 P a0N=.ok ⟨39,[.tmp 2],S9⟩:=by kernel_rfl
noncomputable def I3:CC :=
 (.seq (.ops [rX 2 (.bool false)]) (.seq (.seq (.ops [rM 3 0,rR 4 (.bin .eql Q1 true (.t 3) (.c (.str []))),rM 5 4,rB 6 5 (.move (.t 0)),rB 7 5 (.lenS (.t 6)),rB 8 5 (.bin .gtr d7 true (.t 7) (iC 24)),rR 9 (.pick (.t 5) (.c (.bool true)) (.t 8)),rM 10 9,rB 11 10 (.move (.t 0)),rB 12 10 (.indexS (.t 11) (iC 0)),rB 13 10 (.callV (.c (.func (.func J2) [] [])) [(.t 12)]),rB 14 10 (.un .not (.t 13)),rR 15 (.pick (.t 10) (.c (.bool true)) (.t 14))]) (.cond (.t 15) (.seq (.ops [rX 2 (.bool false)]) .ret) .skip)) (.seq (.ops [rM 16 0,rR 17 (.conv .bytes (.t 16)),rC 18 u7 [(.t 17),(.c (.func (.func J3) [] []))],rR 19 (.un .not (.t 18)),rM 2 19]) .ret)))
theorem f0E:l9 P Z3=.ok ⟨20,[.tmp 2],I3⟩:=by kernel_rfl
noncomputable def E9:CC :=
 (.seq (.ops [rX 2 (.bool false)]) (.seq (.ops [rM 3 0,rR 4 (.bin .eql a0O true (.t 3) (.c (.int .u8 95))),rM 5 4,rB 6 5 (.move (.t 0)),rB 7 5 (.bin .or a0O true (.t 6) (.c (.int .u8 32))),rB 8 5 (.bin .geq a0O true (.t 7) (.c (.int .u8 97))),rB 9 5 (.move (.t 8)),rA 10 9 (.move (.t 0)),rA 11 9 (.bin .or a0O true (.t 10) (.c (.int .u8 32))),rA 12 9 (.bin .leq a0O true (.t 11) (.c (.int .u8 122))),rB 13 5 (.pick (.t 9) (.t 12) (.c (.bool false))),rR 14 (.pick (.t 5) (.c (.bool true)) (.t 13)),rM 2 14]) .ret))
theorem e0c:l9 P J2=.ok ⟨15,[.tmp 2],E9⟩:=by kernel_rfl
noncomputable def D2:CC :=
 (.seq (.ops [rX 4 (.bool false)]) (.seq (.ops [rM 5 0,rM 6 1,rC 7 y7 [(.t 5),(.t 6)],rR 8 (.bin .geq d7 true (.t 7) (iC 0)),rM 4 8]) .ret))
theorem O0:l9 P u7=.ok ⟨9,[.tmp 4],D2⟩:=by kernel_rfl
noncomputable def F0:CC :=
 (.seq (.ops [rX 4 (iV 0)]) (.seq (.seq (.ops [rM 6 0,rV 7 6,rX 8 (iV 0)]) (.block 0 (.loop (.seq (.ops [rR 9 (.bin .lss d7 false (.t 8) (.t 7))]) (.seq (.cond (.t 9) .skip (.exit 0)) (.seq (.block 1 (.seq (.ops [rM 10 8,rM 5 10]) (.seq (.ops [rM 11 1,rM 12 0,rM 13 5,rR 14 (.idxV 1 (.t 12) (.t 13)),rL 15 14,rR 16 (.callV (.t 11) [(.t 15)])]) (.cond (.t 16) (.seq (.ops [rM 17 5,rM 4 17]) .ret) .skip)))) (.ops [rR 18 (.bin .add d7 true (.t 8) (iC 1)),rM 8 18]))))))) (.seq (.ops [rX 4 (iV (-1))]) .ret)))
theorem R8:l9 P y7=.ok ⟨19,[.tmp 4],F0⟩:=by kernel_rfl
noncomputable def R9:CC :=
 (.seq (.ops [rX 2 (.bool false)]) (.seq (.ops [rM 3 0,rC 4 J2 [(.t 3)],rR 5 (.un .not (.t 4)),rM 6 5,rA 7 6 (.move (.t 0)),rA 8 6 (.callV (.c (.func (.func V4) [] [])) [(.t 7)]),rA 9 6 (.un .not (.t 8)),rR 10 (.pick (.t 6) (.t 9) (.c (.bool false))),rM 2 10]) .ret))
theorem e0d:l9 P J3=.ok ⟨11,[.tmp 2],R9⟩:=by kernel_rfl
noncomputable def U9:CC :=
 (.seq (.ops [rX 2 (.bool false)]) (.seq (.ops [rM 3 0,rR 4 (.bin .geq a0O true (.t 3) (.c (.int .u8 48))),rM 5 4,rA 6 5 (.move (.t 0)),rA 7 5 (.bin .leq a0O true (.t 6) (.c (.int .u8 57))),rR 8 (.pick (.t 5) (.t 7) (.c (.bool false))),rM 2 8]) .ret))
theorem e0H:l9 P V4=.ok ⟨9,[.tmp 2],U9⟩:=by kernel_rfl
noncomputable def b0k:CC :=
 (.seq (.ops [rX 2 (.bool false)]) (.seq (.seq (.ops [rM 5 0,rR 6 (.rangeS (.t 5))]) (.block 0 (.loop (.seq (.ops [rR 7 (.next (.t 6) true),rE 8 7 0]) (.seq (.cond (.t 8) .skip (.exit 0)) (.block 1 (.seq (.ops [rE 9 7 2,rM 4 9]) (.seq (.ops [rM 10 4,rC 11 V6 [(.t 10)],rR 12 (.un .not (.t 11))]) (.cond (.t 12) (.seq (.ops [rX 2 (.bool false)]) .ret) .skip))))))))) (.seq (.ops [rM 13 0,rR 14 (.bin .neq Q1 true (.t 13) (.c (.str []))),rM 15 14,rA 16 15 (.move (.t 0)),rA 17 15 (.lenS (.t 16)),rA 18 15 (.bin .leq d7 true (.t 17) (iC 40)),rR 19 (.pick (.t 15) (.t 18) (.c (.bool false))),rM 2 19]) .ret)))
theorem e0I:l9 P V5=.ok ⟨20,[.tmp 2],b0k⟩:=by kernel_rfl
noncomputable def M4:CC :=
 (.seq (.ops [rX 2 (.bool false)]) (.seq (.ops [rM 3 0,rR 4 (.bin .geq g0R true (.t 3) (.c (.int .i32 32))),rM 5 4,rA 6 5 (.move (.t 0)),rA 7 5 (.bin .neq g0R true (.t 6) (.c (.int .i32 127))),rR 8 (.pick (.t 5) (.t 7) (.c (.bool false))),rM 9 8,rA 10 9 (.move (.t 0)),rA 11 9 (.bin .neq g0R true (.t 10) (.c (.int .i32 65533))),rR 12 (.pick (.t 9) (.t 11) (.c (.bool false))),rM 2 12]) .ret))
theorem e0J:l9 P V6=.ok ⟨13,[.tmp 2],M4⟩:=by kernel_rfl
end Go.Dk

namespace Go.Dk
open Go Go.Dr
set_option maxRecDepth 100000
noncomputable def a09:DC :=
 (.seq
 (.ops [
  .row ⟨(some 6),none,.new [.nils,.nils]⟩])
 (.seq
  (.ops [
  .row ⟨(some 10),none,.move (.t 0)⟩,
  .row ⟨(some 11),none,.nilCheck (.t 10)⟩,
  .row ⟨(some 12),none,.fieldAddr 0 (.t 11)⟩,
  .row ⟨(some 13),none,.load1 (.t 12)⟩,
  .row ⟨(some 14),none,.callV (.c (.func (.func c8) [] [])) [(.t 13)]⟩,
  .row ⟨(some 15),none,.build [.nils,.nils] [(0,1,(.t 14))]⟩,
  .row ⟨(some 7),none,.new [.nils,.nils]⟩,
  .row ⟨none,none,.store 2 (.t 7) (.t 15)⟩])
  (.seq
  (.seq
   (.ops [
   .row ⟨(some 16),none,.move (.t 0)⟩,
   .row ⟨(some 17),none,.nilCheck (.t 16)⟩,
   .row ⟨(some 18),none,.fieldAddr 1 (.t 17)⟩,
   .row ⟨(some 19),none,.load1 (.t 18)⟩,
   .row ⟨(some 20),none,.rangeM (.t 19)⟩])
   (.block 0
   (.loop
    (.seq
    (.ops [
     .row ⟨(some 21),none,.next (.t 20) false⟩,
     .row ⟨(some 22),none,.extract (.t 21) 0⟩])
    (.seq
     (.cond (.t 22)
     .skip
     (.exit 0))
     (.block 1
     (.seq
      (.ops [
      .row ⟨(some 23),none,.entry (.t 20)⟩,
      .row ⟨(some 24),none,.extract (.t 23) 0⟩,
      .row ⟨(some 25),none,.extract (.t 23) 1⟩,
      .row ⟨(some 8),none,.move (.t 24)⟩,
      .row ⟨(some 9),none,.move (.t 25)⟩])
      (.seq
      (.ops [
       .row ⟨(some 26),none,.move (.t 1)⟩,
       .row ⟨(some 27),none,.move (.t 8)⟩,
       .row ⟨(some 28),none,.bin .leq d7 false (.t 26) (.t 27)⟩,
       .row ⟨(some 29),none,.move (.t 28)⟩,
       .row ⟨(some 30),(some (29,true)),.move (.t 8)⟩,
       .row ⟨(some 31),(some (29,true)),.move (.t 2)⟩,
       .row ⟨(some 32),(some (29,true)),.bin .leq d7 false (.t 30) (.t 31)⟩,
       .row ⟨(some 33),none,.pick (.t 29) (.t 32) (.c (.bool false))⟩])
      (.cond (.t 33)
       (.ops [
       .row ⟨(some 34),none,.fieldAddr 1 (.t 7)⟩,
       .row ⟨(some 35),none,.load1 (.t 34)⟩,
       .row ⟨(some 36),none,.move (.t 8)⟩,
       .row ⟨(some 37),none,.move (.t 9)⟩,
       .row ⟨(some 38),none,.build [(.int .i64 0),(.int .u64 0)] [(0,1,(.t 36)),(1,1,(.t 37))]⟩,
       .row ⟨(some 39),none,.buildSlice 1 2 [(.int .i64 0),(.int .u64 0)] [(0,2,(.t 38))]⟩,
       .row ⟨(some 40),none,.app 2 16 (.t 35) (.t 39)⟩,
       .row ⟨(some 41),none,.fieldAddr 1 (.t 7)⟩,
       .row ⟨none,none,.store 1 (.t 41) (.t 40)⟩])
       .skip)))))))))
  (.seq
   (.ops [
   .row ⟨(some 42),none,.fieldAddr 1 (.t 7)⟩,
   .row ⟨(some 43),none,.load1 (.t 42)⟩,
   .row ⟨(some 44),none,.callV (.c (.func (.func j6) [] [])) [(.t 43),(.c (.func (.func o8) [] []))]⟩])
   (.seq
   (.ops [
    .row ⟨(some 45),none,.loadN 2 (.t 7)⟩,
    .row ⟨none,none,.store 2 (.t 6) (.t 45)⟩])
   .ret)))))
theorem e0j:g0U P n9=.ok ⟨46,[.many 6 2],a09⟩:=by kernel_rfl
end Go.Dk

namespace Go.Dr
section
variable {P:Program} {S:b0e} {Q:C1} {σ:Sg} {ds:List ADef} {h:AH}
@[simp] theorem n0m (t:TypeId) (lit:Bool) (a b:List UInt8):m9 P .eql t lit (.str a) (.str b)=.ok (.bool (decide (a=b))):=by
 simp only [m9,f0h]
 congr 2
 by_cases h:a=b <;> simp [h]
@[simp] theorem n0n (t:TypeId) (lit:Bool) (a b:List UInt8):m9 P .neq t lit (.str a) (.str b)=.ok (.bool (decide (¬ a=b))):=by
 simp only [m9,f0h]
 congr 2
 by_cases h:a=b <;> simp [h]
@[simp] theorem n0o {t e:TypeId} (ht:P.underlying t=some (.pointer e)) (lit:Bool) (i o:Nat):m9 P .eql t lit (.ptr i o) .nilp=.ok (.bool false):=by
 simp [m9,a0X,S2,und,ht,ofO,G8,W4,a0q]
@[simp] theorem g0A {t e:TypeId} (ht:P.underlying t=some (.slice e)) (lit:Bool):m9 P .eql t lit .nils .nils=.ok (.bool true):=by
 simp [m9,a0X,S2,und,ht,ofO,G8,W4,a0q]
@[simp] theorem f0z {t e:TypeId} (ht:P.underlying t=some (.slice e)) (lit:Bool) (id off n cap:Nat) (x:Bool) (es:Nat) :
  m9 P .eql t lit (.slice id off n cap x es) .nils=.ok (.bool false):=by
 simp [m9,a0X,S2,und,ht,ofO,G8,W4,a0q]
theorem Sl.isNil {es n:Nat} {v:AV} {l:List AV} (s:Sl h es n v l) {t e:TypeId} (ht:P.underlying t=some (.slice e)) (lit:Bool) :
  ∃ b,m9 P .eql t lit v .nils=.ok (.bool b)∧(b=true→v=.nils∧n=0∧l=[]):=by
 obtain ⟨hl,s⟩:=s
 rcases s with ⟨rfl,rfl⟩ | ⟨id,off,cap,x,vs,ro,rfl,_⟩
 ·exact ⟨true,g0A ht lit,fun _=>⟨rfl,rfl,by simpa using hl⟩⟩
 ·exact ⟨false,f0z ht lit _ _ _ _ _ _,fun e=>by cases e⟩
end
end Go.Dr

namespace Go.Dr
abbrev Txt:=List UInt8
theorem b0R {α:Type} (l:List α) (j:Nat) (x:α) (h:l[j]? = some x):l.take (j+1)=l.take j++[x]:=by
 rw [List.take_add_one,h];rfl
theorem L0:∀ a:Txt,Op.bytesLess a a=false
 | []=>rfl
 | x::a=>by simp [Op.bytesLess,L0 a,UInt8.lt_irrefl]
theorem n00 (a b:UInt8):a<b∧¬ b<a∧a≠b∨a=b∧¬ a<b∧¬ b<a∨b<a∧¬ a<b∧a≠b:=by
 simp only [UInt8.lt_iff_toNat_lt,ne_eq,← UInt8.toNat_inj];omega
theorem U5:∀ a b:Txt,(Op.bytesLess a b||a == b)=!Op.bytesLess b a
 | [],[]=>rfl
 | [],y::b=>by simp [Op.bytesLess]
 | x::a,[]=>by simp [Op.bytesLess]
 | x::a,y::b=>by
  have ih:=U5 a b
  rcases n00 x y with ⟨h1,h2,h3⟩ | ⟨rfl,h1,h2⟩ | ⟨h1,h2,h3⟩
  ·have:¬ y=x:=fun e=>h3 e.symm
   simp [Op.bytesLess,h1,h2,this]
  ·simp [Op.bytesLess,h1] at ih ⊢
   exact ih
  ·have:¬ y=x:=fun e=>h3 e.symm
   simp [Op.bytesLess,h1,h2,h3]
theorem a0C {a b:Txt} (h:Op.bytesLess a b=true):Op.bytesLess b a=false:=by
 have:=U5 a b
 rw [h] at this
 simpa using this.symm
theorem e0w (a b:Txt):Op.bytesLess a b=true∨a=b∨Op.bytesLess b a=true:=by
 have:=U5 a b
 cases h:Op.bytesLess b a with
 | true=>exact .inr (.inr rfl)
 | false =>
  rw [h] at this
  simp at this
  rcases this with h | h
  ·exact .inl h
  ·exact .inr (.inl h)
theorem e0x:∀ {a b c:Txt},Op.bytesLess a b=true→Op.bytesLess b c=true→Op.bytesLess a c=true
 | _,[],_,h,_=>by cases ‹Txt› <;> simp [Op.bytesLess] at h
 | _,_::_,[],_,h=>by simp [Op.bytesLess] at h
 | [],_::_,_::_,_,_=>rfl
 | x::a,y::b,z::c,h1,h2=>by
  simp only [Op.bytesLess,Bool.or_eq_true,decide_eq_true_eq,Bool.and_eq_true,beq_iff_eq] at h1 h2 ⊢
  rcases h1 with h1 | ⟨rfl,h1⟩
  ·rcases h2 with h2 | ⟨rfl,h2⟩
   ·left;rw [UInt8.lt_iff_toNat_lt] at *;omega
   ·exact .inl h1
  ·rcases h2 with h2 | ⟨rfl,h2⟩
   ·exact .inl h2
   ·exact .inr ⟨rfl,e0x h1 h2⟩
section
variable {P:Program} {h:AH}
@[simp] theorem n0s (t:TypeId) (lit:Bool) (a b:Txt):m9 P .lss t lit (.str a) (.str b)=.ok (.bool (Op.bytesLess a b)):=nr rfl
@[simp] theorem n0t (t:TypeId) (lit:Bool) (a b:Txt):m9 P .leq t lit (.str a) (.str b)=.ok (.bool (!Op.bytesLess b a)):=by
 simp only [m9,f0h,U5]
@[simp] theorem n0u (t:TypeId) (lit:Bool) (a b:Txt):m9 P .gtr t lit (.str a) (.str b)=.ok (.bool (Op.bytesLess b a)):=by
 simp only [m9,f0h,U5,Bool.not_not]
@[simp] theorem n0v (t:TypeId) (lit:Bool) (a b:Txt):m9 P .geq t lit (.str a) (.str b)=.ok (.bool (!Op.bytesLess a b)):=nr rfl
@[simp] theorem AV.cells_ptr (id off:Nat):(AV.ptr id off).cells=[.ptr id off]:=nr rfl
@[simp] theorem AV.cells_nilp:AV.nilp.cells=[.nilp]:=nr rfl
@[simp] theorem AV.cells_map (id:Nat):(AV.map id).cells=[.map id]:=nr rfl
@[simp] theorem AV.cells_nilm:AV.nilm.cells=[.nilm]:=nr rfl
@[simp] theorem AV.cells_nili:AV.nili.cells=[.nili]:=nr rfl
@[simp] theorem AV.cells_iface (t:TypeId) (v:AV):(AV.iface t v).cells=[.iface t v]:=nr rfl
@[simp] theorem AV.cells_func (f:Fn) (a b:List AV):(AV.func f a b).cells=[.func f a b]:=nr rfl
@[simp] theorem AV.scalar_nilp:AV.nilp.scalar=true:=nr rfl
@[simp] theorem AV.scalar_map (id:Nat):(AV.map id).scalar=true:=nr rfl
@[simp] theorem AV.scalar_nilm:AV.nilm.scalar=true:=nr rfl
@[simp] theorem AV.scalar_iface (t:TypeId) (v:AV):(AV.iface t v).scalar=true:=nr rfl
@[simp] theorem AV.scalar_nili:AV.nili.scalar=true:=nr rfl
theorem L1 {α:Type} {f:α→List AV} {es:Nat}:∀ (l:List α),(∀ x ∈ l,(f x).length=es)→(l.flatMap f).length=l.length*es
 | [],_=>by simp
 | x::l,h=>by
  rw [List.flatMap_cons,List.length_append,L1 l fun y hy=>h y (List.mem_cons_of_mem _ hy),h x (by simp),List.length_cons,Nat.add_mul,Nat.one_mul,Nat.add_comm]
theorem e0y {α:Type} {f:α→List AV} {es:Nat}:∀ (l:List α) (_:∀ x ∈ l,(f x).length=es) (i:Nat) (x:α),l[i]? = some x→((l.flatMap f).drop (i*es)).take es=f x
 | [],_,i,x,e=>by simp at e
 | y::l,h,i,x,e=>by
  have hy:=h y (by simp)
  cases i with
  | zero =>
   simp at e;subst e
   rw [List.flatMap_cons,Nat.zero_mul,List.drop_zero,List.take_append_of_le_length (by omega),List.take_of_length_le (by omega)]
  | succ i =>
   rw [List.flatMap_cons,Nat.add_mul,Nat.one_mul,Nat.add_comm,← List.drop_drop,← hy,List.drop_left,hy]
   exact e0y l (fun z hz=>h z (List.mem_cons_of_mem _ hz)) i x (by simpa using e)
theorem a0D {α:Type} {f:α→List AV} {es:Nat}:∀ (l:List α) (_:∀ x ∈ l,(f x).length=es) (i:Nat),(l.flatMap f).take (i*es)=(l.take i).flatMap f
 | [],_,i=>by simp
 | y::l,h,0=>by simp
 | y::l,h,i+1=>by
  have hy:=h y (by simp)
  rw [List.flatMap_cons,Nat.add_mul,Nat.one_mul,List.take_succ_cons,List.flatMap_cons,List.take_append,hy,List.take_of_length_le (by omega),
   show i*es+es - es=i*es from by omega,a0D l (fun z hz=>h z (List.mem_cons_of_mem _ hz)) i]
theorem Sl.elem {α:Type} {f:α→List AV} {es n:Nat} {v:AV} {l:List α} (s:Sl h es n v (l.flatMap f)) (hf:∀ x ∈ l,(f x).length=es) (hes:0<es) {k:IntKind} {i:Int} {j:Nat} (hi:i=j) {x:α} (hx:l[j]? = some x) :
  ∃ id o,G1 es v (.int k i)=.ok (.ptr id o)∧loadN h id o es=.ok (f x)∧(∀ c y,(f x)[c]? = some y→load1 h id (o+c)=.ok y)∧id<h.next:=by
 have hl:=L1 l hf
 have hn:l.length=n:=by
  have:=s.1
  rw [hl] at this
  exact Nat.eq_of_mul_eq_mul_right hes this
 have hjl:j<l.length:=(List.getElem?_eq_some_iff.1 hx).1
 obtain ⟨id,o,h1,h2,h3⟩:=s.get (k:=k) hi (show j<n by omega)
 have hat:=e0y l hf j x hx
 refine ⟨id,o,h1,by rw [h3,hat],fun c y hy=>?_,?_⟩
 ·have hc:c<es:=by rw [← hf x (List.mem_of_getElem? hx)];exact (List.getElem?_eq_some_iff.1 hy).1
  rw [h2 c hc,← hat,List.getElem?_take_of_lt hc,List.getElem?_drop] at *
  rw [hy];rfl
 ·unfold loadN at h3
  split at h3
  ·rename_i vs ro hg
   rcases s.2 with ⟨rfl,rfl⟩ | ⟨id',off,cap,x',vs',ro',rfl,e2,_⟩
   ·omega
   ·subst hi
    rw [T7 _ _ _ _ _ _ _ _ ⟨by omega,by omega⟩] at h1
    cases h1
    exact e2
  ·cases h3
@[simp] theorem E0 {n:Nat} {z l:List AV} (hz:z.length=n) (hl:l.length=n) (hs:b9 l=true):N5 n (.ptr h.next 0) (.agg l) (h.push (.cells z false))=Q9 (.ok (h.push (.cells l false))):=by
 rw [Y6 _ _ _ _ hl]
 cases l with
 | nil =>
  have:z=[]:=List.length_eq_zero_iff.1 (by simpa [hz] using hl.symm)
  subst this;rfl
 | cons x l =>
  rw [i0R (a7 _) (by rw [hz,hl]) hs,AH.set_push]
end
end Go.Dr
