/-
  Texts joined.
-/
import Derived.Test.YtnapechhagnmaaaGreatDoorT2
import Derived.Test.YtnapechhagnmaaaGreatDoorT3
import Derived.ProofKit
import Derived.Sort.OwnSortedInts
import Derived.Test.YtnapechhagnmaaaGreatDoorRows
import Derived.Lib.MapLaws
import Derived.Lib.IndexMore

namespace Go.Dr
inductive DC where
 | skip
 | ops (l:List CEnt)
 | drawn (l:List CEnt)
 | seq (x y:DC)
 | cond (c:CO) (x y:DC)
 | block (id:Nat) (c:DC)
 | loop (c:DC)
 | exit (id:Nat)
 | ret
 | go (n:Nat) (f:CO) (params:Array Tmp) (assign body:Code)
 deriving Inhabited
structure DF where
 n:Nat
 res:List CRes
 c:DC
 deriving Inhabited
section
variable (P:Program)
def K4:COp→Option CO
 | .next it false=>some it
 | _=>none
def k00 (o:Oper) (c:COp):Bool :=
 match i0x o.op with
 | some _=>true
 | none=>match K4 c with | some _=>false | none=>true
def e0z (n:Nat) (rd:Bool) (ops:Array Oper):List Oper→R (List CEnt)
 | []=>.ok []
 | o::l=>match f0U P n rd ops o with
  | .ok r=>bif k00 o r.c then match e0z n rd ops l with
   | .ok l=>.ok (.row r::l)
   | .error e=>.error e
   else .error "row: next"
  | .error e=>.error e
def a08 (n:Nat) (rd:Bool):Code→R DC
 | .skip=>.ok .skip
 | .label _=>.ok .skip
 | .region _ ops draw=>bif draw then (match s0B P ops with
   | .ok l=>match b0D P n rd ops l with | .ok l=>.ok (.drawn l) | .error e=>.error e
   | .error e=>.error e)
  else match e0z P n rd ops ops.toList with | .ok l=>.ok (.ops l) | .error e=>.error e
 | .seq x y=>match a08 n rd x with
  | .ok a=>match a08 n rd y with | .ok b=>.ok (.seq a b) | .error e=>.error e
  | .error e=>.error e
 | .cond c x y=>match cO P c with
  | .ok c=>match a08 n rd x with
   | .ok a=>match a08 n rd y with | .ok b=>.ok (.cond c a b) | .error e=>.error e
   | .error e=>.error e
  | .error e=>.error e
 | .block id c=>match a08 n rd c with | .ok a=>.ok (.block id a) | .error e=>.error e
 | .loop c=>match a08 n rd c with | .ok a=>.ok (.loop a) | .error e=>.error e
 | .exit id=>.ok (.exit id)
 | .ret=>.ok .ret
 | .scope c=>a08 n rd c
 | .rangeFunc f params assign body=>match cO P f with
  | .ok f=>bif rd then .error "rangeFunc in a round" else .ok (.go n f params assign body)
  | .error e=>.error e
 | .goto _=>.error "goto"
 | .refuse why=>.error why
def i0N (f:FuncId):R DF :=
 match P.funcs[f]? with
 | some fn=>match fn.body with
  | some c=>match a08 P fn.ntmps false c with
   | .ok cc=>match b0f P fn.results.toList with
    | .ok r=>.ok ⟨fn.ntmps,r,cc⟩
    | .error e=>.error e
   | .error e=>.error e
  | none=>.error "no body"
 | none=>.error "no function"
end
section
variable (P:Program) (S:a0o)
def clN (N:Nat):I5:=E7 P S N N
def EvN (t:Tgt) (args:List AV) (h:AH) (K:AV→AH→Prop):Prop:=∃ N l,clN P S N t args h=.ok l∧∀ x ∈ l,K x.1 x.2
def wqR (r:RN) (K:AV→AH→Prop) (D:ADef→AH→Prop):Prop :=
 match r with
 | .ok (n,h)=>match n with
  | .value v=>K v h
  | .skip=>K n8 h
  | .enter f args=>EvN P S (.fn f) args h K
  | .yield l args=>EvN P S (.yield l) args h K
  | .defer d=>D d h
 | .error _=>False
def i0O (r:RL (AV×AH)) (K:AV→AH→Prop):Prop :=
 match r with
 | .ok l=>∀ x ∈ l,K x.1 x.2
 | .error _=>False
def wqE (c:COp) (σ:Sg) (h:AH) (K:AV→AH→Prop) (D:ADef→AH→Prop):Prop :=
 match K4 c with
 | some it=>i0O (f05 h (it.evS σ)) K
 | none=>wqR P S (evS P c σ h) K D
def H7:List CEnt→G4→Sg→List ADef→AH→Prop
 | [],Q,σ,ds,h=>Q .normal σ ds h
 | .row r::l,Q,σ,ds,h=>match r.g with
  | none=>wqE P S r.c σ h (fun v h=>H7 l Q (upd σ r.d v) ds h) (fun df h=>H7 l Q (upd σ r.d n8) (df::ds) h)
  | some (t,w)=>e0N (σ t) w (wqE P S r.c σ h (fun v h=>H7 l Q (upd σ r.d v) ds h) (fun df h=>H7 l Q (upd σ r.d n8) (df::ds) h))
    (H7 l Q (upd σ r.d n8) ds h)
 | .stage _::_,_,_,_,_=>False
def t0V (f:AV) (n:Nat) (params:Array Tmp) (assign body:Code) (Q:G4) (σ:Sg) (ds:List ADef) (h:AH):Prop :=
 match f with
 | .func (.func g) first captured=>∀ tmps:PT AV,(∀ i,v0p tmps i=σ i) →
   EvN P S (.fn g) (first++(.func (.yield (h.next+1)) [] []::captured))
    ((h.push (.deferred (some []))).push (.loop { state:=.ready,pending:=none,n:=n,tmps:=tmps,params,assign,body })) (Kgo Q σ ds h.next)
 | _=>False
def wqC:DC→G4→Sg→List ADef→AH→Prop
 | .skip,Q,σ,ds,h=>Q .normal σ ds h
 | .ops l,Q,σ,ds,h=>H7 P S l Q σ ds h
 | .drawn l,Q,σ,ds,h=>C0 P S l Q σ ds h
 | .seq x y,Q,σ,ds,h=>wqC x (fun r σ ds h=>match r with | .normal=>wqC y Q σ ds h | r=>Q r σ ds h) σ ds h
 | .cond c x y,Q,σ,ds,h=>wpG (c.evS σ) true (wqC x Q σ ds h) (wqC y Q σ ds h)
 | .block id c,Q,σ,ds,h=>wqC c (g0P id Q) σ ds h
 | .loop c,Q,σ,ds,h=>∃ (I:Inv) (k:Nat),I k σ ds h∧∀ k σ ds h,I k σ ds h→wqC c (d0I I k Q) σ ds h
 | .exit id,Q,σ,ds,h=>Q (.exit id) σ ds h
 | .ret,Q,σ,ds,h=>Q .ret σ ds h
 | .go n f params assign body,Q,σ,ds,h=>t0V P S (f.evS σ) n params assign body Q σ ds h
def o0z (y:DC) (Q:G4):G4:=fun r σ ds h=>match r with | .normal=>wqC P S y Q σ ds h | r=>Q r σ ds h
end
section
variable {P:Program} {S:a0o}
theorem L5 {N N':Nat} (h:N≤N'):P4 (clN P S N) (clN P S N'):=b0l h h
theorem EvN.mono {t:Tgt} {args:List AV} {h:AH} {K K':AV→AH→Prop} (e:EvN P S t args h K) (hk:∀ v h',K v h'→K' v h'):EvN P S t args h K':=by
 obtain ⟨N,l,e,k⟩:=e
 exact ⟨N,l,e,fun x hx=>hk _ _ (k x hx)⟩
theorem Ev.toN {t:Tgt} {args:List AV} {h:AH} {K:AV→AH→Prop} (e:Ev P S t args h K):EvN P S t args h K:=by
 obtain ⟨N,v,h',e,k⟩:=e
 exact ⟨N,[(v,h')],f0u _ _ _ _ e,fun x hx=>by rw [List.mem_singleton.1 hx];exact k⟩
theorem a0O {α β:Type} {f:Nat→α→RL β} (hm:∀ N N',N≤N'→∀ x r,f N x=.ok r→f N' x=.ok r) {Φ:β→Prop}:∀ (l:List α),(∀ x ∈ l,∃ N r,f N x=.ok r∧∀ y ∈ r,Φ y) →
  ∃ N r,Y4 (f N) l=.ok r∧∀ y ∈ r,Φ y
 | [],_=>⟨0,[],rfl,fun y hy=>by cases hy⟩
 | x::l,h=>by
  obtain ⟨N1,r1,e1,k1⟩:=h x (by simp)
  obtain ⟨N2,r2,e2,k2⟩:=a0O hm l fun y hy=>h y (List.mem_cons_of_mem _ hy)
  refine ⟨max N1 N2,r1++r2,?_,fun y hy=>?_⟩
  ·simp only [Y4,hm _ _ (Nat.le_max_left N1 N2) _ _ e1,F1 (hm _ _ (Nat.le_max_right N1 N2)) e2]
  ·rcases List.mem_append.1 hy with hy | hy
   ·exact k1 y hy
   ·exact k2 y hy
def t0g (n:Nat) (rd:Bool) (o:Oper) (a:AAct) (K:AV→AH→Prop) (D:ADef→AH→Prop) (x:AAct×AH):Prop :=
 Keep n rd x.1∧((∃ v,x.1.val=upd a.val o.dst v∧x.1.ds=a.ds∧K v x.2)∨(∃ df,x.1.val=upd a.val o.dst n8∧x.1.ds=df::a.ds∧D df x.2))
theorem q0V {n:Nat} {rd:Bool} {o:Oper} {c:COp} {a:AAct} {h:AH} {K:AV→AH→Prop} {D:ADef→AH→Prop} (hc':c=c0Z P o) (hk:Keep n rd a) (hd:h0p n o.dst=true)
  (hrd:rd=true→c.isDefer=false) (hag:k00 o c=true) (hw:wqE P S c a.val h K D) :
  ∃ N r,a0A P (clN P S N) o a h=.ok r∧∀ x ∈ r,t0g n rd o a K D x:=by
 have hd':h0p a.n o.dst=true:=by rw [hk.n];exact hd
 have hval:∀ v,(a.put o.dst v).val=upd a.val o.dst v:=fun v=>a.put_val _ _ hd'
 have hds:∀ v,(a.put o.dst v).ds=a.ds:=fun v=>(a.put_same _ _).2.1
 have aft:∀ v h',K v h'→t0g n rd o a K D (e0R a o.dst (v,h')):=fun v h' k=>by
  simp only [e0R,p6]
  exact ⟨hk.put _ _,.inl ⟨v,hval v,hds v,k⟩⟩
 have hstuck:∀ c',c'=o0q→K4 c'=none→¬ wqR P S (evS P c' a.val h) K D:=by
  rintro _ rfl _ hw
  exact hw.elim
 unfold a0A
 cases hno:i0x o.op with
 | some x =>
  have hop:=g0S hno
  have hcomp:comp P o=H8 P x fun a=>.ok (.next a false):=by simp only [comp,hop]
  simp only
  unfold c0Z at hc'
  rw [hcomp] at hc'
  unfold H8 at hc'
  cases hx:cO P x with
  | error e =>
   rw [hx] at hc'
   simp only at hc'
   subst hc'
   exact hw.elim
  | ok ca =>
   rw [hx] at hc'
   simp only at hc'
   subst hc'
   simp only [wqE,K4] at hw
   simp only [h01,CO.ev_eq]
   unfold i0O at hw
   split at hw
   ·rename_i l hl
    simp only [hl]
    refine ⟨0,_,rfl,fun y hy=>?_⟩
    obtain ⟨z,hz,rfl⟩:=List.mem_map.1 hy
    exact aft _ _ (hw z hz)
   ·exact hw.elim
 | none =>
  unfold k00 at hag
  rw [hno] at hag
  simp only at hag
  unfold wqE at hw
  split at hw
  ·rename_i it hit;rw [hit] at hag;cases hag
  ·simp only
   have hc:comp P o=.ok c:=by
    unfold c0Z at hc'
    split at hc'
    ·rename_i c1 e;rw [e,hc']
    ·subst hc';exact hw.elim
   simp only [hc,n0q]
   generalize hres:evS P c a.val h=res at hw
   unfold wqR at hw
   unfold n0s
   cases res with
   | error e=>exact hw.elim
   | ok p =>
    obtain ⟨m,h1⟩:=p
    cases m with
    | value v=>exact ⟨0,_,rfl,fun x hx=>by rw [List.mem_singleton.1 hx];exact aft _ _ hw⟩
    | skip=>exact ⟨0,_,rfl,fun x hx=>by rw [List.mem_singleton.1 hx];exact ⟨hk.put _ _,.inl ⟨_,hval _,hds _,hw⟩⟩⟩
    | enter f args =>
     obtain ⟨N,l,e,k⟩:=hw
     refine ⟨N,l.map (e0R a o.dst),by simp only [e],fun x hx=>?_⟩
     obtain ⟨z,hz,rfl⟩:=List.mem_map.1 hx
     exact aft _ _ (k z hz)
    | yield f args =>
     obtain ⟨N,l,e,k⟩:=hw
     refine ⟨N,l.map (e0R a o.dst),by simp only [e],fun x hx=>?_⟩
     obtain ⟨z,hz,rfl⟩:=List.mem_map.1 hx
     exact aft _ _ (k z hz)
    | defer d =>
     have hr:a.rd=false:=by
      cases e:a.rd with
      | false=>rfl
      | true =>
       have:=hrd (hk.rd.symm.trans e)
       rw [i0o hres] at this
       cases this
     refine ⟨0,[((⟨a.n,a.ts,d::a.ds,a.rd⟩:AAct).put o.dst n8,h1)],by simp only [hr,cond_false],fun x hx=>?_⟩
     rw [List.mem_singleton.1 hx]
     refine ⟨Keep.put (a:=⟨a.n,a.ts,d::a.ds,a.rd⟩) ⟨hk.n,hk.rd⟩ _ _,.inr ⟨d,?_,?_,hw⟩⟩
     ·exact AAct.put_val ⟨a.n,a.ts,d::a.ds,a.rd⟩ o.dst n8 hd'
     ·exact (AAct.put_same _ _ _).2.1
theorem i0P {n:Nat} {rd:Bool} {ops:Array Oper}:∀ (l:List Oper) (l':List CEnt),e0z P n rd ops l=.ok l'→∀ {Q:G4} {a:AAct} {h:AH},Keep n rd a→H7 P S l' Q a.val a.ds h →
  ∃ N r,W0 P (clN P S N) ops l a h=.ok r∧∀ x ∈ r,Keep n rd x.1∧Q .normal x.1.val x.1.ds x.2
 | [],l',hc,Q,a,h,hk,hw=>by
  cases hc
  exact ⟨0,_,rfl,fun x hx=>by rw [List.mem_singleton.1 hx];exact ⟨hk,hw⟩⟩
 | o::l,l',hc,Q,a,h,hk,hw=>by
  simp only [e0z] at hc
  split at hc
  ·rename_i r hr
   cases hag:k00 o r.c with
   | false=>rw [hag] at hc;cases hc
   | true =>
    rw [hag] at hc
    simp only [cond_true] at hc
    split at hc
    ·rename_i l2 hl2
     cases hc
     obtain ⟨h1,h2,h3,h4,h5⟩:=e09 hr
     have goOn:wqE P S r.c a.val h (fun v h=>H7 P S l2 Q (upd a.val r.d v) a.ds h) (fun df h=>H7 P S l2 Q (upd a.val r.d n8) (df::a.ds) h)→s6 ops o a=.ok true →
       ∃ N s,W0 P (clN P S N) ops (o::l) a h=.ok s∧∀ x ∈ s,Keep n rd x.1∧Q .normal x.1.val x.1.ds x.2:=by
      intro hw hwant
      rw [h3] at hw
      obtain ⟨N1,s1,e1,k1⟩:=q0V h1 hk h4 h5 hag hw
      obtain ⟨N2,s2,e2,k2⟩:=a0O (f:=fun N (x:AAct×AH)=>W0 P (clN P S N) ops l x.1 x.2) (fun N N' hn x r hr=>a0L (L5 hn) l hr)
       (Φ:=fun x=>Keep n rd x.1∧Q .normal x.1.val x.1.ds x.2) s1 fun x hx=>by
        obtain ⟨b1,b2⟩:=k1 x hx
        refine i0P l l2 hl2 b1 ?_
        rcases b2 with ⟨v,c1,c2,c3⟩ | ⟨df,c1,c2,c3⟩
        ·rw [c1,c2];exact c3
        ·rw [c1,c2];exact c3
      refine ⟨max N1 N2,s2,?_,k2⟩
      simp only [W0,hwant,f08 (L5 (Nat.le_max_left N1 N2)) e1]
      exact F1 (fun x r hr=>a0L (L5 (Nat.le_max_right N1 N2)) l hr) e2
     rcases b0g (a:=a) h2 with ⟨g,hwant⟩ | ⟨t,w,g,hwant⟩
     ·simp only [H7,g] at hw
      exact goOn hw hwant
     ·simp only [H7,g] at hw
      rcases c00 hw with ⟨b,hb,hbw,hw⟩ | ⟨hno,hw⟩
      ·rw [hb] at hwant
       exact goOn hw (by rw [hwant];simp [gw,hbw])
      ·rw [h3] at hw
       have hv:=AAct.put_val a o.dst n8 (by rw [hk.n];exact h4)
       have hd:=(a.put_same o.dst n8).2.1
       obtain ⟨N2,s2,e2,k2⟩:=i0P l l2 hl2 (hk.put o.dst n8) (by rw [hv,hd];exact hw)
       refine ⟨N2,s2,?_,k2⟩
       simp only [W0,hwant.trans hno]
       exact e2
    ·cases hc
  ·cases hc
abbrev n0J (n:Nat) (rd:Bool) (Q:G4) (y:AX×AAct×AH):Prop:=∃ x:WX,y.1=x.ax∧Keep n rd y.2.1∧Q x y.2.1.val y.2.1.ds y.2.2
theorem q0W {n:Nat} {rd:Bool} {c:Code} {cc:DC}
  (ih:∀ {Q:G4} {a:AAct} {h:AH},Keep n rd a→wqC P S cc Q a.val a.ds h→∃ N r,l8 P (clN P S N) N c a h=.ok r∧∀ y ∈ r,n0J n rd Q y)
  {I:Inv} {Q:G4} (hI:∀ k σ ds h,I k σ ds h→wqC P S cc (d0I I k Q) σ ds h):∀ (k:Nat) (a:AAct) (h:AH),Keep n rd a→I k a.val a.ds h →
  ∃ N r,(∀ lf,N≤lf→V3 (l8 P (clN P S lf) lf c) lf a h=.ok r)∧∀ y ∈ r,n0J n rd Q y:=by
 intro k
 induction k using Nat.strongRecOn with
 | _ k ihk =>
  intro a h hk hi
  obtain ⟨N,r,e,hr⟩:=ih hk (hI k _ _ _ hi)
  have hbody:∀ lf,N≤lf→l8 P (clN P S lf) lf c a h=.ok r:=fun lf hl=>u9 (L5 hl) hl _ e
  obtain ⟨N2,s,e2,hs⟩:=a0O (α:=AX×AAct×AH) (f:=fun N (x:AX×AAct×AH)=>match x.1 with | .normal=>V3 (l8 P (clN P S N) N c) N x.2.1 x.2.2 | _=>.ok [x])
   (fun N N' hn x r hr=>by
    split at hr
    ·exact b0k (fun a h r hr=>u9 (L5 hn) hn _ hr) hn hr
    ·exact hr) (Φ:=n0J n rd Q) r fun y hy=>by
     obtain ⟨x,b1,b2,b3⟩:=hr y hy
     cases x with
     | normal =>
      obtain ⟨k',hlt,hi'⟩:=b3
      obtain ⟨N3,s3,e3,h3⟩:=ihk k' hlt _ _ b2 hi'
      refine ⟨N3,s3,?_,h3⟩
      rw [b1]
      exact e3 N3 (Nat.le_refl _)
     | exit i=>exact ⟨0,[y],by rw [b1];rfl,fun z hz=>by rw [List.mem_singleton.1 hz];exact ⟨.exit i,b1,b2,b3⟩⟩
     | ret=>exact ⟨0,[y],by rw [b1];rfl,fun z hz=>by rw [List.mem_singleton.1 hz];exact ⟨.ret,b1,b2,b3⟩⟩
  refine ⟨max N N2+1,s,fun lf hl=>?_,hs⟩
  obtain ⟨m,rfl⟩:∃ m,lf=m+1:=⟨lf - 1,by omega⟩
  simp only [V3]
  rw [hbody (m+1) (by omega)]
  have h2:N2≤m:=by omega
  refine F1 (fun x r hr=>?_) e2
  obtain ⟨x1,x2⟩:=x
  cases x1 with
  | normal=>exact b0k (fun a h r hr=>u9 (L5 (Nat.le_succ_of_le h2)) (Nat.le_succ_of_le h2) _ hr) h2 hr
  | _=>exact hr
theorem a0P {n:Nat} {rd:Bool}:∀ (c:Code) (cc:DC),a08 P n rd c=.ok cc→∀ {Q:G4} {a:AAct} {h:AH},Keep n rd a→wqC P S cc Q a.val a.ds h →
  ∃ N r,l8 P (clN P S N) N c a h=.ok r∧∀ y ∈ r,n0J n rd Q y
 | .skip,cc,hc,Q,a,h,hk,hw=>by cases hc;exact ⟨0,_,rfl,fun y hy=>by rw [List.mem_singleton.1 hy];exact ⟨.normal,rfl,hk,hw⟩⟩
 | .label _,cc,hc,Q,a,h,hk,hw=>by cases hc;exact ⟨0,_,rfl,fun y hy=>by rw [List.mem_singleton.1 hy];exact ⟨.normal,rfl,hk,hw⟩⟩
 | .region _ ops draw,cc,hc,Q,a,h,hk,hw=>by
  simp only [a08] at hc
  cases draw with
  | true =>
   simp only [cond_true] at hc
   split at hc
   ·rename_i l hl
    split at hc
    ·rename_i l2 hl2
     cases hc
     obtain ⟨N,a',h',e,k,q⟩:=f0X l l2 hl2 hk hw
     refine ⟨N,[(.normal,a',h')],?_,fun y hy=>by rw [List.mem_singleton.1 hy];exact ⟨.normal,rfl,k,q⟩⟩
     have:b0V P (cl P S N) ops a h=.ok (a',h'):=by simp only [b0V,hl,e]
     simp only [l8,c0c (DSub.one (f0u (S:=S) (lf:=N) (n:=N))) this,clN]
    ·cases hc
   ·cases hc
  | false =>
   simp only [cond_false] at hc
   split at hc
   ·rename_i l hl
    cases hc
    obtain ⟨N,r,e,k⟩:=i0P _ l hl hk hw
    refine ⟨N,r.map fun x=>(.normal,x.1,x.2),by simp only [l8,e],fun y hy=>?_⟩
    obtain ⟨z,hz,rfl⟩:=List.mem_map.1 hy
    exact ⟨.normal,rfl,k z hz⟩
   ·cases hc
 | .seq x y,cc,hc,Q,a,h,hk,hw=>by
  simp only [a08] at hc
  split at hc
  ·rename_i c1 hx
   split at hc
   ·rename_i c2 hy
    cases hc
    simp only [wqC] at hw
    obtain ⟨N1,r1,e1,k1⟩:=a0P x c1 hx hk hw
    obtain ⟨N2,r2,e2,k2⟩:=a0O (α:=AX×AAct×AH) (f:=fun N (x:AX×AAct×AH)=>match x.1 with | .normal=>l8 P (clN P S N) N y x.2.1 x.2.2 | _=>.ok [x])
     (fun N N' hn x r hr=>by
      split at hr
      ·exact u9 (L5 hn) hn _ hr
      ·exact hr) (Φ:=n0J n rd Q) r1 fun z hz=>by
       obtain ⟨q,b1,b2,b3⟩:=k1 z hz
       cases q with
       | normal =>
        obtain ⟨N3,r3,e3,k3⟩:=a0P y c2 hy b2 b3
        exact ⟨N3,r3,by rw [b1];exact e3,k3⟩
       | exit i=>exact ⟨0,[z],by rw [b1];rfl,fun u hu=>by rw [List.mem_singleton.1 hu];exact ⟨.exit i,b1,b2,b3⟩⟩
       | ret=>exact ⟨0,[z],by rw [b1];rfl,fun u hu=>by rw [List.mem_singleton.1 hu];exact ⟨.ret,b1,b2,b3⟩⟩
    refine ⟨max N1 N2,r2,?_,k2⟩
    simp only [l8]
    rw [u9 (L5 (Nat.le_max_left N1 N2)) (Nat.le_max_left N1 N2) _ e1]
    refine F1 (fun x r hr=>?_) e2
    obtain ⟨x1,x2⟩:=x
    cases x1 with
    | normal=>exact u9 (L5 (Nat.le_max_right N1 N2)) (Nat.le_max_right N1 N2) _ hr
    | _=>exact hr
   ·cases hc
  ·cases hc
 | .cond c x y,cc,hc,Q,a,h,hk,hw=>by
  simp only [a08] at hc
  split at hc
  ·rename_i c1 hc1
   split at hc
   ·rename_i c2 hx
    split at hc
    ·rename_i c3 hy
     cases hc
     simp only [wqC,wpG] at hw
     split at hw
     ·rename_i b hb
      cases b with
      | true =>
       simp only [if_pos] at hw
       obtain ⟨N,r,e1,k1⟩:=a0P x c2 hx hk hw
       exact ⟨N,r,by simp only [l8,hc1,CO.ev_eq,hb];exact e1,k1⟩
      | false =>
       simp only [Bool.false_eq_true,if_false] at hw
       obtain ⟨N,r,e1,k1⟩:=a0P y c3 hy hk hw
       exact ⟨N,r,by simp only [l8,hc1,CO.ev_eq,hb];exact e1,k1⟩
     ·exact hw.elim
    ·cases hc
   ·cases hc
  ·cases hc
 | .block id c,cc,hc,Q,a,h,hk,hw=>by
  simp only [a08] at hc
  split at hc
  ·rename_i c1 hc1
   cases hc
   obtain ⟨N,r,e1,k1⟩:=a0P c c1 hc1 hk hw
   refine ⟨N,r.map fun x=>match x.1 with | .exit i=>bif Nat.beq i id then (.normal,x.2.1,x.2.2) else x | _=>x,by simp only [l8,e1];rfl,fun y hy=>?_⟩
   obtain ⟨z,hz,rfl⟩:=List.mem_map.1 hy
   obtain ⟨x,b1,b2,b3⟩:=k1 z hz
   cases x with
   | normal=>rw [b1];exact ⟨.normal,b1,b2,b3⟩
   | ret=>rw [b1];exact ⟨.ret,b1,b2,b3⟩
   | exit i =>
    rw [b1]
    simp only [WX.ax,g0P] at b3 ⊢
    by_cases hi:i=id
    ·rw [if_pos hi] at b3
     simp only [PT.beqT hi,cond_true]
     exact ⟨.normal,rfl,b2,b3⟩
    ·rw [if_neg hi] at b3
     simp only [PT.beqF hi,cond_false]
     exact ⟨.exit i,b1,b2,b3⟩
  ·cases hc
 | .loop c,cc,hc,Q,a,h,hk,hw=>by
  simp only [a08] at hc
  split at hc
  ·rename_i c1 hc1
   cases hc
   obtain ⟨I,k,hi,hI⟩:=hw
   obtain ⟨N,r,e,hr⟩:=q0W (fun hk hw=>a0P c c1 hc1 hk hw) hI k a h hk hi
   exact ⟨N,r,by simp only [l8];exact e N (Nat.le_refl _),hr⟩
  ·cases hc
 | .exit id,cc,hc,Q,a,h,hk,hw=>by cases hc;exact ⟨0,_,rfl,fun y hy=>by rw [List.mem_singleton.1 hy];exact ⟨.exit id,rfl,hk,hw⟩⟩
 | .ret,cc,hc,Q,a,h,hk,hw=>by cases hc;exact ⟨0,_,rfl,fun y hy=>by rw [List.mem_singleton.1 hy];exact ⟨.ret,rfl,hk,hw⟩⟩
 | .scope c,cc,hc,Q,a,h,hk,hw=>by
  obtain ⟨N,r,e,k⟩:=a0P c cc hc hk hw
  exact ⟨N,r,by simp only [l8,e],k⟩
 | .rangeFunc f params assign body,cc,hc,Q,a,h,hk,hw=>by
  simp only [a08] at hc
  split at hc
  ·rename_i f1 hf
   cases rd with
   | true=>cases hc
   | false =>
    cases hc
    simp only [wqC,t0V] at hw
    split at hw
    ·rename_i g first captured hfe
     obtain ⟨N,l,e,kl⟩:=hw a.ts (fun i=>rfl)
     rw [← hk.n] at e
     obtain ⟨N2,r2,e2,k2⟩:=a0O (f:=fun _ (x:AV×AH)=>i0y (e0Y h.next a x.2)) (fun _ _ _ x r hr=>hr) (Φ:=n0J n false Q) l fun x hx=>by
      obtain ⟨r,hr,hst,hp⟩:=kl x hx
      have key:∀ q:WX,i0y (e0Y h.next a x.2)=.ok [(q.ax,⟨a.n,a.ts,.collected h.next::a.ds,a.rd⟩,x.2.set (h.next+1) (.loop { r with state:=.exhausted }))] →
        Q q a.val (.collected h.next::a.ds) (x.2.set (h.next+1) (.loop { r with state:=.exhausted }))→∃ (_:Nat) (r:List (AX×AAct×AH)),i0y (e0Y h.next a x.2)=.ok r∧∀ y ∈ r,n0J n false Q y:=by
       intro q h1 h2
       exact ⟨0,_,h1,fun y hy=>by rw [List.mem_singleton.1 hy];exact ⟨q,rfl,⟨hk.n,hk.rd⟩,h2⟩⟩
      split at hp
      ·rename_i hpe;refine key .normal ?_ hp;unfold e0Y;simp only [hr,hpe];cases hst':r.state <;> first | exact absurd hst' hst | rfl
      ·rename_i hpe;refine key .ret ?_ hp;unfold e0Y;simp only [hr,hpe];cases hst':r.state <;> first | exact absurd hst' hst | rfl
      ·rename_i id hpe;refine key (.exit id) ?_ hp;unfold e0Y;simp only [hr,hpe];cases hst':r.state <;> first | exact absurd hst' hst | rfl
      ·exact hp.elim
     refine ⟨N,r2,?_,k2⟩
     simp only [l8,hf,CO.ev_eq,hfe,f06,hk.rd,cond_false,o8,e]
     exact e2
    ·exact hw.elim
  ·cases hc
 | .goto _,cc,hc,Q,a,h,hk,hw=>by cases hc
 | .refuse _,cc,hc,Q,a,h,hk,hw=>by cases hc
variable (P S) in
def e0A:List ADef→AH→(AH→Prop)→Prop
 | [],h,K=>K h
 | .collected id::l,h,K=>h.get id=some (.deferred (some []))∧e0A l (h.set id (.deferred none)) K
 | .call fn captured args::l,h,K=>∃ f args' h1,a0f fn captured args h=.ok (.enter f args',h1)∧S f=none∧EvN P S (.fn f) args' h1 fun _ h2=>e0A l h2 K
theorem f0l:∀ (ds:List ADef) (h:AH) (K:AH→Prop),e0A P S ds h K→∃ N r,C9 (P3 S (clN P S N)) ds h=.ok r∧∀ h' ∈ r,K h'
 | [],h,K,hk=>⟨0,[h],rfl,fun h' hh=>by rw [List.mem_singleton.1 hh];exact hk⟩
 | .collected id::l,h,K,hk=>by
  obtain ⟨N,r,e,k⟩:=f0l l _ K hk.2
  exact ⟨N,r,by simp only [C9,hk.1,e],k⟩
 | .call fn captured args::l,h,K,hk=>by
  obtain ⟨f,args',h1,e1,hS,N1,r1,e2,hk⟩:=hk
  obtain ⟨N2,r2,e3,k⟩:=a0O (f:=fun N (x:AV×AH)=>C9 (P3 S (clN P S N)) l x.2) (fun N N' hn x r hr=>B1 (S4 (L5 hn)) l hr) (Φ:=K) r1 fun x hx=>f0l l x.2 K (hk x hx)
  refine ⟨max N1 N2,r2,?_,k⟩
  have e4:P3 S (clN P S (max N1 N2)) (.fn f) args' h1=.ok r1:=by
   simp only [P3,hS,L5 (Nat.le_max_left N1 N2) _ _ _ _ e2]
  simp only [C9,e1,e4]
  exact F1 (fun x r hr=>B1 (S4 (L5 (Nat.le_max_right N1 N2))) l hr) e3
variable (P S) in
def q0X (res:List CRes) (K:AV→AH→Prop):G4:=fun x σ ds h=>match x with
 | .exit _=>False
 | _=>e0A P S ds h fun h=>∃ l,b0E h σ res=.ok l∧K (a0n l) h
theorem p0x {f:FuncId} {cf:DF} (h:i0N P f=.ok cf):∃ fn c,P.funcs[f]? = some fn∧fn.body=some c∧fn.ntmps=cf.n∧a08 P cf.n false c=.ok cf.c∧b0f P fn.results.toList=.ok cf.res:=by
 unfold i0N at h
 split at h
 ·rename_i fn hf
  split at h
  ·rename_i c hb
   split at h
   ·rename_i cc hcc
    split at h
    ·rename_i r hr
     cases h
     exact ⟨fn,c,hf,hb,rfl,hcc,hr⟩
    ·cases h
   ·cases h
  ·cases h
 ·cases h
theorem q0Y {f:FuncId} {cf:DF} {args:List AV} {h:AH} {K:AV→AH→Prop} (hc:i0N P f=.ok cf) (hS:S f=none) (hn:Nat.ble args.length cf.n=true)
  (hw:wqC P S cf.c (q0X P S cf.res K) (i0q args) [] h):EvN P S (.fn f) args h K:=by
 obtain ⟨fn,c,hf,hb,hnt,hcc,hr⟩:=p0x hc
 have hval:(⟨cf.n,laid args 0 .leaf,[],false⟩:AAct).val=i0q args:=by
  funext i
  simp only [AAct.val,g0a,Nat.zero_le,true_and,Nat.zero_add,Nat.sub_zero,i0q]
  by_cases hi:i<args.length
  ·rw [if_pos hi];rfl
  ·rw [if_neg hi,List.getElem?_eq_none (by omega)];rfl
 obtain ⟨N,r,e,k⟩:=a0P c cf.c hcc (a:=⟨cf.n,laid args 0 .leaf,[],false⟩) ⟨rfl,rfl⟩ (by rw [hval];exact hw)
 obtain ⟨N2,r2,e2,k2⟩:=a0O (f:=fun N (x:AX×AAct×AH)=>c01 P (P3 S (clN P S N)) fn x) (Φ:=fun x:AV×AH=>K x.1 x.2) (fun N N' hn x r hr=>by
   unfold c01 at hr ⊢
   split at hr
   ·split at hr
    ·rename_i hd;simp only [B1 (S4 (L5 hn)) _ hd];exact hr
    ·cases hr
   ·split at hr
    ·rename_i hd;simp only [B1 (S4 (L5 hn)) _ hd];exact hr
    ·cases hr
   ·cases hr) r fun y hy=>by
    obtain ⟨x,b1,b2,b3⟩:=k y hy
    have main:(x.ax=.normal∨x.ax=.ret)→e0A P S y.2.1.ds y.2.2 (fun h=>∃ l,b0E h y.2.1.val cf.res=.ok l∧K (a0n l) h)→∃ N r,c01 P (P3 S (clN P S N)) fn y=.ok r∧∀ z ∈ r,K z.1 z.2:=by
     intro hx hd
     obtain ⟨N3,r3,e3,k3⟩:=f0l _ _ _ hd
     obtain ⟨_,r4,e4,k4⟩:=a0O (f:=fun _ h=>match I8 P h y.2.1 fn.results.toList with
      | .ok l=>(.ok [(a0n l,h)]:RL (AV×AH))
      | .error e=>.error (fn.name++": "++e)) (Φ:=fun x:AV×AH=>K x.1 x.2) (fun _ _ _ _ _ hr=>hr) r3 fun h' hh=>by
       obtain ⟨l,hl,hk⟩:=k3 h' hh
       exact ⟨0,[(a0n l,h')],by simp only [i0p _ _ hr l hl],fun z hz=>by rw [List.mem_singleton.1 hz];exact hk⟩
     refine ⟨N3,r4,?_,k4⟩
     unfold c01
     rw [b1]
     rcases hx with hx | hx <;> simp only [hx,e3] <;> exact e4
    cases x with
    | normal=>exact main (.inl rfl) b3
    | ret=>exact main (.inr rfl) b3
    | exit i=>exact b3.elim
 refine ⟨max N N2+1,r2,?_,k2⟩
 have hle:N≤max N N2+1:=Nat.le_trans (Nat.le_max_left N N2) (Nat.le_succ _)
 have hcall:P4 (clN P S N) (E7 P S (max N N2+1) (max N N2)):=b0l hle (Nat.le_max_left N N2)
 have hcall2:P4 (clN P S N2) (E7 P S (max N N2+1) (max N N2)):=b0l (Nat.le_trans (Nat.le_max_right N N2) (Nat.le_succ _)) (Nat.le_max_right N N2)
 unfold clN E7
 simp only [hS,hf,hb,hnt,hn,cond_true]
 rw [u9 hcall hle c e]
 simp only [Z2]
 refine F1 (fun x r hr=>?_) e2
 unfold c01 at hr ⊢
 split at hr
 ·split at hr
  ·rename_i hd;simp only [B1 (S4 hcall2) _ hd];exact hr
  ·cases hr
 ·split at hr
  ·rename_i hd;simp only [B1 (S4 hcall2) _ hd];exact hr
  ·cases hr
 ·cases hr
variable (P S) in
def x0e (l:Nat) (cb:DC) (K:AV→AH→Prop):G4:=fun x σ ds h=>match x with
 | .normal=>∃ q,h.get l=some (.loop q)∧q.state=.ready∧wqC P S cb (v0q l K) σ ds (h.set l (.loop { q with state:=.busy }))
 | _=>False
end
end Go.Dr

namespace Go.Dr
open Go.RowKit
section
variable {P:Program} {S:a0o} {Q:G4} {σ:Sg} {ds:List ADef} {h:AH}
@[simp] theorem r0i:wqC P S .skip Q σ ds h=Q .normal σ ds h:=nr rfl
@[simp] theorem o0H (l:List CEnt):wqC P S (.ops l) Q σ ds h=H7 P S l Q σ ds h:=nr rfl
@[simp] theorem u0L (l:List CEnt):wqC P S (.drawn l) Q σ ds h=C0 P S l Q σ ds h:=nr rfl
@[simp] theorem o0I (x y:DC):wqC P S (.seq x y) Q σ ds h=wqC P S x (o0z P S y Q) σ ds h:=nr rfl
@[simp] theorem p0P (id:Nat) (c:DC):wqC P S (.block id c) Q σ ds h=wqC P S c (g0P id Q) σ ds h:=nr rfl
@[simp] theorem r0j (id:Nat):wqC P S (.exit id) Q σ ds h=Q (.exit id) σ ds h:=nr rfl
@[simp] theorem w0g:wqC P S .ret Q σ ds h=Q .ret σ ds h:=nr rfl
variable (P S) in
def wqB (v:AV) (x y:DC) (Q:G4) (σ:Sg) (ds:List ADef) (h:AH):Prop:=wpG v true (wqC P S x Q σ ds h) (wqC P S y Q σ ds h)
@[simp] theorem r0k (c:CO) (x y:DC):wqC P S (.cond c x y) Q σ ds h=wqB P S (c.evS σ) x y Q σ ds h:=nr rfl
@[simp] theorem r0l (x y:DC):wqB P S (.bool true) x y Q σ ds h=wqC P S x Q σ ds h:=nr rfl
@[simp] theorem p0Q (x y:DC):wqB P S (.bool false) x y Q σ ds h=wqC P S y Q σ ds h:=nr rfl
@[simp] theorem g0y (y:DC):o0z P S y Q .normal σ ds h=wqC P S y Q σ ds h:=nr rfl
@[simp] theorem n05 (y:DC) (i:Nat):o0z P S y Q (.exit i) σ ds h=Q (.exit i) σ ds h:=nr rfl
@[simp] theorem u0M (y:DC):o0z P S y Q .ret σ ds h=Q .ret σ ds h:=nr rfl
theorem n06 {c:DC} (I:Inv) (k:Nat) (h0:I k σ ds h) (hI:∀ k σ ds h,I k σ ds h→wqC P S c (d0I I k Q) σ ds h):wqC P S (.loop c) Q σ ds h:=⟨I,k,h0,hI⟩
theorem r0m {r:RN} {K K':AV→AH→Prop} {D D':ADef→AH→Prop} (hw:wqR P S r K D) (hk:∀ v h,K v h→K' v h) (hd:∀ d h,D d h→D' d h):wqR P S r K' D':=by
 unfold wqR at hw ⊢
 split at hw
 ·split at hw
  ·exact hk _ _ hw
  ·exact hk _ _ hw
  ·exact hw.mono hk
  ·exact hw.mono hk
  ·exact hd _ _ hw
 ·exact hw
theorem m0O {c:COp} {K K':AV→AH→Prop} {D D':ADef→AH→Prop} (hw:wqE P S c σ h K D) (hk:∀ v h,K v h→K' v h) (hd:∀ d h,D d h→D' d h):wqE P S c σ h K' D':=by
 unfold wqE at hw ⊢
 split at hw
 ·unfold i0O at hw ⊢
  split at hw
  ·exact fun x hx=>hk _ _ (hw x hx)
  ·exact hw
 ·exact r0m hw hk hd
theorem a0y {Q Q':G4} (hq:∀ σ ds h,Q .normal σ ds h→Q' .normal σ ds h):∀ (l:List CEnt) {σ:Sg} {ds:List ADef} {h:AH},H7 P S l Q σ ds h→H7 P S l Q' σ ds h
 | [],_,_,_,hw=>hq _ _ _ hw
 | .stage re::l,_,_,_,hw=>hw.elim
 | .row r::l,σ,ds,h,hw=>by
  simp only [H7] at hw ⊢
  cases hg:r.g with
  | none=>rw [hg] at hw;exact m0O hw (fun v h=>a0y hq l) (fun d h=>a0y hq l)
  | some p=>rw [hg] at hw;exact k0w hw (fun hw=>m0O hw (fun v h=>a0y hq l) (fun d h=>a0y hq l)) (a0y hq l)
theorem f0E:∀ {c:DC} {Q Q':G4} {σ:Sg} {ds:List ADef} {h:AH},wqC P S c Q σ ds h→(∀ x σ ds h,Q x σ ds h→Q' x σ ds h)→wqC P S c Q' σ ds h
 | .skip,_,_,_,_,_,hw,hq=>hq _ _ _ _ hw
 | .ops l,_,_,_,_,_,hw,hq=>a0y (fun _ _ _=>hq _ _ _ _) l hw
 | .drawn l,_,_,_,_,_,hw,hq=>T3 (fun _ _ _=>hq _ _ _ _) l hw
 | .seq x y,Q,Q',_,_,_,hw,hq=>f0E (c:=x) hw fun r σ ds h k=>by
  cases r with
  | normal=>exact f0E (c:=y) k hq
  | exit i=>exact hq _ _ _ _ k
  | ret=>exact hq _ _ _ _ k
 | .cond c x y,_,_,_,_,_,hw,hq=>m0S hw (fun k=>f0E (c:=x) k hq) (fun k=>f0E (c:=y) k hq)
 | .block id c,Q,Q',_,_,_,hw,hq=>f0E (c:=c) hw fun r σ ds h k=>by
  cases r with
  | normal=>exact hq _ _ _ _ k
  | ret=>exact hq _ _ _ _ k
  | exit i =>
   simp only [g0P] at k ⊢
   by_cases hi:i=id
   ·rw [if_pos hi] at k ⊢;exact hq _ _ _ _ k
   ·rw [if_neg hi] at k ⊢;exact hq _ _ _ _ k
 | .loop c,Q,Q',_,_,_,⟨I,k,h0,hI⟩,hq=>⟨I,k,h0,fun k σ ds h hi=>f0E (c:=c) (hI k σ ds h hi) fun r σ ds h q=>by
  cases r with
  | normal=>exact q
  | exit i=>exact hq _ _ _ _ q
  | ret=>exact hq _ _ _ _ q⟩
 | .exit id,_,_,_,_,_,hw,hq=>hq _ _ _ _ hw
 | .ret,_,_,_,_,_,hw,hq=>hq _ _ _ _ hw
 | .go n f params assign body,Q,Q',σ,ds,h,hw,hq=>by
  simp only [wqC,t0V] at hw ⊢
  split at hw
  ·intro tmps ht
   refine (hw tmps ht).mono fun v h'=>?_
   rintro ⟨r,h1,h2,h3⟩
   refine ⟨r,h1,h2,?_⟩
   split at h3
   ·exact hq _ _ _ _ h3
   ·exact hq _ _ _ _ h3
   ·exact hq _ _ _ _ h3
   ·exact h3
  ·exact hw
variable (P S) in
def wqN (r:RN) (d:Option Nat) (l:List CEnt) (Q:G4) (σ:Sg) (ds:List ADef):Prop :=
 wqR P S r (fun v h=>H7 P S l Q (upd σ d v) ds h) (fun df h=>H7 P S l Q (upd σ d n8) (df::ds) h)
variable (P S) in
def n07 (v:AV) (w:Bool) (c:COp) (d:Option Nat) (l:List CEnt) (Q:G4) (σ:Sg) (ds:List ADef) (h:AH):Prop :=
 e0N v w (wqN P S (evS P c σ h) d l Q σ ds) (H7 P S l Q (upd σ d n8) ds h)
variable (P S) in
def n08 (d:Option Nat) (l:List CEnt) (Q:G4) (σ:Sg) (ds:List ADef) (v:AV) (h:AH):Prop:=H7 P S l Q (upd σ d v) ds h
@[simp] theorem k0v:H7 P S [] Q σ ds h=Q .normal σ ds h:=nr rfl
theorem j0j {c:COp} (hc:K4 c=none) (K:AV→AH→Prop) (D:ADef→AH→Prop):wqE P S c σ h K D=wqR P S (evS P c σ h) K D:=by
 unfold wqE;rw [hc]
@[simp] theorem h0j (d:Option Nat) (c:COp) (l:List CEnt) (hc:K4 c=none):H7 P S (.row ⟨d,none,c⟩::l) Q σ ds h=wqN P S (evS P c σ h) d l Q σ ds:=by
 simp only [H7,wqN,j0j hc]
@[simp] theorem u0d (d:Option Nat) (it:CO) (l:List CEnt):H7 P S (.row ⟨d,none,.next it false⟩::l) Q σ ds h=i0O (f05 h (it.evS σ)) (fun v h=>H7 P S l Q (upd σ d v) ds h):=nr rfl
@[simp] theorem t0o (d:Option Nat) (t:Nat) (w:Bool) (c:COp) (l:List CEnt) (hc:K4 c=none):H7 P S (.row ⟨d,some (t,w),c⟩::l) Q σ ds h=n07 P S (σ t) w c d l Q σ ds h:=by
 simp only [H7,n07,wqN,j0j hc]
attribute [simp]  K4
@[simp] theorem u0N (d:Option Nat) (l:List CEnt) (v:AV):wqN P S (.ok (.value v,h)) d l Q σ ds=H7 P S l Q (upd σ d v) ds h:=nr rfl
@[simp] theorem s0J (d:Option Nat) (l:List CEnt) (v:AV):wqN P S (okV v h) d l Q σ ds=H7 P S l Q (upd σ d v) ds h:=nr rfl
@[simp] theorem m0P (d:Option Nat) (l:List CEnt) (v:AV):wqN P S (m9 h (.ok v)) d l Q σ ds=H7 P S l Q (upd σ d v) ds h:=nr rfl
@[simp] theorem v0M (d:Option Nat) (l:List CEnt):wqN P S (a0a (.ok h)) d l Q σ ds=H7 P S l Q (upd σ d n8) ds h:=nr rfl
@[simp] theorem u0O (d:Option Nat) (l:List CEnt) (f:FuncId) (args:List AV):wqN P S (.ok (.enter f args,h)) d l Q σ ds=EvN P S (.fn f) args h (n08 P S d l Q σ ds):=nr rfl
@[simp] theorem u0P (d:Option Nat) (l:List CEnt) (f:Nat) (args:List AV):wqN P S (.ok (.yield f args,h)) d l Q σ ds=EvN P S (.yield f) args h (n08 P S d l Q σ ds):=nr rfl
@[simp] theorem u0e (d:Option Nat) (l:List CEnt) (v:AV):n08 P S d l Q σ ds v h=H7 P S l Q (upd σ d v) ds h:=nr rfl
@[simp] theorem w0h (c:COp) (d:Option Nat) (l:List CEnt):n07 P S (.bool true) true c d l Q σ ds h=wqN P S (evS P c σ h) d l Q σ ds:=nr rfl
@[simp] theorem w0i (c:COp) (d:Option Nat) (l:List CEnt):n07 P S (.bool false) false c d l Q σ ds h=wqN P S (evS P c σ h) d l Q σ ds:=nr rfl
@[simp] theorem w0j (c:COp) (d:Option Nat) (l:List CEnt):n07 P S (.bool true) false c d l Q σ ds h=H7 P S l Q (upd σ d n8) ds h:=nr rfl
@[simp] theorem w0k (w:Bool) (c:COp) (d:Option Nat) (l:List CEnt):n07 P S n8 w c d l Q σ ds h=H7 P S l Q (upd σ d n8) ds h:=nr rfl
@[simp] theorem w0l (c:COp) (d:Option Nat) (l:List CEnt):n07 P S (.bool false) true c d l Q σ ds h=H7 P S l Q (upd σ d n8) ds h:=nr rfl
@[simp] theorem s0K (res:List CRes) (K:AV→AH→Prop):q0X P S res K .normal σ [] h=m0U (b0E h σ res) K h:=h07 _ _
@[simp] theorem u0Q (res:List CRes) (K:AV→AH→Prop):q0X P S res K .ret σ [] h=m0U (b0E h σ res) K h:=h07 _ _
@[simp] theorem t0p (K:AH→Prop):e0A P S [] h K=K h:=nr rfl
theorem s0L {b0 b1 tc ti tn n:Nat} {T:TypeId} {lit:Bool} {lim:CO} {body:DC} (hd:Nat.beq tc ti=false) (J:Nat→Sg→List ADef→AH→Prop) (hn:(n:Int)≤9223372036854775807)
  (h0:σ ti=.int .i64 0) (hJ:J 0 σ ds h)
  (hl:∀ j σ ds h,J j σ ds h→lim.evS σ=.int .i64 (n:Int))
  (hb:∀ j σ ds h,j<n→σ ti=.int .i64 (j:Int)→J j σ ds h →
   wqC P S body (g0P b1 fun x σ' ds' h'=>match x with
    | .normal=>σ' ti=.int .i64 (j:Int)∧J (j+1) (upd (upd σ' (some tn) (.int .i64 ((j:Int)+1))) (some ti) (.int .i64 ((j:Int)+1))) ds' h'
    | x=>Q x σ' ds' h') (upd σ (some tc) (.bool true)) ds h)
  (he:∀ σ ds h,J n σ ds h→Q (.exit b0) (upd σ (some tc) (.bool false)) ds h) :
  wqC P S (.loop (.seq (.ops [.row ⟨some tc,none,.bin .lss T lit (.t ti) lim⟩]) (.seq (.cond (.t tc) .skip (.exit b0))
   (.seq (.block b1 body) (.ops [.row ⟨some tn,none,.bin .add T true (.t ti) (.c (.int .i64 1))⟩,.row ⟨some ti,none,.move (.t tn)⟩]))))) Q σ ds h:=by
 refine n06 (fun k σ ds h=>∃ j,k+j=n∧σ ti=.int .i64 (j:Int)∧J j σ ds h) n ⟨0,by omega,by simpa using h0,hJ⟩ ?_
 rintro k σ ds h ⟨j,hk,hti,hJ⟩
 have hlim:=hl _ _ _ _ hJ
 simp only [o0I,o0H,h0j _ (.bin .lss T lit (.t ti) lim) _ rfl,h08,CO.evS_t,hti,hlim,o0K,m0P,k0v,g0y,r0k,a0H,if_true]
 by_cases hj:j<n
 ·have:((j:Int)<(n:Int)):=by omega
  simp only [this,decide_true,r0l,r0i,g0y,o0I,p0P]
  refine f0E (hb j σ ds h hj hti hJ) ?_
  intro x σ' ds' h' hx
  have key:(σ' ti=.int .i64 (j:Int)∧J (j+1) (upd (upd σ' (some tn) (.int .i64 ((j:Int)+1))) (some ti) (.int .i64 ((j:Int)+1))) ds' h') →
    wqC P S (.ops [.row ⟨some tn,none,.bin .add T true (.t ti) (.c (.int .i64 1))⟩,.row ⟨some ti,none,.move (.t tn)⟩]) (d0I (fun k σ ds h=>∃ j,k+j=n∧σ ti=.int .i64 (j:Int)∧J j σ ds h) k Q) σ' ds' h':=by
   rintro ⟨h1,h2⟩
   simp only [o0H,h0j _ (.bin .add T true (.t ti) (.c (.int .i64 1))) _ rfl,h0j _ (.move (.t tn)) _ rfl,h08,g0z,CO.evS_t,CO.evS_c,h1,o0J,m0P,s0J,k0v,a0H,if_true,wrap_i64 (show (-9223372036854775808:Int)≤(j:Int)+1 by omega) (show (j:Int)+1<9223372036854775808 by omega),m7]
   exact ⟨k - 1,by omega,j+1,by omega,by simp,h2⟩
  cases x with
  | normal=>exact key hx
  | ret=>exact hx
  | exit i =>
   simp only [e0H] at hx ⊢
   by_cases hi:i=b1
   ·rw [if_pos hi] at hx ⊢;exact key hx
   ·rw [if_neg hi] at hx ⊢;exact hx
 ·have hjn:j=n:=by omega
  subst hjn
  have:¬ ((j:Int)<(j:Int)):=by omega
  simp only [this,decide_false,p0Q,r0j,n05,j0k]
  exact he _ _ _ hJ
structure Less (k h:AH):Prop where
 next:k.next=h.next
 get:∀ i o,i<h.next→k.get i=some o→h.get i=some o
theorem m0Q {B:Nat} {w0:World} (hM:P.follows .mixedOrders=true) (hnum:∀ (f:Nat) fn,P.funcs[f]? = some fn→fn.body.isSome=true→fn.name≠"runtime.NumGoroutine") (hS:c0a P B w0 S)
  {f:FuncId} {args:List AV} {v:AV} {h h':AH} (he:EvN P S (.fn f) args h fun r g=>r=v∧Less h' g∧∀ i,i<h.next→h'.get i=g.get i)
  {φ:Phi} {w:World} {args':List Value} (ha:ConL φ args args') (hG:GlobRel P φ) (hR:Rel B w0 φ h w) :
  (∀ w,(callFunc f ⟨args'⟩).run P w=.ok (.enter f ⟨args'⟩) w) ∧
  CallsK P .normal f ⟨args'⟩ w (fun v' w'=>∃ φ',Con φ' v v'∧Rel B w0 φ' h' w'∧Ext φ h φ' h'):=by
 obtain ⟨N,l,e,k⟩:=he
 obtain ⟨h1,h2⟩:=(i0A hM hnum hS N).1 _ _ _ _ e φ w args' ha hG hR
 refine ⟨h1,fun cs=>?_⟩
 obtain ⟨v',w',fr,fn,⟨u,g,φ',hm,c,R',X⟩,r⟩:=h2 cs
 obtain ⟨e1,hL,hold⟩:=k _ hm
 simp only at e1 hL hold
 subst e1
 refine ⟨v',w',fr,fn,⟨φ',c,R'.sub hL.next hL.get,⟨X.le,?_,fun i hi e=>?_⟩⟩,r⟩
 ·rw [hL.next];exact X.next
 ·obtain ⟨x1,x2⟩:=X.keep i hi e
  exact ⟨x1,(hold i hi).trans x2⟩
end
end Go.Dr

namespace Go.Dr
open Go.RowKit
variable {P:Program} {H:Type} {enc:TypeId×Value→H} {W:World} {base:Nat} {sp:Nat→Bool} {held:Bool}
theorem j00 {α β:Type} {f:α→Option β}:∀ {l:List α} {r:List β},l.mapM f=some r→r.length=l.length∧∀ (i:Nat) (a:α),l[i]? = some a→∃ b,r[i]? = some b∧f a=some b
 | [],r,h=>by
  simp only [List.mapM_nil] at h
  cases h
  exact ⟨rfl,fun i a e=>by simp at e⟩
 | x::l,r,h=>by
  rw [List.mapM_cons] at h
  cases hx:f x with
  | none=>rw [hx] at h;cases h
  | some b =>
   cases hl:l.mapM f with
   | none=>rw [hx,hl] at h;cases h
   | some bs =>
    rw [hx,hl] at h
    cases h
    obtain ⟨h1,h2⟩:=j00 hl
    refine ⟨by simp [h1],fun i a e=>?_⟩
    cases i with
    | zero=>simp at e;subst e;exact ⟨b,rfl,hx⟩
    | succ i=>exact h2 i a (by simpa using e)
inductive TyV (P:Program) (h:AH):TypeId→List AV→Prop
 | bool {t:TypeId} (ht:P.underlying t=some .bool) (b:Bool):TyV P h t [.bool b]
 | int {t:TypeId} {k:IntKind} {n:Int} (ht:P.underlying t=some (.int k)) (hn:(Lit.int k n).wf=true):TyV P h t [.int k n]
 | str {t:TypeId} {s:List UInt8} (ht:P.underlying t=some .string) (hs:s.length≤maxLen):TyV P h t [.str s]
 | nils {t e:TypeId} (ht:P.underlying t=some (.slice e)):TyV P h t [.nils]
 | slice {t e:TypeId} {id len cap:Nat} {vs:List AV} (ht:P.underlying t=some (.slice e)) (hi:id<h.next) (hg:h.get id=some (.cells vs true)) (hv:vs.length=len*P.cellsOf e)
   (hl:len≤cap) (hc:cap≤maxLen) (hel:∀ i,i<len→TyV P h e ((vs.drop (i*P.cellsOf e)).take (P.cellsOf e))):TyV P h t [.slice id 0 len cap true (P.cellsOf e)]
 | struct {t:TypeId} {fs:Array Field} {cs:List AV} (ht:P.underlying t=some (.struct fs)) (hl:cs.length=P.cellsOf t)
   (hf:∀ f ∈ fs.toList,TyV P h f.type ((cs.drop f.offset).take (P.cellsOf f.type))):TyV P h t cs
def g0H (P:Program):List Field→Nat→Nat→Bool
 | [],acc,tot=>Nat.beq acc tot
 | f::fs,acc,tot=>Nat.beq f.offset acc&&g0H P fs (acc+P.cellsOf f.type) tot
def c0V (P:Program):Nat→TypeId→Bool
 | 0,_=>false
 | d+1,t=>match P.underlying t with
  | some .bool | some (.int _) | some .string=>true
  | some (.slice e)=>Nat.blt 0 (P.cellsOf e)&&c0V P d e
  | some (.struct fs)=>g0H P fs.toList 0 (P.cellsOf t)&&fs.toList.all fun f=>c0V P d f.type
  | _=>false
def RO (φ:Phi) (h:AH):Prop:=∀ j q o,φ j=some q→h.get j=some o→o.writable=false
theorem c0W {n:Nat} {a:Addr} {cs:List Value} (h:W.cells? base a n=some cs):cs.length=n∧∀ i,i<n→W.cell? (a.add i)=cs[i]?:=by
 unfold World.cells? at h
 split at h
 ·obtain ⟨h1,h2⟩:=j00 h
  rw [List.length_range] at h1
  refine ⟨h1,fun i hi=>?_⟩
  obtain ⟨b,hb,hf⟩:=h2 i i (by rw [List.getElem?_range hi])
  rw [hb,hf]
 ·cases h
theorem q0n {B:Nat} {w0 w:World} {φ:Phi} {h:AH} (r:Rel B w0 φ h w) (hro:RO φ h) {p:Pl} {vs:List AV} {c:Array Value} {e:TypeId} {f:Nat×Nat} (hb:w.heap[p.blk]? = some (.cells c e f))
  (h1:vs.length≤p.room) (h2:p.off+p.room≤c.size) (hc:∀ i x,vs[i]? = some x→∃ y,c[p.off+i]? = some y∧Con φ x y) :
  Rel B w0 (φ.set h.next p) (h.push (.cells vs true)) w∧RO (φ.set h.next p) (h.push (.cells vs true))∧φ.le (φ.set h.next p):=by
 have hle:=Phi.le_set p r.fresh
 refine ⟨(r.promise (.cells vs true)).lay (Nat.lt_succ_self _) r.fresh (b9 _) ⟨c,e,f.1,f.2,hb,h1,h2,fun i x hx=>?_,fun e=>by cases e⟩ (fun e=>by cases e) (fun j q oj hj hg hw=>?_),fun j q o hj hg=>?_,hle⟩
 ·obtain ⟨y,hy,hcon⟩:=hc i x hx
  exact ⟨y,hy,hcon.mono hle⟩
 ·have hne:j≠h.next:=fun e=>by rw [e,r.fresh] at hj;cases hj
  rw [j0 hne] at hg
  rcases hw with hw | hw
  ·cases hw
  ·rw [hro j q oj hj hg] at hw;cases hw
 ·by_cases hne:j=h.next
  ·subst hne
   rw [b9] at hg
   cases hg
   rfl
  ·rw [Phi.set_other _ _ hne] at hj
   rw [j0 hne] at hg
   exact hro j q o hj hg
theorem l0B {B:Nat} {w0 w:World} {α:Type} (T:AH→α→List AV→Prop) (hT:∀ h h' a l,Fr h h'→T h a l→T h' a l):∀ (xs:List (α×List Value)) (_:∀ x ∈ xs,∀ φ h,Rel B w0 φ h w→RO φ h →
   ∃ φ' h' l,ConL φ' l x.2∧Rel B w0 φ' h' w∧RO φ' h'∧φ.le φ'∧Fr h h'∧T h' x.1 l) (φ:Phi) (h:AH),Rel B w0 φ h w→RO φ h →
  ∃ (φ':Phi) (h':AH) (ls:List (List AV)),Rel B w0 φ' h' w∧RO φ' h'∧φ.le φ'∧Fr h h'∧ls.length=xs.length∧∀ (i:Nat) (x:α×List Value),xs[i]? = some x→∃ l,ls[i]? = some l∧ConL φ' l x.2∧T h' x.1 l
 | [],_,φ,h,r,ro=>⟨φ,h,[],r,ro,.refl _,.refl _,rfl,fun i x e=>by simp at e⟩
 | x::xs,hx,φ,h,r,ro=>by
  obtain ⟨φ1,h1,l,c1,r1,ro1,le1,f1,t1⟩:=hx x (by simp) φ h r ro
  obtain ⟨φ2,h2,ls,r2,ro2,le2,f2,hl,hall⟩:=l0B T hT xs (fun y hy=>hx y (List.mem_cons_of_mem _ hy)) φ1 h1 r1 ro1
  refine ⟨φ2,h2,l::ls,r2,ro2,le1.trans le2,f1.trans f2,by simp [hl],fun i y e=>?_⟩
  cases i with
  | zero=>simp at e;subst e;exact ⟨l,rfl,c1.mono le2,hT _ _ _ _ f2 t1⟩
  | succ i=>exact hall i y (by simpa using e)
theorem i0f {α:Type}:∀ (ls:List (List α)) (k:Nat),(∀ l ∈ ls,l.length=k)→ls.flatten.length=ls.length*k∧∀ (i:Nat) (l:List α),ls[i]? = some l→(ls.flatten.drop (i*k)).take k=l
 | [],k,_=>⟨by simp,fun i l e=>by simp at e⟩
 | x::ls,k,h=>by
  obtain ⟨h1,h2⟩:=i0f ls k fun l hl=>h l (List.mem_cons_of_mem _ hl)
  have hx:=h x (by simp)
  refine ⟨by rw [List.flatten_cons,List.length_append,h1,hx,List.length_cons,Nat.add_mul,Nat.one_mul,Nat.add_comm],fun i l e=>?_⟩
  cases i with
  | zero =>
   simp at e;subst e
   rw [List.flatten_cons,Nat.zero_mul,List.drop_zero,List.take_append_of_le_length (by omega),List.take_of_length_le (by omega)]
  | succ i =>
   rw [List.flatten_cons,Nat.add_mul,Nat.one_mul,Nat.add_comm,← List.drop_drop,← hx,List.drop_left,hx]
   exact h2 i l (by simpa using e)
theorem o0V {α:Type} (ls:List (List α)) (k:Nat) (h:∀ l ∈ ls,l.length=k) (i j:Nat) (hi:i<ls.length) (hj:j<k):∃ l,ls[i]? = some l∧ls.flatten[i*k+j]? = l[j]?:=by
 obtain ⟨h1,h2⟩:=i0f ls k h
 refine ⟨ls[i],List.getElem?_eq_getElem hi,?_⟩
 have:=h2 i _ (List.getElem?_eq_getElem hi)
 rw [← this,List.getElem?_take,if_pos hj,List.getElem?_drop]
theorem add_none {a:Addr} (h:a.spot=none) (m:Nat):a.add m=⟨a.block,a.off+m,none⟩:=by
 obtain ⟨b,o,s⟩:=a
 cases h
 exact Addr.add_none b o m
theorem j01 {a:Addr} {v:Value} (h:W.cell? a=some v):a.spot=none∧∃ c e f,W.heap[a.block]? = some (.cells c e f)∧c[a.off]? = some v:=by
 unfold World.cell? at h
 split at h
 ·rename_i c e f hb
  split at h
  ·cases h
  ·rename_i hs
   refine ⟨by cases hs':a.spot <;> simp_all,c,e,f,hb,h⟩
 ·cases h
def o0m (W:World) (cs:List Value):Prop:=∀ (a:Addr) (len:Nat),Value.slice (some a) len 0 ∈ cs→∃ (b:Nat) (c:Array Value) (e:TypeId) (f:Nat×Nat),W.heap[b]? = some (.cells c e f)
theorem l0C {b:Nat} {x:TypeId×Nat} (h:W.shape? b=some x):∃ (c:Array Value) (e:TypeId) (f:Nat×Nat),W.heap[b]? = some (.cells c e f):=by
 unfold World.shape? at h
 split at h
 ·rename_i c e f hb;exact ⟨c,e,f,hb⟩
 ·cases h
theorem n0g {b0:Nat} {t:TypeId} {a:Addr} {len cap:Nat} (h:Cell.okWide P W .any b0 t (.slice (some a) len cap)):∃ (b:Nat) (c:Array Value) (e:TypeId) (f:Nat×Nat),W.heap[b]? = some (.cells c e f):=by
 unfold Cell.okWide at h
 split at h
 case h_8 =>
  unfold Cell.ok at h
  split at h <;> first | contradiction | skip
  all_goals (rename_i heq;first | cases heq | skip)
  obtain ⟨_,_,hh⟩:=h
  unfold World.has at hh
  obtain ⟨_,_,row,cells,hs,_⟩:=hh
  obtain ⟨c,e,f,hb⟩:=l0C hs
  exact ⟨_,c,e,f,hb⟩
 all_goals (rename_i heq;cases heq)
theorem ro0 (φ:Phi) (n:Nat):RO φ ⟨n,.leaf⟩:=fun _ _ _ _ e=>by cases e
variable {h:AH}
def c0B (P:Program) (t:TypeId):List (TypeId×Nat):=match P.underlying t with
 | some (.struct fs)=>fs.toList.map fun f=>(f.type,f.offset)
 | _=>[]
theorem d0G {α:Type} (g:α→List AV) (p:α→Prop) (k:Nat):∀ (n:Nat) (vs:List AV),vs.length=n*k→(∀ i,i<n→∃ x,(vs.drop (i*k)).take k=g x∧p x)→∃ xs:List α,xs.length=n∧vs=(xs.map g).flatten∧∀ x ∈ xs,p x
 | 0,vs,hl,_=>⟨[],rfl,List.length_eq_zero_iff.1 (by omega),fun x hx=>by cases hx⟩
 | n+1,vs,hl,he=>by
  obtain ⟨x,h1,h2⟩:=he 0 (by omega)
  rw [Nat.zero_mul,List.drop_zero] at h1
  rw [Nat.add_mul,Nat.one_mul] at hl
  obtain ⟨xs,h3,h4,h5⟩:=d0G g p k n (vs.drop k) (by rw [List.length_drop];omega) fun i hi=>by
   obtain ⟨y,q1,q2⟩:=he (i+1) (by omega)
   refine ⟨y,?_,q2⟩
   rw [List.drop_drop,show k+i*k=(i+1)*k from by rw [Nat.add_mul,Nat.one_mul,Nat.add_comm]]
   exact q1
  refine ⟨x::xs,by simp [h3],?_,fun y hy=>?_⟩
  ·rw [List.map_cons,List.flatten_cons,← h4,← h1,List.take_append_drop]
  ·rcases List.mem_cons.1 hy with rfl | hy
   ·exact h2
   ·exact h5 y hy
end Go.Dr

namespace Go.Dr
open Go.RowKit
variable {P:Program}
def h03 (f:FuncId):a0o:=fun g=>if g=f then some (fun args h=>match args with | []=>.ok (.bool true,h) | _=>.error "arguments") else none
theorem p0p {lf n:Nat} {f:FuncId} (hM:P.follows .mixedOrders=true) (hnum:P.funcs.all (fun f=>f.name != "runtime.NumGoroutine")=true)
  (hrun:k0M (A3 P (fun _=>none) lf n (.fn f) [] ⟨P.globals.size,.leaf⟩)=true) (B:Nat) (w0:World):c0a P B w0 (h03 f):=by
 intro g s hs args h v h' he φ w args' ha hG hR
 unfold h03 at hs
 split at hs
 ·rename_i e
  subst e
  cases hs
  cases args with
  | cons a l=>cases he
  | nil =>
   cases he
   cases ha
   obtain ⟨hh,hr⟩:=o06 hrun
   obtain ⟨h1,h2⟩:=(k0J (B:=w.heap.size) (w0:=w) hM (c0E hnum) f0h n).1 _ _ _ _ _ hr (o05 P.globals.size) w [] .nil (q0z P) (t0L w _)
   refine ⟨h1,fun cs=>?_⟩
   obtain ⟨v',w',fr,fn',⟨φ',hv,hR',_⟩,rest⟩:=h2 cs
   refine ⟨v',w',fr,fn',⟨φ,?_,?_,.refl _ _⟩,rest⟩
   ·cases hv;exact .bool true
   ·exact hR.world (hR'.below.mono hR.size) fun i p o hi ho=>hR'.below.block _ (hR.obj i p o hi ho).lt
 ·cases hs
theorem s0r {S:a0o} (hM:P.follows .mixedOrders=true) (hnum:P.funcs.all (fun f=>f.name != "runtime.NumGoroutine")=true) {W:World} (hS:c0a P W.heap.size W S) {f:FuncId} {args:List AV} {args':List Value} {φ:Phi} {h:AH}
  (he:Ev P S (.fn f) args h fun r _=>r=.bool true) (ha:ConL φ args args') (hG:GlobRel P φ) (hR:Rel W.heap.size W φ h W) :
  Calls P f ⟨args'⟩ W fun e W'=>e=.returned (.bool true)∧Below W.heap.size W W':=by
 obtain ⟨N,v,h',he,rfl⟩:=he
 refine (l0J hM (c0E hnum) hS he ha hG hR).mono fun e W' hh=>?_
 cases e with
 | returned v =>
  obtain ⟨φ',h1,h2,_⟩:=hh
  cases h1
  exact ⟨rfl,h2.below⟩
 | panicked c=>exact hh.elim
 | outgrown=>exact hh.elim
end Go.Dr

namespace Go.Dr
open Go.RowKit
variable {P:Program} {B:Nat} {w0 w w':World} {φ:Phi} {h h':AH}
theorem CallsK.of_calls {f:FuncId} {args:Array Value} {R:Ending→World→Prop} {K:Value→World→Prop} (hc:Calls P f args w R) (hr:∀ e w',R e w'→∃ v,e=.returned v∧K v w'):CallsK P .normal f args w K:=by
 intro cs
 obtain ⟨e,w',fr,hR,hst,hf,hl⟩:=hc cs
 obtain ⟨v,rfl,hk⟩:=hr _ _ hR
 obtain ⟨hm,hd,hkd,fn,hfn,hres⟩:=hl
 exact ⟨v,w',fr,fn,hk,hst,hf,hm,hd,hkd,hfn,hres⟩
def x0c (zs:List Int):List Int:=zs.mergeSort fun x y=>decide (x≤y)
structure SortIs (P:Program) (f:FuncId):Prop where
 some:∀ (blk off cap:Nat) (zs:List Int) (w:World),Sort.Holds (Value.int .i64) w blk off zs.toArray→blk<w.heap.size→zs.length<4611686018427387904 →
  Calls P f #[.slice (some ⟨blk,off,none⟩) zs.length cap] w fun e w' =>
   e=.returned (.tuple #[])∧∃ n os,w'=Sort.grow (Sort.putRow (Value.int .i64) (Sort.ahead w n) blk off (zs.mergeSort fun x y=>decide (x≤y)).toArray) os
 none:∀ (p:Option Addr) (cap:Nat) (w:World),Calls P f #[.slice p 0 cap] w fun e w'=>e=.returned (.tuple #[])∧w'=w
 enter:∀ args w,(callFunc f args).run P w=.ok (.enter f args) w
end Go.Dr

namespace Go.Dk
open Go Go.Dr
set_option maxRecDepth 100000
noncomputable abbrev P:Program:=Go.Proofs.Tryz.prog
def f0j:FuncId:=11
def a01:FuncId:=25
def d0V:FuncId:=41
def p8:FuncId:=61
def U7:FuncId:=62
def a0p:FuncId:=63
def o5:FuncId:=81
def K7:FuncId:=82
def L4:FuncId:=84
def P6:FuncId:=94
def c07:FuncId:=83
def l6:FuncId:=43
def d7:FuncId:=42
def b0K:FuncId:=64
def G6:FuncId:=65
def Q5:FuncId:=85
def s8:FuncId:=95
def W2:FuncId:=32
def F6:FuncId:=28
def S6:FuncId:=39
def m8:FuncId:=58
def r8:FuncId:=79
def c0q:FuncId:=59
def c0e:FuncId:=60
def S7:FuncId:=49
def b0L:FuncId:=71
def c0r:FuncId:=80
def a0B:FuncId:=93
def x6:FuncId:=111
def z6:FuncId:=110
def s9:FuncId:=112
def S8:FuncId:=128
def P7:FuncId:=129
def t8:FuncId:=140
def u6:FuncId:=149
def X0:FuncId:=141
def j7:FuncId:=131
def j6:FuncId:=113
def U0:FuncId:=150
def F8:FuncId:=130
def D5:FuncId:=153
def P8:FuncId:=132
def x8:FuncId:=142
def L2:FuncId:=133
def U8:FuncId:=48
def V4:FuncId:=67
def E5:FuncId:=68
def I2:FuncId:=86
def V5:FuncId:=69
def b0M:FuncId:=70
def y9:FuncId:=51
def K3:FuncId:=52
def c0s:FuncId:=72
def c0f:FuncId:=73
def c08:FuncId:=87
def b0N:FuncId:=97
def A9:FuncId:=96
def a0C:FuncId:=88
def K8:FuncId:=98
def Z5:FuncId:=99
def N8:FuncId:=115
def y8:FuncId:=114
def A7:FuncId:=134
def p7:FuncId:=53
def u7:FuncId:=74
def B6:FuncId:=75
def J4:FuncId:=50
def c0t:FuncId:=10
def P9:FuncId:=12
def i8:FuncId:=29
def t6:FuncId:=47
def D6:FuncId:=30
def b0m:FuncId:=31
def U1:FuncId:=5
def c0g:FuncId:=14
def I6:FuncId:=15
def D1:FuncId:=33
def d0W:FuncId:=17
def a0q:FuncId:=16
def K9:FuncId:=34
def J5:FuncId:=35
def b0O:FuncId:=54
def Q0:FuncId:=36
def S9:FuncId:=56
def y6:FuncId:=55
def v8:FuncId:=77
def p9:FuncId:=92
def v6:FuncId:=78
def Z6:FuncId:=37
def R6:FuncId:=38
def U2:FuncId:=57
def T0:FuncId:=18
def G2:FuncId:=19
def d8:TypeId:=3
def Z7:TypeId:=9
def t0T:TypeId:=120
def d0X:TypeId:=45
def m0e:TypeId:=56
def c0u:TypeId:=28
def m0f:TypeId:=66
def k0W:TypeId:=4
def p07:TypeId:=64
def G3:TypeId:=21
def d0Y:TypeId:=30
def Q6:TypeId:=132
def k0X:TypeId:=142
def p08:TypeId:=140
def c09:TypeId:=5
def d0w:TypeId:=35
def j0H:TypeId:=72
@[simp] theorem g0V:P.underlying d0X=some (.slice m0e):=nr (by kernel_rfl)
@[simp] theorem p09:P.underlying c0u=some (.pointer m0f):=nr (by kernel_rfl)
@[simp] theorem v0D:P.underlying k0W=some .bool:=nr (by kernel_rfl)
@[simp] theorem c0h:P.underlying Q6=some (.slice k0X):=nr (by kernel_rfl)
@[simp] theorem o0x:P.underlying d0w=some (.pointer j0H):=nr (by kernel_rfl)
abbrev rR (d:Nat) (c:COp):CEnt:=.row ⟨some d,none,c⟩
abbrev rN (c:COp):CEnt:=.row ⟨none,none,c⟩
abbrev rA (d g:Nat) (c:COp):CEnt:=.row ⟨some d,some (g,true),c⟩
abbrev rB (d g:Nat) (c:COp):CEnt:=.row ⟨some d,some (g,false),c⟩
abbrev rM (d n:Nat):CEnt:=.row ⟨some d,none,.move (.t n)⟩
abbrev rL (d n:Nat):CEnt:=.row ⟨some d,none,.load1 (.t n)⟩
abbrev rF (d k n:Nat):CEnt:=.row ⟨some d,none,.fieldAddr k (.t n)⟩
abbrev rV (d n:Nat):CEnt:=.row ⟨some d,none,.lenV (.t n)⟩
abbrev rE (d n i:Nat):CEnt:=.row ⟨some d,none,.extract (.t n) i⟩
abbrev rK (d n:Nat):CEnt:=.row ⟨some d,none,.nilCheck (.t n)⟩
abbrev rC (d:Nat) (f:FuncId) (l:List CO):CEnt:=.row ⟨some d,none,.callV (.c (.func (.func f) [] [])) l⟩
abbrev rX (d:Nat) (v:AV):CEnt:=.row ⟨some d,none,.move (.c v)⟩
abbrev iV (n:Int):AV:=.int .i64 n
abbrev iC (n:Int):CO:=.c (.int .i64 n)
end Go.Dk

namespace Go.Dk
open Go Go.Dr
set_option maxRecDepth 100000
noncomputable def i0S:CC :=
 (.seq (.ops [rX 0 .nilp]) (.seq (.ops [rR 1 (.build [(.bool false),.nils] [(0 ,1 ,(.c (.bool true)))]),rR 2 (.box (.t 1)),rM 0 2]) .ret))
theorem n0L:m6 P f0j=.ok ⟨3,[.tmp 0],i0S⟩:=by kernel_rfl
noncomputable def d0x:CC :=
 (.seq (.ops [rM 11 0,rK 12 11,rF 13 1 12,rL 14 13,rM 15 1,rC 16 d0V [(.t 14),(.t 15)],rM 10 16,rE 17 10 0,rE 18 10 1,rM 8 17,rM 9 18]) (.seq (.seq (.ops [rM 19 9,rR 20 (.un .not (.t 19))]) (.cond (.t 20) (.ops [rM 21 0,rM 22 0,rK 23 22,rF 24 1 23,rL 25 24,rM 26 8,rM 27 1,rR 29 (.mkM none),.stage [⟨(some 25),none,.load1 (.t 24)⟩],rC 28 l6 [(.t 27)],rR 30 (.build [.nils,.nilm] [(0 ,1 ,(.t 28)),(1 ,1 ,(.t 29))]),rR 31 (.box (.t 30)),rR 32 (.buildSlice 1 1 [.nilp] [(0 ,1 ,(.t 31))]),.stage [⟨(some 25),none,.load1 (.t 24)⟩],rC 33 d7 [(.t 25),(.t 26),(.t 32)],rK 34 21,rF 35 1 34,rN (.store 1 (.t 35) (.t 33))]) .skip)) (.ops [rM 36 0,rK 37 36,rF 38 1 37,rL 39 38,rM 40 8,rR 41 (.idxV 1 (.t 39) (.t 40)),rL 42 41,rK 43 42,rF 44 1 43,rL 45 44,rM 46 2,rM 47 3,rN (.upd d8 (.t 45) (.t 46) (.t 47))])))
theorem h0V:m6 P a01=.ok ⟨48,[],d0x⟩:=by kernel_rfl
noncomputable def h0A:CC :=
 (.seq (.ops [rX 4 (iV 0),rX 5 (.bool false)]) (.seq (.ops [rM 6 0,rM 7 1,rC 8 p8 [(.t 6),(.t 7),(.c (.func (.func U7) [] []))],rE 9 8 0,rE 10 8 1,rM 4 9,rM 5 10]) .ret))
theorem m0o:m6 P d0V=.ok ⟨11,[.tmp 4,.tmp 5],h0A⟩:=by kernel_rfl
noncomputable def A6:CC :=
 (.seq (.ops [rX 6 (iV 0),rX 7 (.bool false)]) (.seq (.ops [rM 12 0,rV 13 12,rM 8 13]) (.seq (.ops [rM 14 8,rX 9 (iV 0),rM 10 14]) (.seq (.block 0 (.loop (.seq (.seq (.ops [rM 15 9,rM 16 10,rR 17 (.bin .lss d8 false (.t 15) (.t 16))]) (.cond (.t 17) .skip (.exit 0))) (.block 1 (.seq (.ops [rM 18 9,rM 19 10,rR 20 (.bin .add d8 false (.t 18) (.t 19)),rR 21 (.conv (.int .u64) (.t 20)),rR 22 (.bin .shr t0T true (.t 21) (.c (.int .u64 1))),rR 23 (.conv (.int .i64) (.t 22)),rM 11 23]) (.seq (.ops [rM 24 2,rM 25 0,rM 26 11,rR 27 (.idxV 1 (.t 25) (.t 26)),rL 28 27,rM 29 1,rR 30 (.callV (.t 24) [(.t 28),(.t 29)]),rR 31 (.bin .lss d8 true (.t 30) (iC 0))]) (.cond (.t 31) (.ops [rM 32 11,rR 33 (.bin .add d8 true (.t 32) (iC 1)),rM 9 33]) (.ops [rM 34 11,rM 10 34])))))))) (.seq (.ops [rM 35 9,rM 36 9,rM 37 8,rR 38 (.bin .lss d8 false (.t 36) (.t 37)),rM 39 38,rA 40 39 (.move (.t 2)),rA 41 39 (.move (.t 0)),rA 42 39 (.move (.t 9)),rA 43 39 (.idxV 1 (.t 41) (.t 42)),rA 44 39 (.load1 (.t 43)),rA 45 39 (.move (.t 1)),rA 46 39 (.callV (.t 40) [(.t 44),(.t 45)]),rA 47 39 (.bin .eql d8 true (.t 46) (iC 0)),rR 48 (.pick (.t 39) (.t 47) (.c (.bool false))),rM 6 35,rM 7 48]) .ret)))))
theorem I7:m6 P p8=.ok ⟨49,[.tmp 6,.tmp 7],A6⟩:=by kernel_rfl
noncomputable def e0Z:CC :=
 (.seq (.ops [rX 4 (iV 0)]) (.seq (.ops [rM 5 0,rK 6 5,rF 7 0 6,rL 8 7,rM 9 1,rC 10 a0p [(.t 8),(.t 9)],rM 4 10]) .ret))
theorem j0J:m6 P U7=.ok ⟨11,[.tmp 4],e0Z⟩:=by kernel_rfl
noncomputable def c0I:CC :=
 (.seq (.ops [rX 4 (iV 0)]) (.seq (.ops [rM 5 0,rM 6 1,rC 7 o5 [(.t 5),(.t 6),(.c (.func (.func K7) [] []))],rM 4 7]) .ret))
theorem g0Z:m6 P a0p=.ok ⟨8,[.tmp 4],c0I⟩:=by kernel_rfl
noncomputable def x0:CC :=
 (.seq (.ops [rX 6 (iV 0)]) (.seq (.seq (.ops [rM 11 0,rV 12 11,rX 13 (iV 0)]) (.block 0 (.loop (.seq (.ops [rR 14 (.bin .lss d8 false (.t 13) (.t 12))]) (.seq (.cond (.t 14) .skip (.exit 0)) (.seq (.block 1 (.seq (.ops [rM 15 13,rR 16 (.idxV 2 (.t 11) (.t 13)),rR 17 (.loadN 2 (.t 16)),rR 8 (.new [(.str []),(.str [])]),rM 7 15,rN (.store 2 (.t 8) (.t 17))]) (.seq (.seq (.ops [rM 18 7,rM 19 1,rV 20 19,rR 21 (.bin .geq d8 false (.t 18) (.t 20))]) (.cond (.t 21) (.seq (.ops [rX 6 (iV 1)]) .ret) .skip)) (.seq (.ops [rM 22 1,rM 23 7,rR 24 (.idxV 2 (.t 22) (.t 23)),rR 25 (.loadN 2 (.t 24)),rR 9 (.new [(.str []),(.str [])]),rN (.store 2 (.t 9) (.t 25))]) (.seq (.ops [rM 26 2,rR 27 (.loadN 2 (.t 8)),rR 28 (.loadN 2 (.t 9)),rR 29 (.callV (.t 26) [(.t 27),(.t 28)]),rM 10 29]) (.seq (.ops [rM 30 10,rR 31 (.bin .neq d8 true (.t 30) (iC 0))]) (.cond (.t 31) (.seq (.ops [rM 32 10,rM 6 32]) .ret) .skip))))))) (.ops [rR 33 (.bin .add d8 true (.t 13) (iC 1)),rM 13 33]))))))) (.seq (.seq (.ops [rM 34 0,rV 35 34,rM 36 1,rV 37 36,rR 38 (.bin .lss d8 false (.t 35) (.t 37))]) (.cond (.t 38) (.seq (.ops [rX 6 (iV (-1))]) .ret) .skip)) (.seq (.ops [rX 6 (iV 0)]) .ret))))
theorem E6:m6 P o5=.ok ⟨39,[.tmp 6],x0⟩:=by kernel_rfl
noncomputable def b0P:CC :=
 (.seq (.ops [rR 2 (.box (.t 0)),rR 3 (.box (.t 1)),rX 4 (iV 0)]) (.seq (.ops [rF 5 0 2,rL 6 5,rF 7 0 3,rL 8 7,rF 10 1 2,rL 11 10,rF 12 1 3,rL 13 12,.stage [⟨(some 13),none,.load1 (.t 12)⟩,⟨(some 11),none,.load1 (.t 10)⟩,⟨(some 8),none,.load1 (.t 7)⟩,⟨(some 6),none,.load1 (.t 5)⟩],rC 9 L4 [(.t 6),(.t 8)],.stage [⟨(some 13),none,.load1 (.t 12)⟩,⟨(some 11),none,.load1 (.t 10)⟩],rC 14 L4 [(.t 11),(.t 13)],rR 15 (.buildSlice 2 1 [(iV 0),(iV 0)] [(0 ,1 ,(.t 9)),(1 ,1 ,(.t 14))]),rC 16 c07 [(.t 15)],rM 4 16]) .ret))
theorem f0m:m6 P K7=.ok ⟨17,[.tmp 4],b0P⟩:=by kernel_rfl
noncomputable def T2:CC :=
 (.seq (.ops [rX 4 (iV 0)]) (.seq (.ops [rM 7 0,rC 8 P6 [(.t 7)],rM 5 8]) (.seq (.ops [rM 9 1,rC 10 P6 [(.t 9)],rM 6 10]) (.seq (.seq (.ops [rM 11 5]) (.cond (.t 11) (.seq (.seq (.ops [rM 12 6]) (.cond (.t 12) (.seq (.ops [rX 4 (iV 0)]) .ret) .skip)) (.seq (.ops [rX 4 (iV (-1))]) .ret)) .skip)) (.seq (.seq (.ops [rM 13 6]) (.cond (.t 13) (.seq (.ops [rX 4 (iV 1)]) .ret) .skip)) (.seq (.seq (.ops [rM 14 0,rM 15 1,rR 16 (.bin .lss Z7 false (.t 14) (.t 15))]) (.cond (.t 16) (.seq (.ops [rX 4 (iV (-1))]) .ret) .skip)) (.seq (.seq (.ops [rM 17 0,rM 18 1,rR 19 (.bin .gtr Z7 false (.t 17) (.t 18))]) (.cond (.t 19) (.seq (.ops [rX 4 (iV 1)]) .ret) .skip)) (.seq (.ops [rX 4 (iV 0)]) .ret))))))))
theorem d01:m6 P L4=.ok ⟨20,[.tmp 4],T2⟩:=by kernel_rfl
noncomputable def b0Q:CC :=
 (.seq (.ops [rX 2 (.bool false)]) (.seq (.ops [rM 3 0,rM 4 0,rR 5 (.bin .neq Z7 false (.t 3) (.t 4)),rM 2 5]) .ret))
theorem f0n:m6 P P6=.ok ⟨6,[.tmp 2],b0Q⟩:=by kernel_rfl
noncomputable def g0i:CC :=
 (.seq (.ops [rX 2 (iV 0)]) (.seq (.ops [rX 3 (iV 0)]) (.seq (.seq (.ops [rM 6 0,rV 7 6,rX 8 (iV 0)]) (.block 0 (.loop (.seq (.ops [rR 9 (.bin .lss d8 false (.t 8) (.t 7))]) (.seq (.cond (.t 9) .skip (.exit 0)) (.seq (.block 1 (.seq (.ops [rR 10 (.idxV 1 (.t 6) (.t 8)),rL 11 10,rM 5 11]) (.seq (.ops [rM 12 5,rM 13 3,rR 14 (.bin .neq d8 false (.t 12) (.t 13))]) (.cond (.t 14) (.seq (.ops [rM 15 5,rM 2 15]) .ret) .skip)))) (.ops [rR 16 (.bin .add d8 true (.t 8) (iC 1)),rM 8 16]))))))) (.seq (.ops [rM 17 3,rM 2 17]) .ret))))
theorem k01:m6 P c07=.ok ⟨18,[.tmp 2],g0i⟩:=by kernel_rfl
noncomputable def D2:CC :=
 (.seq (.ops [rX 2 .nils]) (.seq (.seq (.ops [rM 3 0,rR 4 (.bin .eql d0X true (.t 3) (.c .nils))]) (.cond (.t 4) (.seq (.ops [rX 2 .nils]) .ret) .skip)) (.seq (.ops [rR 5 (.buildSlice 0 2 [] []),rM 6 0,rR 7 (.app 2 32 (.t 5) (.t 6)),rM 2 7]) .ret)))
theorem X4:m6 P l6=.ok ⟨8,[.tmp 2],D2⟩:=by kernel_rfl
noncomputable def A4:CC :=
 (.seq (.ops [rX 6 .nils]) (.seq (.ops [rM 10 0,rM 11 1,rR 12 (.sliceV 1 (.t 10) (some (.t 11)) none none)]) (.seq (.ops [rM 13 2,rV 14 13,rM 7 14]) (.seq (.seq (.ops [rM 15 7,rR 16 (.bin .eql d8 true (.t 15) (iC 0))]) (.cond (.t 16) (.seq (.ops [rM 17 0,rM 6 17]) .ret) .skip)) (.seq (.ops [rM 18 0,rV 19 18,rM 8 19]) (.seq (.seq (.ops [rM 20 1,rM 21 8,rR 22 (.bin .eql d8 false (.t 20) (.t 21))]) (.cond (.t 22) (.seq (.ops [rM 23 0,rM 24 2,rR 25 (.app 1 8 (.t 23) (.t 24)),rM 6 25]) .ret) .skip)) (.seq (.seq (.ops [rM 26 8,rM 27 7,rR 28 (.bin .add d8 false (.t 26) (.t 27)),rM 29 0,rR 30 (.capV (.t 29)),rR 31 (.bin .gtr d8 false (.t 28) (.t 30))]) (.cond (.t 31) (.seq (.ops [rM 32 0,rM 33 1,rR 34 (.sliceV 1 (.t 32) none (some (.t 33)) none),rM 35 8,rM 36 7,rR 37 (.bin .add d8 false (.t 35) (.t 36)),rM 38 1,rR 39 (.bin .sub d8 false (.t 37) (.t 38)),rR 40 (.appZ 1 8 [.nilp] (.t 34) (.t 39)),rM 9 40]) (.seq (.ops [rM 41 9,rM 42 1,rR 43 (.sliceV 1 (.t 41) (some (.t 42)) none none),rM 44 2,rR 45 (.copy 1 (.t 43) (.t 44))]) (.seq (.ops [rM 46 9,rM 47 1,rM 48 7,rR 49 (.bin .add d8 false (.t 47) (.t 48)),rR 50 (.sliceV 1 (.t 46) (some (.t 49)) none none),rM 51 0,rM 52 1,rR 53 (.sliceV 1 (.t 51) (some (.t 52)) none none),rR 54 (.copy 1 (.t 50) (.t 53))]) (.seq (.ops [rM 55 9,rM 6 55]) .ret)))) .skip)) (.seq (.ops [rM 56 0,rM 57 8,rM 58 7,rR 59 (.bin .add d8 false (.t 57) (.t 58)),rR 60 (.sliceV 1 (.t 56) none (some (.t 59)) none),rM 0 60]) (.seq (.seq (.ops [rM 61 2,rM 62 0,rM 63 1,rM 64 7,rR 65 (.bin .add d8 false (.t 63) (.t 64)),rR 66 (.sliceV 1 (.t 62) (some (.t 65)) none none),rC 67 b0K [(.t 61),(.t 66)],rR 68 (.un .not (.t 67))]) (.cond (.t 68) (.seq (.ops [rM 69 0,rM 70 1,rM 71 7,rR 72 (.bin .add d8 false (.t 70) (.t 71)),rR 73 (.sliceV 1 (.t 69) (some (.t 72)) none none),rM 74 0,rM 75 1,rR 76 (.sliceV 1 (.t 74) (some (.t 75)) none none),rR 77 (.copy 1 (.t 73) (.t 76))]) (.seq (.ops [rM 78 0,rM 79 1,rR 80 (.sliceV 1 (.t 78) (some (.t 79)) none none),rM 81 2,rR 82 (.copy 1 (.t 80) (.t 81))]) (.seq (.ops [rM 83 0,rM 6 83]) .ret))) .skip)) (.seq (.ops [rM 84 0,rM 85 8,rR 86 (.sliceV 1 (.t 84) (some (.t 85)) none none),rM 87 2,rR 88 (.copy 1 (.t 86) (.t 87))]) (.seq (.ops [rM 89 0,rM 90 1,rR 91 (.sliceV 1 (.t 89) (some (.t 90)) none none),rM 92 7,rC 93 G6 [(.t 91),(.t 92)]]) (.seq (.ops [rM 94 0,rM 6 94]) .ret))))))))))))
theorem D8:m6 P d7=.ok ⟨95,[.tmp 6],A4⟩:=by kernel_rfl
noncomputable def P0:CC :=
 (.ops [rM 4 0,rM 5 0,rV 6 5,rM 7 1,rR 8 (.bin .sub d8 false (.t 6) (.t 7)),rC 9 Q5 [(.t 4),(.t 8)]])
theorem a0Q:m6 P G6=.ok ⟨10,[],P0⟩:=by kernel_rfl
noncomputable def Q7:CC :=
 (.seq (.ops [rM 4 0,rM 5 1,rR 6 (.sliceV 1 (.t 4) none (some (.t 5)) none),rC 7 s8 [(.t 6)]]) (.seq (.ops [rM 8 0,rM 9 1,rR 10 (.sliceV 1 (.t 8) (some (.t 9)) none none),rC 11 s8 [(.t 10)]]) (.ops [rM 12 0,rC 13 s8 [(.t 12)]])))
theorem a02:m6 P Q5=.ok ⟨14,[],Q7⟩:=by kernel_rfl
noncomputable def L0:CC :=
 (.seq (.ops [rM 4 0,rV 5 4,rR 6 (.bin .sub d8 true (.t 5) (iC 1)),rX 2 (iV 0),rM 3 6]) (.block 0 (.loop (.seq (.seq (.ops [rM 7 2,rM 8 3,rR 9 (.bin .lss d8 false (.t 7) (.t 8))]) (.cond (.t 9) .skip (.exit 0))) (.seq (.block 1 (.ops [rM 14 0,rM 15 2,rM 16 0,rM 17 3,rM 18 0,rM 19 3,rR 20 (.idxV 1 (.t 18) (.t 19)),rL 21 20,rM 22 0,rM 23 2,rR 24 (.idxV 1 (.t 22) (.t 23)),rL 25 24,rR 26 (.idxV 1 (.t 14) (.t 15)),.stage [⟨(some 25),none,.load1 (.t 24)⟩,⟨(some 21),none,.load1 (.t 20)⟩],rN (.store 1 (.t 26) (.t 21)),rR 27 (.idxV 1 (.t 16) (.t 17)),rN (.store 1 (.t 27) (.t 25))])) (.ops [rM 10 2,rR 11 (.bin .add d8 true (.t 10) (iC 1)),rM 12 3,rR 13 (.bin .sub d8 true (.t 12) (iC 1)),rM 2 11,rM 3 13]))))))
theorem X5:m6 P s8=.ok ⟨28,[],L0⟩:=by kernel_rfl
noncomputable def b0R:CC :=
 (.seq (.ops [rR 5 (.box (.t 1)),rR 6 (.box (.t 2)),rR 7 (.box (.t 3)),rX 8 .nils]) (.seq (.seq (.ops [rM 9 0,rC 10 F6 [(.t 9)],rM 11 10,rB 12 11 (.load1 (.t 5)),rB 13 11 (.callV (.c (.func (.func S6) [] [])) [(.t 12)]),rB 14 11 (.un .not (.t 13)),rR 15 (.pick (.t 11) (.c (.bool true)) (.t 14))]) (.cond (.t 15) (.seq (.ops [rX 8 .nils]) .ret) .skip)) (.seq (.ops [rM 16 0,rK 17 16,rF 18 1 17,rL 19 18,rR 20 (.mkF y9 [] [(.t 5),(.t 6),(.t 7)]),rC 21 J4 [(.t 19),(.t 20)],rM 8 21]) .ret)))
theorem f0o:m6 P W2=.ok ⟨22,[.tmp 8],b0R⟩:=by kernel_rfl
noncomputable def c0J:CC :=
 (.seq (.ops [rX 2 (.bool false)]) (.seq (.ops [rM 3 0,rR 4 (.bin .eql c0u true (.t 3) (.c .nilp)),rM 5 4,rB 6 5 (.move (.t 0)),rB 7 5 (.nilCheck (.t 6)),rB 8 5 (.fieldAddr 0 (.t 7)),rB 9 5 (.load1 (.t 8)),rB 10 5 (.un .not (.t 9)),rR 11 (.pick (.t 5) (.c (.bool true)) (.t 10)),rM 2 11]) .ret))
theorem g00:m6 P F6=.ok ⟨12,[.tmp 2],c0J⟩:=by kernel_rfl
noncomputable def c0i:CC :=
 (.seq (.ops [rX 2 (.bool false)]) (.seq (.ops [rM 3 0,rV 4 3,rR 5 (.bin .leq d8 true (.t 4) (iC 6)),rM 6 5,rA 7 6 (.move (.t 0)),rA 8 6 (.callV (.c (.func (.func m8) [] [])) [(.t 7),(.c (.func (.func c0q) [] []))]),rA 9 6 (.un .not (.t 8)),rR 10 (.pick (.t 6) (.t 9) (.c (.bool false))),rM 2 10]) .ret))
theorem h0B:m6 P S6=.ok ⟨11,[.tmp 2],c0i⟩:=by kernel_rfl
noncomputable def x3:CC :=
 (.seq (.ops [rX 4 (.bool false)]) (.seq (.ops [rM 5 0,rM 6 1,rC 7 r8 [(.t 5),(.t 6)],rR 8 (.bin .geq d8 true (.t 7) (iC 0)),rM 4 8]) .ret))
theorem C8:m6 P m8=.ok ⟨9,[.tmp 4],x3⟩:=by kernel_rfl
noncomputable def z7:CC :=
 (.seq (.ops [rX 4 (iV 0)]) (.seq (.seq (.ops [rM 6 0,rV 7 6,rX 8 (iV 0)]) (.block 0 (.loop (.seq (.ops [rR 9 (.bin .lss d8 false (.t 8) (.t 7))]) (.seq (.cond (.t 9) .skip (.exit 0)) (.seq (.block 1 (.seq (.ops [rM 10 8,rM 5 10]) (.seq (.ops [rM 11 1,rM 12 0,rM 13 5,rR 14 (.idxV 3 (.t 12) (.t 13)),rR 15 (.loadN 3 (.t 14)),rR 16 (.callV (.t 11) [(.t 15)])]) (.cond (.t 16) (.seq (.ops [rM 17 5,rM 4 17]) .ret) .skip)))) (.ops [rR 18 (.bin .add d8 true (.t 8) (iC 1)),rM 8 18]))))))) (.seq (.ops [rX 4 (iV (-1))]) .ret)))
theorem E2:m6 P r8=.ok ⟨19,[.tmp 4],z7⟩:=by kernel_rfl
noncomputable def e00:CC :=
 (.seq (.ops [rR 1 (.box (.t 0)),rX 2 (.bool false)]) (.seq (.ops [rR 3 (.loadN 3 (.t 1)),rC 4 c0e [(.t 3)],rR 5 (.un .not (.t 4)),rM 2 5]) .ret))
theorem j0K:m6 P c0q=.ok ⟨6,[.tmp 2],e00⟩:=by kernel_rfl
noncomputable def h0C:CC :=
 (.seq (.ops [rR 1 (.box (.t 0)),rX 2 (.bool false)]) (.seq (.seq (.ops [rF 5 0 1,rL 6 5]) (.block 0 (.seq (.seq (.ops [rR 8 (.bin .eql d8 true (.t 6) (iC 1)),rM 7 8]) (.cond (.t 7) .skip (.ops [rR 9 (.bin .eql d8 true (.t 6) (iC 2)),rM 7 9]))) (.cond (.t 7) (.seq (.ops [rF 10 2 1,rL 11 10,rR 12 (.bin .neq Z7 true (.t 11) (.c (.str []))),rM 13 12,rA 14 13 (.fieldAddr 2 (.t 1)),rA 15 13 (.load1 (.t 14)),rA 16 13 (.callV (.c (.func (.func S7) [] [])) [(.t 15)]),rA 17 13 (.un .not (.t 16)),rR 18 (.pick (.t 13) (.t 17) (.c (.bool false)))]) (.cond (.t 18) (.seq (.ops [rX 2 (.bool false)]) .ret) .skip)) (.seq (.seq (.ops [rR 20 (.bin .eql d8 true (.t 6) (iC 3)),rM 19 20]) (.cond (.t 19) .skip (.ops [rR 21 (.bin .eql d8 true (.t 6) (iC 4)),rM 19 21]))) (.cond (.t 19) (.seq (.seq (.ops [rF 22 2 1,rL 23 22,rR 24 (.rangeS (.t 23))]) (.block 1 (.loop (.seq (.ops [rR 25 (.next (.t 24) true),rE 26 25 0]) (.seq (.cond (.t 26) .skip (.exit 1)) (.block 2 (.seq (.ops [rE 27 25 2,rM 4 27]) (.seq (.ops [rM 28 4,rR 29 (.bin .lss G3 true (.t 28) (.c (.int .i32 32))),rM 30 29,rB 31 30 (.move (.t 4)),rB 32 30 (.bin .eql G3 true (.t 31) (.c (.int .i32 127))),rR 33 (.pick (.t 30) (.c (.bool true)) (.t 32))]) (.cond (.t 33) (.seq (.ops [rX 2 (.bool false)]) .ret) .skip))))))))) (.seq (.ops [rF 34 2 1,rL 35 34,rC 36 c0r [(.t 35)],rR 37 (.bin .neq d0Y true (.t 36) (iC 0))]) (.cond (.t 37) (.seq (.ops [rX 2 (.bool false)]) .ret) .skip))) (.seq (.ops [rX 2 (.bool false)]) .ret))))))) (.seq (.ops [rF 38 1 1,rL 39 38,rC 40 U8 [(.t 39)],rM 2 40]) .ret)))
theorem m0p:m6 P c0e=.ok ⟨41,[.tmp 2],h0C⟩:=by kernel_rfl
noncomputable def d02:CC :=
 (.seq (.ops [rX 2 (.bool false)]) (.seq (.seq (.ops [rM 5 0,rR 6 (.rangeS (.t 5))]) (.block 0 (.loop (.seq (.ops [rR 7 (.next (.t 6) true),rE 8 7 0]) (.seq (.cond (.t 8) .skip (.exit 0)) (.block 1 (.seq (.ops [rE 9 7 2,rM 4 9]) (.seq (.ops [rM 10 4,rC 11 b0L [(.t 10)],rR 12 (.un .not (.t 11))]) (.cond (.t 12) (.seq (.ops [rX 2 (.bool false)]) .ret) .skip))))))))) (.seq (.ops [rM 13 0,rR 14 (.bin .neq Z7 true (.t 13) (.c (.str []))),rM 15 14,rA 16 15 (.move (.t 0)),rA 17 15 (.lenS (.t 16)),rA 18 15 (.bin .leq d8 true (.t 17) (iC 40)),rR 19 (.pick (.t 15) (.t 18) (.c (.bool false))),rM 2 19]) .ret)))
theorem i0T:m6 P S7=.ok ⟨20,[.tmp 2],d02⟩:=by kernel_rfl
noncomputable def Z9:CC :=
 (.seq (.ops [rX 2 (.bool false)]) (.seq (.ops [rM 3 0,rR 4 (.bin .geq G3 true (.t 3) (.c (.int .i32 32))),rM 5 4,rA 6 5 (.move (.t 0)),rA 7 5 (.bin .neq G3 true (.t 6) (.c (.int .i32 127))),rR 8 (.pick (.t 5) (.t 7) (.c (.bool false))),rM 9 8,rA 10 9 (.move (.t 0)),rA 11 9 (.bin .neq G3 true (.t 10) (.c (.int .i32 65533))),rR 12 (.pick (.t 9) (.t 11) (.c (.bool false))),rM 2 12]) .ret))
theorem i0U:m6 P b0L=.ok ⟨13,[.tmp 2],Z9⟩:=by kernel_rfl
noncomputable def e01:CC :=
 (.seq (.ops [rX 2 (iV 0)]) (.seq (.seq (.ops [rM 3 0,rC 4 a0B [(.t 3)],rR 5 (.bin .eql Q6 true (.t 4) (.c .nils))]) (.cond (.t 5) (.seq (.ops [rX 2 (iV 5)]) .ret) .skip)) (.seq (.ops [rX 2 (iV 0)]) .ret)))
theorem j0L:m6 P c0r=.ok ⟨6,[.tmp 2],e01⟩:=by kernel_rfl
noncomputable def a0D:CC :=
 (.seq (.ops [rX 2 .nils]) (.seq (.seq (.ops [rM 4 0,rR 5 (.lenS (.t 4)),rR 6 (.bin .gtr d8 true (.t 5) (iC 60)),rM 7 6,rB 8 7 (.move (.t 0)),rB 9 7 (.callV (.c (.func (.func x6) [] [])) [(.t 8),(.c (.str [239,191,189]))]),rB 10 7 (.callV (.c (.func (.func z6) [] [])) [(.t 9),(.c (.str [239,191,189]))]),rR 11 (.pick (.t 7) (.c (.bool true)) (.t 10))]) (.cond (.t 11) (.seq (.ops [rX 2 .nils]) .ret) .skip)) (.seq (.ops [rM 12 0,rR 13 (.conv .runes (.t 12)),rR 14 (.build [.nils,.nils,(.bool false)] [(0 ,1 ,(.t 13))]),rR 15 (.box (.t 14)),rM 3 15]) (.seq (.ops [rM 16 3,rC 17 s9 [(.t 16),(iC 0)]]) (.seq (.seq (.ops [rM 18 3,rK 19 18,rF 20 2 19,rL 21 20,rM 22 21,rB 23 22 (.move (.t 3)),rB 24 22 (.nilCheck (.t 23)),rB 25 22 (.fieldAddr 0 (.t 24)),rB 26 22 (.load1 (.t 25)),rB 27 22 (.lenV (.t 26)),rB 28 22 (.bin .gtr d8 true (.t 27) (iC 0)),rR 29 (.pick (.t 22) (.c (.bool true)) (.t 28))]) (.cond (.t 29) (.seq (.ops [rX 2 .nils]) .ret) .skip)) (.seq (.ops [rM 30 3,rR 31 (.build [(iV 0),.nils,(.bool false),(iV 0),(iV 0)] [(0 ,1 ,(iC 4))]),rR 32 (.buildSlice 1 5 [(iV 0),.nils,(.bool false),(iV 0),(iV 0)] [(0 ,5 ,(.t 31))]),rC 33 j6 [(.t 30),(.t 32)]]) (.seq (.ops [rM 34 3,rK 35 34,rF 36 1 35,rL 37 36,rM 2 37]) .ret)))))))
theorem j0M:m6 P a0B=.ok ⟨38,[.tmp 2],a0D⟩:=by kernel_rfl
end Go.Dk

namespace Go.Dk
open Go Go.Dr
set_option maxRecDepth 100000
noncomputable def R9:CC :=
 (.seq (.ops [rM 8 0,rK 9 8,rF 10 1 9,rL 11 10,rV 12 11,rM 4 12]) (.seq (.ops [rM 13 0,rM 14 1,rC 15 S8 [(.t 13),(.t 14)]]) (.seq (.seq (.ops [rM 16 0,rC 17 P7 [(.t 16)],rR 18 (.un .not (.t 17)),rM 19 18,rB 20 19 (.move (.t 0)),rB 21 19 (.callV (.c (.func (.func F8) [] [])) [(.t 20)]),rB 22 19 (.bin .neq G3 true (.t 21) (.c (.int .i32 124))),rR 23 (.pick (.t 19) (.c (.bool true)) (.t 22))]) (.cond (.t 23) .ret .skip)) (.seq (.ops [rM 24 0,rC 25 j7 [(.t 24)]]) (.seq (.ops [rM 26 0,rM 27 4,rC 28 P8 [(.t 26),(.t 27)],rM 5 28]) (.seq (.ops [rM 29 5,rV 30 29,rM 6 30]) (.seq (.ops [rM 31 0,rM 32 4,rR 33 (.bin .add d8 true (.t 32) (iC 1)),rM 34 4,rM 35 6,rR 36 (.bin .add d8 false (.t 34) (.t 35)),rR 37 (.bin .add d8 true (.t 36) (iC 2)),rR 38 (.build [(iV 0),.nils,(.bool false),(iV 0),(iV 0)] [(0 ,1 ,(iC 2)),(3 ,1 ,(.t 33)),(4 ,1 ,(.t 37))]),rR 39 (.buildSlice 1 5 [(iV 0),.nils,(.bool false),(iV 0),(iV 0)] [(0 ,5 ,(.t 38))]),rC 40 j6 [(.t 31),(.t 39)]]) (.seq (.ops [rM 41 0,rM 42 5,rC 43 L2 [(.t 42),(iC 1)],rC 44 j6 [(.t 41),(.t 43)]]) (.seq (.ops [rM 45 0,rK 46 45,rF 47 1 46,rL 48 47,rV 49 48,rM 7 49]) (.seq (.ops [rM 50 0,rR 51 (.build [(iV 0),.nils,(.bool false),(iV 0),(iV 0)] [(0 ,1 ,(iC 3))]),rR 52 (.buildSlice 1 5 [(iV 0),.nils,(.bool false),(iV 0),(iV 0)] [(0 ,5 ,(.t 51))]),rC 53 j6 [(.t 50),(.t 52)]]) (.seq (.ops [rM 54 0,rM 55 1,rC 56 s9 [(.t 54),(.t 55)]]) (.ops [rM 57 0,rK 58 57,rF 59 1 58,rL 60 59,rM 61 7,rM 62 0,rK 63 62,rF 64 1 63,rL 65 64,rV 66 65,rR 67 (.idxV 5 (.t 60) (.t 61)),rF 68 3 67,.stage [⟨(some 65),none,.load1 (.t 64)⟩,⟨(some 60),none,.load1 (.t 59)⟩],rN (.store 1 (.t 68) (.t 66))]))))))))))))
theorem b0F:m6 P s9=.ok ⟨69,[],R9⟩:=by kernel_rfl
noncomputable def a0I:CC :=
 (.block 0 (.loop (.seq (.seq (.ops [rM 7 0,rC 8 P7 [(.t 7)],rM 9 8,rA 10 9 (.move (.t 0)),rA 11 9 (.callV (.c (.func (.func t8) [] [])) [(.t 10),(.c (.str [124,41]))]),rA 12 9 (.un .not (.t 11)),rR 13 (.pick (.t 9) (.t 12) (.c (.bool false)))]) (.cond (.t 13) .skip (.exit 0))) (.block 1 (.seq (.ops [rM 14 0,rK 15 14,rF 16 1 15,rL 17 16,rV 18 17,rM 4 18]) (.seq (.ops [rM 19 0,rM 20 1,rC 21 X0 [(.t 19),(.t 20)]]) (.seq (.seq (.ops [rM 22 0,rK 23 22,rF 24 2 23,rL 25 24,rM 26 25,rB 27 26 (.move (.t 0)),rB 28 26 (.callV (.c (.func (.func t8) [] [])) [(.t 27),(.c (.str [42,43,63]))]),rB 29 26 (.un .not (.t 28)),rR 30 (.pick (.t 26) (.c (.bool true)) (.t 29))]) (.cond (.t 30) (.exit 1) .skip)) (.seq (.ops [rM 31 0,rM 32 4,rC 33 P8 [(.t 31),(.t 32)],rM 5 33]) (.seq (.ops [rM 34 5,rV 35 34,rM 6 35]) (.seq (.ops [rM 36 0,rC 37 j7 [(.t 36)]]) (.block 2 (.seq (.ops [rR 53 (.bin .eql G3 true (.t 37) (.c (.int .i32 42))),rM 52 53]) (.cond (.t 52) (.seq (.ops [rM 54 0,rM 55 4,rR 56 (.bin .add d8 true (.t 55) (iC 1)),rM 57 4,rM 58 6,rR 59 (.bin .add d8 false (.t 57) (.t 58)),rR 60 (.bin .add d8 true (.t 59) (iC 2)),rR 61 (.build [(iV 0),.nils,(.bool false),(iV 0),(iV 0)] [(0 ,1 ,(iC 2)),(3 ,1 ,(.t 56)),(4 ,1 ,(.t 60))]),rR 62 (.buildSlice 1 5 [(iV 0),.nils,(.bool false),(iV 0),(iV 0)] [(0 ,5 ,(.t 61))]),rC 63 j6 [(.t 54),(.t 62)]]) (.seq (.ops [rM 64 0,rM 65 5,rC 66 L2 [(.t 65),(iC 1)],rC 67 j6 [(.t 64),(.t 66)]]) (.ops [rM 68 0,rM 69 4,rR 70 (.build [(iV 0),.nils,(.bool false),(iV 0),(iV 0)] [(0 ,1 ,(iC 3)),(3 ,1 ,(.t 69))]),rR 71 (.buildSlice 1 5 [(iV 0),.nils,(.bool false),(iV 0),(iV 0)] [(0 ,5 ,(.t 70))]),rC 72 j6 [(.t 68),(.t 71)]]))) (.seq (.ops [rR 74 (.bin .eql G3 true (.t 37) (.c (.int .i32 43))),rM 73 74]) (.cond (.t 73) (.seq (.ops [rM 75 0,rM 76 5,rC 77 j6 [(.t 75),(.t 76)]]) (.ops [rM 78 0,rM 79 4,rM 80 4,rM 81 6,rR 82 (.bin .add d8 false (.t 80) (.t 81)),rR 83 (.bin .add d8 true (.t 82) (iC 1)),rR 84 (.build [(iV 0),.nils,(.bool false),(iV 0),(iV 0)] [(0 ,1 ,(iC 2)),(3 ,1 ,(.t 79)),(4 ,1 ,(.t 83))]),rR 85 (.buildSlice 1 5 [(iV 0),.nils,(.bool false),(iV 0),(iV 0)] [(0 ,5 ,(.t 84))]),rC 86 j6 [(.t 78),(.t 85)]])) (.seq (.ops [rM 38 0,rM 39 4,rR 40 (.bin .add d8 true (.t 39) (iC 1)),rM 41 4,rM 42 6,rR 43 (.bin .add d8 false (.t 41) (.t 42)),rR 44 (.bin .add d8 true (.t 43) (iC 1)),rR 45 (.build [(iV 0),.nils,(.bool false),(iV 0),(iV 0)] [(0 ,1 ,(iC 2)),(3 ,1 ,(.t 40)),(4 ,1 ,(.t 44))]),rR 46 (.buildSlice 1 5 [(iV 0),.nils,(.bool false),(iV 0),(iV 0)] [(0 ,5 ,(.t 45))]),rC 47 j6 [(.t 38),(.t 46)]]) (.ops [rM 48 0,rM 49 5,rC 50 L2 [(.t 49),(iC 1)],rC 51 j6 [(.t 48),(.t 50)]])))))))))))))))))
theorem d0K:m6 P S8=.ok ⟨87,[],a0I⟩:=by kernel_rfl
noncomputable def V6:CC :=
 (.seq (.ops [rX 2 (.bool false)]) (.seq (.ops [rM 3 0,rK 4 3,rF 5 0 4,rL 6 5,rV 7 6,rR 8 (.bin .gtr d8 true (.t 7) (iC 0)),rM 9 8,rA 10 9 (.move (.t 0)),rA 11 9 (.nilCheck (.t 10)),rA 12 9 (.fieldAddr 2 (.t 11)),rA 13 9 (.load1 (.t 12)),rA 14 9 (.un .not (.t 13)),rR 15 (.pick (.t 9) (.t 14) (.c (.bool false))),rM 2 15]) .ret))
theorem f0a:m6 P P7=.ok ⟨16,[.tmp 2],V6⟩:=by kernel_rfl
noncomputable def N7:CC :=
 (.seq (.ops [rX 4 (.bool false)]) (.seq (.ops [rM 5 0,rK 6 5,rF 7 0 6,rL 8 7,rV 9 8,rR 10 (.bin .gtr d8 true (.t 9) (iC 0)),rM 11 10,rA 12 11 (.move (.t 1)),rA 13 11 (.move (.t 0)),rA 14 11 (.nilCheck (.t 13)),rA 15 11 (.fieldAddr 0 (.t 14)),rA 16 11 (.load1 (.t 15)),rA 17 11 (.idxV 1 (.t 16) (iC 0)),rA 18 11 (.load1 (.t 17)),rA 19 11 (.conv (.int .u8) (.t 18)),rA 20 11 (.callV (.c (.func (.func u6) [] [])) [(.t 12),(.t 19)]),rA 21 11 (.bin .geq d8 true (.t 20) (iC 0)),rR 22 (.pick (.t 11) (.t 21) (.c (.bool false))),rM 23 22,rA 24 23 (.move (.t 0)),rA 25 23 (.nilCheck (.t 24)),rA 26 23 (.fieldAddr 0 (.t 25)),rA 27 23 (.load1 (.t 26)),rA 28 23 (.idxV 1 (.t 27) (iC 0)),rA 29 23 (.load1 (.t 28)),rA 30 23 (.bin .lss G3 true (.t 29) (.c (.int .i32 128))),rR 31 (.pick (.t 23) (.t 30) (.c (.bool false))),rM 4 31]) .ret))
theorem e0O:m6 P t8=.ok ⟨32,[.tmp 4],N7⟩:=by kernel_rfl
noncomputable def V7:CC :=
 (.seq (.seq (.ops [rM 5 0,rC 6 t8 [(.t 5),(.c (.str [42,43,63,124,41,93]))]]) (.cond (.t 6) (.seq (.ops [rM 7 0,rK 8 7,rF 9 2 8,rN (.store 1 (.t 9) (.c (.bool true)))]) .ret) .skip)) (.seq (.ops [rM 10 0,rC 11 j7 [(.t 10)],rM 4 11]) (.seq (.seq (.ops [rM 12 4]) (.block 0 (.seq (.ops [rR 14 (.bin .eql G3 true (.t 12) (.c (.int .i32 46))),rM 13 14]) (.cond (.t 13) (.seq (.ops [rM 15 0,rR 16 (.build [(iV 0),.nils,(.bool false),(iV 0),(iV 0)] [(0 ,1 ,(iC 1)),(2 ,1 ,(.c (.bool true)))]),rR 17 (.buildSlice 1 5 [(iV 0),.nils,(.bool false),(iV 0),(iV 0)] [(0 ,5 ,(.t 16))]),rC 18 j6 [(.t 15),(.t 17)]]) .ret) (.seq (.ops [rR 20 (.bin .eql G3 true (.t 12) (.c (.int .i32 91))),rM 19 20]) (.cond (.t 19) (.seq (.ops [rM 21 0,rC 22 U0 [(.t 21)]]) .ret) (.seq (.ops [rR 24 (.bin .eql G3 true (.t 12) (.c (.int .i32 40))),rM 23 24]) (.cond (.t 23) (.seq (.seq (.ops [rM 25 0,rM 26 0,rK 27 26,rF 28 2 27,rL 29 28,rM 30 29,rB 31 30 (.move (.t 1)),rB 32 30 (.bin .geq d8 true (.t 31) (iC 10)),rR 33 (.pick (.t 30) (.c (.bool true)) (.t 32)),rK 34 25,rF 35 2 34,rN (.store 1 (.t 35) (.t 33))]) (.seq (.ops [rM 36 0,rK 37 36,rF 38 2 37,rL 39 38,rR 40 (.un .not (.t 39))]) (.cond (.t 40) (.seq (.ops [rM 41 0,rM 42 1,rR 43 (.bin .add d8 true (.t 42) (iC 1)),rC 44 s9 [(.t 41),(.t 43)]]) (.seq (.seq (.ops [rM 45 0,rC 46 F8 [(.t 45)],rR 47 (.bin .neq G3 true (.t 46) (.c (.int .i32 41)))]) (.cond (.t 47) (.ops [rM 48 0,rK 49 48,rF 50 2 49,rN (.store 1 (.t 50) (.c (.bool true)))]) .skip)) (.ops [rM 51 0,rC 52 j7 [(.t 51)]]))) .skip))) .ret) (.seq (.ops [rR 54 (.bin .eql G3 true (.t 12) (.c (.int .i32 92))),rM 53 54]) (.cond (.t 53) (.ops [rM 55 0,rC 56 j7 [(.t 55)],rM 4 56]) .skip)))))))))) (.ops [rM 57 0,rM 58 4,rM 59 4,rR 60 (.build [(.int .i32 0),(.int .i32 0)] [(0 ,1 ,(.t 58)),(1 ,1 ,(.t 59))]),rR 61 (.buildSlice 1 2 [(.int .i32 0),(.int .i32 0)] [(0 ,2 ,(.t 60))]),rR 62 (.build [(iV 0),.nils,(.bool false),(iV 0),(iV 0)] [(0 ,1 ,(iC 1)),(1 ,1 ,(.t 61))]),rR 63 (.buildSlice 1 5 [(iV 0),.nils,(.bool false),(iV 0),(iV 0)] [(0 ,5 ,(.t 62))]),rC 64 j6 [(.t 57),(.t 63)]]))))
theorem f0b:m6 P X0=.ok ⟨65,[],V7⟩:=by kernel_rfl
noncomputable def V8:CC :=
 (.seq (.ops [rX 2 (.int .i32 0)]) (.seq (.seq (.ops [rM 4 0,rK 5 4,rF 6 0 5,rL 7 6,rV 8 7,rR 9 (.bin .eql d8 true (.t 8) (iC 0))]) (.cond (.t 9) (.seq (.ops [rM 10 0,rK 11 10,rF 12 2 11,rN (.store 1 (.t 12) (.c (.bool true)))]) (.seq (.ops [rX 2 (.int .i32 0)]) .ret)) .skip)) (.seq (.ops [rM 13 0,rK 14 13,rF 15 0 14,rL 16 15,rR 17 (.idxV 1 (.t 16) (iC 0)),rL 18 17,rM 3 18]) (.seq (.ops [rM 19 0,rM 20 0,rK 21 20,rF 22 0 21,rL 23 22,rR 24 (.sliceV 1 (.t 23) (some (iC 1)) none none),rK 25 19,rF 26 0 25,rN (.store 1 (.t 26) (.t 24))]) (.seq (.ops [rM 27 3,rM 2 27]) .ret)))))
theorem f0c:m6 P j7=.ok ⟨28,[.tmp 2],V8⟩:=by kernel_rfl
noncomputable def b08:CC :=
 (.ops [rM 4 0,rM 5 0,rK 6 5,rF 7 1 6,rL 8 7,rM 9 1,rR 10 (.app 5 56 (.t 8) (.t 9)),rK 11 4,rF 12 1 11,rN (.store 1 (.t 12) (.t 10))])
theorem f0Y:m6 P j6=.ok ⟨13,[],b08⟩:=by kernel_rfl
noncomputable def a07:CC :=
 (.seq (.ops [rR 5 (.build [(iV 0),.nils,(.bool false),(iV 0),(iV 0)] [(0 ,1 ,(iC 1))]),rR 2 (.new [(iV 0),.nils,(.bool false),(iV 0),(iV 0)]),rN (.store 5 (.t 2) (.t 5))]) (.seq (.seq (.ops [rM 6 0,rC 7 F8 [(.t 6)],rR 8 (.bin .eql G3 true (.t 7) (.c (.int .i32 94))),rM 9 8,rA 10 9 (.move (.t 0)),rA 11 9 (.nilCheck (.t 10)),rA 12 9 (.fieldAddr 0 (.t 11)),rA 13 9 (.load1 (.t 12)),rA 14 9 (.lenV (.t 13)),rA 15 9 (.bin .gtr d8 true (.t 14) (iC 0)),rR 16 (.pick (.t 9) (.t 15) (.c (.bool false)))]) (.cond (.t 16) (.seq (.ops [rM 17 0,rC 18 j7 [(.t 17)]]) (.ops [rF 19 2 2,rN (.store 1 (.t 19) (.c (.bool true)))])) .skip)) (.seq (.seq (.ops [rX 3 (.bool true)]) (.block 0 (.loop (.seq (.seq (.ops [rM 20 0,rK 21 20,rF 22 2 21,rL 23 22,rR 24 (.un .not (.t 23)),rM 25 24,rA 26 25 (.move (.t 3)),rA 27 25 (.move (.t 26)),rB 28 27 (.move (.t 0)),rB 29 27 (.callV (.c (.func (.func t8) [] [])) [(.t 28),(.c (.str [93]))]),rB 30 27 (.un .not (.t 29)),rA 31 25 (.pick (.t 27) (.c (.bool true)) (.t 30)),rR 32 (.pick (.t 25) (.t 31) (.c (.bool false)))]) (.cond (.t 32) .skip (.exit 0))) (.seq (.block 1 (.seq (.ops [rM 33 0,rC 34 D5 [(.t 33)],rR 35 (.build [(.int .i32 0),(.int .i32 0)] [(0 ,1 ,(.t 34))]),rR 4 (.new [(.int .i32 0),(.int .i32 0)]),rN (.store 2 (.t 4) (.t 35))]) (.seq (.ops [rF 36 0 4,rL 37 36,rF 38 1 4,rN (.store 1 (.t 38) (.t 37))]) (.seq (.seq (.ops [rM 39 0,rK 40 39,rF 41 2 40,rL 42 41,rR 43 (.un .not (.t 42)),rM 44 43,rA 45 44 (.move (.t 0)),rA 46 44 (.callV (.c (.func (.func t8) [] [])) [(.t 45),(.c (.str [45]))]),rR 47 (.pick (.t 44) (.t 46) (.c (.bool false)))]) (.cond (.t 47) (.seq (.ops [rM 48 0,rC 49 j7 [(.t 48)]]) (.ops [rM 50 0,rC 51 D5 [(.t 50)],rF 52 1 4,rN (.store 1 (.t 52) (.t 51))])) .skip)) (.seq (.ops [rM 53 0,rM 54 0,rK 55 54,rF 56 2 55,rL 57 56,rM 58 57,rB 59 58 (.fieldAddr 1 (.t 4)),rB 60 58 (.load1 (.t 59)),rB 61 58 (.fieldAddr 0 (.t 4)),rB 62 58 (.load1 (.t 61)),rB 63 58 (.bin .lss G3 false (.t 60) (.t 62)),rR 64 (.pick (.t 58) (.c (.bool true)) (.t 63)),rK 65 53,rF 66 2 65,rN (.store 1 (.t 66) (.t 64))]) (.ops [rF 67 1 2,rL 68 67,rR 69 (.loadN 2 (.t 4)),rR 70 (.buildSlice 1 2 [(.int .i32 0),(.int .i32 0)] [(0 ,2 ,(.t 69))]),rR 71 (.app 2 8 (.t 68) (.t 70)),rF 72 1 2,rN (.store 1 (.t 72) (.t 71))])))))) (.ops [rX 3 (.bool false)])))))) (.seq (.ops [rM 73 0,rC 74 j7 [(.t 73)]]) (.ops [rM 75 0,rR 76 (.loadN 5 (.t 2)),rR 77 (.buildSlice 1 5 [(iV 0),.nils,(.bool false),(iV 0),(iV 0)] [(0 ,5 ,(.t 76))]),rC 78 j6 [(.t 75),(.t 77)]])))))
theorem e0P:m6 P U0=.ok ⟨79,[],a07⟩:=by kernel_rfl
noncomputable def V9:CC :=
 (.seq (.ops [rX 2 (.int .i32 0)]) (.seq (.seq (.ops [rM 3 0,rK 4 3,rF 5 0 4,rL 6 5,rV 7 6,rR 8 (.bin .eql d8 true (.t 7) (iC 0))]) (.cond (.t 8) (.seq (.ops [rX 2 (.int .i32 0)]) .ret) .skip)) (.seq (.ops [rM 9 0,rK 10 9,rF 11 0 10,rL 12 11,rR 13 (.idxV 1 (.t 12) (iC 0)),rL 14 13,rM 2 14]) .ret)))
theorem f0d:m6 P F8=.ok ⟨15,[.tmp 2],V9⟩:=by kernel_rfl
noncomputable def S1:CC :=
 (.seq (.ops [rX 2 (.int .i32 0)]) (.seq (.seq (.ops [rM 4 0,rC 5 t8 [(.t 4),(.c (.str [93,45]))]]) (.cond (.t 5) (.ops [rM 6 0,rK 7 6,rF 8 2 7,rN (.store 1 (.t 8) (.c (.bool true)))]) .skip)) (.seq (.ops [rM 9 0,rC 10 j7 [(.t 9)],rM 3 10]) (.seq (.seq (.ops [rM 11 3,rR 12 (.bin .eql G3 true (.t 11) (.c (.int .i32 92)))]) (.cond (.t 12) (.ops [rM 13 0,rC 14 j7 [(.t 13)],rM 3 14]) .skip)) (.seq (.ops [rM 15 3,rM 2 15]) .ret)))))
theorem d0L:m6 P D5=.ok ⟨16,[.tmp 2],S1⟩:=by kernel_rfl
noncomputable def b0G:CC :=
 (.seq (.ops [rX 4 .nils]) (.seq (.ops [rM 6 0,rK 7 6,rF 8 1 7,rL 9 8,rM 10 1,rR 11 (.sliceV 5 (.t 9) (some (.t 10)) none none),rC 12 x8 [(.t 11)],rM 5 12]) (.seq (.ops [rM 13 0,rM 14 0,rK 15 14,rF 16 1 15,rL 17 16,rM 18 1,rR 19 (.sliceV 5 (.t 17) none (some (.t 18)) none),rK 20 13,rF 21 1 20,rN (.store 1 (.t 21) (.t 19))]) (.seq (.ops [rM 22 5,rM 4 22]) .ret))))
theorem f0e:m6 P P8=.ok ⟨23,[.tmp 4],b0G⟩:=by kernel_rfl
noncomputable def B4:CC :=
 (.seq (.ops [rX 2 .nils]) (.seq (.seq (.ops [rM 3 0,rR 4 (.bin .eql Q6 true (.t 3) (.c .nils))]) (.cond (.t 4) (.seq (.ops [rX 2 .nils]) .ret) .skip)) (.seq (.ops [rR 5 (.buildSlice 0 5 [] []),rM 6 0,rR 7 (.app 5 56 (.t 5) (.t 6)),rM 2 7]) .ret)))
theorem T8:m6 P x8=.ok ⟨8,[.tmp 2],B4⟩:=by kernel_rfl
noncomputable def d0u:CC :=
 (.seq (.ops [rX 4 .nils]) (.seq (.ops [rM 7 0,rC 8 x8 [(.t 7)],rM 5 8]) (.seq (.seq (.ops [rM 9 5,rV 10 9,rX 11 (iV 0)]) (.block 0 (.loop (.seq (.ops [rR 12 (.bin .lss d8 false (.t 11) (.t 10))]) (.seq (.cond (.t 12) .skip (.exit 0)) (.seq (.block 1 (.seq (.ops [rM 13 11,rM 6 13]) (.seq (.ops [rM 14 5,rM 15 6,rR 16 (.idxV 5 (.t 14) (.t 15)),rF 17 3 16,rL 18 17,rM 19 1,rR 20 (.bin .add d8 false (.t 18) (.t 19)),rR 21 (.idxV 5 (.t 14) (.t 15)),rF 22 3 21,rN (.store 1 (.t 22) (.t 20))]) (.ops [rM 23 5,rM 24 6,rR 25 (.idxV 5 (.t 23) (.t 24)),rF 26 4 25,rL 27 26,rM 28 1,rR 29 (.bin .add d8 false (.t 27) (.t 28)),rR 30 (.idxV 5 (.t 23) (.t 24)),rF 31 4 30,rN (.store 1 (.t 31) (.t 29))])))) (.ops [rR 32 (.bin .add d8 true (.t 11) (iC 1)),rM 11 32]))))))) (.seq (.ops [rM 33 5,rM 4 33]) .ret))))
theorem h0R:m6 P L2=.ok ⟨34,[.tmp 4],d0u⟩:=by kernel_rfl
noncomputable def U6:CC :=
 (.seq (.ops [rX 2 (.bool false)]) (.seq (.seq (.ops [rM 3 0,rR 4 (.bin .eql Z7 true (.t 3) (.c (.str []))),rM 5 4,rB 6 5 (.move (.t 0)),rB 7 5 (.lenS (.t 6)),rB 8 5 (.bin .gtr d8 true (.t 7) (iC 24)),rR 9 (.pick (.t 5) (.c (.bool true)) (.t 8)),rM 10 9,rB 11 10 (.move (.t 0)),rB 12 10 (.indexS (.t 11) (iC 0)),rB 13 10 (.callV (.c (.func (.func V4) [] [])) [(.t 12)]),rB 14 10 (.un .not (.t 13)),rR 15 (.pick (.t 10) (.c (.bool true)) (.t 14))]) (.cond (.t 15) (.seq (.ops [rX 2 (.bool false)]) .ret) .skip)) (.seq (.ops [rM 16 0,rR 17 (.conv .bytes (.t 16)),rC 18 E5 [(.t 17),(.c (.func (.func V5) [] []))],rR 19 (.un .not (.t 18)),rM 2 19]) .ret)))
theorem j0y:m6 P U8=.ok ⟨20,[.tmp 2],U6⟩:=by kernel_rfl
noncomputable def Q3:CC :=
 (.seq (.ops [rX 2 (.bool false)]) (.seq (.ops [rM 3 0,rR 4 (.bin .eql c09 true (.t 3) (.c (.int .u8 95))),rM 5 4,rB 6 5 (.move (.t 0)),rB 7 5 (.bin .or c09 true (.t 6) (.c (.int .u8 32))),rB 8 5 (.bin .geq c09 true (.t 7) (.c (.int .u8 97))),rB 9 5 (.move (.t 8)),rA 10 9 (.move (.t 0)),rA 11 9 (.bin .or c09 true (.t 10) (.c (.int .u8 32))),rA 12 9 (.bin .leq c09 true (.t 11) (.c (.int .u8 122))),rB 13 5 (.pick (.t 9) (.t 12) (.c (.bool false))),rR 14 (.pick (.t 5) (.c (.bool true)) (.t 13)),rM 2 14]) .ret))
theorem h0S:m6 P V4=.ok ⟨15,[.tmp 2],Q3⟩:=by kernel_rfl
noncomputable def N5:CC :=
 (.seq (.ops [rX 4 (.bool false)]) (.seq (.ops [rM 5 0,rM 6 1,rC 7 I2 [(.t 5),(.t 6)],rR 8 (.bin .geq d8 true (.t 7) (iC 0)),rM 4 8]) .ret))
theorem a0m:m6 P E5=.ok ⟨9,[.tmp 4],N5⟩:=by kernel_rfl
noncomputable def Q4:CC :=
 (.seq (.ops [rX 4 (iV 0)]) (.seq (.seq (.ops [rM 6 0,rV 7 6,rX 8 (iV 0)]) (.block 0 (.loop (.seq (.ops [rR 9 (.bin .lss d8 false (.t 8) (.t 7))]) (.seq (.cond (.t 9) .skip (.exit 0)) (.seq (.block 1 (.seq (.ops [rM 10 8,rM 5 10]) (.seq (.ops [rM 11 1,rM 12 0,rM 13 5,rR 14 (.idxV 1 (.t 12) (.t 13)),rL 15 14,rR 16 (.callV (.t 11) [(.t 15)])]) (.cond (.t 16) (.seq (.ops [rM 17 5,rM 4 17]) .ret) .skip)))) (.ops [rR 18 (.bin .add d8 true (.t 8) (iC 1)),rM 8 18]))))))) (.seq (.ops [rX 4 (iV (-1))]) .ret)))
theorem a0Z:m6 P I2=.ok ⟨19,[.tmp 4],Q4⟩:=by kernel_rfl
noncomputable def a00:CC :=
 (.seq (.ops [rX 2 (.bool false)]) (.seq (.ops [rM 3 0,rC 4 V4 [(.t 3)],rR 5 (.un .not (.t 4)),rM 6 5,rA 7 6 (.move (.t 0)),rA 8 6 (.callV (.c (.func (.func b0M) [] [])) [(.t 7)]),rA 9 6 (.un .not (.t 8)),rR 10 (.pick (.t 6) (.t 9) (.c (.bool false))),rM 2 10]) .ret))
theorem h0T:m6 P V5=.ok ⟨11,[.tmp 2],a00⟩:=by kernel_rfl
noncomputable def b0H:CC :=
 (.seq (.ops [rX 2 (.bool false)]) (.seq (.ops [rM 3 0,rR 4 (.bin .geq c09 true (.t 3) (.c (.int .u8 48))),rM 5 4,rA 6 5 (.move (.t 0)),rA 7 5 (.bin .leq c09 true (.t 6) (.c (.int .u8 57))),rR 8 (.pick (.t 5) (.t 7) (.c (.bool false))),rM 2 8]) .ret))
theorem i0r:m6 P b0M=.ok ⟨9,[.tmp 2],b0H⟩:=by kernel_rfl
noncomputable def S2:CC :=
 (.seq (.ops [rR 5 (.new [.nils,.nils])]) (.seq (.seq (.ops [rL 6 1,rM 7 0,rK 8 7,rF 9 0 8,rL 10 9,.stage [⟨(some 10),none,.load1 (.t 9)⟩,⟨(some 6),none,.load1 (.t 1)⟩],rC 11 K3 [(.t 6),(.t 10)],rR 12 (.un .not (.t 11))]) (.cond (.t 12) (.seq (.ops [rR 13 (.build [.nils,.nils] []),rN (.store 2 (.t 5) (.t 13))]) .ret) .skip)) (.seq (.ops [rM 14 0,rL 15 2,rL 16 3,rC 17 p7 [(.t 14),(.t 15),(.t 16)],rN (.store 2 (.t 5) (.t 17))]) .ret)))
theorem a0J:m6 P y9=.ok ⟨18,[.many 5 2],S2⟩:=by kernel_rfl
noncomputable def d0M:CC :=
 (.seq (.ops [rR 3 (.box (.t 1)),rX 4 (.bool false)]) (.seq (.ops [rM 5 0,rR 6 (.mkF c0s [] [(.t 3)]),rC 7 m8 [(.t 5),(.t 6)],rR 8 (.un .not (.t 7)),rM 4 8]) .ret))
theorem h0q:m6 P K3=.ok ⟨9,[.tmp 4],d0M⟩:=by kernel_rfl
noncomputable def e0W:CC :=
 (.seq (.ops [rR 2 (.box (.t 0)),rX 3 (.bool false)]) (.seq (.ops [rR 4 (.loadN 3 (.t 2)),rL 5 1,rC 6 c0f [(.t 4),(.t 5)],rR 7 (.un .not (.t 6)),rM 3 7]) .ret))
theorem j0z:m6 P c0s=.ok ⟨8,[.tmp 3],e0W⟩:=by kernel_rfl
noncomputable def h0r:CC :=
 (.seq (.ops [rR 2 (.box (.t 0)),rX 4 (.bool false)]) (.seq (.ops [rM 8 1,rF 9 1 2,rL 10 9,rC 11 c08 [(.t 8),(.t 10)],rM 5 11]) (.seq (.seq (.ops [rF 12 0 2,rL 13 12]) (.block 0 (.seq (.seq (.ops [rR 15 (.bin .eql d8 true (.t 13) (iC 1)),rM 14 15]) (.cond (.t 14) .skip (.ops [rR 16 (.bin .eql d8 true (.t 13) (iC 2)),rM 14 16]))) (.cond (.t 14) (.seq (.ops [rM 17 5,rF 18 2 2,rL 19 18,rR 20 (.bin .eql Z7 false (.t 17) (.t 19)),rF 21 0 2,rL 22 21,rR 23 (.bin .eql d8 true (.t 22) (iC 1)),rR 24 (.bin .eql k0W false (.t 20) (.t 23)),rM 4 24]) .ret) (.seq (.seq (.ops [rR 26 (.bin .eql d8 true (.t 13) (iC 3)),rM 25 26]) (.cond (.t 25) .skip (.ops [rR 27 (.bin .eql d8 true (.t 13) (iC 4)),rM 25 27]))) (.cond (.t 25) (.seq (.ops [rF 29 2 2,rL 30 29,rM 31 5,rC 32 a0C [(.t 30),(.t 31)],rM 28 32,rE 33 28 0,rE 34 28 1,rM 6 33,rM 7 34]) (.seq (.ops [rM 35 6,rF 36 0 2,rL 37 36,rR 38 (.bin .eql d8 true (.t 37) (iC 3)),rR 39 (.bin .eql k0W false (.t 35) (.t 38)),rM 4 39]) .ret)) .skip)))))) (.seq (.ops [rX 4 (.bool false)]) .ret))))
theorem l0K:m6 P c0f=.ok ⟨40,[.tmp 4],h0r⟩:=by kernel_rfl
noncomputable def f0Z:CC :=
 (.seq (.ops [rR 3 (.box (.t 1)),rX 4 (.str [])]) (.seq (.seq (.ops [rM 6 0,rR 7 (.mkF b0N [] [(.t 3)]),rC 8 A9 [(.t 6),(.t 7)],rM 5 8]) (.seq (.ops [rM 9 5,rR 10 (.bin .geq d8 true (.t 9) (iC 0))]) (.cond (.t 10) (.seq (.ops [rM 11 0,rM 12 5,rR 13 (.idxV 2 (.t 11) (.t 12)),rF 14 1 13,rL 15 14,rM 4 15]) .ret) .skip))) (.seq (.ops [rX 4 (.str [])]) .ret)))
theorem k0N:m6 P c08=.ok ⟨16,[.tmp 4],f0Z⟩:=by kernel_rfl
noncomputable def d0N:CC :=
 (.seq (.ops [rR 2 (.box (.t 0)),rX 3 (.bool false)]) (.seq (.ops [rF 4 0 2,rL 5 4,rL 6 1,rR 7 (.bin .eql Z7 false (.t 5) (.t 6)),rM 3 7]) .ret))
theorem i0s:m6 P b0N=.ok ⟨8,[.tmp 3],d0N⟩:=by kernel_rfl
noncomputable def G5:CC :=
 (.seq (.ops [rX 4 (iV 0)]) (.seq (.seq (.ops [rM 6 0,rV 7 6,rX 8 (iV 0)]) (.block 0 (.loop (.seq (.ops [rR 9 (.bin .lss d8 false (.t 8) (.t 7))]) (.seq (.cond (.t 9) .skip (.exit 0)) (.seq (.block 1 (.seq (.ops [rM 10 8,rM 5 10]) (.seq (.ops [rM 11 1,rM 12 0,rM 13 5,rR 14 (.idxV 2 (.t 12) (.t 13)),rR 15 (.loadN 2 (.t 14)),rR 16 (.callV (.t 11) [(.t 15)])]) (.cond (.t 16) (.seq (.ops [rM 17 5,rM 4 17]) .ret) .skip)))) (.ops [rR 18 (.bin .add d8 true (.t 8) (iC 1)),rM 8 18]))))))) (.seq (.ops [rX 4 (iV (-1))]) .ret)))
theorem S3:m6 P A9=.ok ⟨19,[.tmp 4],G5⟩:=by kernel_rfl
noncomputable def e0X:CC :=
 (.seq (.ops [rX 4 (.bool false),rX 5 (iV 0)]) (.seq (.ops [rM 13 0,rC 14 a0B [(.t 13)],rM 6 14]) (.seq (.seq (.ops [rM 15 6,rR 16 (.bin .eql Q6 true (.t 15) (.c .nils))]) (.cond (.t 16) (.seq (.ops [rX 4 (.bool false),rX 5 (iV 5)]) .ret) .skip)) (.seq (.ops [rM 17 6,rV 18 17,rR 19 (.mkS 1 1 [(.bool false)] (.t 18) (.t 18)),rM 7 19]) (.seq (.ops [rM 20 6,rM 21 7,rC 22 K8 [(.t 20),(.t 21),(iC 0)]]) (.seq (.seq (.ops [rM 23 1,rR 24 (.rangeS (.t 23))]) (.block 0 (.loop (.seq (.ops [rR 25 (.next (.t 24) true),rE 26 25 0]) (.seq (.cond (.t 26) .skip (.exit 0)) (.block 1 (.seq (.ops [rE 27 25 2,rM 9 27]) (.seq (.ops [rM 28 6,rV 29 28,rR 30 (.mkS 1 1 [(.bool false)] (.t 29) (.t 29)),rM 10 30]) (.seq (.seq (.ops [rM 31 7,rV 32 31,rX 33 (iV 0)]) (.block 2 (.loop (.seq (.ops [rR 34 (.bin .lss d8 false (.t 33) (.t 32))]) (.seq (.cond (.t 34) .skip (.exit 2)) (.seq (.block 3 (.seq (.ops [rM 35 33,rR 36 (.idxV 1 (.t 31) (.t 33)),rL 37 36,rM 11 35,rM 12 37]) (.seq (.ops [rM 38 12,rM 39 38,rA 40 39 (.move (.t 6)),rA 41 39 (.move (.t 11)),rA 42 39 (.idxV 5 (.t 40) (.t 41)),rA 43 39 (.fieldAddr 0 (.t 42)),rA 44 39 (.load1 (.t 43)),rA 45 39 (.bin .eql d8 true (.t 44) (iC 1)),rR 46 (.pick (.t 39) (.t 45) (.c (.bool false))),rM 47 46,rA 48 47 (.move (.t 6)),rA 49 47 (.move (.t 11)),rA 50 47 (.idxV 5 (.t 48) (.t 49)),rA 51 47 (.loadN 5 (.t 50)),rA 52 47 (.move (.t 9)),rA 53 47 (.callV (.c (.func (.func Z5) [] [])) [(.t 51),(.t 52)]),rR 54 (.pick (.t 47) (.t 53) (.c (.bool false)))]) (.cond (.t 54) (.ops [rM 55 6,rM 56 10,rM 57 11,rR 58 (.bin .add d8 true (.t 57) (iC 1)),rC 59 K8 [(.t 55),(.t 56),(.t 58)]]) .skip)))) (.ops [rR 60 (.bin .add d8 true (.t 33) (iC 1)),rM 33 60]))))))) (.ops [rM 61 10,rM 7 61])))))))))) (.seq (.ops [rM 62 7,rM 63 6,rV 64 63,rR 65 (.bin .sub d8 true (.t 64) (iC 1)),rR 66 (.idxV 1 (.t 62) (.t 65)),rL 67 66,rM 4 67,rX 5 (iV 0)]) .ret)))))))
theorem j0A:m6 P a0C=.ok ⟨68,[.tmp 4,.tmp 5],e0X⟩:=by kernel_rfl
noncomputable def d0O:CC :=
 (.block 0 (.loop (.seq (.seq (.ops [rM 7 1,rM 8 2,rR 9 (.idxV 1 (.t 7) (.t 8)),rL 10 9,rR 11 (.un .not (.t 10))]) (.cond (.t 11) .skip (.exit 0))) (.block 1 (.seq (.ops [rM 12 1,rM 13 2,rR 14 (.idxV 1 (.t 12) (.t 13)),rN (.store 1 (.t 14) (.c (.bool true)))]) (.seq (.ops [rM 15 0,rM 16 2,rR 17 (.idxV 5 (.t 15) (.t 16)),rR 18 (.loadN 5 (.t 17)),rR 6 (.new [(iV 0),.nils,(.bool false),(iV 0),(iV 0)]),rN (.store 5 (.t 6) (.t 18))]) (.seq (.ops [rF 19 0 6,rL 20 19]) (.block 2 (.seq (.ops [rR 22 (.bin .eql d8 true (.t 20) (iC 2)),rM 21 22]) (.cond (.t 21) (.seq (.ops [rM 23 0,rM 24 1,rF 25 3 6,rL 26 25,rC 27 K8 [(.t 23),(.t 24),(.t 26)]]) (.ops [rF 28 4 6,rL 29 28,rM 2 29])) (.seq (.ops [rR 31 (.bin .eql d8 true (.t 20) (iC 3)),rM 30 31]) (.cond (.t 30) (.ops [rF 32 3 6,rL 33 32,rM 2 33]) .skip))))))))))))
theorem i0t:m6 P K8=.ok ⟨34,[],d0O⟩:=by kernel_rfl
noncomputable def b09:CC :=
 (.seq (.ops [rR 2 (.box (.t 0)),rR 3 (.box (.t 1)),rX 4 (.bool false)]) (.seq (.ops [rF 5 2 2,rL 6 5,rF 7 1 2,rL 8 7,rR 9 (.mkF N8 [] [(.t 3)]),.stage [⟨(some 8),none,.load1 (.t 7)⟩,⟨(some 6),none,.load1 (.t 5)⟩],rC 10 y8 [(.t 8),(.t 9)],rR 11 (.bin .neq k0W false (.t 6) (.t 10)),rM 4 11,.stage [⟨(some 6),none,.load1 (.t 5)⟩]]) .ret))
theorem f00:m6 P Z5=.ok ⟨12,[.tmp 4],b09⟩:=by kernel_rfl
noncomputable def T9:CC :=
 (.seq (.ops [rR 2 (.box (.t 0)),rX 3 (.bool false)]) (.seq (.ops [rF 4 0 2,rL 5 4,rL 6 1,rR 7 (.bin .leq G3 false (.t 5) (.t 6)),rM 8 7,rA 9 8 (.load1 (.t 1)),rA 10 8 (.fieldAddr 1 (.t 2)),rA 11 8 (.load1 (.t 10)),rA 12 8 (.bin .leq G3 false (.t 9) (.t 11)),rR 13 (.pick (.t 8) (.t 12) (.c (.bool false))),rM 3 13]) .ret))
theorem e0Q:m6 P N8=.ok ⟨14,[.tmp 3],T9⟩:=by kernel_rfl
noncomputable def D9:CC :=
 (.seq (.ops [rX 4 (.bool false)]) (.seq (.ops [rM 5 0,rM 6 1,rC 7 A7 [(.t 5),(.t 6)],rR 8 (.bin .geq d8 true (.t 7) (iC 0)),rM 4 8]) .ret))
theorem O9:m6 P y8=.ok ⟨9,[.tmp 4],D9⟩:=by kernel_rfl
noncomputable def E8:CC :=
 (.seq (.ops [rX 4 (iV 0)]) (.seq (.seq (.ops [rM 6 0,rV 7 6,rX 8 (iV 0)]) (.block 0 (.loop (.seq (.ops [rR 9 (.bin .lss d8 false (.t 8) (.t 7))]) (.seq (.cond (.t 9) .skip (.exit 0)) (.seq (.block 1 (.seq (.ops [rM 10 8,rM 5 10]) (.seq (.ops [rM 11 1,rM 12 0,rM 13 5,rR 14 (.idxV 2 (.t 12) (.t 13)),rR 15 (.loadN 2 (.t 14)),rR 16 (.callV (.t 11) [(.t 15)])]) (.cond (.t 16) (.seq (.ops [rM 17 5,rM 4 17]) .ret) .skip)))) (.ops [rR 18 (.bin .add d8 true (.t 8) (iC 1)),rM 8 18]))))))) (.seq (.ops [rX 4 (iV (-1))]) .ret)))
theorem R4:m6 P A7=.ok ⟨19,[.tmp 4],E8⟩:=by kernel_rfl
noncomputable def P2:CC :=
 (.seq (.ops [rX 4 .nils]) (.seq (.ops [rX 5 .nils]) (.seq (.seq (.ops [rM 9 0,rV 10 9,rX 11 (iV 0)]) (.block 0 (.loop (.seq (.ops [rR 12 (.bin .lss d8 false (.t 11) (.t 10))]) (.seq (.cond (.t 12) .skip (.exit 0)) (.seq (.block 1 (.seq (.ops [rR 13 (.idxV 1 (.t 9) (.t 11)),rL 14 13,rM 7 14]) (.seq (.ops [rM 15 1,rM 16 7,rR 17 (.callV (.t 15) [(.t 16)]),rR 8 (.new [.nils,.nils]),rN (.store 2 (.t 8) (.t 17))]) (.seq (.ops [rF 18 1 8,rL 19 18,rV 20 19,rR 21 (.bin .gtr d8 true (.t 20) (iC 0))]) (.cond (.t 21) (.ops [rM 22 5,rR 23 (.loadN 2 (.t 8)),rR 24 (.buildSlice 1 2 [.nils,.nils] [(0 ,2 ,(.t 23))]),rR 25 (.app 2 48 (.t 22) (.t 24)),rM 5 25]) .skip))))) (.ops [rR 26 (.bin .add d8 true (.t 11) (iC 1)),rM 11 26]))))))) (.seq (.ops [rM 27 5,rM 4 27]) .ret))))
theorem Z1:m6 P J4=.ok ⟨28,[.tmp 4],P2⟩:=by kernel_rfl
end Go.Dk

namespace Go.Dk
open Go Go.Dr
set_option maxRecDepth 100000
noncomputable def b0W:CC :=
 (.seq (.ops [rX 4 (iV 0)]) (.seq (.block 0 (.seq (.ops [rM 8 0,rC 9 F6 [(.t 8)],rM 7 9]) (.cond (.t 7) (.seq (.ops [rX 4 (iV 2)]) .ret) (.seq (.ops [rM 11 1,rC 12 i8 [(.t 11),(.c (.func (.func D6) [] []))],rM 10 12]) (.cond (.t 10) (.seq (.ops [rX 4 (iV 1)]) .ret) .skip))))) (.seq (.seq (.ops [rM 13 1,rV 14 13,rX 15 (iV 0)]) (.block 1 (.loop (.seq (.ops [rR 16 (.bin .lss d8 false (.t 15) (.t 14))]) (.seq (.cond (.t 16) .skip (.exit 1)) (.seq (.block 2 (.seq (.ops [rR 17 (.idxV 3 (.t 13) (.t 15)),rR 18 (.loadN 3 (.t 17)),rR 6 (.new [.nils,(iV 0),(.int .u64 0)]),rN (.store 3 (.t 6) (.t 18))]) (.ops [rM 19 0,rF 20 0 6,rL 21 20,rF 22 1 6,rL 23 22,rF 24 2 6,rL 25 24,rC 26 a01 [(.t 19),(.t 21),(.t 23),(.t 25)]]))) (.ops [rR 27 (.bin .add d8 true (.t 15) (iC 1)),rM 15 27]))))))) (.seq (.ops [rX 4 (iV 0)]) .ret))))
theorem f0v:m6 P P9=.ok ⟨28,[.tmp 4],b0W⟩:=by kernel_rfl
noncomputable def w6:CC :=
 (.seq (.ops [rX 4 (.bool false)]) (.seq (.ops [rM 5 0,rM 6 1,rC 7 t6 [(.t 5),(.t 6)],rR 8 (.bin .geq d8 true (.t 7) (iC 0)),rM 4 8]) .ret))
theorem B2:m6 P i8=.ok ⟨9,[.tmp 4],w6⟩:=by kernel_rfl
noncomputable def z8:CC :=
 (.seq (.ops [rX 4 (iV 0)]) (.seq (.seq (.ops [rM 6 0,rV 7 6,rX 8 (iV 0)]) (.block 0 (.loop (.seq (.ops [rR 9 (.bin .lss d8 false (.t 8) (.t 7))]) (.seq (.cond (.t 9) .skip (.exit 0)) (.seq (.block 1 (.seq (.ops [rM 10 8,rM 5 10]) (.seq (.ops [rM 11 1,rM 12 0,rM 13 5,rR 14 (.idxV 3 (.t 12) (.t 13)),rR 15 (.loadN 3 (.t 14)),rR 16 (.callV (.t 11) [(.t 15)])]) (.cond (.t 16) (.seq (.ops [rM 17 5,rM 4 17]) .ret) .skip)))) (.ops [rR 18 (.bin .add d8 true (.t 8) (iC 1)),rM 8 18]))))))) (.seq (.ops [rX 4 (iV (-1))]) .ret)))
theorem D4:m6 P t6=.ok ⟨19,[.tmp 4],z8⟩:=by kernel_rfl
noncomputable def a0U:CC :=
 (.seq (.ops [rR 1 (.box (.t 0)),rX 2 (.bool false)]) (.seq (.ops [rF 3 0 1,rL 4 3,rC 5 b0m [(.t 4)],rR 6 (.un .not (.t 5)),rM 2 6]) .ret))
theorem e0e:m6 P D6=.ok ⟨7,[.tmp 2],a0U⟩:=by kernel_rfl
noncomputable def b0p:CC :=
 (.seq (.ops [rX 2 (.bool false)]) (.seq (.seq (.ops [rM 6 0,rV 7 6,rR 8 (.bin .eql d8 true (.t 7) (iC 0)),rM 9 8,rB 10 9 (.move (.t 0)),rB 11 9 (.lenV (.t 10)),rB 12 9 (.bin .gtr d8 true (.t 11) (iC 8)),rR 13 (.pick (.t 9) (.c (.bool true)) (.t 12))]) (.cond (.t 13) (.seq (.ops [rX 2 (.bool false)]) .ret) .skip)) (.seq (.ops [rX 3 (.str [])]) (.seq (.seq (.ops [rM 14 0,rV 15 14,rX 16 (iV 0)]) (.block 0 (.loop (.seq (.ops [rR 17 (.bin .lss d8 false (.t 16) (.t 15))]) (.seq (.cond (.t 17) .skip (.exit 0)) (.seq (.block 1 (.seq (.ops [rR 18 (.idxV 2 (.t 14) (.t 16)),rR 19 (.loadN 2 (.t 18)),rR 5 (.new [(.str []),(.str [])]),rN (.store 2 (.t 5) (.t 19))]) (.seq (.seq (.ops [rF 20 0 5,rL 21 20,rC 22 U8 [(.t 21)],rR 23 (.un .not (.t 22)),rM 24 23,rB 25 24 (.fieldAddr 1 (.t 5)),rB 26 24 (.load1 (.t 25)),rB 27 24 (.callV (.c (.func (.func S7) [] [])) [(.t 26)]),rB 28 24 (.un .not (.t 27)),rR 29 (.pick (.t 24) (.c (.bool true)) (.t 28)),rM 30 29,rB 31 30 (.fieldAddr 0 (.t 5)),rB 32 30 (.load1 (.t 31)),rB 33 30 (.move (.t 3)),rB 34 30 (.bin .leq Z7 false (.t 32) (.t 33)),rR 35 (.pick (.t 30) (.c (.bool true)) (.t 34))]) (.cond (.t 35) (.seq (.ops [rX 2 (.bool false)]) .ret) .skip)) (.ops [rF 36 0 5,rL 37 36,rM 3 37])))) (.ops [rR 38 (.bin .add d8 true (.t 16) (iC 1)),rM 16 38]))))))) (.seq (.ops [rX 2 (.bool true)]) .ret)))))
theorem l0a:m6 P b0m=.ok ⟨39,[.tmp 2],b0p⟩:=by kernel_rfl
noncomputable def b0b:CC :=
 (.seq (.ops [rX 2 (.bool false)]) (.seq (.ops [rC 13 c0g [],rM 3 13]) (.seq (.ops [rM 14 3,rC 15 I6 [(.t 14)],rM 4 15]) (.seq (.seq (.ops [rM 16 0,rV 17 16,rX 18 (iV 0)]) (.block 0 (.loop (.seq (.ops [rR 19 (.bin .lss d8 false (.t 18) (.t 17))]) (.seq (.cond (.t 19) .skip (.exit 0)) (.seq (.block 1 (.seq (.ops [rM 20 18,rR 21 (.idxV 6 (.t 16) (.t 18)),rR 22 (.loadN 6 (.t 21)),rR 6 (.new [(iV 0),.nils,.nils,(iV 0),(iV 0),(iV 0)]),rM 5 20,rN (.store 6 (.t 6) (.t 22))]) (.seq (.seq (.ops [rM 23 5,rR 24 (.bin .gtr d8 true (.t 23) (iC 25))]) (.cond (.t 24) (.exit 0) .skip)) (.seq (.ops [rM 25 3,rR 26 (.loadN 6 (.t 6)),rC 27 d0W [(.t 26)],rC 28 a0q [(.t 25),(.t 27)],rM 7 28]) (.seq (.ops [rM 29 3,rC 30 I6 [(.t 29)],rM 8 30]) (.seq (.seq (.ops [rM 31 8,rM 32 4,rR 33 (.bin .lss d8 false (.t 31) (.t 32)),rM 34 33,rB 35 34 (.move (.t 7)),rB 36 34 (.bin .neq d0Y true (.t 35) (iC 0)),rB 37 34 (.move (.t 36)),rA 38 37 (.move (.t 8)),rA 39 37 (.move (.t 4)),rA 40 37 (.bin .neq d8 false (.t 38) (.t 39)),rB 41 34 (.pick (.t 37) (.t 40) (.c (.bool false))),rR 42 (.pick (.t 34) (.c (.bool true)) (.t 41))]) (.cond (.t 42) (.seq (.ops [rX 2 (.bool false)]) .ret) .skip)) (.seq (.ops [rM 43 8,rM 4 43]) (.seq (.ops [rM 45 3,rM 46 8,rC 47 T0 [(.t 45),(.c .nils),(iC (-9223372036854775808)),(.t 46)],rM 44 47,rE 48 44 0,rE 49 44 1,rM 9 48,rM 10 49]) (.seq (.seq (.ops [rM 50 9,rV 51 50,rX 52 (iV 0)]) (.block 2 (.loop (.seq (.ops [rR 53 (.bin .lss d8 false (.t 52) (.t 51))]) (.seq (.cond (.t 53) .skip (.exit 2)) (.seq (.block 3 (.seq (.ops [rR 54 (.idxV 2 (.t 50) (.t 52)),rR 55 (.loadN 2 (.t 54)),rR 12 (.new [.nils,.nils]),rN (.store 2 (.t 12) (.t 55))]) (.seq (.ops [rF 56 1 12,rL 57 56,rV 58 57,rR 59 (.bin .neq d8 true (.t 58) (iC 1)),rM 60 59,rB 61 60 (.fieldAddr 1 (.t 12)),rB 62 60 (.load1 (.t 61)),rB 63 60 (.idxV 2 (.t 62) (iC 0)),rB 64 60 (.fieldAddr 0 (.t 63)),rB 65 60 (.load1 (.t 64)),rB 66 60 (.move (.t 8)),rB 67 60 (.bin .neq d8 false (.t 65) (.t 66)),rR 68 (.pick (.t 60) (.c (.bool true)) (.t 67))]) (.cond (.t 68) (.seq (.ops [rX 2 (.bool false)]) .ret) .skip)))) (.ops [rR 69 (.bin .add d8 true (.t 52) (iC 1)),rM 52 69]))))))) (.seq (.ops [rM 70 10,rR 71 (.bin .neq d0Y true (.t 70) (iC 0))]) (.cond (.t 71) (.seq (.ops [rX 2 (.bool false)]) .ret) .skip))))))))))) (.ops [rR 72 (.bin .add d8 true (.t 18) (iC 1)),rM 18 72]))))))) (.seq (.ops [rC 73 G2 [],rM 2 73]) .ret)))))
theorem e0S:m6 P U1=.ok ⟨74,[.tmp 2],b0b⟩:=by kernel_rfl
noncomputable def h0I:CC :=
 (.seq (.ops [rX 0 .nilp]) (.seq (.ops [rC 1 f0j [],rR 2 (.build [.nilp,(iV 0),(iV 0),(iV 0)] [(0 ,1 ,(.t 1)),(1 ,1 ,(iC (-9223372036854775808))),(2 ,1 ,(iC (-9223372036854775808))),(3 ,1 ,(iC 0))]),rR 3 (.box (.t 2)),rM 0 3]) .ret))
theorem m0B:m6 P c0g=.ok ⟨4,[.tmp 0],h0I⟩:=by kernel_rfl
noncomputable def b0c:CC :=
 (.seq (.ops [rX 2 (iV 0)]) (.seq (.seq (.ops [rM 3 0,rC 4 D1 [(.t 3)]]) (.cond (.t 4) (.seq (.ops [rX 2 (iV 0)]) .ret) .skip)) (.seq (.ops [rM 5 0,rK 6 5,rF 7 1 6,rL 8 7,rM 2 8]) .ret)))
theorem e0T:m6 P I6=.ok ⟨9,[.tmp 2],b0c⟩:=by kernel_rfl
noncomputable def b0X:CC :=
 (.seq (.ops [rX 2 (.bool false)]) (.seq (.ops [rM 3 0,rR 4 (.bin .eql d0w true (.t 3) (.c .nilp)),rM 5 4,rB 6 5 (.move (.t 0)),rB 7 5 (.nilCheck (.t 6)),rB 8 5 (.fieldAddr 0 (.t 7)),rB 9 5 (.load1 (.t 8)),rB 10 5 (.bin .eql c0u true (.t 9) (.c .nilp)),rR 11 (.pick (.t 5) (.c (.bool true)) (.t 10)),rM 2 11]) .ret))
theorem f0w:m6 P D1=.ok ⟨12,[.tmp 2],b0X⟩:=by kernel_rfl
noncomputable def h0J:CC :=
 (.seq (.ops [rR 1 (.box (.t 0)),rR 2 (.new [(iV 0),.nils,.nils,(iV 0),(iV 0),(iV 0)])]) (.seq (.ops [rF 3 1 1,rL 4 3,rF 5 1 1,rL 6 5,rV 7 6,rR 8 (.mm false (.t 7) [(iC 15)]),rR 9 (.sliceV 3 (.t 4) none (some (.t 8)) none),rF 10 1 1,rN (.store 1 (.t 10) (.t 9))]) (.seq (.ops [rR 11 (.loadN 6 (.t 1)),rN (.store 6 (.t 2) (.t 11))]) .ret)))
theorem m0C:m6 P d0W=.ok ⟨12,[.many 2 6],h0J⟩:=by kernel_rfl
noncomputable def c0Q:CC :=
 (.seq (.ops [rR 2 (.box (.t 0)),rR 3 (.box (.t 1)),rX 4 (iV 0)]) (.seq (.ops [rR 8 (.mkF K9 [] [(.t 2)]),rM 5 8]) (.seq (.block 0 (.seq (.ops [rL 10 2,rC 11 D1 [(.t 10)],rM 9 11]) (.cond (.t 9) (.seq (.ops [rX 4 (iV 2)]) .ret) (.seq (.ops [rR 13 (.loadN 6 (.t 3)),rC 14 J5 [(.t 13)],rR 15 (.un .not (.t 14)),rM 12 15]) (.cond (.t 12) (.seq (.ops [rX 4 (iV 1)]) .ret) (.seq (.ops [rF 17 0 3,rL 18 17,rR 19 (.bin .eql d8 true (.t 18) (iC 1)),rM 20 19,rA 21 20 (.fieldAddr 1 (.t 3)),rA 22 20 (.load1 (.t 21)),rA 23 20 (.move (.t 5)),rA 24 20 (.callV (.c (.func (.func i8) [] [])) [(.t 22),(.t 23)]),rR 25 (.pick (.t 20) (.t 24) (.c (.bool false))),rM 16 25]) (.cond (.t 16) (.seq (.ops [rX 4 (iV 220)]) .ret) .skip))))))) (.seq (.seq (.ops [rF 26 0 3,rL 27 26]) (.block 1 (.seq (.ops [rR 29 (.bin .eql d8 true (.t 27) (iC 1)),rM 28 29]) (.cond (.t 28) (.seq (.ops [rL 30 2,rK 31 30,rF 32 0 31,rL 33 32,rF 34 1 3,rL 35 34,.stage [⟨(some 35),none,.load1 (.t 34)⟩,⟨(some 33),none,.load1 (.t 32)⟩,⟨(some 30),none,.load1 (.t 2)⟩],rC 36 P9 [(.t 33),(.t 35)]]) (.seq (.ops [rF 37 1 3,rL 38 37,rV 39 38,rX 40 (iV 0)]) (.block 2 (.loop (.seq (.ops [rR 41 (.bin .lss d8 false (.t 40) (.t 39))]) (.seq (.cond (.t 41) .skip (.exit 2)) (.seq (.block 3 (.seq (.ops [rR 42 (.idxV 3 (.t 38) (.t 40)),rR 43 (.loadN 3 (.t 42)),rR 7 (.new [.nils,(iV 0),(.int .u64 0)]),rN (.store 3 (.t 7) (.t 43))]) (.ops [rL 44 2,rL 45 2,rK 46 45,rF 47 2 46,rL 48 47,rF 49 1 7,rL 50 49,rR 51 (.mm true (.t 48) [(.t 50)]),rK 52 44,rF 53 2 52,.stage [⟨(some 50),none,.load1 (.t 49)⟩,⟨(some 48),none,.load1 (.t 47)⟩,⟨(some 45),none,.load1 (.t 2)⟩,⟨(some 44),none,.load1 (.t 2)⟩],rN (.store 1 (.t 53) (.t 51))]))) (.ops [rR 54 (.bin .add d8 true (.t 40) (iC 1)),rM 40 54])))))))) (.seq (.ops [rR 56 (.bin .eql d8 true (.t 27) (iC 2)),rM 55 56]) (.cond (.t 55) (.ops [rL 57 2,rK 58 57,rF 59 0 58,rL 60 59,rF 61 2 3,rL 62 61,rF 63 3 3,rL 64 63,rF 65 4 3,rL 66 65,.stage [⟨(some 66),none,.load1 (.t 65)⟩,⟨(some 64),none,.load1 (.t 63)⟩,⟨(some 62),none,.load1 (.t 61)⟩,⟨(some 60),none,.load1 (.t 59)⟩,⟨(some 57),none,.load1 (.t 2)⟩],rC 67 Q0 [(.t 60),(.t 62),(.t 64),(.t 66)]]) (.seq (.ops [rR 69 (.bin .eql d8 true (.t 27) (iC 3)),rM 68 69]) (.cond (.t 68) (.ops [rL 70 2,rF 71 5 3,rL 72 71,rK 73 70,rF 74 3 73,rN (.store 1 (.t 74) (.t 72))]) .skip)))))))) (.seq (.ops [rL 75 2,rL 76 2,rK 77 76,rF 78 1 77,rL 79 78,rL 80 2,rK 81 80,rF 82 2 81,rL 83 82,rL 84 2,rK 85 84,rF 86 3 85,rL 87 86,.stage [⟨(some 87),none,.load1 (.t 86)⟩,⟨(some 84),none,.load1 (.t 2)⟩,⟨(some 83),none,.load1 (.t 82)⟩,⟨(some 80),none,.load1 (.t 2)⟩,⟨(some 79),none,.load1 (.t 78)⟩,⟨(some 76),none,.load1 (.t 2)⟩,⟨(some 75),none,.load1 (.t 2)⟩],rC 88 Z6 [(.t 79),(.t 83),(.t 87)],rK 89 75,rF 90 1 89,.stage [⟨(some 75),none,.load1 (.t 2)⟩],rN (.store 1 (.t 90) (.t 88))]) (.seq (.ops [rL 91 2,rK 92 91,rF 93 0 92,rL 94 93,rL 95 2,rK 96 95,rF 97 1 96,rL 98 97,.stage [⟨(some 98),none,.load1 (.t 97)⟩,⟨(some 95),none,.load1 (.t 2)⟩,⟨(some 94),none,.load1 (.t 93)⟩,⟨(some 91),none,.load1 (.t 2)⟩],rC 99 R6 [(.t 94),(.t 98)],rM 4 99]) .ret))))))
theorem h0f:m6 P a0q=.ok ⟨100,[.tmp 4],c0Q⟩:=by kernel_rfl
noncomputable def b0Y:CC :=
 (.seq (.ops [rR 2 (.box (.t 0)),rX 3 (.bool false)]) (.seq (.ops [rF 4 1 2,rL 5 4,rL 6 1,rK 7 6,rF 8 1 7,rL 9 8,rR 10 (.bin .lss d8 false (.t 5) (.t 9)),rM 3 10,.stage [⟨(some 9),none,.load1 (.t 8)⟩,⟨(some 6),none,.load1 (.t 1)⟩,⟨(some 5),none,.load1 (.t 4)⟩]]) .ret))
theorem f0x:m6 P K9=.ok ⟨11,[.tmp 3],b0Y⟩:=by kernel_rfl
noncomputable def L6:CC :=
 (.seq (.ops [rR 1 (.box (.t 0)),rX 2 (.bool false)]) (.seq (.seq (.ops [rF 4 0 1,rL 5 4]) (.block 0 (.seq (.ops [rR 7 (.bin .eql d8 true (.t 5) (iC 1)),rM 6 7]) (.cond (.t 6) (.seq (.ops [rX 3 (.func (.func b0O) [] [])]) (.seq (.ops [rF 8 1 1,rL 9 8,rV 10 9,rR 11 (.bin .gtr d8 true (.t 10) (iC 0)),rM 12 11,rA 13 12 (.fieldAddr 1 (.t 1)),rA 14 12 (.load1 (.t 13)),rA 15 12 (.lenV (.t 14)),rA 16 12 (.bin .leq d8 true (.t 15) (iC 200)),rR 17 (.pick (.t 12) (.t 16) (.c (.bool false))),rM 18 17,rA 19 18 (.fieldAddr 1 (.t 1)),rA 20 18 (.load1 (.t 19)),rA 21 18 (.move (.t 3)),rA 22 18 (.callV (.c (.func (.func i8) [] [])) [(.t 20),(.t 21)]),rA 23 18 (.un .not (.t 22)),rR 24 (.pick (.t 18) (.t 23) (.c (.bool false))),rM 2 24]) .ret)) (.seq (.ops [rR 26 (.bin .eql d8 true (.t 5) (iC 2)),rM 25 26]) (.cond (.t 25) (.seq (.ops [rF 27 2 1,rL 28 27,rC 29 S6 [(.t 28)],rM 2 29]) .ret) .skip)))))) (.seq (.ops [rF 30 0 1,rL 31 30,rR 32 (.bin .eql d8 true (.t 31) (iC 3)),rM 33 32,rA 34 33 (.fieldAddr 5 (.t 1)),rA 35 33 (.load1 (.t 34)),rA 36 33 (.bin .geq d8 true (.t 35) (iC 0)),rR 37 (.pick (.t 33) (.t 36) (.c (.bool false))),rM 38 37,rA 39 38 (.fieldAddr 5 (.t 1)),rA 40 38 (.load1 (.t 39)),rA 41 38 (.bin .leq d8 true (.t 40) (iC 4611686018427387904)),rR 42 (.pick (.t 38) (.t 41) (.c (.bool false))),rM 2 42]) .ret)))
theorem b0q:m6 P J5=.ok ⟨43,[.tmp 2],L6⟩:=by kernel_rfl
noncomputable def e0f:CC :=
 (.seq (.ops [rR 1 (.box (.t 0)),rX 2 (.bool false)]) (.seq (.ops [rF 3 0 1,rL 4 3,rC 5 b0m [(.t 4)],rR 6 (.un .not (.t 5)),rM 2 6]) .ret))
theorem i09:m6 P b0O=.ok ⟨7,[.tmp 2],e0f⟩:=by kernel_rfl
noncomputable def b0Z:CC :=
 (.seq (.ops [rR 5 (.box (.t 1)),rR 6 (.box (.t 2)),rR 7 (.box (.t 3)),rX 8 (iV 0)]) (.seq (.block 0 (.seq (.ops [rM 10 0,rC 11 F6 [(.t 10)],rM 9 11]) (.cond (.t 9) (.seq (.ops [rX 8 (iV 2)]) .ret) (.seq (.ops [rL 13 5,rC 14 S6 [(.t 13)],rR 15 (.un .not (.t 14)),rM 12 15]) (.cond (.t 12) (.seq (.ops [rX 8 (iV 1)]) .ret) .skip))))) (.seq (.ops [rM 16 0,rR 17 (.mkF S9 [] [(.t 6),(.t 7),(.t 5)]),rC 18 y6 [(.t 16),(.t 17)]]) (.seq (.ops [rX 8 (iV 0)]) .ret))))
theorem f0y:m6 P Q0=.ok ⟨19,[.tmp 8],b0Z⟩:=by kernel_rfl
noncomputable def L7:CC :=
 (.seq (.ops [rX 7 (.bool false)]) (.seq (.ops [rL 8 2,rM 9 1,rR 10 (.bin .leq d8 false (.t 8) (.t 9)),rM 11 10,rA 12 11 (.move (.t 1)),rA 13 11 (.load1 (.t 3)),rA 14 11 (.bin .leq d8 false (.t 12) (.t 13)),rR 15 (.pick (.t 11) (.t 14) (.c (.bool false))),rM 16 15,rA 17 16 (.load1 (.t 4)),rA 18 16 (.move (.t 0)),rA 19 16 (.nilCheck (.t 18)),rA 20 16 (.fieldAddr 0 (.t 19)),rA 21 16 (.load1 (.t 20)),.stage [⟨(some 21),(some (16 ,true)),.load1 (.t 20)⟩,⟨(some 17),(some (16 ,true)),.load1 (.t 4)⟩,⟨(some 13),(some (11 ,true)),.load1 (.t 3)⟩,⟨(some 8),none,.load1 (.t 2)⟩],rA 22 16 (.callV (.c (.func (.func K3) [] [])) [(.t 17),(.t 21)]),rR 23 (.pick (.t 16) (.t 22) (.c (.bool false))),rM 7 23]) .ret))
theorem e0g:m6 P S9=.ok ⟨24,[.tmp 7],L7⟩:=by kernel_rfl
noncomputable def I0:CC :=
 (.seq (.ops [rX 4 .nils]) (.seq (.ops [rM 8 0,rM 9 1,rC 10 p9 [(.t 8),(.t 9)],rM 5 10]) (.seq (.seq (.ops [rM 11 5,rR 12 (.bin .eql d8 true (.t 11) (iC (-1)))]) (.cond (.t 12) (.seq (.ops [rM 13 0,rM 4 13]) .ret) .skip)) (.seq (.seq (.ops [rM 14 5,rR 15 (.bin .add d8 true (.t 14) (iC 1)),rM 6 15]) (.block 0 (.loop (.seq (.seq (.ops [rM 16 6,rM 17 0,rV 18 17,rR 19 (.bin .lss d8 false (.t 16) (.t 18))]) (.cond (.t 19) .skip (.exit 0))) (.seq (.block 1 (.seq (.ops [rM 22 0,rM 23 6,rR 24 (.idxV 1 (.t 22) (.t 23)),rL 25 24,rM 7 25]) (.seq (.ops [rM 26 1,rM 27 7,rR 28 (.callV (.t 26) [(.t 27)]),rR 29 (.un .not (.t 28))]) (.cond (.t 29) (.seq (.ops [rM 30 0,rM 31 5,rM 32 7,rR 33 (.idxV 1 (.t 30) (.t 31)),rN (.store 1 (.t 33) (.t 32))]) (.ops [rM 34 5,rR 35 (.bin .add d8 true (.t 34) (iC 1)),rM 5 35])) .skip)))) (.ops [rM 20 6,rR 21 (.bin .add d8 true (.t 20) (iC 1)),rM 6 21])))))) (.seq (.ops [rM 36 0,rM 37 5,rR 38 (.sliceV 1 (.t 36) (some (.t 37)) none none),rN (.clear 1 [.nilp] (.t 38))]) (.seq (.ops [rM 39 0,rM 40 5,rR 41 (.sliceV 1 (.t 39) none (some (.t 40)) none),rM 4 41]) .ret))))))
theorem T7:m6 P v8=.ok ⟨42,[.tmp 4],I0⟩:=by kernel_rfl
noncomputable def I9:CC :=
 (.seq (.ops [rX 4 (iV 0)]) (.seq (.seq (.ops [rM 6 0,rV 7 6,rX 8 (iV 0)]) (.block 0 (.loop (.seq (.ops [rR 9 (.bin .lss d8 false (.t 8) (.t 7))]) (.seq (.cond (.t 9) .skip (.exit 0)) (.seq (.block 1 (.seq (.ops [rM 10 8,rM 5 10]) (.seq (.ops [rM 11 1,rM 12 0,rM 13 5,rR 14 (.idxV 1 (.t 12) (.t 13)),rL 15 14,rR 16 (.callV (.t 11) [(.t 15)])]) (.cond (.t 16) (.seq (.ops [rM 17 5,rM 4 17]) .ret) .skip)))) (.ops [rR 18 (.bin .add d8 true (.t 8) (iC 1)),rM 8 18]))))))) (.seq (.ops [rX 4 (iV (-1))]) .ret)))
theorem U3:m6 P p9=.ok ⟨19,[.tmp 4],I9⟩:=by kernel_rfl
noncomputable def b00:CC :=
 (.seq (.ops [rX 2 (.bool false)]) (.seq (.ops [rM 3 0,rK 4 3,rF 5 1 4,rL 6 5,rR 7 (.lenM (.t 6)),rR 8 (.bin .eql d8 true (.t 7) (iC 0)),rM 2 8]) .ret))
theorem f0z:m6 P v6=.ok ⟨9,[.tmp 2],b00⟩:=by kernel_rfl
noncomputable def a0g:CC :=
 (.seq (.ops [rX 6 (iV 0)]) (.seq (.seq (.ops [rM 7 2,rR 8 (.bin .leq d8 true (.t 7) (iC 0)),rM 9 8,rB 10 9 (.move (.t 1)),rB 11 9 (.bin .eql d8 true (.t 10) (iC (-9223372036854775808))),rR 12 (.pick (.t 9) (.c (.bool true)) (.t 11)),rM 13 12,rB 14 13 (.move (.t 1)),rB 15 13 (.move (.t 2)),rB 16 13 (.bin .add d8 true (iC (-9223372036854775808)) (.t 15)),rB 17 13 (.bin .lss d8 false (.t 14) (.t 16)),rR 18 (.pick (.t 13) (.c (.bool true)) (.t 17))]) (.cond (.t 18) (.seq (.ops [rM 19 0,rM 6 19]) .ret) .skip)) (.seq (.ops [rM 20 0,rM 21 1,rM 22 2,rR 23 (.bin .sub d8 false (.t 21) (.t 22)),rR 24 (.mm true (.t 20) [(.t 23)]),rM 6 24]) .ret)))
theorem l0b:m6 P Z6=.ok ⟨25,[.tmp 6],a0g⟩:=by kernel_rfl
noncomputable def c0n:CC :=
 (.seq (.ops [rR 3 (.box (.t 1)),rX 4 (iV 0)]) (.seq (.seq (.ops [rM 5 0,rC 6 F6 [(.t 5)]]) (.cond (.t 6) (.seq (.ops [rX 4 (iV 2)]) .ret) .skip)) (.seq (.ops [rM 7 0,rR 8 (.mkF U2 [] [(.t 3)]),rC 9 y6 [(.t 7),(.t 8)]]) (.seq (.ops [rX 4 (iV 0)]) .ret))))
theorem g0p:m6 P R6=.ok ⟨10,[.tmp 4],c0n⟩:=by kernel_rfl
noncomputable def b0d:CC :=
 (.seq (.ops [rX 5 (.bool false)]) (.seq (.ops [rM 6 1,rL 7 2,rR 8 (.bin .lss d8 false (.t 6) (.t 7)),rM 5 8]) .ret))
theorem e0U:m6 P U2=.ok ⟨9,[.tmp 5],b0d⟩:=by kernel_rfl
noncomputable def a0V:CC :=
 (.seq (.ops [rX 8 .nils,rX 9 (iV 0)]) (.seq (.ops [rX 10 (.func (.func W2) [] [])]) (.seq (.block 0 (.seq (.ops [rM 12 0,rC 13 D1 [(.t 12)],rM 11 13]) (.cond (.t 11) (.seq (.ops [rX 8 .nils,rX 9 (iV 2)]) .ret) (.seq (.ops [rM 15 1,rC 16 S6 [(.t 15)],rR 17 (.un .not (.t 16)),rM 14 17]) (.cond (.t 14) (.seq (.ops [rX 8 .nils,rX 9 (iV 1)]) .ret) .skip))))) (.seq (.ops [rM 18 10,rM 19 0,rK 20 19,rF 21 0 20,rL 22 21,rM 23 1,rM 24 2,rM 25 3,rR 26 (.callV (.t 18) [(.t 22),(.t 23),(.t 24),(.t 25)]),rM 8 26,rX 9 (iV 0)]) .ret))))
theorem e0h:m6 P T0=.ok ⟨27,[.tmp 8,.tmp 9],a0V⟩:=by kernel_rfl
end Go.Dk

namespace Go.Dk
open Go Go.Dr
set_option maxRecDepth 100000
end Go.Dk

namespace Go.Dk
open Go Go.Dr
set_option maxRecDepth 100000
noncomputable def d0y:DC :=
 (.seq
 (.ops [
  .row ⟨(some 6),none,.new [.nils,.nils]⟩])
 (.seq
  (.ops [
  .row ⟨(some 10),none,.move (.t 0)⟩,
  .row ⟨(some 11),none,.nilCheck (.t 10)⟩,
  .row ⟨(some 12),none,.fieldAddr 0 (.t 11)⟩,
  .row ⟨(some 13),none,.load1 (.t 12)⟩,
  .row ⟨(some 14),none,.callV (.c (.func (.func l6) [] [])) [(.t 13)]⟩,
  .row ⟨(some 15),none,.build [.nils,.nils] [(0,1,(.t 14))]⟩,
  .row ⟨(some 7),none,.new [.nils,.nils]⟩,
  .row ⟨none,none,.store 2 (.t 7) (.t 15)⟩])
  (.seq
  (.seq
   (.ops [
   .row ⟨(some 16),none,.move (.t 0)⟩,
   .row ⟨(some 17),none,.nilCheck (.t 16)⟩,
   .row ⟨(some 18),none,.fieldAddr 1 (.t 17)⟩,
   .row ⟨(some 19),none,.load1 (.t 18)⟩,
   .row ⟨(some 20),none,.rangeM (.t 19)⟩])
   (.block 0
   (.loop
    (.seq
    (.ops [
     .row ⟨(some 21),none,.next (.t 20) false⟩,
     .row ⟨(some 22),none,.extract (.t 21) 0⟩])
    (.seq
     (.cond (.t 22)
     .skip
     (.exit 0))
     (.block 1
     (.seq
      (.ops [
      .row ⟨(some 23),none,.entry (.t 20)⟩,
      .row ⟨(some 24),none,.extract (.t 23) 0⟩,
      .row ⟨(some 25),none,.extract (.t 23) 1⟩,
      .row ⟨(some 8),none,.move (.t 24)⟩,
      .row ⟨(some 9),none,.move (.t 25)⟩])
      (.seq
      (.ops [
       .row ⟨(some 26),none,.move (.t 1)⟩,
       .row ⟨(some 27),none,.move (.t 8)⟩,
       .row ⟨(some 28),none,.bin .leq d8 false (.t 26) (.t 27)⟩,
       .row ⟨(some 29),none,.move (.t 28)⟩,
       .row ⟨(some 30),(some (29,true)),.move (.t 8)⟩,
       .row ⟨(some 31),(some (29,true)),.move (.t 2)⟩,
       .row ⟨(some 32),(some (29,true)),.bin .leq d8 false (.t 30) (.t 31)⟩,
       .row ⟨(some 33),none,.pick (.t 29) (.t 32) (.c (.bool false))⟩])
      (.cond (.t 33)
       (.ops [
       .row ⟨(some 34),none,.fieldAddr 1 (.t 7)⟩,
       .row ⟨(some 35),none,.load1 (.t 34)⟩,
       .row ⟨(some 36),none,.move (.t 8)⟩,
       .row ⟨(some 37),none,.move (.t 9)⟩,
       .row ⟨(some 38),none,.build [(.int .i64 0),(.int .u64 0)] [(0,1,(.t 36)),(1,1,(.t 37))]⟩,
       .row ⟨(some 39),none,.buildSlice 1 2 [(.int .i64 0),(.int .u64 0)] [(0,2,(.t 38))]⟩,
       .row ⟨(some 40),none,.app 2 16 (.t 35) (.t 39)⟩,
       .row ⟨(some 41),none,.fieldAddr 1 (.t 7)⟩,
       .row ⟨none,none,.store 1 (.t 41) (.t 40)⟩])
       .skip)))))))))
  (.seq
   (.ops [
   .row ⟨(some 42),none,.fieldAddr 1 (.t 7)⟩,
   .row ⟨(some 43),none,.load1 (.t 42)⟩,
   .row ⟨(some 44),none,.callV (.c (.func (.func u7) [] [])) [(.t 43),(.c (.func (.func B6) [] []))]⟩])
   (.seq
   (.ops [
    .row ⟨(some 45),none,.loadN 2 (.t 7)⟩,
    .row ⟨none,none,.store 2 (.t 6) (.t 45)⟩])
   .ret)))))
theorem h0X:i0N P p7=.ok ⟨46,[.many 6 2],d0y⟩:=by kernel_rfl
end Go.Dk

namespace Go.Lib
def tvL (rep:List UInt8):Nat→Bool→List UInt8→List UInt8
 | 0,_,_=>[]
 | _+1,_,[]=>[]
 | f+1,bad,c::l =>
  if c.toNat<128 then c::tvL rep f false l
  else if (decodeL (c::l)).2=1 then (if bad=true then [] else rep)++tvL rep f true l
  else (c::l).take (decodeL (c::l)).2++tvL rep f false ((c::l).drop (decodeL (c::l)).2)
theorem tvL_nil (rep:List UInt8) (bad:Bool):∀ f,tvL rep f bad []=[]
 | 0=>rfl
 | _+1=>rfl
theorem j0C {c:UInt8} {l:List UInt8} (h:c.toNat<128):decodeL (c::l)=(c.toNat,1):=by
 rw [decodeL_N]
 unfold decodeN
 rw [if_pos (by simpa using h)]
 rfl
theorem l0V {c:UInt8} {l:List UInt8} (h:¬ c.toNat<128) (h1:(decodeL (c::l)).2=1):(decodeL (c::l)).1=65533:=by
 rw [decodeL_N] at h1 ⊢
 rcases decodeN_shape (c::l).length ((c::l).getD 0 0).toNat ((c::l).getD 1 0).toNat ((c::l).getD 2 0).toNat ((c::l).getD 3 0).toNat with ⟨e0,e⟩ | ⟨_,_,_,_,e⟩ | ⟨_,_,_,_,_,_,e⟩ | ⟨_,_,_,_,_,_,_,e⟩ | e
 ·exact absurd (by simpa using e0) h
 ·rw [e] at h1;simp at h1
 ·rw [e] at h1;simp at h1
 ·rw [e] at h1;simp at h1
 ·rw [e]
theorem tvL_keep {rep:List UInt8} {f:Nat}:∀ {l:List UInt8},l≠[]→¬ ((decodeL l).1=65533∧(decodeL l).2=1)→tvL rep (f+1) false l=l.take (decodeL l).2++tvL rep f false (l.drop (decodeL l).2)
 | [],h,_=>absurd rfl h
 | c::l,_,h=>by
  by_cases hc:c.toNat<128
  ·rw [tvL,if_pos hc,j0C hc];rfl
  ·rw [tvL,if_neg hc,if_neg (fun h1=>h ⟨l0V hc h1,h1⟩)]
theorem tvL_ascii {rep:List UInt8} {f:Nat} {bad:Bool} {c:UInt8} {l:List UInt8} (hc:c.toNat<128):tvL rep (f+1) bad (c::l)=[c]++tvL rep f false l:=by rw [tvL,if_pos hc];rfl
theorem tvL_bad {rep:List UInt8} {f:Nat} {bad:Bool} {c:UInt8} {l:List UInt8} (hc:¬ c.toNat<128) (h1:(decodeL (c::l)).2=1):tvL rep (f+1) bad (c::l)=(if bad=true then [] else rep)++tvL rep f true l:=by rw [tvL,if_neg hc,if_pos h1]
theorem tvL_rune {rep:List UInt8} {f:Nat} {bad:Bool} {c:UInt8} {l:List UInt8} (hc:¬ c.toNat<128) (h1:¬ (decodeL (c::l)).2=1):tvL rep (f+1) bad (c::l)=(c::l).take (decodeL (c::l)).2++tvL rep f false ((c::l).drop (decodeL (c::l)).2):=by rw [tvL,if_neg hc,if_neg h1]
theorem tvL_len (rep:List UInt8):∀ (f:Nat) (bad:Bool) (l:List UInt8),(tvL rep f bad l).length≤l.length*(rep.length+1)
 | 0,_,_=>Nat.zero_le _
 | _+1,_,[]=>Nat.zero_le _
 | f+1,bad,c::l=>by
  have hm:(l.length+1)*(rep.length+1)=l.length*(rep.length+1)+(rep.length+1):=by rw [Nat.add_mul,Nat.one_mul]
  by_cases hc:c.toNat<128
  ·rw [tvL_ascii hc,List.length_append,show (c::l).length=l.length+1 from rfl,hm,show [c].length=1 from rfl]
   have:=tvL_len rep f false l
   omega
  ·by_cases h1:(decodeL (c::l)).2=1
   ·rw [tvL_bad hc h1,List.length_append,show (c::l).length=l.length+1 from rfl,hm]
    have:=tvL_len rep f true l
    split
    ·rw [show ([]:List UInt8).length=0 from rfl];omega
    ·omega
   ·rw [tvL_rune hc h1,List.length_append]
    have:=tvL_len rep f false ((c::l).drop (decodeL (c::l)).2)
    have hle:=decodeL_le (c::l) (by simp)
    obtain ⟨k,hk⟩:∃ k,(decodeL (c::l)).2=k:=⟨_,rfl⟩
    rw [hk] at this hle ⊢
    obtain ⟨n,hn⟩:∃ n,(c::l).length=n:=⟨_,rfl⟩
    rw [List.length_drop,hn] at this
    rw [List.length_take,hn,Nat.min_eq_left (by omega)]
    rw [hn] at hle
    obtain ⟨m,rfl⟩:∃ m,n=k+m:=⟨n - k,by omega⟩
    rw [Nat.add_sub_cancel_left] at this
    rw [Nat.add_mul]
    have:k≤k*(rep.length+1):=Nat.le_mul_of_pos_right _ (by omega)
    omega
end Go.Lib

namespace Go.Dk
open Go Go.Dr
def ixG (args:List AV) (h:AH):R (AV×AH):=match args with
 | [.str s,.int .u8 c]=>.ok (.int .i64 (Go.Lib.indexByte s c.toNat.toUInt8),h)
 | _=>.error "strings.IndexByte"
def coG (args:List AV) (h:AH):R (AV×AH):=match args with
 | [.str s,.str t]=>if s.length<4294967281 then .ok (.bool (Go.Lib.contains s t),h) else .error "strings.Contains"
 | _=>.error "strings.Contains"
def tvG (args:List AV) (h:AH):R (AV×AH):=match args with
 | [.str s,.str r]=>if s.length<1048576∧r.length<1048576 then .ok (.str (Go.Lib.tvL r s.length false s),h) else .error "strings.ToValidUTF8"
 | _=>.error "strings.ToValidUTF8"
def awG (args:List AV) (h:AH):R (AV×AH):=match args with
 | []=>.ok (.bool true,h)
 | _=>.error "awake"
end Go.Dk

namespace Go.Dr
section
variable {P:Program} {S:a0o} {Q:G4} {σ:Sg} {ds:List ADef} {h:AH}
@[simp] theorem r0Z {t:TypeId} (ht:P.underlying t=some .bool) (lit a b:Bool):A0 P .eql t lit (.bool a) (.bool b)=.ok (.bool (a == b)):=by
 simp [A0,d0h,a03,und,ht,ofO,M8,a0b,c0M]
@[simp] theorem r00 {t:TypeId} (ht:P.underlying t=some .bool) (lit a b:Bool):A0 P .neq t lit (.bool a) (.bool b)=.ok (.bool (!(a == b))):=by
 simp [A0,d0h,a03,und,ht,ofO,M8,a0b,c0M]
@[simp] theorem s01 (t:TypeId) (lit:Bool) (a b:List UInt8):A0 P .eql t lit (.str a) (.str b)=.ok (.bool (decide (a=b))):=by
 simp only [A0,i04]
 congr 2
 by_cases h:a=b <;> simp [h]
@[simp] theorem s02 (t:TypeId) (lit:Bool) (a b:List UInt8):A0 P .neq t lit (.str a) (.str b)=.ok (.bool (decide (¬ a=b))):=by
 simp only [A0,i04]
 congr 2
 by_cases h:a=b <;> simp [h]
@[simp] theorem s03 {t e:TypeId} (ht:P.underlying t=some (.pointer e)) (lit:Bool) (i o:Nat):A0 P .eql t lit (.ptr i o) .nilp=.ok (.bool false):=by
 simp [A0,d0h,a03,und,ht,ofO,M8,a0b,c0M]
@[simp] theorem k0F {t e:TypeId} (ht:P.underlying t=some (.slice e)) (lit:Bool):A0 P .eql t lit .nils .nils=.ok (.bool true):=by
 simp [A0,d0h,a03,und,ht,ofO,M8,a0b,c0M]
@[simp] theorem j0t {t e:TypeId} (ht:P.underlying t=some (.slice e)) (lit:Bool) (id off n cap:Nat) (x:Bool) (es:Nat) :
  A0 P .eql t lit (.slice id off n cap x es) .nils=.ok (.bool false):=by
 simp [A0,d0h,a03,und,ht,ofO,M8,a0b,c0M]
theorem Sl.isNil {es n:Nat} {v:AV} {l:List AV} (s:Sl h es n v l) {t e:TypeId} (ht:P.underlying t=some (.slice e)) (lit:Bool) :
  ∃ b,A0 P .eql t lit v .nils=.ok (.bool b)∧(b=true→v=.nils∧n=0∧l=[]):=by
 obtain ⟨hl,s⟩:=s
 rcases s with ⟨rfl,rfl⟩ | ⟨id,off,cap,x,vs,ro,rfl,_⟩
 ·exact ⟨true,k0F ht lit,fun _=>⟨rfl,rfl,by simpa using hl⟩⟩
 ·exact ⟨false,j0t ht lit _ _ _ _ _ _,fun e=>by cases e⟩
end
end Go.Dr

namespace Go.Dr
abbrev Txt:=List UInt8
theorem e0s {α:Type} (l:List α) (j:Nat) (x:α) (h:l[j]? = some x):l.take (j+1)=l.take j++[x]:=by
 rw [List.take_add_one,h];rfl
theorem Y1:∀ a:Txt,Op.bytesLess a a=false
 | []=>rfl
 | x::a=>by simp [Op.bytesLess,Y1 a,UInt8.lt_irrefl]
theorem t0F (a b:UInt8):a<b∧¬ b<a∧a≠b∨a=b∧¬ a<b∧¬ b<a∨b<a∧¬ a<b∧a≠b:=by
 simp only [UInt8.lt_iff_toNat_lt,ne_eq,← UInt8.toNat_inj];omega
theorem b0B:∀ a b:Txt,(Op.bytesLess a b||a == b)=!Op.bytesLess b a
 | [],[]=>rfl
 | [],y::b=>by simp [Op.bytesLess]
 | x::a,[]=>by simp [Op.bytesLess]
 | x::a,y::b=>by
  have ih:=b0B a b
  rcases t0F x y with ⟨h1,h2,h3⟩ | ⟨rfl,h1,h2⟩ | ⟨h1,h2,h3⟩
  ·have:¬ y=x:=fun e=>h3 e.symm
   simp [Op.bytesLess,h1,h2,this]
  ·simp [Op.bytesLess,h1] at ih ⊢
   exact ih
  ·have:¬ y=x:=fun e=>h3 e.symm
   simp [Op.bytesLess,h1,h2,h3]
theorem c0X {a b:Txt} (h:Op.bytesLess a b=true):Op.bytesLess b a=false:=by
 have:=b0B a b
 rw [h] at this
 simpa using this.symm
theorem i0g (a b:Txt):Op.bytesLess a b=true∨a=b∨Op.bytesLess b a=true:=by
 have:=b0B a b
 cases h:Op.bytesLess b a with
 | true=>exact .inr (.inr rfl)
 | false =>
  rw [h] at this
  simp at this
  rcases this with h | h
  ·exact .inl h
  ·exact .inr (.inl h)
theorem i0h:∀ {a b c:Txt},Op.bytesLess a b=true→Op.bytesLess b c=true→Op.bytesLess a c=true
 | _,[],_,h,_=>by cases ‹Txt› <;> simp [Op.bytesLess] at h
 | _,_::_,[],_,h=>by simp [Op.bytesLess] at h
 | [],_::_,_::_,_,_=>rfl
 | x::a,y::b,z::c,h1,h2=>by
  simp only [Op.bytesLess,Bool.or_eq_true,decide_eq_true_eq,Bool.and_eq_true,beq_iff_eq] at h1 h2 ⊢
  rcases h1 with h1 | ⟨rfl,h1⟩
  ·rcases h2 with h2 | ⟨rfl,h2⟩
   ·left;rw [UInt8.lt_iff_toNat_lt] at *;omega
   ·exact .inl h1
  ·rcases h2 with h2 | ⟨rfl,h2⟩
   ·exact .inl h2
   ·exact .inr ⟨rfl,i0h h1 h2⟩
section
variable {P:Program} {h:AH}
@[simp] theorem s07 (t:TypeId) (lit:Bool) (a b:Txt):A0 P .lss t lit (.str a) (.str b)=.ok (.bool (Op.bytesLess a b)):=nr rfl
@[simp] theorem s08 (t:TypeId) (lit:Bool) (a b:Txt):A0 P .leq t lit (.str a) (.str b)=.ok (.bool (!Op.bytesLess b a)):=by
 simp only [A0,i04,b0B]
@[simp] theorem s09 (t:TypeId) (lit:Bool) (a b:Txt):A0 P .gtr t lit (.str a) (.str b)=.ok (.bool (Op.bytesLess b a)):=by
 simp only [A0,i04,b0B,Bool.not_not]
@[simp] theorem t0a (t:TypeId) (lit:Bool) (a b:Txt):A0 P .geq t lit (.str a) (.str b)=.ok (.bool (!Op.bytesLess a b)):=nr rfl
@[simp] theorem AV.cells_ptr (id off:Nat):(AV.ptr id off).cells=[.ptr id off]:=nr rfl
@[simp] theorem AV.cells_nilp:AV.nilp.cells=[.nilp]:=nr rfl
@[simp] theorem AV.cells_map (id:Nat):(AV.map id).cells=[.map id]:=nr rfl
@[simp] theorem AV.cells_nilm:AV.nilm.cells=[.nilm]:=nr rfl
@[simp] theorem AV.cells_nili:AV.nili.cells=[.nili]:=nr rfl
@[simp] theorem AV.cells_iface (t:TypeId) (v:AV):(AV.iface t v).cells=[.iface t v]:=nr rfl
@[simp] theorem AV.cells_func (f:Fn) (a b:List AV):(AV.func f a b).cells=[.func f a b]:=nr rfl
@[simp] theorem AV.scalar_nilp:AV.nilp.scalar=true:=nr rfl
@[simp] theorem AV.scalar_map (id:Nat):(AV.map id).scalar=true:=nr rfl
@[simp] theorem AV.scalar_nilm:AV.nilm.scalar=true:=nr rfl
@[simp] theorem AV.scalar_iface (t:TypeId) (v:AV):(AV.iface t v).scalar=true:=nr rfl
@[simp] theorem AV.scalar_nili:AV.nili.scalar=true:=nr rfl
theorem K0 {α:Type} {f:α→List AV} {es:Nat}:∀ (l:List α),(∀ x ∈ l,(f x).length=es)→(l.flatMap f).length=l.length*es
 | [],_=>by simp
 | x::l,h=>by
  rw [List.flatMap_cons,List.length_append,K0 l fun y hy=>h y (List.mem_cons_of_mem _ hy),h x (by simp),List.length_cons,Nat.add_mul,Nat.one_mul,Nat.add_comm]
theorem i0i {α:Type} {f:α→List AV} {es:Nat}:∀ (l:List α) (_:∀ x ∈ l,(f x).length=es) (i:Nat) (x:α),l[i]? = some x→((l.flatMap f).drop (i*es)).take es=f x
 | [],_,i,x,e=>by simp at e
 | y::l,h,i,x,e=>by
  have hy:=h y (by simp)
  cases i with
  | zero =>
   simp at e;subst e
   rw [List.flatMap_cons,Nat.zero_mul,List.drop_zero,List.take_append_of_le_length (by omega),List.take_of_length_le (by omega)]
  | succ i =>
   rw [List.flatMap_cons,Nat.add_mul,Nat.one_mul,Nat.add_comm,← List.drop_drop,← hy,List.drop_left,hy]
   exact i0i l (fun z hz=>h z (List.mem_cons_of_mem _ hz)) i x (by simpa using e)
theorem c0Y {α:Type} {f:α→List AV} {es:Nat}:∀ (l:List α) (_:∀ x ∈ l,(f x).length=es) (i:Nat),(l.flatMap f).take (i*es)=(l.take i).flatMap f
 | [],_,i=>by simp
 | y::l,h,0=>by simp
 | y::l,h,i+1=>by
  have hy:=h y (by simp)
  rw [List.flatMap_cons,Nat.add_mul,Nat.one_mul,List.take_succ_cons,List.flatMap_cons,List.take_append,hy,List.take_of_length_le (by omega),
   show i*es+es - es=i*es from by omega,c0Y l (fun z hz=>h z (List.mem_cons_of_mem _ hz)) i]
theorem f0Q {α:Type} {f:α→List AV} {es:Nat}:∀ (l:List α) (_:∀ x ∈ l,(f x).length=es) (i:Nat),(l.flatMap f).drop (i*es)=(l.drop i).flatMap f
 | [],_,i=>by simp
 | y::l,h,0=>by simp
 | y::l,h,i+1=>by
  have hy:=h y (by simp)
  rw [List.flatMap_cons,Nat.add_mul,Nat.one_mul,Nat.add_comm,← List.drop_drop,← hy,List.drop_left,hy,List.drop_succ_cons]
  exact f0Q l (fun z hz=>h z (List.mem_cons_of_mem _ hz)) i
theorem Sl.elem {α:Type} {f:α→List AV} {es n:Nat} {v:AV} {l:List α} (s:Sl h es n v (l.flatMap f)) (hf:∀ x ∈ l,(f x).length=es) (hes:0<es) {k:IntKind} {i:Int} {j:Nat} (hi:i=j) {x:α} (hx:l[j]? = some x) :
  ∃ id o,I3 es v (.int k i)=.ok (.ptr id o)∧loadN h id o es=.ok (f x)∧(∀ c y,(f x)[c]? = some y→load1 h id (o+c)=.ok y)∧id<h.next:=by
 have hl:=K0 l hf
 have hn:l.length=n:=by
  have:=s.1
  rw [hl] at this
  exact Nat.eq_of_mul_eq_mul_right hes this
 have hjl:j<l.length:=(List.getElem?_eq_some_iff.1 hx).1
 obtain ⟨id,o,h1,h2,h3⟩:=s.get (k:=k) hi (show j<n by omega)
 have hat:=i0i l hf j x hx
 refine ⟨id,o,h1,by rw [h3,hat],fun c y hy=>?_,?_⟩
 ·have hc:c<es:=by rw [← hf x (List.mem_of_getElem? hx)];exact (List.getElem?_eq_some_iff.1 hy).1
  rw [h2 c hc,← hat,List.getElem?_take_of_lt hc,List.getElem?_drop] at *
  rw [hy];rfl
 ·unfold loadN at h3
  split at h3
  ·rename_i vs ro hg
   rcases s.2 with ⟨rfl,rfl⟩ | ⟨id',off,cap,x',vs',ro',rfl,e2,_⟩
   ·omega
   ·subst hi
    rw [a0i _ _ _ _ _ _ _ _ ⟨by omega,by omega⟩] at h1
    cases h1
    exact e2
  ·cases h3
@[simp] theorem K1 {n:Nat} {z l:List AV} (hz:z.length=n) (hl:l.length=n) (hs:i5 l=true):T6 n (.ptr h.next 0) (.agg l) (h.push (.cells z false))=a0a (.ok (h.push (.cells l false))):=by
 rw [Y5 _ _ _ _ hl]
 cases l with
 | nil =>
  have:z=[]:=List.length_eq_zero_iff.1 (by simpa [hz] using hl.symm)
  subst this;rfl
 | cons x l =>
  rw [n0E (b9 _) (by rw [hz,hl]) hs,AH.set_push]
end
end Go.Dr
