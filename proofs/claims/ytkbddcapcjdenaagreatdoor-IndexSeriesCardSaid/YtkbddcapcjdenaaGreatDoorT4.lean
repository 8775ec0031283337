/-
  Texts joined.
-/
import Derived.Test.YtkbddcapcjdenaaGreatDoorT2
import Derived.Test.YtkbddcapcjdenaaGreatDoorT3
import Derived.ProofKit
import Derived.Sort.OwnSortedInts
import Derived.Test.YtkbddcapcjdenaaGreatDoorRows
import Derived.Shelf.SlSortCmp.WholeK

namespace Go.Dr
inductive DC where
 | skip
 | ops (l:List CEnt)
 | drawn (l:List CEnt)
 | seq (x y:DC)
 | cond (c:CO) (x y:DC)
 | block (id:Nat) (c:DC)
 | loop (c:DC)
 | exit (id:Nat)
 | ret
 | go (n:Nat) (f:CO) (params:Array Tmp) (assign body:Code)
 deriving Inhabited
structure DF where
 n:Nat
 res:List CRes
 c:DC
 deriving Inhabited
section
variable (P:Program)
def U8:COp→Option CO
 | .next it false=>some it
 | _=>none
def p0J (o:Oper) (c:COp):Bool :=
 match l0V o.op with
 | some _=>true
 | none=>match U8 c with | some _=>false | none=>true
def g0Q (n:Nat) (rd:Bool) (ops:Array Oper):List Oper→R (List CEnt)
 | []=>.ok []
 | o::l=>match i0u P n rd ops o with
  | .ok r=>bif p0J o r.c then match g0Q n rd ops l with
   | .ok l=>.ok (.row r::l)
   | .error e=>.error e
   else .error "row: next"
  | .error e=>.error e
def Y0 (n:Nat) (rd:Bool):Code→R DC
 | .skip=>.ok .skip
 | .label _=>.ok .skip
 | .region _ ops draw=>bif draw then (match y08 P ops with
   | .ok l=>match c0J P n rd ops l with | .ok l=>.ok (.drawn l) | .error e=>.error e
   | .error e=>.error e)
  else match g0Q P n rd ops ops.toList with | .ok l=>.ok (.ops l) | .error e=>.error e
 | .seq x y=>match Y0 n rd x with
  | .ok a=>match Y0 n rd y with | .ok b=>.ok (.seq a b) | .error e=>.error e
  | .error e=>.error e
 | .cond c x y=>match cO P c with
  | .ok c=>match Y0 n rd x with
   | .ok a=>match Y0 n rd y with | .ok b=>.ok (.cond c a b) | .error e=>.error e
   | .error e=>.error e
  | .error e=>.error e
 | .block id c=>match Y0 n rd c with | .ok a=>.ok (.block id a) | .error e=>.error e
 | .loop c=>match Y0 n rd c with | .ok a=>.ok (.loop a) | .error e=>.error e
 | .exit id=>.ok (.exit id)
 | .ret=>.ok .ret
 | .scope c=>Y0 n rd c
 | .rangeFunc f params assign body=>match cO P f with
  | .ok f=>bif rd then .error "rangeFunc in a round" else .ok (.go n f params assign body)
  | .error e=>.error e
 | .goto _=>.error "goto"
 | .refuse why=>.error why
def d0a (f:FuncId):R DF :=
 match P.funcs[f]? with
 | some fn=>match fn.body with
  | some c=>match Y0 P fn.ntmps false c with
   | .ok cc=>match c0g P fn.results.toList with
    | .ok r=>.ok ⟨fn.ntmps,r,cc⟩
    | .error e=>.error e
   | .error e=>.error e
  | none=>.error "no body"
 | none=>.error "no function"
end
section
variable (P:Program) (S:h0b)
def clN (N:Nat):K5:=D4 P S N N
def EvN (t:Tgt) (args:List AV) (h:AH) (K:AV→AH→Prop):Prop:=∃ N l,clN P S N t args h=.ok l∧∀ x ∈ l,K x.1 x.2
def wqR (r:RN) (K:AV→AH→Prop) (D:ADef→AH→Prop):Prop :=
 match r with
 | .ok (n,h)=>match n with
  | .value v=>K v h
  | .skip=>K o8 h
  | .enter f args=>EvN P S (.fn f) args h K
  | .yield l args=>EvN P S (.yield l) args h K
  | .defer d=>D d h
 | .error _=>False
def p0K (r:RL (AV×AH)) (K:AV→AH→Prop):Prop :=
 match r with
 | .ok l=>∀ x ∈ l,K x.1 x.2
 | .error _=>False
def wqE (c:COp) (σ:Sg) (h:AH) (K:AV→AH→Prop) (D:ADef→AH→Prop):Prop :=
 match U8 c with
 | some it=>p0K (i0y h (it.evS σ)) K
 | none=>wqR P S (evS P c σ h) K D
def N6:List CEnt→G9→Sg→List ADef→AH→Prop
 | [],Q,σ,ds,h=>Q .normal σ ds h
 | .row r::l,Q,σ,ds,h=>match r.g with
  | none=>wqE P S r.c σ h (fun v h=>N6 l Q (upd σ r.d v) ds h) (fun df h=>N6 l Q (upd σ r.d o8) (df::ds) h)
  | some (t,w)=>h0c (σ t) w (wqE P S r.c σ h (fun v h=>N6 l Q (upd σ r.d v) ds h) (fun df h=>N6 l Q (upd σ r.d o8) (df::ds) h))
    (N6 l Q (upd σ r.d o8) ds h)
 | .stage _::_,_,_,_,_=>False
def y00 (f:AV) (n:Nat) (params:Array Tmp) (assign body:Code) (Q:G9) (σ:Sg) (ds:List ADef) (h:AH):Prop :=
 match f with
 | .func (.func g) first captured=>∀ tmps:PT AV,(∀ i,l0N tmps i=σ i) →
   EvN P S (.fn g) (first++(.func (.yield (h.next+1)) [] []::captured))
    ((h.push (.deferred (some []))).push (.loop { state:=.ready,pending:=none,n:=n,tmps:=tmps,params,assign,body })) (Kgo Q σ ds h.next)
 | _=>False
def wqC:DC→G9→Sg→List ADef→AH→Prop
 | .skip,Q,σ,ds,h=>Q .normal σ ds h
 | .ops l,Q,σ,ds,h=>N6 P S l Q σ ds h
 | .drawn l,Q,σ,ds,h=>D2 P S l Q σ ds h
 | .seq x y,Q,σ,ds,h=>wqC x (fun r σ ds h=>match r with | .normal=>wqC y Q σ ds h | r=>Q r σ ds h) σ ds h
 | .cond c x y,Q,σ,ds,h=>wpG (c.evS σ) true (wqC x Q σ ds h) (wqC y Q σ ds h)
 | .block id c,Q,σ,ds,h=>wqC c (l0M id Q) σ ds h
 | .loop c,Q,σ,ds,h=>∃ (I:Inv) (k:Nat),I k σ ds h∧∀ k σ ds h,I k σ ds h→wqC c (h0j I k Q) σ ds h
 | .exit id,Q,σ,ds,h=>Q (.exit id) σ ds h
 | .ret,Q,σ,ds,h=>Q .ret σ ds h
 | .go n f params assign body,Q,σ,ds,h=>y00 P S (f.evS σ) n params assign body Q σ ds h
def u0k (y:DC) (Q:G9):G9:=fun r σ ds h=>match r with | .normal=>wqC P S y Q σ ds h | r=>Q r σ ds h
end
section
variable {P:Program} {S:h0b}
theorem L8 {N N':Nat} (h:N≤N'):N0 (clN P S N) (clN P S N'):=X6 h h
theorem EvN.mono {t:Tgt} {args:List AV} {h:AH} {K K':AV→AH→Prop} (e:EvN P S t args h K) (hk:∀ v h',K v h'→K' v h'):EvN P S t args h K':=by
 obtain ⟨N,l,e,k⟩:=e
 exact ⟨N,l,e,fun x hx=>hk _ _ (k x hx)⟩
theorem Y9 {α β:Type} {f:Nat→α→RL β} (hm:∀ N N',N≤N'→∀ x r,f N x=.ok r→f N' x=.ok r) {Φ:β→Prop}:∀ (l:List α),(∀ x ∈ l,∃ N r,f N x=.ok r∧∀ y ∈ r,Φ y) →
  ∃ N r,a0G (f N) l=.ok r∧∀ y ∈ r,Φ y
 | [],_=>⟨0,[],rfl,fun y hy=>by cases hy⟩
 | x::l,h=>by
  obtain ⟨N1,r1,e1,k1⟩:=h x (by simp)
  obtain ⟨N2,r2,e2,k2⟩:=Y9 hm l fun y hy=>h y (List.mem_cons_of_mem _ hy)
  refine ⟨max N1 N2,r1++r2,?_,fun y hy=>?_⟩
  ·simp only [a0G,hm _ _ (Nat.le_max_left N1 N2) _ _ e1,E6 (hm _ _ (Nat.le_max_right N1 N2)) e2]
  ·rcases List.mem_append.1 hy with hy | hy
   ·exact k1 y hy
   ·exact k2 y hy
def z0U (n:Nat) (rd:Bool) (o:Oper) (a:AAct) (K:AV→AH→Prop) (D:ADef→AH→Prop) (x:AAct×AH):Prop :=
 Keep n rd x.1∧((∃ v,x.1.val=upd a.val o.dst v∧x.1.ds=a.ds∧K v x.2)∨(∃ df,x.1.val=upd a.val o.dst o8∧x.1.ds=df::a.ds∧D df x.2))
theorem x0e {n:Nat} {rd:Bool} {o:Oper} {c:COp} {a:AAct} {h:AH} {K:AV→AH→Prop} {D:ADef→AH→Prop} (hc':c=e05 P o) (hk:Keep n rd a) (hd:k0q n o.dst=true)
  (hrd:rd=true→c.isDefer=false) (hag:p0J o c=true) (hw:wqE P S c a.val h K D) :
  ∃ N r,b0z P (clN P S N) o a h=.ok r∧∀ x ∈ r,z0U n rd o a K D x:=by
 have hd':k0q a.n o.dst=true:=by rw [hk.n];exact hd
 have hval:∀ v,(a.put o.dst v).val=upd a.val o.dst v:=fun v=>a.put_val _ _ hd'
 have hds:∀ v,(a.put o.dst v).ds=a.ds:=fun v=>(a.put_same _ _).2.1
 have aft:∀ v h',K v h'→z0U n rd o a K D (h0d a o.dst (v,h')):=fun v h' k=>by
  simp only [h0d,t7]
  exact ⟨hk.put _ _,.inl ⟨v,hval v,hds v,k⟩⟩
 have hstuck:∀ c',c'=t04→U8 c'=none→¬ wqR P S (evS P c' a.val h) K D:=by
  rintro _ rfl _ hw
  exact hw.elim
 unfold b0z
 cases hno:l0V o.op with
 | some x =>
  have hop:=j0F hno
  have hcomp:comp P o=J1 P x fun a=>.ok (.next a false):=by simp only [comp,hop]
  simp only
  unfold e05 at hc'
  rw [hcomp] at hc'
  unfold J1 at hc'
  cases hx:cO P x with
  | error e =>
   rw [hx] at hc'
   simp only at hc'
   subst hc'
   exact hw.elim
  | ok ca =>
   rw [hx] at hc'
   simp only at hc'
   subst hc'
   simp only [wqE,U8] at hw
   simp only [l0p,CO.ev_eq]
   unfold p0K at hw
   split at hw
   ·rename_i l hl
    simp only [hl]
    refine ⟨0,_,rfl,fun y hy=>?_⟩
    obtain ⟨z,hz,rfl⟩:=List.mem_map.1 hy
    exact aft _ _ (hw z hz)
   ·exact hw.elim
 | none =>
  unfold p0J at hag
  rw [hno] at hag
  simp only at hag
  unfold wqE at hw
  split at hw
  ·rename_i it hit;rw [hit] at hag;cases hag
  ·simp only
   have hc:comp P o=.ok c:=by
    unfold e05 at hc'
    split at hc'
    ·rename_i c1 e;rw [e,hc']
    ·subst hc';exact hw.elim
   simp only [hc,s0O]
   generalize hres:evS P c a.val h=res at hw
   unfold wqR at hw
   unfold s0T
   cases res with
   | error e=>exact hw.elim
   | ok p =>
    obtain ⟨m,h1⟩:=p
    cases m with
    | value v=>exact ⟨0,_,rfl,fun x hx=>by rw [List.mem_singleton.1 hx];exact aft _ _ hw⟩
    | skip=>exact ⟨0,_,rfl,fun x hx=>by rw [List.mem_singleton.1 hx];exact ⟨hk.put _ _,.inl ⟨_,hval _,hds _,hw⟩⟩⟩
    | enter f args =>
     obtain ⟨N,l,e,k⟩:=hw
     refine ⟨N,l.map (h0d a o.dst),by simp only [e],fun x hx=>?_⟩
     obtain ⟨z,hz,rfl⟩:=List.mem_map.1 hx
     exact aft _ _ (k z hz)
    | yield f args =>
     obtain ⟨N,l,e,k⟩:=hw
     refine ⟨N,l.map (h0d a o.dst),by simp only [e],fun x hx=>?_⟩
     obtain ⟨z,hz,rfl⟩:=List.mem_map.1 hx
     exact aft _ _ (k z hz)
    | defer d =>
     have hr:a.rd=false:=by
      cases e:a.rd with
      | false=>rfl
      | true =>
       have:=hrd (hk.rd.symm.trans e)
       rw [l0O hres] at this
       cases this
     refine ⟨0,[((⟨a.n,a.ts,d::a.ds,a.rd⟩:AAct).put o.dst o8,h1)],by simp only [hr,cond_false],fun x hx=>?_⟩
     rw [List.mem_singleton.1 hx]
     refine ⟨Keep.put (a:=⟨a.n,a.ts,d::a.ds,a.rd⟩) ⟨hk.n,hk.rd⟩ _ _,.inr ⟨d,?_,?_,hw⟩⟩
     ·exact AAct.put_val ⟨a.n,a.ts,d::a.ds,a.rd⟩ o.dst o8 hd'
     ·exact (AAct.put_same _ _ _).2.1
theorem m0w {n:Nat} {rd:Bool} {ops:Array Oper}:∀ (l:List Oper) (l':List CEnt),g0Q P n rd ops l=.ok l'→∀ {Q:G9} {a:AAct} {h:AH},Keep n rd a→N6 P S l' Q a.val a.ds h →
  ∃ N r,a0j P (clN P S N) ops l a h=.ok r∧∀ x ∈ r,Keep n rd x.1∧Q .normal x.1.val x.1.ds x.2
 | [],l',hc,Q,a,h,hk,hw=>by
  cases hc
  exact ⟨0,_,rfl,fun x hx=>by rw [List.mem_singleton.1 hx];exact ⟨hk,hw⟩⟩
 | o::l,l',hc,Q,a,h,hk,hw=>by
  simp only [g0Q] at hc
  split at hc
  ·rename_i r hr
   cases hag:p0J o r.c with
   | false=>rw [hag] at hc;cases hc
   | true =>
    rw [hag] at hc
    simp only [cond_true] at hc
    split at hc
    ·rename_i l2 hl2
     cases hc
     obtain ⟨h1,h2,h3,h4,h5⟩:=h0H hr
     have goOn:wqE P S r.c a.val h (fun v h=>N6 P S l2 Q (upd a.val r.d v) a.ds h) (fun df h=>N6 P S l2 Q (upd a.val r.d o8) (df::a.ds) h)→v7 ops o a=.ok true →
       ∃ N s,a0j P (clN P S N) ops (o::l) a h=.ok s∧∀ x ∈ s,Keep n rd x.1∧Q .normal x.1.val x.1.ds x.2:=by
      intro hw hwant
      rw [h3] at hw
      obtain ⟨N1,s1,e1,k1⟩:=x0e h1 hk h4 h5 hag hw
      obtain ⟨N2,s2,e2,k2⟩:=Y9 (f:=fun N (x:AAct×AH)=>a0j P (clN P S N) ops l x.1 x.2) (fun N N' hn x r hr=>b0K (L8 hn) l hr)
       (Φ:=fun x=>Keep n rd x.1∧Q .normal x.1.val x.1.ds x.2) s1 fun x hx=>by
        obtain ⟨b1,b2⟩:=k1 x hx
        refine m0w l l2 hl2 b1 ?_
        rcases b2 with ⟨v,c1,c2,c3⟩ | ⟨df,c1,c2,c3⟩
        ·rw [c1,c2];exact c3
        ·rw [c1,c2];exact c3
      refine ⟨max N1 N2,s2,?_,k2⟩
      simp only [a0j,hwant,i0A (L8 (Nat.le_max_left N1 N2)) e1]
      exact E6 (fun x r hr=>b0K (L8 (Nat.le_max_right N1 N2)) l hr) e2
     rcases c0h (a:=a) h2 with ⟨g,hwant⟩ | ⟨t,w,g,hwant⟩
     ·simp only [N6,g] at hw
      exact goOn hw hwant
     ·simp only [N6,g] at hw
      rcases e06 hw with ⟨b,hb,hbw,hw⟩ | ⟨hno,hw⟩
      ·rw [hb] at hwant
       exact goOn hw (by rw [hwant];simp [gw,hbw])
      ·rw [h3] at hw
       have hv:=AAct.put_val a o.dst o8 (by rw [hk.n];exact h4)
       have hd:=(a.put_same o.dst o8).2.1
       obtain ⟨N2,s2,e2,k2⟩:=m0w l l2 hl2 (hk.put o.dst o8) (by rw [hv,hd];exact hw)
       refine ⟨N2,s2,?_,k2⟩
       simp only [a0j,hwant.trans hno]
       exact e2
    ·cases hc
  ·cases hc
abbrev t0h (n:Nat) (rd:Bool) (Q:G9) (y:AX×AAct×AH):Prop:=∃ x:WX,y.1=x.ax∧Keep n rd y.2.1∧Q x y.2.1.val y.2.1.ds y.2.2
theorem x0f {n:Nat} {rd:Bool} {c:Code} {cc:DC}
  (ih:∀ {Q:G9} {a:AAct} {h:AH},Keep n rd a→wqC P S cc Q a.val a.ds h→∃ N r,l9 P (clN P S N) N c a h=.ok r∧∀ y ∈ r,t0h n rd Q y)
  {I:Inv} {Q:G9} (hI:∀ k σ ds h,I k σ ds h→wqC P S cc (h0j I k Q) σ ds h):∀ (k:Nat) (a:AAct) (h:AH),Keep n rd a→I k a.val a.ds h →
  ∃ N r,(∀ lf,N≤lf→a0b (l9 P (clN P S lf) lf c) lf a h=.ok r)∧∀ y ∈ r,t0h n rd Q y:=by
 intro k
 induction k using Nat.strongRecOn with
 | _ k ihk =>
  intro a h hk hi
  obtain ⟨N,r,e,hr⟩:=ih hk (hI k _ _ _ hi)
  have hbody:∀ lf,N≤lf→l9 P (clN P S lf) lf c a h=.ok r:=fun lf hl=>s9 (L8 hl) hl _ e
  obtain ⟨N2,s,e2,hs⟩:=Y9 (α:=AX×AAct×AH) (f:=fun N (x:AX×AAct×AH)=>match x.1 with | .normal=>a0b (l9 P (clN P S N) N c) N x.2.1 x.2.2 | _=>.ok [x])
   (fun N N' hn x r hr=>by
    split at hr
    ·exact c0k (fun a h r hr=>s9 (L8 hn) hn _ hr) hn hr
    ·exact hr) (Φ:=t0h n rd Q) r fun y hy=>by
     obtain ⟨x,b1,b2,b3⟩:=hr y hy
     cases x with
     | normal =>
      obtain ⟨k',hlt,hi'⟩:=b3
      obtain ⟨N3,s3,e3,h3⟩:=ihk k' hlt _ _ b2 hi'
      refine ⟨N3,s3,?_,h3⟩
      rw [b1]
      exact e3 N3 (Nat.le_refl _)
     | exit i=>exact ⟨0,[y],by rw [b1];rfl,fun z hz=>by rw [List.mem_singleton.1 hz];exact ⟨.exit i,b1,b2,b3⟩⟩
     | ret=>exact ⟨0,[y],by rw [b1];rfl,fun z hz=>by rw [List.mem_singleton.1 hz];exact ⟨.ret,b1,b2,b3⟩⟩
  refine ⟨max N N2+1,s,fun lf hl=>?_,hs⟩
  obtain ⟨m,rfl⟩:∃ m,lf=m+1:=⟨lf - 1,by omega⟩
  simp only [a0b]
  rw [hbody (m+1) (by omega)]
  have h2:N2≤m:=by omega
  refine E6 (fun x r hr=>?_) e2
  obtain ⟨x1,x2⟩:=x
  cases x1 with
  | normal=>exact c0k (fun a h r hr=>s9 (L8 (Nat.le_succ_of_le h2)) (Nat.le_succ_of_le h2) _ hr) h2 hr
  | _=>exact hr
theorem Z0 {n:Nat} {rd:Bool}:∀ (c:Code) (cc:DC),Y0 P n rd c=.ok cc→∀ {Q:G9} {a:AAct} {h:AH},Keep n rd a→wqC P S cc Q a.val a.ds h →
  ∃ N r,l9 P (clN P S N) N c a h=.ok r∧∀ y ∈ r,t0h n rd Q y
 | .skip,cc,hc,Q,a,h,hk,hw=>by cases hc;exact ⟨0,_,rfl,fun y hy=>by rw [List.mem_singleton.1 hy];exact ⟨.normal,rfl,hk,hw⟩⟩
 | .label _,cc,hc,Q,a,h,hk,hw=>by cases hc;exact ⟨0,_,rfl,fun y hy=>by rw [List.mem_singleton.1 hy];exact ⟨.normal,rfl,hk,hw⟩⟩
 | .region _ ops draw,cc,hc,Q,a,h,hk,hw=>by
  simp only [Y0] at hc
  cases draw with
  | true =>
   simp only [cond_true] at hc
   split at hc
   ·rename_i l hl
    split at hc
    ·rename_i l2 hl2
     cases hc
     obtain ⟨N,a',h',e,k,q⟩:=i0x l l2 hl2 hk hw
     refine ⟨N,[(.normal,a',h')],?_,fun y hy=>by rw [List.mem_singleton.1 hy];exact ⟨.normal,rfl,k,q⟩⟩
     have:d0g P (cl P S N) ops a h=.ok (a',h'):=by simp only [d0g,hl,e]
     simp only [l9,d0O (DSub.one (m0X (S:=S) (lf:=N) (n:=N))) this,clN]
    ·cases hc
   ·cases hc
  | false =>
   simp only [cond_false] at hc
   split at hc
   ·rename_i l hl
    cases hc
    obtain ⟨N,r,e,k⟩:=m0w _ l hl hk hw
    refine ⟨N,r.map fun x=>(.normal,x.1,x.2),by simp only [l9,e],fun y hy=>?_⟩
    obtain ⟨z,hz,rfl⟩:=List.mem_map.1 hy
    exact ⟨.normal,rfl,k z hz⟩
   ·cases hc
 | .seq x y,cc,hc,Q,a,h,hk,hw=>by
  simp only [Y0] at hc
  split at hc
  ·rename_i c1 hx
   split at hc
   ·rename_i c2 hy
    cases hc
    simp only [wqC] at hw
    obtain ⟨N1,r1,e1,k1⟩:=Z0 x c1 hx hk hw
    obtain ⟨N2,r2,e2,k2⟩:=Y9 (α:=AX×AAct×AH) (f:=fun N (x:AX×AAct×AH)=>match x.1 with | .normal=>l9 P (clN P S N) N y x.2.1 x.2.2 | _=>.ok [x])
     (fun N N' hn x r hr=>by
      split at hr
      ·exact s9 (L8 hn) hn _ hr
      ·exact hr) (Φ:=t0h n rd Q) r1 fun z hz=>by
       obtain ⟨q,b1,b2,b3⟩:=k1 z hz
       cases q with
       | normal =>
        obtain ⟨N3,r3,e3,k3⟩:=Z0 y c2 hy b2 b3
        exact ⟨N3,r3,by rw [b1];exact e3,k3⟩
       | exit i=>exact ⟨0,[z],by rw [b1];rfl,fun u hu=>by rw [List.mem_singleton.1 hu];exact ⟨.exit i,b1,b2,b3⟩⟩
       | ret=>exact ⟨0,[z],by rw [b1];rfl,fun u hu=>by rw [List.mem_singleton.1 hu];exact ⟨.ret,b1,b2,b3⟩⟩
    refine ⟨max N1 N2,r2,?_,k2⟩
    simp only [l9]
    rw [s9 (L8 (Nat.le_max_left N1 N2)) (Nat.le_max_left N1 N2) _ e1]
    refine E6 (fun x r hr=>?_) e2
    obtain ⟨x1,x2⟩:=x
    cases x1 with
    | normal=>exact s9 (L8 (Nat.le_max_right N1 N2)) (Nat.le_max_right N1 N2) _ hr
    | _=>exact hr
   ·cases hc
  ·cases hc
 | .cond c x y,cc,hc,Q,a,h,hk,hw=>by
  simp only [Y0] at hc
  split at hc
  ·rename_i c1 hc1
   split at hc
   ·rename_i c2 hx
    split at hc
    ·rename_i c3 hy
     cases hc
     simp only [wqC,wpG] at hw
     split at hw
     ·rename_i b hb
      cases b with
      | true =>
       simp only [if_pos] at hw
       obtain ⟨N,r,e1,k1⟩:=Z0 x c2 hx hk hw
       exact ⟨N,r,by simp only [l9,hc1,CO.ev_eq,hb];exact e1,k1⟩
      | false =>
       simp only [Bool.false_eq_true,if_false] at hw
       obtain ⟨N,r,e1,k1⟩:=Z0 y c3 hy hk hw
       exact ⟨N,r,by simp only [l9,hc1,CO.ev_eq,hb];exact e1,k1⟩
     ·exact hw.elim
    ·cases hc
   ·cases hc
  ·cases hc
 | .block id c,cc,hc,Q,a,h,hk,hw=>by
  simp only [Y0] at hc
  split at hc
  ·rename_i c1 hc1
   cases hc
   obtain ⟨N,r,e1,k1⟩:=Z0 c c1 hc1 hk hw
   refine ⟨N,r.map fun x=>match x.1 with | .exit i=>bif Nat.beq i id then (.normal,x.2.1,x.2.2) else x | _=>x,by simp only [l9,e1];rfl,fun y hy=>?_⟩
   obtain ⟨z,hz,rfl⟩:=List.mem_map.1 hy
   obtain ⟨x,b1,b2,b3⟩:=k1 z hz
   cases x with
   | normal=>rw [b1];exact ⟨.normal,b1,b2,b3⟩
   | ret=>rw [b1];exact ⟨.ret,b1,b2,b3⟩
   | exit i =>
    rw [b1]
    simp only [WX.ax,l0M] at b3 ⊢
    by_cases hi:i=id
    ·rw [if_pos hi] at b3
     simp only [PT.beqT hi,cond_true]
     exact ⟨.normal,rfl,b2,b3⟩
    ·rw [if_neg hi] at b3
     simp only [PT.beqF hi,cond_false]
     exact ⟨.exit i,b1,b2,b3⟩
  ·cases hc
 | .loop c,cc,hc,Q,a,h,hk,hw=>by
  simp only [Y0] at hc
  split at hc
  ·rename_i c1 hc1
   cases hc
   obtain ⟨I,k,hi,hI⟩:=hw
   obtain ⟨N,r,e,hr⟩:=x0f (fun hk hw=>Z0 c c1 hc1 hk hw) hI k a h hk hi
   exact ⟨N,r,by simp only [l9];exact e N (Nat.le_refl _),hr⟩
  ·cases hc
 | .exit id,cc,hc,Q,a,h,hk,hw=>by cases hc;exact ⟨0,_,rfl,fun y hy=>by rw [List.mem_singleton.1 hy];exact ⟨.exit id,rfl,hk,hw⟩⟩
 | .ret,cc,hc,Q,a,h,hk,hw=>by cases hc;exact ⟨0,_,rfl,fun y hy=>by rw [List.mem_singleton.1 hy];exact ⟨.ret,rfl,hk,hw⟩⟩
 | .scope c,cc,hc,Q,a,h,hk,hw=>by
  obtain ⟨N,r,e,k⟩:=Z0 c cc hc hk hw
  exact ⟨N,r,by simp only [l9,e],k⟩
 | .rangeFunc f params assign body,cc,hc,Q,a,h,hk,hw=>by
  simp only [Y0] at hc
  split at hc
  ·rename_i f1 hf
   cases rd with
   | true=>cases hc
   | false =>
    cases hc
    simp only [wqC,y00] at hw
    split at hw
    ·rename_i g first captured hfe
     obtain ⟨N,l,e,kl⟩:=hw a.ts (fun i=>rfl)
     rw [← hk.n] at e
     obtain ⟨N2,r2,e2,k2⟩:=Y9 (f:=fun _ (x:AV×AH)=>l0W (h0k h.next a x.2)) (fun _ _ _ x r hr=>hr) (Φ:=t0h n false Q) l fun x hx=>by
      obtain ⟨r,hr,hst,hp⟩:=kl x hx
      have key:∀ q:WX,l0W (h0k h.next a x.2)=.ok [(q.ax,⟨a.n,a.ts,.collected h.next::a.ds,a.rd⟩,x.2.set (h.next+1) (.loop { r with state:=.exhausted }))] →
        Q q a.val (.collected h.next::a.ds) (x.2.set (h.next+1) (.loop { r with state:=.exhausted }))→∃ (_:Nat) (r:List (AX×AAct×AH)),l0W (h0k h.next a x.2)=.ok r∧∀ y ∈ r,t0h n false Q y:=by
       intro q h1 h2
       exact ⟨0,_,h1,fun y hy=>by rw [List.mem_singleton.1 hy];exact ⟨q,rfl,⟨hk.n,hk.rd⟩,h2⟩⟩
      split at hp
      ·rename_i hpe;refine key .normal ?_ hp;unfold h0k;simp only [hr,hpe];cases hst':r.state <;> first | exact absurd hst' hst | rfl
      ·rename_i hpe;refine key .ret ?_ hp;unfold h0k;simp only [hr,hpe];cases hst':r.state <;> first | exact absurd hst' hst | rfl
      ·rename_i id hpe;refine key (.exit id) ?_ hp;unfold h0k;simp only [hr,hpe];cases hst':r.state <;> first | exact absurd hst' hst | rfl
      ·exact hp.elim
     refine ⟨N,r2,?_,k2⟩
     simp only [l9,hf,CO.ev_eq,hfe,i0z,hk.rd,cond_false,u7,e]
     exact e2
    ·exact hw.elim
  ·cases hc
 | .goto _,cc,hc,Q,a,h,hk,hw=>by cases hc
 | .refuse _,cc,hc,Q,a,h,hk,hw=>by cases hc
variable (P S) in
def c0p:List ADef→AH→(AH→Prop)→Prop
 | [],h,K=>K h
 | .collected id::l,h,K=>h.get id=some (.deferred (some []))∧c0p l (h.set id (.deferred none)) K
 | .call fn captured args::l,h,K=>∃ f args' h1,b0a fn captured args h=.ok (.enter f args',h1)∧S f=none∧EvN P S (.fn f) args' h1 fun _ h2=>c0p l h2 K
theorem h0S:∀ (ds:List ADef) (h:AH) (K:AH→Prop),c0p P S ds h K→∃ N r,D5 (a0k S (clN P S N)) ds h=.ok r∧∀ h' ∈ r,K h'
 | [],h,K,hk=>⟨0,[h],rfl,fun h' hh=>by rw [List.mem_singleton.1 hh];exact hk⟩
 | .collected id::l,h,K,hk=>by
  obtain ⟨N,r,e,k⟩:=h0S l _ K hk.2
  exact ⟨N,r,by simp only [D5,hk.1,e],k⟩
 | .call fn captured args::l,h,K,hk=>by
  obtain ⟨f,args',h1,e1,hS,N1,r1,e2,hk⟩:=hk
  obtain ⟨N2,r2,e3,k⟩:=Y9 (f:=fun N (x:AV×AH)=>D5 (a0k S (clN P S N)) l x.2) (fun N N' hn x r hr=>C3 (V4 (L8 hn)) l hr) (Φ:=K) r1 fun x hx=>h0S l x.2 K (hk x hx)
  refine ⟨max N1 N2,r2,?_,k⟩
  have e4:a0k S (clN P S (max N1 N2)) (.fn f) args' h1=.ok r1:=by
   simp only [a0k,hS,L8 (Nat.le_max_left N1 N2) _ _ _ _ e2]
  simp only [D5,e1,e4]
  exact E6 (fun x r hr=>C3 (V4 (L8 (Nat.le_max_right N1 N2))) l hr) e3
variable (P S) in
def r0q (res:List CRes) (K:AV→AH→Prop):G9:=fun x σ ds h=>match x with
 | .exit _=>False
 | _=>c0p P S ds h fun h=>∃ l,c0K h σ res=.ok l∧K (b0k l) h
theorem v0H {f:FuncId} {cf:DF} (h:d0a P f=.ok cf):∃ fn c,P.funcs[f]? = some fn∧fn.body=some c∧fn.ntmps=cf.n∧Y0 P cf.n false c=.ok cf.c∧c0g P fn.results.toList=.ok cf.res:=by
 unfold d0a at h
 split at h
 ·rename_i fn hf
  split at h
  ·rename_i c hb
   split at h
   ·rename_i cc hcc
    split at h
    ·rename_i r hr
     cases h
     exact ⟨fn,c,hf,hb,rfl,hcc,hr⟩
    ·cases h
   ·cases h
  ·cases h
 ·cases h
theorem e0n {f:FuncId} {cf:DF} {args:List AV} {h:AH} {K:AV→AH→Prop} (hc:d0a P f=.ok cf) (hS:S f=none) (hn:Nat.ble args.length cf.n=true)
  (hw:wqC P S cf.c (r0q P S cf.res K) (l0Q args) [] h):EvN P S (.fn f) args h K:=by
 obtain ⟨fn,c,hf,hb,hnt,hcc,hr⟩:=v0H hc
 have hval:(⟨cf.n,laid args 0 .leaf,[],false⟩:AAct).val=l0Q args:=by
  funext i
  simp only [AAct.val,i0F,Nat.zero_le,true_and,Nat.zero_add,Nat.sub_zero,l0Q]
  by_cases hi:i<args.length
  ·rw [if_pos hi];rfl
  ·rw [if_neg hi,List.getElem?_eq_none (by omega)];rfl
 obtain ⟨N,r,e,k⟩:=Z0 c cf.c hcc (a:=⟨cf.n,laid args 0 .leaf,[],false⟩) ⟨rfl,rfl⟩ (by rw [hval];exact hw)
 obtain ⟨N2,r2,e2,k2⟩:=Y9 (f:=fun N (x:AX×AAct×AH)=>e07 P (a0k S (clN P S N)) fn x) (Φ:=fun x:AV×AH=>K x.1 x.2) (fun N N' hn x r hr=>by
   unfold e07 at hr ⊢
   split at hr
   ·split at hr
    ·rename_i hd;simp only [C3 (V4 (L8 hn)) _ hd];exact hr
    ·cases hr
   ·split at hr
    ·rename_i hd;simp only [C3 (V4 (L8 hn)) _ hd];exact hr
    ·cases hr
   ·cases hr) r fun y hy=>by
    obtain ⟨x,b1,b2,b3⟩:=k y hy
    have main:(x.ax=.normal∨x.ax=.ret)→c0p P S y.2.1.ds y.2.2 (fun h=>∃ l,c0K h y.2.1.val cf.res=.ok l∧K (b0k l) h)→∃ N r,e07 P (a0k S (clN P S N)) fn y=.ok r∧∀ z ∈ r,K z.1 z.2:=by
     intro hx hd
     obtain ⟨N3,r3,e3,k3⟩:=h0S _ _ _ hd
     obtain ⟨_,r4,e4,k4⟩:=Y9 (f:=fun _ h=>match J8 P h y.2.1 fn.results.toList with
      | .ok l=>(.ok [(b0k l,h)]:RL (AV×AH))
      | .error e=>.error (fn.name++": "++e)) (Φ:=fun x:AV×AH=>K x.1 x.2) (fun _ _ _ _ _ hr=>hr) r3 fun h' hh=>by
       obtain ⟨l,hl,hk⟩:=k3 h' hh
       exact ⟨0,[(b0k l,h')],by simp only [l0P _ _ hr l hl],fun z hz=>by rw [List.mem_singleton.1 hz];exact hk⟩
     refine ⟨N3,r4,?_,k4⟩
     unfold e07
     rw [b1]
     rcases hx with hx | hx <;> simp only [hx,e3] <;> exact e4
    cases x with
    | normal=>exact main (.inl rfl) b3
    | ret=>exact main (.inr rfl) b3
    | exit i=>exact b3.elim
 refine ⟨max N N2+1,r2,?_,k2⟩
 have hle:N≤max N N2+1:=Nat.le_trans (Nat.le_max_left N N2) (Nat.le_succ _)
 have hcall:N0 (clN P S N) (D4 P S (max N N2+1) (max N N2)):=X6 hle (Nat.le_max_left N N2)
 have hcall2:N0 (clN P S N2) (D4 P S (max N N2+1) (max N N2)):=X6 (Nat.le_trans (Nat.le_max_right N N2) (Nat.le_succ _)) (Nat.le_max_right N N2)
 unfold clN D4
 simp only [hS,hf,hb,hnt,hn,cond_true]
 rw [s9 hcall hle c e]
 simp only [b0A]
 refine E6 (fun x r hr=>?_) e2
 unfold e07 at hr ⊢
 split at hr
 ·split at hr
  ·rename_i hd;simp only [C3 (V4 hcall2) _ hd];exact hr
  ·cases hr
 ·split at hr
  ·rename_i hd;simp only [C3 (V4 hcall2) _ hd];exact hr
  ·cases hr
 ·cases hr
variable (P S) in
def x0g (l:Nat) (cb:DC) (K:AV→AH→Prop):G9:=fun x σ ds h=>match x with
 | .normal=>∃ q,h.get l=some (.loop q)∧q.state=.ready∧wqC P S cb (y0K l K) σ ds (h.set l (.loop { q with state:=.busy }))
 | _=>False
theorem o0E {l:Nat} {r:ALoop} {ca cb:DC} {args:List AV} {h:AH} {K:AV→AH→Prop} (hg:h.get l=some (.loop r)) (hn:args.length=r.params.size)
  (hp:r.params.toList.all (fun t=>Nat.blt t r.n)=true) (ha:Y0 P r.n true r.assign=.ok ca) (hb:Y0 P r.n true r.body=.ok cb)
  (hw:wqC P S ca (x0g P S l cb K) (u07 r.params.toList args (l0N r.tmps)) [] h):EvN P S (.yield l) args h K:=by
 obtain ⟨h1,h2,h3⟩:=t07 r.params.toList args ⟨r.n,r.tmps,[],true⟩ ⟨rfl,rfl⟩ hp
 have hv:(⟨r.n,r.tmps,[],true⟩:AAct).val=l0N r.tmps:=rfl
 rw [hv] at h1
 obtain ⟨N,s,e,k⟩:=Z0 r.assign ca ha (a:=F9 r.params.toList args ⟨r.n,r.tmps,[],true⟩) h2 (by rw [h1,h3];exact hw)
 have mono:∀ N N',N≤N'→∀ x t,O6 P (clN P S N) N l r x=.ok t→O6 P (clN P S N') N' l r x=.ok t:=by
  intro N N' hn x t hr
  unfold O6 at hr ⊢
  split at hr
  ·split at hr
   ·split at hr
    ·split at hr
     ·rename_i hbody;simp only [s9 (L8 hn) hn _ hbody];exact hr
     ·cases hr
    ·cases hr
   ·cases hr
  ·cases hr
 obtain ⟨N2,s2,e2,k2⟩:=Y9 (f:=fun N (x:AX×AAct×AH)=>O6 P (clN P S N) N l r x) (Φ:=fun x:AV×AH=>K x.1 x.2) mono s fun y hy=>by
  obtain ⟨x,b1,b2,b3⟩:=k y hy
  cases x with
  | exit=>exact b3.elim
  | ret=>exact b3.elim
  | normal =>
   obtain ⟨q',hq1,hq2,hq3⟩:=b3
   obtain ⟨N3,s3,e3,k3⟩:=Z0 r.body cb hb b2 hq3
   obtain ⟨_,s4,e4,k4⟩:=Y9 (f:=fun _ (y:AX×AAct×AH)=>l0W (Z4 l (.ok y))) (Φ:=fun x:AV×AH=>K x.1 x.2) (fun _ _ _ _ _ hr=>hr) s3 fun z hz=>by
    obtain ⟨x,c1,c2,hds,r2,hr2,hfin⟩:=k3 z hz
    obtain ⟨z1,z2,z3⟩:=z
    simp only at c1 c2 hds hr2 hfin
    subst c1
    cases x with
    | normal=>exact ⟨0,_,by simp only [Z4,hds,hr2,WX.ax];rfl,fun u hu=>by rw [List.mem_singleton.1 hu];exact hfin⟩
    | ret=>exact ⟨0,_,by simp only [Z4,hds,hr2,WX.ax];rfl,fun u hu=>by rw [List.mem_singleton.1 hu];exact hfin⟩
    | exit i=>exact ⟨0,_,by simp only [Z4,hds,hr2,WX.ax];rfl,fun u hu=>by rw [List.mem_singleton.1 hu];exact hfin⟩
   refine ⟨N3,s4,?_,k4⟩
   unfold O6
   rw [b1]
   simp only [WX.ax,hq1,hq2,e3]
   exact e4
 refine ⟨max N N2+1,s2,?_,k2⟩
 have hle:N≤max N N2+1:=Nat.le_trans (Nat.le_max_left N N2) (Nat.le_succ _)
 have hle2:N2≤max N N2+1:=Nat.le_trans (Nat.le_max_right N N2) (Nat.le_succ _)
 have hcall:N0 (clN P S N) (D4 P S (max N N2+1) (max N N2)):=X6 hle (Nat.le_max_left N N2)
 have hcall2:N0 (clN P S N2) (D4 P S (max N N2+1) (max N N2)):=X6 hle2 (Nat.le_max_right N N2)
 unfold clN D4
 simp only [hg,c0j,PT.beqT hn,cond_true]
 rw [s9 hcall hle _ e]
 refine E6 (fun x t hr=>?_) e2
 unfold O6 at hr ⊢
 split at hr
 ·split at hr
  ·split at hr
   ·split at hr
    ·rename_i hbody;simp only [s9 hcall2 hle2 _ hbody];exact hr
    ·cases hr
   ·cases hr
  ·cases hr
 ·cases hr
end
end Go.Dr

namespace Go.Dr
open Go.RowKit
section
variable {P:Program} {S:h0b} {Q:G9} {σ:Sg} {ds:List ADef} {h:AH}
@[simp] theorem C0d:wqC P S .skip Q σ ds h=Q .normal σ ds h:=nr rfl
@[simp] theorem z0e (l:List CEnt):wqC P S (.ops l) Q σ ds h=N6 P S l Q σ ds h:=nr rfl
@[simp] theorem B0m (l:List CEnt):wqC P S (.drawn l) Q σ ds h=D2 P S l Q σ ds h:=nr rfl
@[simp] theorem C0K (x y:DC):wqC P S (.seq x y) Q σ ds h=wqC P S x (u0k P S y Q) σ ds h:=nr rfl
@[simp] theorem B0n (id:Nat) (c:DC):wqC P S (.block id c) Q σ ds h=wqC P S c (l0M id Q) σ ds h:=nr rfl
@[simp] theorem C0e (id:Nat):wqC P S (.exit id) Q σ ds h=Q (.exit id) σ ds h:=nr rfl
@[simp] theorem C0L:wqC P S .ret Q σ ds h=Q .ret σ ds h:=nr rfl
variable (P S) in
def wqB (v:AV) (x y:DC) (Q:G9) (σ:Sg) (ds:List ADef) (h:AH):Prop:=wpG v true (wqC P S x Q σ ds h) (wqC P S y Q σ ds h)
@[simp] theorem C0f (c:CO) (x y:DC):wqC P S (.cond c x y) Q σ ds h=wqB P S (c.evS σ) x y Q σ ds h:=nr rfl
@[simp] theorem C0g (x y:DC):wqB P S (.bool true) x y Q σ ds h=wqC P S x Q σ ds h:=nr rfl
@[simp] theorem B0o (x y:DC):wqB P S (.bool false) x y Q σ ds h=wqC P S y Q σ ds h:=nr rfl
@[simp] theorem z0f (y:DC):u0k P S y Q .normal σ ds h=wqC P S y Q σ ds h:=nr rfl
@[simp] theorem A0F (y:DC) (i:Nat):u0k P S y Q (.exit i) σ ds h=Q (.exit i) σ ds h:=nr rfl
@[simp] theorem B0p (y:DC):u0k P S y Q .ret σ ds h=Q .ret σ ds h:=nr rfl
theorem x0H {c:DC} (I:Inv) (k:Nat) (h0:I k σ ds h) (hI:∀ k σ ds h,I k σ ds h→wqC P S c (h0j I k Q) σ ds h):wqC P S (.loop c) Q σ ds h:=⟨I,k,h0,hI⟩
variable (P S) in
def wqN (r:RN) (d:Option Nat) (l:List CEnt) (Q:G9) (σ:Sg) (ds:List ADef):Prop :=
 wqR P S r (fun v h=>N6 P S l Q (upd σ d v) ds h) (fun df h=>N6 P S l Q (upd σ d o8) (df::ds) h)
variable (P S) in
def x0I (v:AV) (w:Bool) (c:COp) (d:Option Nat) (l:List CEnt) (Q:G9) (σ:Sg) (ds:List ADef) (h:AH):Prop :=
 h0c v w (wqN P S (evS P c σ h) d l Q σ ds) (N6 P S l Q (upd σ d o8) ds h)
variable (P S) in
def t0A (d:Option Nat) (l:List CEnt) (Q:G9) (σ:Sg) (ds:List ADef) (v:AV) (h:AH):Prop:=N6 P S l Q (upd σ d v) ds h
@[simp] theorem v04:N6 P S [] Q σ ds h=Q .normal σ ds h:=nr rfl
theorem t0B {c:COp} (hc:U8 c=none) (K:AV→AH→Prop) (D:ADef→AH→Prop):wqE P S c σ h K D=wqR P S (evS P c σ h) K D:=by
 unfold wqE;rw [hc]
@[simp] theorem v05 (d:Option Nat) (c:COp) (l:List CEnt) (hc:U8 c=none):N6 P S (.row ⟨d,none,c⟩::l) Q σ ds h=wqN P S (evS P c σ h) d l Q σ ds:=by
 simp only [N6,wqN,t0B hc]
@[simp] theorem A0G (d:Option Nat) (it:CO) (l:List CEnt):N6 P S (.row ⟨d,none,.next it false⟩::l) Q σ ds h=p0K (i0y h (it.evS σ)) (fun v h=>N6 P S l Q (upd σ d v) ds h):=nr rfl
attribute [simp]  U8
@[simp] theorem B0q (d:Option Nat) (l:List CEnt) (v:AV):wqN P S (.ok (.value v,h)) d l Q σ ds=N6 P S l Q (upd σ d v) ds h:=nr rfl
@[simp] theorem z0g (d:Option Nat) (l:List CEnt) (v:AV):wqN P S (okV v h) d l Q σ ds=N6 P S l Q (upd σ d v) ds h:=nr rfl
@[simp] theorem C0h (d:Option Nat) (l:List CEnt) (v:AV):wqN P S (m6 h (.ok v)) d l Q σ ds=N6 P S l Q (upd σ d v) ds h:=nr rfl
@[simp] theorem C0i (d:Option Nat) (l:List CEnt):wqN P S (V0 (.ok h)) d l Q σ ds=N6 P S l Q (upd σ d o8) ds h:=nr rfl
@[simp] theorem B0r (d:Option Nat) (l:List CEnt) (f:FuncId) (args:List AV):wqN P S (.ok (.enter f args,h)) d l Q σ ds=EvN P S (.fn f) args h (t0A P S d l Q σ ds):=nr rfl
@[simp] theorem B0s (d:Option Nat) (l:List CEnt) (f:Nat) (args:List AV):wqN P S (.ok (.yield f args,h)) d l Q σ ds=EvN P S (.yield f) args h (t0A P S d l Q σ ds):=nr rfl
@[simp] theorem A0H (d:Option Nat) (l:List CEnt) (v:AV):t0A P S d l Q σ ds v h=N6 P S l Q (upd σ d v) ds h:=nr rfl
@[simp] theorem C0M (c:COp) (d:Option Nat) (l:List CEnt):x0I P S (.bool true) true c d l Q σ ds h=wqN P S (evS P c σ h) d l Q σ ds:=nr rfl
@[simp] theorem C0N (c:COp) (d:Option Nat) (l:List CEnt):x0I P S (.bool false) false c d l Q σ ds h=wqN P S (evS P c σ h) d l Q σ ds:=nr rfl
@[simp] theorem C0O (c:COp) (d:Option Nat) (l:List CEnt):x0I P S (.bool true) false c d l Q σ ds h=N6 P S l Q (upd σ d o8) ds h:=nr rfl
@[simp] theorem C0P (w:Bool) (c:COp) (d:Option Nat) (l:List CEnt):x0I P S o8 w c d l Q σ ds h=N6 P S l Q (upd σ d o8) ds h:=nr rfl
@[simp] theorem C0Q (c:COp) (d:Option Nat) (l:List CEnt):x0I P S (.bool false) true c d l Q σ ds h=N6 P S l Q (upd σ d o8) ds h:=nr rfl
@[simp] theorem z0h (res:List CRes) (K:AV→AH→Prop):r0q P S res K .normal σ [] h=p06 (c0K h σ res) K h:=j0e _ _
@[simp] theorem B0t (res:List CRes) (K:AV→AH→Prop):r0q P S res K .ret σ [] h=p06 (c0K h σ res) K h:=j0e _ _
theorem j0d (res:List CRes) (K:AV→AH→Prop):r0q P S res K .ret σ ds h=c0p P S ds h (fun h=>p06 (c0K h σ res) K h):=by
 simp only [r0q,j0e]
@[simp] theorem z00 (K:AH→Prop):c0p P S [] h K=K h:=nr rfl
theorem d01 (id:Nat) (K:AH→Prop):c0p P S (.collected id::ds) h K=(h.get id=some (.deferred (some []))∧c0p P S ds (h.set id (.deferred none)) K):=nr rfl
theorem x0J (n:Nat) (f:CO) (params:Array Tmp) (a b:Code):wqC P S (.go n f params a b) Q σ ds h=y00 P S (f.evS σ) n params a b Q σ ds h:=nr rfl
theorem o0W (g:FuncId) (first captured:List AV) (n:Nat) (params:Array Tmp) (a b:Code):y00 P S (.func (.func g) first captured) n params a b Q σ ds h =
  ∀ tmps:PT AV,(∀ i,l0N tmps i=σ i)→EvN P S (.fn g) (first++(.func (.yield (h.next+1)) [] []::captured))
   ((h.push (.deferred (some []))).push (.loop { state:=.ready,pending:=none,n:=n,tmps:=tmps,params:=params,assign:=a,body:=b })) (Kgo Q σ ds h.next):=nr rfl
structure Less (k h:AH):Prop where
 next:k.next=h.next
 get:∀ i o,i<h.next→k.get i=some o→h.get i=some o
theorem r01 {B:Nat} {w0:World} (hM:P.follows .mixedOrders=true) (hnum:∀ (f:Nat) fn,P.funcs[f]? = some fn→fn.body.isSome=true→fn.name≠"runtime.NumGoroutine") (hS:f02 P B w0 S)
  {f:FuncId} {args:List AV} {v:AV} {h h':AH} (he:EvN P S (.fn f) args h fun r g=>r=v∧Less h' g∧∀ i,i<h.next→h'.get i=g.get i)
  {φ:Phi} {w:World} {args':List Value} (ha:ConL φ args args') (hG:GlobRel P φ) (hR:Rel B w0 φ h w) :
  (∀ w,(callFunc f ⟨args'⟩).run P w=.ok (.enter f ⟨args'⟩) w) ∧
  CallsK P .normal f ⟨args'⟩ w (fun v' w'=>∃ φ',Con φ' v v'∧Rel B w0 φ' h' w'∧Ext φ h φ' h'):=by
 obtain ⟨N,l,e,k⟩:=he
 obtain ⟨h1,h2⟩:=(l0X hM hnum hS N).1 _ _ _ _ e φ w args' ha hG hR
 refine ⟨h1,fun cs=>?_⟩
 obtain ⟨v',w',fr,fn,⟨u,g,φ',hm,c,R',X⟩,r⟩:=h2 cs
 obtain ⟨e1,hL,hold⟩:=k _ hm
 simp only at e1 hL hold
 subst e1
 refine ⟨v',w',fr,fn,⟨φ',c,R'.sub hL.next hL.get,⟨X.le,?_,fun i hi e=>?_⟩⟩,r⟩
 ·rw [hL.next];exact X.next
 ·obtain ⟨x1,x2⟩:=X.keep i hi e
  exact ⟨x1,(hold i hi).trans x2⟩
end
end Go.Dr

namespace Go.Dr
open Go.RowKit
variable {P:Program} {H:Type} {enc:TypeId×Value→H} {W:World} {base:Nat} {sp:Nat→Bool} {held:Bool}
theorem o0d {α β:Type} {f:α→Option β}:∀ {l:List α} {r:List β},l.mapM f=some r→r.length=l.length∧∀ (i:Nat) (a:α),l[i]? = some a→∃ b,r[i]? = some b∧f a=some b
 | [],r,h=>by
  simp only [List.mapM_nil] at h
  cases h
  exact ⟨rfl,fun i a e=>by simp at e⟩
 | x::l,r,h=>by
  rw [List.mapM_cons] at h
  cases hx:f x with
  | none=>rw [hx] at h;cases h
  | some b =>
   cases hl:l.mapM f with
   | none=>rw [hx,hl] at h;cases h
   | some bs =>
    rw [hx,hl] at h
    cases h
    obtain ⟨h1,h2⟩:=o0d hl
    refine ⟨by simp [h1],fun i a e=>?_⟩
    cases i with
    | zero=>simp at e;subst e;exact ⟨b,rfl,hx⟩
    | succ i=>exact h2 i a (by simpa using e)
inductive TyV (P:Program) (h:AH):TypeId→List AV→Prop
 | bool {t:TypeId} (ht:P.underlying t=some .bool) (b:Bool):TyV P h t [.bool b]
 | int {t:TypeId} {k:IntKind} {n:Int} (ht:P.underlying t=some (.int k)) (hn:(Lit.int k n).wf=true):TyV P h t [.int k n]
 | str {t:TypeId} {s:List UInt8} (ht:P.underlying t=some .string) (hs:s.length≤maxLen):TyV P h t [.str s]
 | nils {t e:TypeId} (ht:P.underlying t=some (.slice e)):TyV P h t [.nils]
 | slice {t e:TypeId} {id len cap:Nat} {vs:List AV} (ht:P.underlying t=some (.slice e)) (hi:id<h.next) (hg:h.get id=some (.cells vs true)) (hv:vs.length=len*P.cellsOf e)
   (hl:len≤cap) (hc:cap≤maxLen) (hel:∀ i,i<len→TyV P h e ((vs.drop (i*P.cellsOf e)).take (P.cellsOf e))):TyV P h t [.slice id 0 len cap true (P.cellsOf e)]
 | struct {t:TypeId} {fs:Array Field} {cs:List AV} (ht:P.underlying t=some (.struct fs)) (hl:cs.length=P.cellsOf t)
   (hf:∀ f ∈ fs.toList,TyV P h f.type ((cs.drop f.offset).take (P.cellsOf f.type))):TyV P h t cs
def j0z (P:Program):List Field→Nat→Nat→Bool
 | [],acc,tot=>Nat.beq acc tot
 | f::fs,acc,tot=>Nat.beq f.offset acc&&j0z P fs (acc+P.cellsOf f.type) tot
def e01 (P:Program):Nat→TypeId→Bool
 | 0,_=>false
 | d+1,t=>match P.underlying t with
  | some .bool | some (.int _) | some .string=>true
  | some (.slice e)=>Nat.blt 0 (P.cellsOf e)&&e01 P d e
  | some (.struct fs)=>j0z P fs.toList 0 (P.cellsOf t)&&fs.toList.all fun f=>e01 P d f.type
  | _=>false
def RO (φ:Phi) (h:AH):Prop:=∀ j q o,φ j=some q→h.get j=some o→o.writable=false
theorem e02 {n:Nat} {a:Addr} {cs:List Value} (h:W.cells? base a n=some cs):cs.length=n∧∀ i,i<n→W.cell? (a.add i)=cs[i]?:=by
 unfold World.cells? at h
 split at h
 ·obtain ⟨h1,h2⟩:=o0d h
  rw [List.length_range] at h1
  refine ⟨h1,fun i hi=>?_⟩
  obtain ⟨b,hb,hf⟩:=h2 i i (by rw [List.getElem?_range hi])
  rw [hb,hf]
 ·cases h
theorem w0D {B:Nat} {w0 w:World} {φ:Phi} {h:AH} (r:Rel B w0 φ h w) (hro:RO φ h) {p:Pl} {vs:List AV} {c:Array Value} {e:TypeId} {f:Nat×Nat} (hb:w.heap[p.blk]? = some (.cells c e f))
  (h1:vs.length≤p.room) (h2:p.off+p.room≤c.size) (hc:∀ i x,vs[i]? = some x→∃ y,c[p.off+i]? = some y∧Con φ x y) :
  Rel B w0 (φ.set h.next p) (h.push (.cells vs true)) w∧RO (φ.set h.next p) (h.push (.cells vs true))∧φ.le (φ.set h.next p):=by
 have hle:=Phi.le_set p r.fresh
 refine ⟨(r.promise (.cells vs true)).lay (Nat.lt_succ_self _) r.fresh (b8 _) ⟨c,e,f.1,f.2,hb,h1,h2,fun i x hx=>?_,fun e=>by cases e⟩ (fun e=>by cases e) (fun j q oj hj hg hw=>?_),fun j q o hj hg=>?_,hle⟩
 ·obtain ⟨y,hy,hcon⟩:=hc i x hx
  exact ⟨y,hy,hcon.mono hle⟩
 ·have hne:j≠h.next:=fun e=>by rw [e,r.fresh] at hj;cases hj
  rw [c7 hne] at hg
  rcases hw with hw | hw
  ·cases hw
  ·rw [hro j q oj hj hg] at hw;cases hw
 ·by_cases hne:j=h.next
  ·subst hne
   rw [b8] at hg
   cases hg
   rfl
  ·rw [Phi.set_other _ _ hne] at hj
   rw [c7 hne] at hg
   exact hro j q o hj hg
theorem q0y {B:Nat} {w0 w:World} {α:Type} (T:AH→α→List AV→Prop) (hT:∀ h h' a l,Fr h h'→T h a l→T h' a l):∀ (xs:List (α×List Value)) (_:∀ x ∈ xs,∀ φ h,Rel B w0 φ h w→RO φ h →
   ∃ φ' h' l,ConL φ' l x.2∧Rel B w0 φ' h' w∧RO φ' h'∧φ.le φ'∧Fr h h'∧T h' x.1 l) (φ:Phi) (h:AH),Rel B w0 φ h w→RO φ h →
  ∃ (φ':Phi) (h':AH) (ls:List (List AV)),Rel B w0 φ' h' w∧RO φ' h'∧φ.le φ'∧Fr h h'∧ls.length=xs.length∧∀ (i:Nat) (x:α×List Value),xs[i]? = some x→∃ l,ls[i]? = some l∧ConL φ' l x.2∧T h' x.1 l
 | [],_,φ,h,r,ro=>⟨φ,h,[],r,ro,.refl _,.refl _,rfl,fun i x e=>by simp at e⟩
 | x::xs,hx,φ,h,r,ro=>by
  obtain ⟨φ1,h1,l,c1,r1,ro1,le1,f1,t1⟩:=hx x (by simp) φ h r ro
  obtain ⟨φ2,h2,ls,r2,ro2,le2,f2,hl,hall⟩:=q0y T hT xs (fun y hy=>hx y (List.mem_cons_of_mem _ hy)) φ1 h1 r1 ro1
  refine ⟨φ2,h2,l::ls,r2,ro2,le1.trans le2,f1.trans f2,by simp [hl],fun i y e=>?_⟩
  cases i with
  | zero=>simp at e;subst e;exact ⟨l,rfl,c1.mono le2,hT _ _ _ _ f2 t1⟩
  | succ i=>exact hall i y (by simpa using e)
theorem l0B {α:Type}:∀ (ls:List (List α)) (k:Nat),(∀ l ∈ ls,l.length=k)→ls.flatten.length=ls.length*k∧∀ (i:Nat) (l:List α),ls[i]? = some l→(ls.flatten.drop (i*k)).take k=l
 | [],k,_=>⟨by simp,fun i l e=>by simp at e⟩
 | x::ls,k,h=>by
  obtain ⟨h1,h2⟩:=l0B ls k fun l hl=>h l (List.mem_cons_of_mem _ hl)
  have hx:=h x (by simp)
  refine ⟨by rw [List.flatten_cons,List.length_append,h1,hx,List.length_cons,Nat.add_mul,Nat.one_mul,Nat.add_comm],fun i l e=>?_⟩
  cases i with
  | zero =>
   simp at e;subst e
   rw [List.flatten_cons,Nat.zero_mul,List.drop_zero,List.take_append_of_le_length (by omega),List.take_of_length_le (by omega)]
  | succ i =>
   rw [List.flatten_cons,Nat.add_mul,Nat.one_mul,Nat.add_comm,← List.drop_drop,← hx,List.drop_left,hx]
   exact h2 i l (by simpa using e)
theorem u0Y {α:Type} (ls:List (List α)) (k:Nat) (h:∀ l ∈ ls,l.length=k) (i j:Nat) (hi:i<ls.length) (hj:j<k):∃ l,ls[i]? = some l∧ls.flatten[i*k+j]? = l[j]?:=by
 obtain ⟨h1,h2⟩:=l0B ls k h
 refine ⟨ls[i],List.getElem?_eq_getElem hi,?_⟩
 have:=h2 i _ (List.getElem?_eq_getElem hi)
 rw [← this,List.getElem?_take,if_pos hj,List.getElem?_drop]
theorem add_none {a:Addr} (h:a.spot=none) (m:Nat):a.add m=⟨a.block,a.off+m,none⟩:=by
 obtain ⟨b,o,s⟩:=a
 cases h
 exact Addr.add_none b o m
theorem o0e {a:Addr} {v:Value} (h:W.cell? a=some v):a.spot=none∧∃ c e f,W.heap[a.block]? = some (.cells c e f)∧c[a.off]? = some v:=by
 unfold World.cell? at h
 split at h
 ·rename_i c e f hb
  split at h
  ·cases h
  ·rename_i hs
   refine ⟨by cases hs':a.spot <;> simp_all,c,e,f,hb,h⟩
 ·cases h
def t01 (W:World) (cs:List Value):Prop:=∀ (a:Addr) (len:Nat),Value.slice (some a) len 0 ∈ cs→∃ (b:Nat) (c:Array Value) (e:TypeId) (f:Nat×Nat),W.heap[b]? = some (.cells c e f)
theorem q0z {b:Nat} {x:TypeId×Nat} (h:W.shape? b=some x):∃ (c:Array Value) (e:TypeId) (f:Nat×Nat),W.heap[b]? = some (.cells c e f):=by
 unfold World.shape? at h
 split at h
 ·rename_i c e f hb;exact ⟨c,e,f,hb⟩
 ·cases h
theorem s0H {b0:Nat} {t:TypeId} {a:Addr} {len cap:Nat} (h:Cell.okWide P W .any b0 t (.slice (some a) len cap)):∃ (b:Nat) (c:Array Value) (e:TypeId) (f:Nat×Nat),W.heap[b]? = some (.cells c e f):=by
 unfold Cell.okWide at h
 split at h
 case h_8 =>
  unfold Cell.ok at h
  split at h <;> first | contradiction | skip
  all_goals (rename_i heq;first | cases heq | skip)
  obtain ⟨_,_,hh⟩:=h
  unfold World.has at hh
  obtain ⟨_,_,row,cells,hs,_⟩:=hh
  obtain ⟨c,e,f,hb⟩:=q0z hs
  exact ⟨_,c,e,f,hb⟩
 all_goals (rename_i heq;cases heq)
theorem GlobRel.le {φ ψ:Phi} (h:GlobRel P φ) (hle:φ.le ψ):GlobRel P ψ:=fun g hg=>let ⟨n,e⟩:=h g hg;⟨n,hle _ _ e⟩
variable {h:AH}
def f0T (P:Program) (t:TypeId):List (TypeId×Nat):=match P.underlying t with
 | some (.struct fs)=>fs.toList.map fun f=>(f.type,f.offset)
 | _=>[]
theorem i0o {α:Type} (g:α→List AV) (p:α→Prop) (k:Nat):∀ (n:Nat) (vs:List AV),vs.length=n*k→(∀ i,i<n→∃ x,(vs.drop (i*k)).take k=g x∧p x)→∃ xs:List α,xs.length=n∧vs=(xs.map g).flatten∧∀ x ∈ xs,p x
 | 0,vs,hl,_=>⟨[],rfl,List.length_eq_zero_iff.1 (by omega),fun x hx=>by cases hx⟩
 | n+1,vs,hl,he=>by
  obtain ⟨x,h1,h2⟩:=he 0 (by omega)
  rw [Nat.zero_mul,List.drop_zero] at h1
  rw [Nat.add_mul,Nat.one_mul] at hl
  obtain ⟨xs,h3,h4,h5⟩:=i0o g p k n (vs.drop k) (by rw [List.length_drop];omega) fun i hi=>by
   obtain ⟨y,q1,q2⟩:=he (i+1) (by omega)
   refine ⟨y,?_,q2⟩
   rw [List.drop_drop,show k+i*k=(i+1)*k from by rw [Nat.add_mul,Nat.one_mul,Nat.add_comm]]
   exact q1
  refine ⟨x::xs,by simp [h3],?_,fun y hy=>?_⟩
  ·rw [List.map_cons,List.flatten_cons,← h4,← h1,List.take_append_drop]
  ·rcases List.mem_cons.1 hy with rfl | hy
   ·exact h2
   ·exact h5 y hy
end Go.Dr

namespace Go.Dr
open Go.RowKit
variable {P:Program}
def i0J (f:FuncId):h0b:=fun g=>if g=f then some (fun args h=>match args with | []=>.ok (.bool true,h) | _=>.error "arguments") else none
theorem o0y {lf n:Nat} {f:FuncId} (hM:P.follows .mixedOrders=true) (hnum:P.funcs.all (fun f=>f.name != "runtime.NumGoroutine")=true)
  (hrun:l0R (E3 P (fun _=>none) lf n (.fn f) [] ⟨P.globals.size,.leaf⟩)=true) (B:Nat) (w0:World):f02 P B w0 (i0J f):=by
 intro g s hs args h v h' he φ w args' ha hG hR
 unfold i0J at hs
 split at hs
 ·rename_i e
  subst e
  cases hs
  cases args with
  | cons a l=>cases he
  | nil =>
   cases he
   cases ha
   obtain ⟨hh,hr⟩:=u09 hrun
   obtain ⟨h1,h2⟩:=(w0G (B:=w.heap.size) (w0:=w) hM (l0S hnum) s0Z n).1 _ _ _ _ _ hr (w0K P.globals.size) w [] .nil (B0X P) (D0k w _)
   refine ⟨h1,fun cs=>?_⟩
   obtain ⟨v',w',fr,fn',⟨φ',hv,hR',_⟩,rest⟩:=h2 cs
   refine ⟨v',w',fr,fn',⟨φ,?_,?_,.refl _ _⟩,rest⟩
   ·cases hv;exact .bool true
   ·exact hR.world (hR'.below.mono hR.size) fun i p o hi ho=>hR'.below.block _ (hR.obj i p o hi ho).lt
 ·cases hs
theorem y0V {S:h0b} (hM:P.follows .mixedOrders=true) (hnum:P.funcs.all (fun f=>f.name != "runtime.NumGoroutine")=true) {W:World} (hS:f02 P W.heap.size W S) {f:FuncId} {args:List AV} {args':List Value} {φ:Phi} {h:AH}
  (he:Ev P S (.fn f) args h fun r _=>r=.bool true) (ha:ConL φ args args') (hG:GlobRel P φ) (hR:Rel W.heap.size W φ h W) :
  Calls P f ⟨args'⟩ W fun e W'=>e=.returned (.bool true)∧Below W.heap.size W W':=by
 obtain ⟨N,v,h',he,rfl⟩:=he
 refine (q0N hM (l0S hnum) hS he ha hG hR).mono fun e W' hh=>?_
 cases e with
 | returned v =>
  obtain ⟨φ',h1,h2,_⟩:=hh
  cases h1
  exact ⟨rfl,h2.below⟩
 | panicked c=>exact hh.elim
 | outgrown=>exact hh.elim
end Go.Dr

namespace Go.Dr
open Go.RowKit
variable {P:Program} {B:Nat} {w0 w w':World} {φ:Phi} {h h':AH}
theorem CallsK.of_calls {f:FuncId} {args:Array Value} {R:Ending→World→Prop} {K:Value→World→Prop} (hc:Calls P f args w R) (hr:∀ e w',R e w'→∃ v,e=.returned v∧K v w'):CallsK P .normal f args w K:=by
 intro cs
 obtain ⟨e,w',fr,hR,hst,hf,hl⟩:=hc cs
 obtain ⟨v,rfl,hk⟩:=hr _ _ hR
 obtain ⟨hm,hd,hkd,fn,hfn,hres⟩:=hl
 exact ⟨v,w',fr,fn,hk,hst,hf,hm,hd,hkd,hfn,hres⟩
def D0G (zs:List Int):List Int:=zs.mergeSort fun x y=>decide (x≤y)
structure SortIs (P:Program) (f:FuncId):Prop where
 some:∀ (blk off cap:Nat) (zs:List Int) (w:World),Sort.Holds (Value.int .i64) w blk off zs.toArray→blk<w.heap.size→zs.length<4611686018427387904 →
  Calls P f #[.slice (some ⟨blk,off,none⟩) zs.length cap] w fun e w' =>
   e=.returned (.tuple #[])∧∃ n os,w'=Sort.grow (Sort.putRow (Value.int .i64) (Sort.ahead w n) blk off (zs.mergeSort fun x y=>decide (x≤y)).toArray) os
 none:∀ (p:Option Addr) (cap:Nat) (w:World),Calls P f #[.slice p 0 cap] w fun e w'=>e=.returned (.tuple #[])∧w'=w
 enter:∀ args w,(callFunc f args).run P w=.ok (.enter f args) w
end Go.Dr

namespace Go.Dk
open Go Go.Dr
set_option maxRecDepth 100000
noncomputable abbrev P:Program:=Go.Proofs.Tryz.prog
def a0W:FuncId:=7
def d0E:FuncId:=10
def a0X:FuncId:=33
def d08:FuncId:=76
def a0c:FuncId:=112
def G1:FuncId:=113
def J6:FuncId:=140
def a0d:FuncId:=114
def c0P:FuncId:=115
def c0Q:FuncId:=77
def c0R:FuncId:=116
def X7:FuncId:=34
def q9:FuncId:=78
def L2:FuncId:=79
def N4:FuncId:=80
def T4:FuncId:=117
def e08:FuncId:=66
def d09:FuncId:=27
def C1:FuncId:=64
def j6:FuncId:=107
def A0:FuncId:=63
def Q5:FuncId:=105
def d9:FuncId:=135
def C0:FuncId:=106
def B7:FuncId:=65
def o7:FuncId:=69
def d7:FuncId:=111
def m9:FuncId:=68
def J9:FuncId:=109
def c9:FuncId:=138
def s6:FuncId:=110
def b0W:FuncId:=28
def b0m:FuncId:=70
def c0S:FuncId:=8
def d0F:FuncId:=11
def a0H:FuncId:=35
def e09:FuncId:=81
def e0a:FuncId:=82
def e0b:FuncId:=118
def M6:FuncId:=36
def b0B:FuncId:=83
def e0c:FuncId:=29
def c0l:FuncId:=71
def A4:FuncId:=30
def S9:FuncId:=72
def e0d:FuncId:=31
def K6:FuncId:=73
def d0G:FuncId:=74
def b0n:FuncId:=32
def b0L:FuncId:=75
def O7:FuncId:=9
def Y6:FuncId:=12
def Y2:FuncId:=4
def c0T:FuncId:=13
def d0H:FuncId:=20
def f0a:FuncId:=39
def f0b:FuncId:=92
def d0I:FuncId:=93
def c0U:FuncId:=38
def f0Z:FuncId:=89
def d0J:FuncId:=125
def c0V:FuncId:=90
def a0Y:FuncId:=91
def m5:FuncId:=126
def T5:FuncId:=127
def T6:FuncId:=128
def e0e:FuncId:=14
def f0c:FuncId:=40
def O8:FuncId:=18
def P8:FuncId:=41
def e0f:FuncId:=94
def c0v:FuncId:=96
def b0X:FuncId:=129
def c0W:FuncId:=130
def B8:FuncId:=145
def a0I:FuncId:=175
def a0m:FuncId:=170
def U5:FuncId:=146
def c0X:FuncId:=176
def c0m:FuncId:=174
def c0n:FuncId:=173
def V5:FuncId:=147
def c0Y:FuncId:=87
def d0K:FuncId:=119
def D9:FuncId:=121
def h0K:FuncId:=141
def b0C:FuncId:=171
def b0o:FuncId:=172
def Y3:FuncId:=122
def e0g:FuncId:=142
def a0n:FuncId:=123
def L3:FuncId:=143
def a0Z:FuncId:=161
def K0:FuncId:=144
def b0D:FuncId:=46
def a0o:FuncId:=42
def e0h:FuncId:=15
def f00:FuncId:=43
def e0i:FuncId:=95
def a0J:FuncId:=97
def d0L:FuncId:=133
def c0Z:FuncId:=131
def b0E:FuncId:=98
def c00:FuncId:=132
def C4:FuncId:=148
def T7:FuncId:=149
def L4:FuncId:=150
def c01:FuncId:=16
def r6:FuncId:=44
def P9:FuncId:=45
def Q0:FuncId:=17
def A7:FuncId:=47
def M2:FuncId:=48
def D6:FuncId:=49
def b0F:FuncId:=21
def k0t:FuncId:=84
def A9:TypeId:=24
def D0n:TypeId:=4
def a7:TypeId:=3
def s8:TypeId:=9
def t6:TypeId:=5
def g0L:TypeId:=21
def l8:TypeId:=104
def H4:TypeId:=105
def E7:TypeId:=108
def t8:TypeId:=109
def j0:TypeId:=66
def h0L:TypeId:=23
def b0p:TypeId:=73
def l0Y:TypeId:=137
def d0M:TypeId:=65
@[simp] theorem i0B:P.underlying h0L=some (.slice t6):=nr (by kernel_rfl)
@[simp] theorem s0W:P.underlying b0p=some (.pointer l0Y):=nr (by kernel_rfl)
def B5:Nat:=0
noncomputable def gos:Code→List (Code×Code)
 | .seq x y=>gos x++gos y
 | .cond _ x y=>gos x++gos y
 | .block _ c=>gos c
 | .loop c=>gos c
 | .scope c=>gos c
 | .rangeFunc _ _ a b=>[(a,b)]
 | _=>[]
noncomputable def z0P (f:FuncId):List (Code×Code):=match P.funcs[f]? with
 | some fn=>match fn.body with | some c=>gos c | none=>[]
 | none=>[]
noncomputable def N5 (f k:Nat):Code:=match (z0P f)[k]? with | some p=>p.1 | none=>.skip
noncomputable def a00 (f k:Nat):Code:=match (z0P f)[k]? with | some p=>p.2 | none=>.skip
abbrev rR (d:Nat) (c:COp):CEnt:=.row ⟨some d,none,c⟩
abbrev rN (c:COp):CEnt:=.row ⟨none,none,c⟩
abbrev rA (d g:Nat) (c:COp):CEnt:=.row ⟨some d,some (g,true),c⟩
abbrev rB (d g:Nat) (c:COp):CEnt:=.row ⟨some d,some (g,false),c⟩
abbrev rM (d n:Nat):CEnt:=.row ⟨some d,none,.move (.t n)⟩
abbrev rL (d n:Nat):CEnt:=.row ⟨some d,none,.load1 (.t n)⟩
abbrev rF (d k n:Nat):CEnt:=.row ⟨some d,none,.fieldAddr k (.t n)⟩
abbrev rV (d n:Nat):CEnt:=.row ⟨some d,none,.lenV (.t n)⟩
abbrev rE (d n i:Nat):CEnt:=.row ⟨some d,none,.extract (.t n) i⟩
abbrev rK (d n:Nat):CEnt:=.row ⟨some d,none,.nilCheck (.t n)⟩
abbrev rC (d:Nat) (f:FuncId) (l:List CO):CEnt:=.row ⟨some d,none,.callV (.c (.func (.func f) [] [])) l⟩
abbrev rX (d:Nat) (v:AV):CEnt:=.row ⟨some d,none,.move (.c v)⟩
abbrev iV (n:Int):AV:=.int .i64 n
abbrev iC (n:Int):CO:=.c (.int .i64 n)
end Go.Dk

namespace Go.Dk
open Go Go.Dr
set_option maxRecDepth 100000
noncomputable def f06:CC :=
 (.seq (.ops [rX 2 .nils,rX 3 (iV 0)]) (.seq (.seq (.ops [rM 11 0,rC 12 d0E [(.t 11)],rR 13 (.un .not (.t 12))]) (.cond (.t 13) (.seq (.ops [rX 2 .nils,rX 3 (iV 1)]) .ret) .skip)) (.seq (.ops [rM 14 0,rC 15 d09 [(.t 14)],rM 4 15]) (.seq (.ops [rX 5 (iV 0)]) (.seq (.seq (.ops [rM 16 4,rV 17 16,rX 18 (iV 0)]) (.block 0 (.loop (.seq (.ops [rR 19 (.bin .lss a7 false (.t 18) (.t 17))]) (.seq (.cond (.t 19) .skip (.exit 0)) (.seq (.block 1 (.seq (.ops [rR 20 (.idxV 1 (.t 16) (.t 18)),rL 21 20,rM 7 21]) (.ops [rM 22 5,rM 23 7,rR 24 (.callM (.t 23) "dryrot/index.size" []),rR 25 (.bin .add a7 false (.t 22) (.t 24)),rM 5 25]))) (.ops [rR 26 (.bin .add a7 true (.t 18) (iC 1)),rM 18 26]))))))) (.seq (.ops [rM 27 5,rR 28 (.mkS 1 1 [(.int .u8 0)] (iC 0) (.t 27)),rM 8 28]) (.seq (.seq (.ops [rM 29 4,rV 30 29,rX 31 (iV 0)]) (.block 2 (.loop (.seq (.ops [rR 32 (.bin .lss a7 false (.t 31) (.t 30))]) (.seq (.cond (.t 32) .skip (.exit 2)) (.seq (.block 3 (.seq (.ops [rR 33 (.idxV 1 (.t 29) (.t 31)),rL 34 33,rM 10 34]) (.ops [rM 35 8,rM 36 10,rC 37 b0W [(.t 36)],rR 38 (.app 1 1 (.t 35) (.t 37)),rM 8 38]))) (.ops [rR 39 (.bin .add a7 true (.t 31) (iC 1)),rM 31 39]))))))) (.seq (.ops [rM 40 8,rM 2 40,rX 3 (iV 0)]) .ret))))))))
theorem m0j:k7 P a0W=.ok ⟨41,[.tmp 2,.tmp 3],f06⟩:=by kernel_rfl
noncomputable def k0y:CC :=
 (.seq (.ops [rX 2 (.bool false)]) (.seq (.ops [rX 3 (iV 0)]) (.seq (.seq (.ops [rM 8 0,rV 9 8,rX 10 (iV 0)]) (.block 0 (.loop (.seq (.ops [rR 11 (.bin .lss a7 false (.t 10) (.t 9))]) (.seq (.cond (.t 11) .skip (.exit 0)) (.seq (.block 1 (.seq (.ops [rM 12 10,rR 13 (.idxV 5 (.t 8) (.t 10)),rR 14 (.loadN 5 (.t 13)),rR 5 (.new [.nils,(iV 0),(iV 0),(iV 0),(iV 0)]),rM 4 12,rN (.store 5 (.t 5) (.t 14))]) (.seq (.seq (.ops [rF 15 0 5,rL 16 15,rC 17 a0X [(.t 16)],rR 18 (.un .not (.t 17)),rM 19 18,rB 20 19 (.fieldAddr 3 (.t 5)),rB 21 19 (.load1 (.t 20)),rB 22 19 (.fieldAddr 4 (.t 5)),rB 23 19 (.load1 (.t 22)),rB 24 19 (.bin .gtr a7 false (.t 21) (.t 23)),rR 25 (.pick (.t 19) (.c (.bool true)) (.t 24)),rM 26 25,rB 27 26 (.fieldAddr 2 (.t 5)),rB 28 26 (.load1 (.t 27)),rB 29 26 (.bin .lss a7 true (.t 28) (iC 1)),rR 30 (.pick (.t 26) (.c (.bool true)) (.t 29)),rM 31 30,rB 32 31 (.fieldAddr 2 (.t 5)),rB 33 31 (.load1 (.t 32)),rB 34 31 (.bin .gtr a7 true (.t 33) (iC 2147483647)),rR 35 (.pick (.t 31) (.c (.bool true)) (.t 34)),rM 36 35,rB 37 36 (.fieldAddr 1 (.t 5)),rB 38 36 (.load1 (.t 37)),rB 39 36 (.move (.t 3)),rB 40 36 (.bin .neq a7 false (.t 38) (.t 39)),rR 41 (.pick (.t 36) (.c (.bool true)) (.t 40))]) (.cond (.t 41) (.seq (.ops [rX 2 (.bool false)]) .ret) .skip)) (.seq (.ops [rM 42 3,rF 43 2 5,rL 44 43,rR 45 (.bin .add a7 false (.t 42) (.t 44)),rM 3 45]) (.seq (.ops [rM 46 4,rR 47 (.bin .gtr a7 true (.t 46) (iC 0))]) (.cond (.t 47) (.seq (.ops [rM 48 0,rM 49 4,rR 50 (.bin .sub a7 true (.t 49) (iC 1)),rR 51 (.idxV 5 (.t 48) (.t 50)),rR 52 (.loadN 5 (.t 51)),rR 6 (.new [.nils,(iV 0),(iV 0),(iV 0),(iV 0)]),rN (.store 5 (.t 6) (.t 52))]) (.seq (.ops [rF 53 0 6,rL 54 53,rF 55 0 5,rL 56 55,rC 57 X7 [(.t 54),(.t 56)],rM 7 57]) (.seq (.ops [rM 58 7,rR 59 (.bin .gtr a7 true (.t 58) (iC 0)),rM 60 59,rB 61 60 (.move (.t 7)),rB 62 60 (.bin .eql a7 true (.t 61) (iC 0)),rB 63 60 (.move (.t 62)),rA 64 63 (.fieldAddr 3 (.t 5)),rA 65 63 (.load1 (.t 64)),rA 66 63 (.fieldAddr 4 (.t 6)),rA 67 63 (.load1 (.t 66)),rA 68 63 (.bin .leq a7 false (.t 65) (.t 67)),rB 69 60 (.pick (.t 63) (.t 68) (.c (.bool false))),rR 70 (.pick (.t 60) (.c (.bool true)) (.t 69))]) (.cond (.t 70) (.seq (.ops [rX 2 (.bool false)]) .ret) .skip)))) .skip)))))) (.ops [rR 71 (.bin .add a7 true (.t 10) (iC 1)),rM 10 71]))))))) (.seq (.ops [rM 72 0,rV 73 72,rR 74 (.bin .leq a7 true (.t 73) (iC 100000)),rM 2 74]) .ret))))
theorem q07:k7 P d0E=.ok ⟨75,[.tmp 2],k0y⟩:=by kernel_rfl
noncomputable def c0o:CC :=
 (.seq (.ops [rX 2 (.bool false)]) (.seq (.seq (.ops [rM 6 0,rV 7 6,rR 8 (.bin .eql a7 true (.t 7) (iC 0)),rM 9 8,rB 10 9 (.move (.t 0)),rB 11 9 (.lenV (.t 10)),rB 12 9 (.bin .gtr a7 true (.t 11) (iC 8)),rR 13 (.pick (.t 9) (.c (.bool true)) (.t 12))]) (.cond (.t 13) (.seq (.ops [rX 2 (.bool false)]) .ret) .skip)) (.seq (.ops [rX 3 (.str [])]) (.seq (.seq (.ops [rM 14 0,rV 15 14,rX 16 (iV 0)]) (.block 0 (.loop (.seq (.ops [rR 17 (.bin .lss a7 false (.t 16) (.t 15))]) (.seq (.cond (.t 17) .skip (.exit 0)) (.seq (.block 1 (.seq (.ops [rR 18 (.idxV 2 (.t 14) (.t 16)),rR 19 (.loadN 2 (.t 18)),rR 5 (.new [(.str []),(.str [])]),rN (.store 2 (.t 5) (.t 19))]) (.seq (.seq (.ops [rF 20 0 5,rL 21 20,rC 22 d08 [(.t 21)],rR 23 (.un .not (.t 22)),rM 24 23,rB 25 24 (.fieldAddr 1 (.t 5)),rB 26 24 (.load1 (.t 25)),rB 27 24 (.callV (.c (.func (.func c0Q) [] [])) [(.t 26)]),rB 28 24 (.un .not (.t 27)),rR 29 (.pick (.t 24) (.c (.bool true)) (.t 28)),rM 30 29,rB 31 30 (.fieldAddr 0 (.t 5)),rB 32 30 (.load1 (.t 31)),rB 33 30 (.move (.t 3)),rB 34 30 (.bin .leq s8 false (.t 32) (.t 33)),rR 35 (.pick (.t 30) (.c (.bool true)) (.t 34))]) (.cond (.t 35) (.seq (.ops [rX 2 (.bool false)]) .ret) .skip)) (.ops [rF 36 0 5,rL 37 36,rM 3 37])))) (.ops [rR 38 (.bin .add a7 true (.t 16) (iC 1)),rM 16 38]))))))) (.seq (.ops [rX 2 (.bool true)]) .ret)))))
theorem p0D:k7 P a0X=.ok ⟨39,[.tmp 2],c0o⟩:=by kernel_rfl
noncomputable def Y8:CC :=
 (.seq (.ops [rX 2 (.bool false)]) (.seq (.seq (.ops [rM 3 0,rR 4 (.bin .eql s8 true (.t 3) (.c (.str []))),rM 5 4,rB 6 5 (.move (.t 0)),rB 7 5 (.lenS (.t 6)),rB 8 5 (.bin .gtr a7 true (.t 7) (iC 24)),rR 9 (.pick (.t 5) (.c (.bool true)) (.t 8)),rM 10 9,rB 11 10 (.move (.t 0)),rB 12 10 (.indexS (.t 11) (iC 0)),rB 13 10 (.callV (.c (.func (.func a0c) [] [])) [(.t 12)]),rB 14 10 (.un .not (.t 13)),rR 15 (.pick (.t 10) (.c (.bool true)) (.t 14))]) (.cond (.t 15) (.seq (.ops [rX 2 (.bool false)]) .ret) .skip)) (.seq (.ops [rM 16 0,rR 17 (.conv .bytes (.t 16)),rC 18 G1 [(.t 17),(.c (.func (.func a0d) [] []))],rR 19 (.un .not (.t 18)),rM 2 19]) .ret)))
theorem n0D:k7 P d08=.ok ⟨20,[.tmp 2],Y8⟩:=by kernel_rfl
noncomputable def U0:CC :=
 (.seq (.ops [rX 2 (.bool false)]) (.seq (.ops [rM 3 0,rR 4 (.bin .eql t6 true (.t 3) (.c (.int .u8 95))),rM 5 4,rB 6 5 (.move (.t 0)),rB 7 5 (.bin .or t6 true (.t 6) (.c (.int .u8 32))),rB 8 5 (.bin .geq t6 true (.t 7) (.c (.int .u8 97))),rB 9 5 (.move (.t 8)),rA 10 9 (.move (.t 0)),rA 11 9 (.bin .or t6 true (.t 10) (.c (.int .u8 32))),rA 12 9 (.bin .leq t6 true (.t 11) (.c (.int .u8 122))),rB 13 5 (.pick (.t 9) (.t 12) (.c (.bool false))),rR 14 (.pick (.t 5) (.c (.bool true)) (.t 13)),rM 2 14]) .ret))
theorem l0b:k7 P a0c=.ok ⟨15,[.tmp 2],U0⟩:=by kernel_rfl
noncomputable def P5:CC :=
 (.seq (.ops [rX 4 (.bool false)]) (.seq (.ops [rM 5 0,rM 6 1,rC 7 J6 [(.t 5),(.t 6)],rR 8 (.bin .geq a7 true (.t 7) (iC 0)),rM 4 8]) .ret))
theorem b0h:k7 P G1=.ok ⟨9,[.tmp 4],P5⟩:=by kernel_rfl
noncomputable def U1:CC :=
 (.seq (.ops [rX 4 (iV 0)]) (.seq (.seq (.ops [rM 6 0,rV 7 6,rX 8 (iV 0)]) (.block 0 (.loop (.seq (.ops [rR 9 (.bin .lss a7 false (.t 8) (.t 7))]) (.seq (.cond (.t 9) .skip (.exit 0)) (.seq (.block 1 (.seq (.ops [rM 10 8,rM 5 10]) (.seq (.ops [rM 11 1,rM 12 0,rM 13 5,rR 14 (.idxV 1 (.t 12) (.t 13)),rL 15 14,rR 16 (.callV (.t 11) [(.t 15)])]) (.cond (.t 16) (.seq (.ops [rM 17 5,rM 4 17]) .ret) .skip)))) (.ops [rR 18 (.bin .add a7 true (.t 8) (iC 1)),rM 8 18]))))))) (.seq (.ops [rX 4 (iV (-1))]) .ret)))
theorem b0Z:k7 P J6=.ok ⟨19,[.tmp 4],U1⟩:=by kernel_rfl
noncomputable def b00:CC :=
 (.seq (.ops [rX 2 (.bool false)]) (.seq (.ops [rM 3 0,rC 4 a0c [(.t 3)],rR 5 (.un .not (.t 4)),rM 6 5,rA 7 6 (.move (.t 0)),rA 8 6 (.callV (.c (.func (.func c0P) [] [])) [(.t 7)]),rA 9 6 (.un .not (.t 8)),rR 10 (.pick (.t 6) (.t 9) (.c (.bool false))),rM 2 10]) .ret))
theorem l0c:k7 P a0d=.ok ⟨11,[.tmp 2],b00⟩:=by kernel_rfl
noncomputable def c06:CC :=
 (.seq (.ops [rX 2 (.bool false)]) (.seq (.ops [rM 3 0,rR 4 (.bin .geq t6 true (.t 3) (.c (.int .u8 48))),rM 5 4,rA 6 5 (.move (.t 0)),rA 7 5 (.bin .leq t6 true (.t 6) (.c (.int .u8 57))),rR 8 (.pick (.t 5) (.t 7) (.c (.bool false))),rM 2 8]) .ret))
theorem m0k:k7 P c0P=.ok ⟨9,[.tmp 2],c06⟩:=by kernel_rfl
noncomputable def f07:CC :=
 (.seq (.ops [rX 2 (.bool false)]) (.seq (.seq (.ops [rM 5 0,rR 6 (.rangeS (.t 5))]) (.block 0 (.loop (.seq (.ops [rR 7 (.next (.t 6) true),rE 8 7 0]) (.seq (.cond (.t 8) .skip (.exit 0)) (.block 1 (.seq (.ops [rE 9 7 2,rM 4 9]) (.seq (.ops [rM 10 4,rC 11 c0R [(.t 10)],rR 12 (.un .not (.t 11))]) (.cond (.t 12) (.seq (.ops [rX 2 (.bool false)]) .ret) .skip))))))))) (.seq (.ops [rM 13 0,rR 14 (.bin .neq s8 true (.t 13) (.c (.str []))),rM 15 14,rA 16 15 (.move (.t 0)),rA 17 15 (.lenS (.t 16)),rA 18 15 (.bin .leq a7 true (.t 17) (iC 40)),rR 19 (.pick (.t 15) (.t 18) (.c (.bool false))),rM 2 19]) .ret)))
theorem m0l:k7 P c0Q=.ok ⟨20,[.tmp 2],f07⟩:=by kernel_rfl
noncomputable def a04:CC :=
 (.seq (.ops [rX 2 (.bool false)]) (.seq (.ops [rM 3 0,rR 4 (.bin .geq g0L true (.t 3) (.c (.int .i32 32))),rM 5 4,rA 6 5 (.move (.t 0)),rA 7 5 (.bin .neq g0L true (.t 6) (.c (.int .i32 127))),rR 8 (.pick (.t 5) (.t 7) (.c (.bool false))),rM 9 8,rA 10 9 (.move (.t 0)),rA 11 9 (.bin .neq g0L true (.t 10) (.c (.int .i32 65533))),rR 12 (.pick (.t 9) (.t 11) (.c (.bool false))),rM 2 12]) .ret))
theorem m0m:k7 P c0R=.ok ⟨13,[.tmp 2],a04⟩:=by kernel_rfl
noncomputable def e0E:CC :=
 (.seq (.ops [rX 4 (iV 0)]) (.seq (.ops [rM 5 0,rM 6 1,rC 7 q9 [(.t 5),(.t 6),(.c (.func (.func L2) [] []))],rM 4 7]) .ret))
theorem j0O:k7 P X7=.ok ⟨8,[.tmp 4],e0E⟩:=by kernel_rfl
noncomputable def A3:CC :=
 (.seq (.ops [rX 6 (iV 0)]) (.seq (.seq (.ops [rM 11 0,rV 12 11,rX 13 (iV 0)]) (.block 0 (.loop (.seq (.ops [rR 14 (.bin .lss a7 false (.t 13) (.t 12))]) (.seq (.cond (.t 14) .skip (.exit 0)) (.seq (.block 1 (.seq (.ops [rM 15 13,rR 16 (.idxV 2 (.t 11) (.t 13)),rR 17 (.loadN 2 (.t 16)),rR 8 (.new [(.str []),(.str [])]),rM 7 15,rN (.store 2 (.t 8) (.t 17))]) (.seq (.seq (.ops [rM 18 7,rM 19 1,rV 20 19,rR 21 (.bin .geq a7 false (.t 18) (.t 20))]) (.cond (.t 21) (.seq (.ops [rX 6 (iV 1)]) .ret) .skip)) (.seq (.ops [rM 22 1,rM 23 7,rR 24 (.idxV 2 (.t 22) (.t 23)),rR 25 (.loadN 2 (.t 24)),rR 9 (.new [(.str []),(.str [])]),rN (.store 2 (.t 9) (.t 25))]) (.seq (.ops [rM 26 2,rR 27 (.loadN 2 (.t 8)),rR 28 (.loadN 2 (.t 9)),rR 29 (.callV (.t 26) [(.t 27),(.t 28)]),rM 10 29]) (.seq (.ops [rM 30 10,rR 31 (.bin .neq a7 true (.t 30) (iC 0))]) (.cond (.t 31) (.seq (.ops [rM 32 10,rM 6 32]) .ret) .skip))))))) (.ops [rR 33 (.bin .add a7 true (.t 13) (iC 1)),rM 13 33]))))))) (.seq (.seq (.ops [rM 34 0,rV 35 34,rM 36 1,rV 37 36,rR 38 (.bin .lss a7 false (.t 35) (.t 37))]) (.cond (.t 38) (.seq (.ops [rX 6 (iV (-1))]) .ret) .skip)) (.seq (.ops [rX 6 (iV 0)]) .ret))))
theorem G2:k7 P q9=.ok ⟨39,[.tmp 6],A3⟩:=by kernel_rfl
noncomputable def c07:CC :=
 (.seq (.ops [rR 2 (.box (.t 0)),rR 3 (.box (.t 1)),rX 4 (iV 0)]) (.seq (.ops [rF 5 0 2,rL 6 5,rF 7 0 3,rL 8 7,rF 10 1 2,rL 11 10,rF 12 1 3,rL 13 12,.stage [⟨(some 13),none,.load1 (.t 12)⟩,⟨(some 11),none,.load1 (.t 10)⟩,⟨(some 8),none,.load1 (.t 7)⟩,⟨(some 6),none,.load1 (.t 5)⟩],rC 9 N4 [(.t 6),(.t 8)],.stage [⟨(some 13),none,.load1 (.t 12)⟩,⟨(some 11),none,.load1 (.t 10)⟩],rC 14 N4 [(.t 11),(.t 13)],rR 15 (.buildSlice 2 1 [(iV 0),(iV 0)] [(0 ,1 ,(.t 9)),(1 ,1 ,(.t 14))]),rC 16 e08 [(.t 15)],rM 4 16]) .ret))
theorem h0Q:k7 P L2=.ok ⟨17,[.tmp 4],c07⟩:=by kernel_rfl
noncomputable def V7:CC :=
 (.seq (.ops [rX 4 (iV 0)]) (.seq (.ops [rM 7 0,rC 8 T4 [(.t 7)],rM 5 8]) (.seq (.ops [rM 9 1,rC 10 T4 [(.t 9)],rM 6 10]) (.seq (.seq (.ops [rM 11 5]) (.cond (.t 11) (.seq (.seq (.ops [rM 12 6]) (.cond (.t 12) (.seq (.ops [rX 4 (iV 0)]) .ret) .skip)) (.seq (.ops [rX 4 (iV (-1))]) .ret)) .skip)) (.seq (.seq (.ops [rM 13 6]) (.cond (.t 13) (.seq (.ops [rX 4 (iV 1)]) .ret) .skip)) (.seq (.seq (.ops [rM 14 0,rM 15 1,rR 16 (.bin .lss s8 false (.t 14) (.t 15))]) (.cond (.t 16) (.seq (.ops [rX 4 (iV (-1))]) .ret) .skip)) (.seq (.seq (.ops [rM 17 0,rM 18 1,rR 19 (.bin .gtr s8 false (.t 17) (.t 18))]) (.cond (.t 19) (.seq (.ops [rX 4 (iV 1)]) .ret) .skip)) (.seq (.ops [rX 4 (iV 0)]) .ret))))))))
theorem f08:k7 P N4=.ok ⟨20,[.tmp 4],V7⟩:=by kernel_rfl
noncomputable def c08:CC :=
 (.seq (.ops [rX 2 (.bool false)]) (.seq (.ops [rM 3 0,rM 4 0,rR 5 (.bin .neq s8 false (.t 3) (.t 4)),rM 2 5]) .ret))
theorem h0R:k7 P T4=.ok ⟨6,[.tmp 2],c08⟩:=by kernel_rfl
noncomputable def i0L:CC :=
 (.seq (.ops [rX 2 (iV 0)]) (.seq (.ops [rX 3 (iV 0)]) (.seq (.seq (.ops [rM 6 0,rV 7 6,rX 8 (iV 0)]) (.block 0 (.loop (.seq (.ops [rR 9 (.bin .lss a7 false (.t 8) (.t 7))]) (.seq (.cond (.t 9) .skip (.exit 0)) (.seq (.block 1 (.seq (.ops [rR 10 (.idxV 1 (.t 6) (.t 8)),rL 11 10,rM 5 11]) (.seq (.ops [rM 12 5,rM 13 3,rR 14 (.bin .neq a7 false (.t 12) (.t 13))]) (.cond (.t 14) (.seq (.ops [rM 15 5,rM 2 15]) .ret) .skip)))) (.ops [rR 16 (.bin .add a7 true (.t 8) (iC 1)),rM 8 16]))))))) (.seq (.ops [rM 17 3,rM 2 17]) .ret))))
theorem p0E:k7 P e08=.ok ⟨18,[.tmp 2],i0L⟩:=by kernel_rfl
noncomputable def h0n:CC :=
 (.seq (.ops [rX 2 .nils]) (.seq (.ops [rR 22 (.mkM none),rM 3 22]) (.seq (.seq (.ops [rM 23 0,rV 24 23,rX 25 (iV 0)]) (.block 0 (.loop (.seq (.ops [rR 26 (.bin .lss a7 false (.t 25) (.t 24))]) (.seq (.cond (.t 26) .skip (.exit 0)) (.seq (.block 1 (.seq (.ops [rR 27 (.idxV 5 (.t 23) (.t 25)),rR 28 (.loadN 5 (.t 27)),rR 5 (.new [.nils,(iV 0),(iV 0),(iV 0),(iV 0)]),rN (.store 5 (.t 5) (.t 28))]) (.seq (.ops [rF 29 0 5,rL 30 29,rV 31 30,rX 32 (iV 0)]) (.block 2 (.loop (.seq (.ops [rR 33 (.bin .lss a7 false (.t 32) (.t 31))]) (.seq (.cond (.t 33) .skip (.exit 2)) (.seq (.block 3 (.seq (.ops [rR 34 (.idxV 2 (.t 30) (.t 32)),rR 35 (.loadN 2 (.t 34)),rR 7 (.new [(.str []),(.str [])]),rN (.store 2 (.t 7) (.t 35))]) (.ops [rM 36 3,rF 37 0 7,rL 38 37,rM 39 3,rF 40 1 7,rL 41 40,.stage [⟨(some 41),none,.load1 (.t 40)⟩,⟨(some 38),none,.load1 (.t 37)⟩],rN (.upd s8 (.t 36) (.t 38) (.c (.bool true))),.stage [⟨(some 41),none,.load1 (.t 40)⟩],rN (.upd s8 (.t 39) (.t 41) (.c (.bool true)))]))) (.ops [rR 42 (.bin .add a7 true (.t 32) (iC 1)),rM 32 42]))))))))) (.ops [rR 43 (.bin .add a7 true (.t 25) (iC 1)),rM 25 43]))))))) (.seq (.ops [rM 44 3,rC 45 C1 [(.t 44)],rC 46 A0 [(.t 45)],rM 8 46]) (.seq (.ops [rR 47 (.mkM none),rM 9 47]) (.seq (.ops [rM 48 8,rV 49 48,rR 50 (.build [(iV 0),(iV 0)] [(0 ,1 ,(.t 49)),(1 ,1 ,(iC 4))]),rR 51 (.mkI l8 (.t 50)),rR 52 (.buildSlice 1 1 [.nili] [(0 ,1 ,(.t 51))]),rM 10 52]) (.seq (.seq (.ops [rM 53 8,rV 54 53,rX 55 (iV 0)]) (.block 4 (.loop (.seq (.ops [rR 56 (.bin .lss a7 false (.t 55) (.t 54))]) (.seq (.cond (.t 56) .skip (.exit 4)) (.seq (.block 5 (.seq (.ops [rM 57 55,rR 58 (.idxV 1 (.t 53) (.t 55)),rL 59 58,rM 11 57,rM 12 59]) (.seq (.ops [rM 60 9,rM 61 12,rM 62 11,rN (.upd s8 (.t 60) (.t 61) (.t 62))]) (.ops [rM 63 10,rM 64 12,rR 65 (.mkI H4 (.t 64)),rR 66 (.buildSlice 1 1 [.nili] [(0 ,1 ,(.t 65))]),rR 67 (.app 1 16 (.t 63) (.t 66)),rM 10 67])))) (.ops [rR 68 (.bin .add a7 true (.t 55) (iC 1)),rM 55 68]))))))) (.seq (.ops [rM 69 10,rM 70 0,rV 71 70,rR 72 (.build [(iV 0),(iV 0)] [(0 ,1 ,(.t 71)),(1 ,1 ,(iC 4))]),rR 73 (.mkI l8 (.t 72)),rR 74 (.buildSlice 1 1 [.nili] [(0 ,1 ,(.t 73))]),rR 75 (.app 1 16 (.t 69) (.t 74)),rM 10 75]) (.seq (.ops [rR 76 (.mkM none),rM 13 76]) (.seq (.seq (.ops [rM 77 0,rV 78 77,rX 79 (iV 0)]) (.block 6 (.loop (.seq (.ops [rR 80 (.bin .lss a7 false (.t 79) (.t 78))]) (.seq (.cond (.t 80) .skip (.exit 6)) (.seq (.block 7 (.seq (.ops [rM 81 79,rR 82 (.idxV 5 (.t 77) (.t 79)),rR 83 (.loadN 5 (.t 82)),rR 15 (.new [.nils,(iV 0),(iV 0),(iV 0),(iV 0)]),rM 14 81,rN (.store 5 (.t 15) (.t 83))]) (.seq (.ops [rM 84 10,rF 85 0 15,rL 86 85,rV 87 86,rR 88 (.build [(iV 0),(iV 0)] [(0 ,1 ,(.t 87)),(1 ,1 ,(iC 1))]),rR 89 (.mkI l8 (.t 88)),rR 90 (.buildSlice 1 1 [.nili] [(0 ,1 ,(.t 89))]),rR 91 (.app 1 16 (.t 84) (.t 90)),rM 10 91]) (.seq (.seq (.ops [rF 92 0 15,rL 93 92,rV 94 93,rX 95 (iV 0)]) (.block 8 (.loop (.seq (.ops [rR 96 (.bin .lss a7 false (.t 95) (.t 94))]) (.seq (.cond (.t 96) .skip (.exit 8)) (.seq (.block 9 (.seq (.ops [rR 97 (.idxV 2 (.t 93) (.t 95)),rR 98 (.loadN 2 (.t 97)),rR 17 (.new [(.str []),(.str [])]),rN (.store 2 (.t 17) (.t 98))]) (.seq (.ops [rM 99 9,rF 100 0 17,rL 101 100,rR 102 (.lookup s8 (iV 0) false (.t 99) (.t 101)),rM 103 9,rF 104 1 17,rL 105 104,rR 106 (.lookup s8 (iV 0) false (.t 103) (.t 105)),rR 107 (.build [(iV 0),(iV 0)] [(0 ,1 ,(.t 102)),(1 ,1 ,(.t 106))]),rR 18 (.new [(iV 0),(iV 0)]),rN (.store 2 (.t 18) (.t 107))]) (.seq (.ops [rM 108 10,rF 109 0 18,rL 110 109,rR 111 (.build [(iV 0),(iV 0)] [(0 ,1 ,(.t 110)),(1 ,1 ,(iC 4))]),rR 112 (.mkI l8 (.t 111)),rF 113 1 18,rL 114 113,rR 115 (.build [(iV 0),(iV 0)] [(0 ,1 ,(.t 114)),(1 ,1 ,(iC 4))]),rR 116 (.mkI l8 (.t 115)),rR 117 (.buildSlice 2 1 [.nili,.nili] [(0 ,1 ,(.t 112)),(1 ,1 ,(.t 116))]),rR 118 (.app 1 16 (.t 108) (.t 117)),rM 10 118]) (.ops [rM 119 13,rR 120 (.loadN 2 (.t 18)),rM 122 14,rR 123 (.buildSlice 1 1 [(iV 0)] [(0 ,1 ,(.t 122))]),rR 124 (.mapEntry E7 .nils (.t 119) (.t 120)),rE 121 124 0,rR 125 (.app 1 8 (.t 121) (.t 123)),rE 126 124 1,rN (.entryStore (.t 119) (.t 126) (.t 125))]))))) (.ops [rR 127 (.bin .add a7 true (.t 95) (iC 1)),rM 95 127]))))))) (.ops [rM 128 10,rF 129 2 15,rL 130 129,rR 131 (.build [(iV 0),(iV 0)] [(0 ,1 ,(.t 130)),(1 ,1 ,(iC 4))]),rR 132 (.mkI l8 (.t 131)),rF 133 3 15,rL 134 133,rR 135 (.build [(iV 0),(iV 0)] [(0 ,1 ,(.t 134)),(1 ,1 ,(iC 8))]),rR 136 (.mkI l8 (.t 135)),rF 137 4 15,rL 138 137,rR 139 (.build [(iV 0),(iV 0)] [(0 ,1 ,(.t 138)),(1 ,1 ,(iC 8))]),rR 140 (.mkI l8 (.t 139)),rR 141 (.buildSlice 3 1 [.nili,.nili,.nili] [(0 ,1 ,(.t 132)),(1 ,1 ,(.t 136)),(2 ,1 ,(.t 140))]),rR 142 (.app 1 16 (.t 128) (.t 141)),rM 10 142]))))) (.ops [rR 143 (.bin .add a7 true (.t 79) (iC 1)),rM 79 143]))))))) (.seq (.ops [rX 19 (.func (.func B7) [] [])]) (.seq (.seq (.ops [rM 144 13,rC 145 o7 [(.t 144)],rM 146 19,rC 147 m9 [(.t 145),(.t 146)],rV 148 147,rX 149 (iV 0)]) (.block 10 (.loop (.seq (.ops [rR 150 (.bin .lss a7 false (.t 149) (.t 148))]) (.seq (.cond (.t 150) .skip (.exit 10)) (.seq (.block 11 (.seq (.ops [rR 151 (.idxV 2 (.t 147) (.t 149)),rR 152 (.loadN 2 (.t 151)),rR 21 (.new [(iV 0),(iV 0)]),rN (.store 2 (.t 21) (.t 152))]) (.ops [rM 153 10,rF 154 0 21,rL 155 154,rR 156 (.build [(iV 0),(iV 0)] [(0 ,1 ,(.t 155)),(1 ,1 ,(iC 4))]),rR 157 (.mkI l8 (.t 156)),rF 158 1 21,rL 159 158,rR 160 (.build [(iV 0),(iV 0)] [(0 ,1 ,(.t 159)),(1 ,1 ,(iC 4))]),rR 161 (.mkI l8 (.t 160)),rM 162 13,rR 163 (.loadN 2 (.t 21)),rR 164 (.lookup E7 .nils false (.t 162) (.t 163)),rR 165 (.mkI t8 (.t 164)),rR 166 (.buildSlice 3 1 [.nili,.nili,.nili] [(0 ,1 ,(.t 157)),(1 ,1 ,(.t 161)),(2 ,1 ,(.t 165))]),.stage [⟨(some 164),none,.lookup E7 .nils false (.t 162) (.t 163)⟩,⟨(some 163),none,.loadN 2 (.t 21)⟩,⟨(some 159),none,.load1 (.t 158)⟩,⟨(some 155),none,.load1 (.t 154)⟩],rR 167 (.app 1 16 (.t 153) (.t 166)),rM 10 167]))) (.ops [rR 168 (.bin .add a7 true (.t 149) (iC 1)),rM 149 168]))))))) (.seq (.ops [rM 169 10,rM 2 169]) .ret)))))))))))))
theorem n0E:k7 P d09=.ok ⟨170,[.tmp 2],h0n⟩:=by kernel_rfl
noncomputable def H3:CC :=
 (.seq (.ops [rR 1 (.box (.t 0)),rX 2 .nilf]) (.seq (.ops [rR 3 (.mkF j6 [] [(.t 1)]),rM 2 3]) .ret))
theorem V3:k7 P C1=.ok ⟨4,[.tmp 2],H3⟩:=by kernel_rfl
noncomputable def z8:CC :=
 (.seq (.ops [rR 1 (.box (.t 0)),rX 2 .nilf]) (.seq (.ops [rR 3 (.mkF d7 [] [(.t 1)]),rM 2 3]) .ret))
theorem E4:k7 P o7=.ok ⟨4,[.tmp 2],z8⟩:=by kernel_rfl
noncomputable def a0e:CC :=
 (.seq (.ops [rX 2 .nils]) (.seq (.seq (.ops [rM 12 0,rR 13 (.tassert (.t 12) H4 true),rM 11 13,rE 14 11 0,rE 15 11 1,rM 3 14,rM 4 15]) (.seq (.ops [rM 16 4]) (.cond (.t 16) (.seq (.ops [rM 17 3,rR 18 (.lenS (.t 17)),rR 19 (.conv (.int .u8) (.t 18)),rR 20 (.buildSlice 1 1 [(.int .u8 0)] [(0 ,1 ,(.t 19))]),rM 21 3,rR 22 (.app 1 1 (.t 20) (.t 21)),rM 2 22]) .ret) .skip))) (.seq (.seq (.ops [rM 24 0,rR 25 (.tassert (.t 24) l8 true),rM 23 25,rE 26 23 0,rE 27 23 1,rR 5 (.new [(iV 0),(iV 0)]),rN (.store 2 (.t 5) (.t 26)),rM 6 27]) (.seq (.ops [rM 28 6]) (.cond (.t 28) (.seq (.ops [rF 29 0 5,rL 30 29,rR 31 (.conv (.int .u64) (.t 30)),rF 32 1 5,rL 33 32,rC 34 b0m [(.t 31),(.t 33)],rM 2 34]) .ret) .skip))) (.seq (.ops [rM 35 0,rR 36 (.tassert (.t 35) t8 false),rM 7 36]) (.seq (.ops [rM 37 7,rV 38 37,rR 39 (.conv (.int .u64) (.t 38)),rC 40 b0m [(.t 39),(iC 4)],rM 8 40]) (.seq (.seq (.ops [rM 41 7,rV 42 41,rX 43 (iV 0)]) (.block 0 (.loop (.seq (.ops [rR 44 (.bin .lss a7 false (.t 43) (.t 42))]) (.seq (.cond (.t 44) .skip (.exit 0)) (.seq (.block 1 (.seq (.ops [rR 45 (.idxV 1 (.t 41) (.t 43)),rL 46 45,rM 10 46]) (.ops [rM 47 8,rM 48 10,rR 49 (.conv (.int .u64) (.t 48)),rC 50 b0m [(.t 49),(iC 4)],rR 51 (.app 1 1 (.t 47) (.t 50)),rM 8 51]))) (.ops [rR 52 (.bin .add a7 true (.t 43) (iC 1)),rM 43 52]))))))) (.seq (.ops [rM 53 8,rM 2 53]) .ret)))))))
theorem l0d:k7 P b0W=.ok ⟨54,[.tmp 2],a0e⟩:=by kernel_rfl
noncomputable def o0A:CC :=
 (.seq (.ops [rX 4 .nils]) (.seq (.ops [rM 7 1,rR 8 (.mm true (.t 7) [(iC 0)]),rR 9 (.mm false (.t 8) [(iC 8)]),rR 10 (.mkS 1 1 [(.int .u8 0)] (.t 9) (.t 9)),rM 5 10]) (.seq (.seq (.ops [rM 11 5,rV 12 11,rX 13 (iV 0)]) (.block 0 (.loop (.seq (.ops [rR 14 (.bin .lss a7 false (.t 13) (.t 12))]) (.seq (.cond (.t 14) .skip (.exit 0)) (.seq (.block 1 (.seq (.ops [rM 15 13,rM 6 15]) (.ops [rM 16 5,rM 17 5,rV 18 17,rR 19 (.bin .sub a7 true (.t 18) (iC 1)),rM 20 6,rR 21 (.bin .sub a7 false (.t 19) (.t 20)),rM 22 0,rM 23 6,rR 24 (.bin .mul a7 true (iC 8) (.t 23)),rR 25 (.bin .shr j0 false (.t 22) (.t 24)),rR 26 (.conv (.int .u8) (.t 25)),rR 27 (.idxV 1 (.t 16) (.t 21)),rN (.store 1 (.t 27) (.t 26))]))) (.ops [rR 28 (.bin .add a7 true (.t 13) (iC 1)),rM 13 28]))))))) (.seq (.ops [rM 29 5,rM 4 29]) .ret))))
theorem v0t:k7 P b0m=.ok ⟨30,[.tmp 4],o0A⟩:=by kernel_rfl
noncomputable def f09:CC :=
 (.seq (.ops [rX 2 .nils,rX 3 (iV 0)]) (.seq (.seq (.ops [rM 10 0,rC 11 d0F [(.t 10)],rR 12 (.un .not (.t 11))]) (.cond (.t 12) (.seq (.ops [rX 2 .nils,rX 3 (iV 1)]) .ret) .skip)) (.seq (.ops [rM 13 0,rC 14 e0c [(.t 13)],rM 4 14]) (.seq (.ops [rM 15 4,rV 16 15,rC 17 A4 [(.t 16)],rM 5 17]) (.seq (.seq (.ops [rM 18 4,rV 19 18,rX 20 (iV 0)]) (.block 0 (.loop (.seq (.ops [rR 21 (.bin .lss a7 false (.t 20) (.t 19))]) (.seq (.cond (.t 21) .skip (.exit 0)) (.seq (.block 1 (.seq (.ops [rR 22 (.idxV 1 (.t 18) (.t 20)),rL 23 22,rM 7 23]) (.ops [rM 24 5,rM 25 7,rR 26 (.lenS (.t 25)),rR 27 (.conv (.int .u8) (.t 26)),rR 28 (.buildSlice 1 1 [(.int .u8 0)] [(0 ,1 ,(.t 27))]),rR 29 (.app 1 1 (.t 24) (.t 28)),rM 30 7,rR 31 (.app 1 1 (.t 29) (.t 30)),rM 5 31]))) (.ops [rR 32 (.bin .add a7 true (.t 20) (iC 1)),rM 20 32]))))))) (.seq (.ops [rM 33 5,rM 34 0,rV 35 34,rC 36 A4 [(.t 35)],rR 37 (.app 1 1 (.t 33) (.t 36)),rM 5 37]) (.seq (.seq (.ops [rM 38 0,rV 39 38,rX 40 (iV 0)]) (.block 2 (.loop (.seq (.ops [rR 41 (.bin .lss a7 false (.t 40) (.t 39))]) (.seq (.cond (.t 41) .skip (.exit 2)) (.seq (.block 3 (.seq (.ops [rR 42 (.idxV 5 (.t 38) (.t 40)),rR 43 (.loadN 5 (.t 42)),rR 9 (.new [.nils,(iV 0),(iV 0),(iV 0),(iV 0)]),rN (.store 5 (.t 9) (.t 43))]) (.ops [rM 44 5,rM 45 4,rR 46 (.loadN 5 (.t 9)),rC 47 e0d [(.t 45),(.t 46)],rR 48 (.app 1 1 (.t 44) (.t 47)),rM 5 48]))) (.ops [rR 49 (.bin .add a7 true (.t 40) (iC 1)),rM 40 49]))))))) (.seq (.ops [rM 50 5,rM 51 4,rM 52 0,rC 53 b0n [(.t 51),(.t 52)],rR 54 (.app 1 1 (.t 50) (.t 53)),rM 2 54,rX 3 (iV 0)]) .ret))))))))
theorem m0n:k7 P c0S=.ok ⟨55,[.tmp 2,.tmp 3],f09⟩:=by kernel_rfl
noncomputable def k0z:CC :=
 (.seq (.ops [rX 2 (.bool false)]) (.seq (.ops [rX 3 (iV 0)]) (.seq (.seq (.ops [rM 7 0,rV 8 7,rX 9 (iV 0)]) (.block 0 (.loop (.seq (.ops [rR 10 (.bin .lss a7 false (.t 9) (.t 8))]) (.seq (.cond (.t 10) .skip (.exit 0)) (.seq (.block 1 (.seq (.ops [rM 11 9,rR 12 (.idxV 5 (.t 7) (.t 9)),rR 13 (.loadN 5 (.t 12)),rR 5 (.new [.nils,(iV 0),(iV 0),(iV 0),(iV 0)]),rM 4 11,rN (.store 5 (.t 5) (.t 13))]) (.seq (.seq (.ops [rF 14 0 5,rL 15 14,rC 16 a0H [(.t 15)],rR 17 (.un .not (.t 16)),rM 18 17,rB 19 18 (.fieldAddr 3 (.t 5)),rB 20 18 (.load1 (.t 19)),rB 21 18 (.fieldAddr 4 (.t 5)),rB 22 18 (.load1 (.t 21)),rB 23 18 (.bin .gtr a7 false (.t 20) (.t 22)),rR 24 (.pick (.t 18) (.c (.bool true)) (.t 23)),rM 25 24,rB 26 25 (.fieldAddr 2 (.t 5)),rB 27 25 (.load1 (.t 26)),rB 28 25 (.bin .lss a7 true (.t 27) (iC 1)),rR 29 (.pick (.t 25) (.c (.bool true)) (.t 28)),rM 30 29,rB 31 30 (.fieldAddr 2 (.t 5)),rB 32 30 (.load1 (.t 31)),rB 33 30 (.bin .gtr a7 true (.t 32) (iC 2147483647)),rR 34 (.pick (.t 30) (.c (.bool true)) (.t 33)),rM 35 34,rB 36 35 (.fieldAddr 1 (.t 5)),rB 37 35 (.load1 (.t 36)),rB 38 35 (.move (.t 3)),rB 39 35 (.bin .neq a7 false (.t 37) (.t 38)),rR 40 (.pick (.t 35) (.c (.bool true)) (.t 39))]) (.cond (.t 40) (.seq (.ops [rX 2 (.bool false)]) .ret) .skip)) (.seq (.ops [rM 41 3,rF 42 2 5,rL 43 42,rR 44 (.bin .add a7 false (.t 41) (.t 43)),rM 3 44]) (.seq (.seq (.ops [rM 45 4,rR 46 (.bin .eql a7 true (.t 45) (iC 0))]) (.cond (.t 46) (.exit 1) .skip)) (.seq (.ops [rM 47 0,rM 48 4,rR 49 (.bin .sub a7 true (.t 48) (iC 1)),rR 50 (.idxV 5 (.t 47) (.t 49)),rF 51 0 50,rL 52 51,rF 53 0 5,rL 54 53,.stage [⟨(some 54),none,.load1 (.t 53)⟩,⟨(some 52),none,.load1 (.t 51)⟩],rC 55 M6 [(.t 52),(.t 54)],rM 6 55]) (.seq (.ops [rM 56 6,rR 57 (.bin .gtr a7 true (.t 56) (iC 0)),rM 58 57,rB 59 58 (.move (.t 6)),rB 60 58 (.bin .eql a7 true (.t 59) (iC 0)),rB 61 58 (.move (.t 60)),rA 62 61 (.move (.t 0)),rA 63 61 (.move (.t 4)),rA 64 61 (.bin .sub a7 true (.t 63) (iC 1)),rA 65 61 (.idxV 5 (.t 62) (.t 64)),rA 66 61 (.fieldAddr 4 (.t 65)),rA 67 61 (.load1 (.t 66)),rA 68 61 (.fieldAddr 3 (.t 5)),rA 69 61 (.load1 (.t 68)),rA 70 61 (.bin .geq a7 false (.t 67) (.t 69)),rB 71 58 (.pick (.t 61) (.t 70) (.c (.bool false))),rR 72 (.pick (.t 58) (.c (.bool true)) (.t 71)),.stage [⟨(some 69),(some (61 ,true)),.load1 (.t 68)⟩,⟨(some 67),(some (61 ,true)),.load1 (.t 66)⟩]]) (.cond (.t 72) (.seq (.ops [rX 2 (.bool false)]) .ret) .skip)))))))) (.ops [rR 73 (.bin .add a7 true (.t 9) (iC 1)),rM 9 73]))))))) (.seq (.ops [rM 74 0,rV 75 74,rR 76 (.bin .leq a7 true (.t 75) (iC 100000)),rM 2 76]) .ret))))
theorem q08:k7 P d0F=.ok ⟨77,[.tmp 2],k0z⟩:=by kernel_rfl
noncomputable def d0Q:CC :=
 (.seq (.ops [rX 2 (.bool false)]) (.seq (.seq (.ops [rM 5 0,rV 6 5,rR 7 (.bin .lss a7 true (.t 6) (iC 1)),rM 8 7,rB 9 8 (.move (.t 0)),rB 10 8 (.lenV (.t 9)),rB 11 8 (.bin .gtr a7 true (.t 10) (iC 8)),rR 12 (.pick (.t 8) (.c (.bool true)) (.t 11))]) (.cond (.t 12) (.seq (.ops [rX 2 (.bool false)]) .ret) .skip)) (.seq (.seq (.ops [rM 13 0,rV 14 13,rX 15 (iV 0)]) (.block 0 (.loop (.seq (.ops [rR 16 (.bin .lss a7 false (.t 15) (.t 14))]) (.seq (.cond (.t 16) .skip (.exit 0)) (.seq (.block 1 (.seq (.ops [rM 17 15,rR 18 (.idxV 2 (.t 13) (.t 15)),rR 19 (.loadN 2 (.t 18)),rR 4 (.new [(.str []),(.str [])]),rM 3 17,rN (.store 2 (.t 4) (.t 19))]) (.seq (.ops [rF 20 0 4,rL 21 20,.stage [⟨(some 21),none,.load1 (.t 20)⟩],rC 22 e09 [(.t 21)],rR 23 (.un .not (.t 22)),rM 24 23,rB 25 24 (.fieldAddr 1 (.t 4)),rB 26 24 (.load1 (.t 25)),.stage [⟨(some 26),(some (24 ,false)),.load1 (.t 25)⟩],rB 27 24 (.callV (.c (.func (.func e0a) [] [])) [(.t 26)]),rB 28 24 (.un .not (.t 27)),rR 29 (.pick (.t 24) (.c (.bool true)) (.t 28)),rM 30 29,rB 31 30 (.move (.t 3)),rB 32 30 (.bin .gtr a7 true (.t 31) (iC 0)),rB 33 30 (.move (.t 32)),rA 34 33 (.move (.t 0)),rA 35 33 (.move (.t 3)),rA 36 33 (.bin .sub a7 true (.t 35) (iC 1)),rA 37 33 (.idxV 2 (.t 34) (.t 36)),rA 38 33 (.fieldAddr 0 (.t 37)),rA 39 33 (.load1 (.t 38)),rA 40 33 (.fieldAddr 0 (.t 4)),rA 41 33 (.load1 (.t 40)),rA 42 33 (.bin .geq s8 false (.t 39) (.t 41)),rB 43 30 (.pick (.t 33) (.t 42) (.c (.bool false))),rR 44 (.pick (.t 30) (.c (.bool true)) (.t 43)),.stage [⟨(some 41),(some (33 ,true)),.load1 (.t 40)⟩,⟨(some 39),(some (33 ,true)),.load1 (.t 38)⟩]]) (.cond (.t 44) (.seq (.ops [rX 2 (.bool false)]) .ret) .skip)))) (.ops [rR 45 (.bin .add a7 true (.t 15) (iC 1)),rM 15 45]))))))) (.seq (.ops [rX 2 (.bool true)]) .ret))))
theorem q09:k7 P a0H=.ok ⟨46,[.tmp 2],d0Q⟩:=by kernel_rfl
noncomputable def i0M:CC :=
 (.seq (.ops [rX 2 (.bool false)]) (.seq (.seq (.ops [rX 3 (iV 0)]) (.block 0 (.loop (.seq (.seq (.ops [rM 6 3,rM 7 0,rR 8 (.lenS (.t 7)),rR 9 (.bin .lss a7 false (.t 6) (.t 8))]) (.cond (.t 9) .skip (.exit 0))) (.seq (.block 1 (.seq (.ops [rM 12 0,rM 13 3,rR 14 (.indexS (.t 12) (.t 13)),rM 4 14]) (.seq (.ops [rM 15 4,rR 16 (.bin .geq t6 true (.t 15) (.c (.int .u8 97))),rM 17 16,rA 18 17 (.move (.t 4)),rA 19 17 (.bin .leq t6 true (.t 18) (.c (.int .u8 122))),rR 20 (.pick (.t 17) (.t 19) (.c (.bool false))),rM 21 20,rB 22 21 (.move (.t 4)),rB 23 21 (.bin .geq t6 true (.t 22) (.c (.int .u8 65))),rB 24 21 (.move (.t 23)),rA 25 24 (.move (.t 4)),rA 26 24 (.bin .leq t6 true (.t 25) (.c (.int .u8 90))),rB 27 21 (.pick (.t 24) (.t 26) (.c (.bool false))),rR 28 (.pick (.t 21) (.c (.bool true)) (.t 27)),rM 29 28,rB 30 29 (.move (.t 4)),rB 31 29 (.bin .eql t6 true (.t 30) (.c (.int .u8 95))),rR 32 (.pick (.t 29) (.c (.bool true)) (.t 31)),rM 5 32]) (.seq (.ops [rM 33 5,rR 34 (.un .not (.t 33)),rM 35 34,rA 36 35 (.move (.t 3)),rA 37 35 (.bin .eql a7 true (.t 36) (iC 0)),rA 38 35 (.move (.t 37)),rB 39 38 (.move (.t 4)),rB 40 38 (.bin .lss t6 true (.t 39) (.c (.int .u8 48))),rA 41 35 (.pick (.t 38) (.c (.bool true)) (.t 40)),rA 42 35 (.move (.t 41)),rB 43 42 (.move (.t 4)),rB 44 42 (.bin .gtr t6 true (.t 43) (.c (.int .u8 57))),rA 45 35 (.pick (.t 42) (.c (.bool true)) (.t 44)),rR 46 (.pick (.t 35) (.t 45) (.c (.bool false)))]) (.cond (.t 46) (.seq (.ops [rX 2 (.bool false)]) .ret) .skip))))) (.ops [rM 10 3,rR 11 (.bin .add a7 true (.t 10) (iC 1)),rM 3 11])))))) (.seq (.ops [rM 47 0,rR 48 (.lenS (.t 47)),rR 49 (.bin .geq a7 true (.t 48) (iC 1)),rM 50 49,rA 51 50 (.move (.t 0)),rA 52 50 (.lenS (.t 51)),rA 53 50 (.bin .leq a7 true (.t 52) (iC 24)),rR 54 (.pick (.t 50) (.t 53) (.c (.bool false))),rM 2 54]) .ret)))
theorem p0F:k7 P e09=.ok ⟨55,[.tmp 2],i0M⟩:=by kernel_rfl
noncomputable def b0G:CC :=
 (.seq (.ops [rX 2 (.bool false)]) (.seq (.ops [rM 3 0,rR 4 (.lenS (.t 3)),rR 5 (.bin .geq a7 true (.t 4) (iC 1)),rM 6 5,rA 7 6 (.move (.t 0)),rA 8 6 (.lenS (.t 7)),rA 9 6 (.bin .leq a7 true (.t 8) (iC 40)),rR 10 (.pick (.t 6) (.t 9) (.c (.bool false))),rM 11 10,rA 12 11 (.move (.t 0)),rA 13 11 (.callV (.c (.func (.func e0b) [] [])) [(.t 12)]),rR 14 (.pick (.t 11) (.t 13) (.c (.bool false))),rM 2 14]) .ret))
theorem n0F:k7 P e0a=.ok ⟨15,[.tmp 2],b0G⟩:=by kernel_rfl
noncomputable def h0o:CC :=
 (.seq (.ops [rX 2 (.bool false)]) (.seq (.seq (.ops [rM 5 0,rR 6 (.rangeS (.t 5))]) (.block 0 (.loop (.seq (.ops [rR 7 (.next (.t 6) true),rE 8 7 0]) (.seq (.cond (.t 8) .skip (.exit 0)) (.block 1 (.seq (.ops [rE 9 7 2,rM 4 9]) (.seq (.ops [rM 10 4,rR 11 (.bin .lss g0L true (.t 10) (.c (.int .i32 32))),rM 12 11,rB 13 12 (.move (.t 4)),rB 14 12 (.bin .eql g0L true (.t 13) (.c (.int .i32 127))),rR 15 (.pick (.t 12) (.c (.bool true)) (.t 14)),rM 16 15,rB 17 16 (.move (.t 4)),rB 18 16 (.bin .eql g0L true (.t 17) (.c (.int .i32 65533))),rR 19 (.pick (.t 16) (.c (.bool true)) (.t 18))]) (.cond (.t 19) (.seq (.ops [rX 2 (.bool false)]) .ret) .skip))))))))) (.seq (.ops [rX 2 (.bool true)]) .ret)))
theorem n0G:k7 P e0b=.ok ⟨20,[.tmp 2],h0o⟩:=by kernel_rfl
noncomputable def f0D:CC :=
 (.seq (.ops [rX 4 (iV 0)]) (.seq (.seq (.ops [rM 8 0,rV 9 8,rM 10 1,rV 11 10,rR 12 (.mm false (.t 9) [(.t 11)]),rX 13 (iV 0)]) (.block 0 (.loop (.seq (.ops [rR 14 (.bin .lss a7 false (.t 13) (.t 12))]) (.seq (.cond (.t 14) .skip (.exit 0)) (.seq (.block 1 (.seq (.ops [rM 15 13,rM 5 15]) (.seq (.seq (.ops [rM 16 0,rM 17 5,rR 18 (.idxV 2 (.t 16) (.t 17)),rF 19 0 18,rL 20 19,rM 21 1,rM 22 5,rR 23 (.idxV 2 (.t 21) (.t 22)),rF 24 0 23,rL 25 24,.stage [⟨(some 25),none,.load1 (.t 24)⟩,⟨(some 20),none,.load1 (.t 19)⟩],rC 26 b0B [(.t 20),(.t 25)],rM 6 26]) (.seq (.ops [rM 27 6,rR 28 (.bin .neq a7 true (.t 27) (iC 0))]) (.cond (.t 28) (.seq (.ops [rM 29 6,rM 4 29]) .ret) .skip))) (.seq (.ops [rM 30 0,rM 31 5,rR 32 (.idxV 2 (.t 30) (.t 31)),rF 33 1 32,rL 34 33,rM 35 1,rM 36 5,rR 37 (.idxV 2 (.t 35) (.t 36)),rF 38 1 37,rL 39 38,.stage [⟨(some 39),none,.load1 (.t 38)⟩,⟨(some 34),none,.load1 (.t 33)⟩],rC 40 b0B [(.t 34),(.t 39)],rM 7 40]) (.seq (.ops [rM 41 7,rR 42 (.bin .neq a7 true (.t 41) (iC 0))]) (.cond (.t 42) (.seq (.ops [rM 43 7,rM 4 43]) .ret) .skip)))))) (.ops [rR 44 (.bin .add a7 true (.t 13) (iC 1)),rM 13 44]))))))) (.seq (.block 2 (.seq (.ops [rM 46 0,rV 47 46,rM 48 1,rV 49 48,rR 50 (.bin .lss a7 false (.t 47) (.t 49)),rM 45 50]) (.cond (.t 45) (.seq (.ops [rX 4 (iV (-1))]) .ret) (.seq (.ops [rM 52 0,rV 53 52,rM 54 1,rV 55 54,rR 56 (.bin .gtr a7 false (.t 53) (.t 55)),rM 51 56]) (.cond (.t 51) (.seq (.ops [rX 4 (iV 1)]) .ret) .skip))))) (.seq (.ops [rX 4 (iV 0)]) .ret))))
theorem l0e:k7 P M6=.ok ⟨57,[.tmp 4],f0D⟩:=by kernel_rfl
noncomputable def e0l:CC :=
 (.seq (.ops [rX 4 (iV 0)]) (.seq (.seq (.ops [rM 5 0,rM 6 1,rR 7 (.bin .lss s8 false (.t 5) (.t 6))]) (.cond (.t 7) (.seq (.ops [rX 4 (iV (-1))]) .ret) .skip)) (.seq (.seq (.ops [rM 8 0,rM 9 1,rR 10 (.bin .gtr s8 false (.t 8) (.t 9))]) (.cond (.t 10) (.seq (.ops [rX 4 (iV 1)]) .ret) .skip)) (.seq (.ops [rX 4 (iV 0)]) .ret))))
theorem n0H:k7 P b0B=.ok ⟨11,[.tmp 4],e0l⟩:=by kernel_rfl
noncomputable def h0p:CC :=
 (.seq (.ops [rX 2 .nils]) (.seq (.ops [rX 3 .nils]) (.seq (.seq (.ops [rM 8 0,rV 9 8,rX 10 (iV 0)]) (.block 0 (.loop (.seq (.ops [rR 11 (.bin .lss a7 false (.t 10) (.t 9))]) (.seq (.cond (.t 11) .skip (.exit 0)) (.seq (.block 1 (.seq (.ops [rR 12 (.idxV 5 (.t 8) (.t 10)),rR 13 (.loadN 5 (.t 12)),rR 5 (.new [.nils,(iV 0),(iV 0),(iV 0),(iV 0)]),rN (.store 5 (.t 5) (.t 13))]) (.seq (.ops [rF 14 0 5,rL 15 14,rV 16 15,rX 17 (iV 0)]) (.block 2 (.loop (.seq (.ops [rR 18 (.bin .lss a7 false (.t 17) (.t 16))]) (.seq (.cond (.t 18) .skip (.exit 2)) (.seq (.block 3 (.seq (.ops [rR 19 (.idxV 2 (.t 15) (.t 17)),rR 20 (.loadN 2 (.t 19)),rR 7 (.new [(.str []),(.str [])]),rN (.store 2 (.t 7) (.t 20))]) (.ops [rM 21 3,rF 22 0 7,rL 23 22,rF 25 1 7,rL 26 25,.stage [⟨(some 26),none,.load1 (.t 25)⟩,⟨(some 23),none,.load1 (.t 22)⟩],rC 24 c0l [(.t 21),(.t 23)],.stage [⟨(some 26),none,.load1 (.t 25)⟩],rC 27 c0l [(.t 24),(.t 26)],rM 3 27]))) (.ops [rR 28 (.bin .add a7 true (.t 17) (iC 1)),rM 17 28]))))))))) (.ops [rR 29 (.bin .add a7 true (.t 10) (iC 1)),rM 10 29]))))))) (.seq (.ops [rM 30 3,rM 2 30]) .ret))))
theorem n0I:k7 P e0c=.ok ⟨31,[.tmp 2],h0p⟩:=by kernel_rfl
noncomputable def i0N:CC :=
 (.seq (.ops [rX 4 .nils]) (.seq (.ops [rM 6 0,rV 7 6,rM 5 7]) (.seq (.block 0 (.loop (.seq (.seq (.ops [rM 8 5,rR 9 (.bin .gtr a7 true (.t 8) (iC 0)),rM 10 9,rA 11 10 (.move (.t 0)),rA 12 10 (.move (.t 5)),rA 13 10 (.bin .sub a7 true (.t 12) (iC 1)),rA 14 10 (.idxV 1 (.t 11) (.t 13)),rA 15 10 (.load1 (.t 14)),rA 16 10 (.move (.t 1)),rA 17 10 (.bin .geq s8 false (.t 15) (.t 16)),rR 18 (.pick (.t 10) (.t 17) (.c (.bool false)))]) (.cond (.t 18) .skip (.exit 0))) (.block 1 (.ops [rM 19 5,rR 20 (.bin .sub a7 true (.t 19) (iC 1)),rM 5 20]))))) (.seq (.seq (.ops [rM 21 5,rM 22 0,rV 23 22,rR 24 (.bin .lss a7 false (.t 21) (.t 23)),rM 25 24,rA 26 25 (.move (.t 0)),rA 27 25 (.move (.t 5)),rA 28 25 (.idxV 1 (.t 26) (.t 27)),rA 29 25 (.load1 (.t 28)),rA 30 25 (.move (.t 1)),rA 31 25 (.bin .eql s8 false (.t 29) (.t 30)),rR 32 (.pick (.t 25) (.t 31) (.c (.bool false)))]) (.cond (.t 32) (.seq (.ops [rM 33 0,rM 4 33]) .ret) .skip)) (.seq (.ops [rR 34 (.buildSlice 0 1 [] []),rM 35 0,rM 36 5,rR 37 (.sliceV 1 (.t 35) none (some (.t 36)) none),rM 39 1,rR 40 (.buildSlice 1 1 [(.str [])] [(0 ,1 ,(.t 39))]),rM 42 0,rM 43 5,rR 44 (.sliceV 1 (.t 42) (some (.t 43)) none none),rR 38 (.app 1 16 (.t 34) (.t 37)),rR 41 (.app 1 16 (.t 38) (.t 40)),rR 45 (.app 1 16 (.t 41) (.t 44)),rM 4 45]) .ret)))))
theorem p0G:k7 P c0l=.ok ⟨46,[.tmp 4],i0N⟩:=by kernel_rfl
noncomputable def i0O:CC :=
 (.seq (.ops [rX 2 .nils]) (.seq (.ops [rM 3 0,rR 4 (.conv (.int .u64) (.t 3)),rC 5 S9 [(.t 4),(iC 4)],rM 2 5]) .ret))
theorem p0H:k7 P A4=.ok ⟨6,[.tmp 2],i0O⟩:=by kernel_rfl
noncomputable def k0A:CC :=
 (.seq (.ops [rX 4 .nils]) (.seq (.ops [rM 8 1,rR 9 (.mm true (.t 8) [(iC 0)]),rR 10 (.mm false (.t 9) [(iC 8)]),rM 5 10]) (.seq (.ops [rM 11 5,rR 12 (.mkS 1 1 [(.int .u8 0)] (.t 11) (.t 11)),rM 6 12]) (.seq (.seq (.ops [rM 13 5,rR 14 (.bin .sub a7 true (.t 13) (iC 1)),rM 7 14]) (.block 0 (.loop (.seq (.seq (.ops [rM 15 7,rR 16 (.bin .geq a7 true (.t 15) (iC 0))]) (.cond (.t 16) .skip (.exit 0))) (.seq (.block 1 (.seq (.ops [rM 19 6,rM 20 7,rM 21 0,rR 22 (.bin .rem j0 true (.t 21) (.c (.int .u64 256))),rR 23 (.conv (.int .u8) (.t 22)),rR 24 (.idxV 1 (.t 19) (.t 20)),rN (.store 1 (.t 24) (.t 23))]) (.ops [rM 25 0,rR 26 (.bin .quo j0 true (.t 25) (.c (.int .u64 256))),rM 0 26]))) (.ops [rM 17 7,rR 18 (.bin .sub a7 true (.t 17) (iC 1)),rM 7 18])))))) (.seq (.ops [rM 27 6,rM 4 27]) .ret)))))
theorem r0a:k7 P S9=.ok ⟨28,[.tmp 4],k0A⟩:=by kernel_rfl
noncomputable def h0q:CC :=
 (.seq (.ops [rR 3 (.box (.t 1)),rX 4 .nils]) (.seq (.ops [rF 8 0 3,rL 9 8,rV 10 9,rR 11 (.conv (.int .u8) (.t 10)),rR 12 (.buildSlice 1 1 [(.int .u8 0)] [(0 ,1 ,(.t 11))]),rM 5 12]) (.seq (.seq (.ops [rF 13 0 3,rL 14 13,rV 15 14,rX 16 (iV 0)]) (.block 0 (.loop (.seq (.ops [rR 17 (.bin .lss a7 false (.t 16) (.t 15))]) (.seq (.cond (.t 17) .skip (.exit 0)) (.seq (.block 1 (.seq (.ops [rR 18 (.idxV 2 (.t 14) (.t 16)),rR 19 (.loadN 2 (.t 18)),rR 7 (.new [(.str []),(.str [])]),rN (.store 2 (.t 7) (.t 19))]) (.ops [rM 20 5,rM 21 0,rF 22 0 7,rL 23 22,rM 27 0,rF 28 1 7,rL 29 28,.stage [⟨(some 29),none,.load1 (.t 28)⟩,⟨(some 23),none,.load1 (.t 22)⟩],rC 24 K6 [(.t 21),(.t 23)],.stage [⟨(some 29),none,.load1 (.t 28)⟩],rC 25 A4 [(.t 24)],.stage [⟨(some 29),none,.load1 (.t 28)⟩],rR 26 (.app 1 1 (.t 20) (.t 25)),.stage [⟨(some 29),none,.load1 (.t 28)⟩],rC 30 K6 [(.t 27),(.t 29)],rC 31 A4 [(.t 30)],rR 32 (.app 1 1 (.t 26) (.t 31)),rM 5 32]))) (.ops [rR 33 (.bin .add a7 true (.t 16) (iC 1)),rM 16 33]))))))) (.seq (.ops [rM 34 5,rF 35 2 3,rL 36 35,rF 39 3 3,rL 40 39,rF 43 4 3,rL 44 43,.stage [⟨(some 44),none,.load1 (.t 43)⟩,⟨(some 40),none,.load1 (.t 39)⟩,⟨(some 36),none,.load1 (.t 35)⟩],rC 37 A4 [(.t 36)],.stage [⟨(some 44),none,.load1 (.t 43)⟩,⟨(some 40),none,.load1 (.t 39)⟩],rR 38 (.app 1 1 (.t 34) (.t 37)),.stage [⟨(some 44),none,.load1 (.t 43)⟩,⟨(some 40),none,.load1 (.t 39)⟩],rC 41 d0G [(.t 40)],.stage [⟨(some 44),none,.load1 (.t 43)⟩],rR 42 (.app 1 1 (.t 38) (.t 41)),.stage [⟨(some 44),none,.load1 (.t 43)⟩],rC 45 d0G [(.t 44)],rR 46 (.app 1 1 (.t 42) (.t 45)),rM 4 46]) .ret))))
theorem n0J:k7 P e0d=.ok ⟨47,[.tmp 4],h0q⟩:=by kernel_rfl
noncomputable def h0r:CC :=
 (.seq (.ops [rX 4 (iV 0)]) (.seq (.seq (.ops [rM 7 0,rV 8 7,rX 9 (iV 0)]) (.block 0 (.loop (.seq (.ops [rR 10 (.bin .lss a7 false (.t 9) (.t 8))]) (.seq (.cond (.t 10) .skip (.exit 0)) (.seq (.block 1 (.seq (.ops [rM 11 9,rR 12 (.idxV 1 (.t 7) (.t 9)),rL 13 12,rM 5 11,rM 6 13]) (.seq (.ops [rM 14 6,rM 15 1,rR 16 (.bin .eql s8 false (.t 14) (.t 15))]) (.cond (.t 16) (.seq (.ops [rM 17 5,rM 4 17]) .ret) .skip)))) (.ops [rR 18 (.bin .add a7 true (.t 9) (iC 1)),rM 9 18]))))))) (.seq (.ops [rX 4 (iV (-1))]) .ret)))
theorem n0K:k7 P K6=.ok ⟨19,[.tmp 4],h0r⟩:=by kernel_rfl
end Go.Dk

namespace Go.Dk
open Go Go.Dr
set_option maxRecDepth 100000
noncomputable def k0V:CC :=
 (.seq (.ops [rX 2 .nils]) (.seq (.ops [rM 3 0,rR 4 (.conv (.int .u64) (.t 3)),rC 5 S9 [(.t 4),(iC 8)],rM 2 5]) .ret))
theorem s0j:k7 P d0G=.ok ⟨6,[.tmp 2],k0V⟩:=by kernel_rfl
noncomputable def e0W:CC :=
 (.seq (.ops [rX 4 .nils]) (.seq (.ops [rX 5 .nils]) (.seq (.seq (.ops [rM 14 0,rV 15 14,rX 16 (iV 0)]) (.block 0 (.loop (.seq (.ops [rR 17 (.bin .lss a7 false (.t 16) (.t 15))]) (.seq (.cond (.t 17) .skip (.exit 0)) (.seq (.block 1 (.seq (.ops [rR 18 (.idxV 1 (.t 14) (.t 16)),rL 19 18,rM 7 19]) (.seq (.ops [rM 20 0,rV 21 20,rX 22 (iV 0)]) (.block 2 (.loop (.seq (.ops [rR 23 (.bin .lss a7 false (.t 22) (.t 21))]) (.seq (.cond (.t 23) .skip (.exit 2)) (.seq (.block 3 (.seq (.ops [rR 24 (.idxV 1 (.t 20) (.t 22)),rL 25 24,rM 9 25]) (.seq (.ops [rX 10 .nils]) (.seq (.ops [rX 11 (iV 0)]) (.seq (.seq (.ops [rM 26 1,rV 27 26,rX 28 (iV 0)]) (.block 4 (.loop (.seq (.ops [rR 29 (.bin .lss a7 false (.t 28) (.t 27))]) (.seq (.cond (.t 29) .skip (.exit 4)) (.seq (.block 5 (.seq (.ops [rM 30 28,rR 31 (.idxV 5 (.t 26) (.t 28)),rR 32 (.loadN 5 (.t 31)),rR 13 (.new [.nils,(iV 0),(iV 0),(iV 0),(iV 0)]),rM 12 30,rN (.store 5 (.t 13) (.t 32))]) (.seq (.ops [rF 33 0 13,rL 34 33,rM 35 7,rC 36 b0L [(.t 34),(.t 35)],rM 37 9,rR 38 (.bin .eql s8 false (.t 36) (.t 37))]) (.cond (.t 38) (.seq (.ops [rM 39 10,rM 40 12,rC 41 A4 [(.t 40)],rR 42 (.app 1 1 (.t 39) (.t 41)),rM 10 42]) (.ops [rM 43 11,rR 44 (.bin .add a7 true (.t 43) (iC 1)),rM 11 44])) .skip)))) (.ops [rR 45 (.bin .add a7 true (.t 28) (iC 1)),rM 28 45]))))))) (.seq (.ops [rM 46 11,rR 47 (.bin .gtr a7 true (.t 46) (iC 0))]) (.cond (.t 47) (.ops [rM 48 5,rM 49 0,rM 50 7,rC 51 K6 [(.t 49),(.t 50)],rC 52 A4 [(.t 51)],rR 53 (.app 1 1 (.t 48) (.t 52)),rM 54 0,rM 55 9,rC 56 K6 [(.t 54),(.t 55)],rC 57 A4 [(.t 56)],rR 58 (.app 1 1 (.t 53) (.t 57)),rM 59 11,rC 60 A4 [(.t 59)],rR 61 (.app 1 1 (.t 58) (.t 60)),rM 62 10,rR 63 (.app 1 1 (.t 61) (.t 62)),rM 5 63]) .skip))))))) (.ops [rR 64 (.bin .add a7 true (.t 22) (iC 1)),rM 22 64]))))))))) (.ops [rR 65 (.bin .add a7 true (.t 16) (iC 1)),rM 16 65]))))))) (.seq (.ops [rM 66 5,rM 4 66]) .ret))))
theorem k0f:k7 P b0n=.ok ⟨67,[.tmp 4],e0W⟩:=by kernel_rfl
noncomputable def k0W:CC :=
 (.seq (.ops [rX 4 (.str [])]) (.seq (.seq (.ops [rM 7 0,rV 8 7,rX 9 (iV 0)]) (.block 0 (.loop (.seq (.ops [rR 10 (.bin .lss a7 false (.t 9) (.t 8))]) (.seq (.cond (.t 10) .skip (.exit 0)) (.seq (.block 1 (.seq (.ops [rR 11 (.idxV 2 (.t 7) (.t 9)),rR 12 (.loadN 2 (.t 11)),rR 6 (.new [(.str []),(.str [])]),rN (.store 2 (.t 6) (.t 12))]) (.seq (.ops [rF 13 0 6,rL 14 13,rM 15 1,rR 16 (.bin .eql s8 false (.t 14) (.t 15))]) (.cond (.t 16) (.seq (.ops [rF 17 1 6,rL 18 17,rM 4 18]) .ret) .skip)))) (.ops [rR 19 (.bin .add a7 true (.t 9) (iC 1)),rM 9 19]))))))) (.seq (.ops [rX 4 (.str [])]) .ret)))
theorem s0k:k7 P b0L=.ok ⟨20,[.tmp 4],k0W⟩:=by kernel_rfl
noncomputable def Z9:CC :=
 (.seq (.ops [rX 4 (.bool false)]) (.seq (.seq (.ops [rM 6 0,rV 7 6,rM 8 1,rV 9 8,rR 10 (.bin .neq a7 false (.t 7) (.t 9))]) (.cond (.t 10) (.seq (.ops [rX 4 (.bool false)]) .ret) .skip)) (.seq (.seq (.ops [rM 11 0,rV 12 11,rX 13 (iV 0)]) (.block 0 (.loop (.seq (.ops [rR 14 (.bin .lss a7 false (.t 13) (.t 12))]) (.seq (.cond (.t 14) .skip (.exit 0)) (.seq (.block 1 (.seq (.ops [rM 15 13,rM 5 15]) (.seq (.ops [rM 16 0,rM 17 5,rR 18 (.idxV 1 (.t 16) (.t 17)),rL 19 18,rM 20 1,rM 21 5,rR 22 (.idxV 1 (.t 20) (.t 21)),rL 23 22,rR 24 (.bin .neq t6 false (.t 19) (.t 23)),.stage [⟨(some 23),none,.load1 (.t 22)⟩,⟨(some 19),none,.load1 (.t 18)⟩]]) (.cond (.t 24) (.seq (.ops [rX 4 (.bool false)]) .ret) .skip)))) (.ops [rR 25 (.bin .add a7 true (.t 13) (iC 1)),rM 13 25]))))))) (.seq (.ops [rX 4 (.bool true)]) .ret))))
theorem e0u:k7 P O7=.ok ⟨26,[.tmp 4],Z9⟩:=by kernel_rfl
noncomputable def c0b:CC :=
 (.seq (.ops [rX 2 (.bool false)]) (.seq (.ops [rM 14 0,rC 15 c0T [(.t 14)],rM 3 15]) (.seq (.ops [rM 17 3,rC 18 e0e [(.t 17)],rM 16 18,rE 19 16 0,rE 20 16 1,rM 4 19,rM 5 20]) (.seq (.ops [rM 22 3,rC 23 e0h [(.t 22)],rM 21 23,rE 24 21 0,rE 25 21 1,rM 6 24,rM 7 25]) (.seq (.ops [rM 27 4,rC 28 a0W [(.t 27)],rM 26 28,rE 29 26 0,rE 30 26 1,rM 8 29,rM 9 30]) (.seq (.ops [rM 32 6,rC 33 c0S [(.t 32)],rM 31 33,rE 34 31 0,rE 35 31 1,rM 10 34,rM 11 35]) (.seq (.ops [rM 37 8,rC 38 c01 [(.t 37)],rM 36 38,rE 39 36 0,rE 40 36 1,rM 12 39,rM 13 40]) (.seq (.ops [rM 41 4,rM 42 6,rC 43 Q0 [(.t 41),(.t 42)],rM 44 43,rA 45 44 (.move (.t 5)),rA 46 44 (.move (.t 7)),rA 47 44 (.bin .eql A9 false (.t 45) (.t 46)),rR 48 (.pick (.t 44) (.t 47) (.c (.bool false))),rM 49 48,rA 50 49 (.move (.t 5)),rA 51 49 (.bin .eql A9 true (.t 50) (iC 0)),rR 52 (.pick (.t 49) (.t 51) (.c (.bool false))),rM 53 52,rA 54 53 (.move (.t 8)),rA 55 53 (.move (.t 10)),rA 56 53 (.callV (.c (.func (.func O7) [] [])) [(.t 54),(.t 55)]),rR 57 (.pick (.t 53) (.t 56) (.c (.bool false))),rM 58 57,rA 59 58 (.move (.t 9)),rA 60 58 (.move (.t 11)),rA 61 58 (.bin .eql A9 false (.t 59) (.t 60)),rR 62 (.pick (.t 58) (.t 61) (.c (.bool false))),rM 63 62,rA 64 63 (.move (.t 13)),rA 65 63 (.bin .eql A9 true (.t 64) (iC 0)),rR 66 (.pick (.t 63) (.t 65) (.c (.bool false))),rM 67 66,rA 68 67 (.move (.t 12)),rA 69 67 (.move (.t 4)),rA 70 67 (.callV (.c (.func (.func Q0) [] [])) [(.t 68),(.t 69)]),rR 71 (.pick (.t 67) (.t 70) (.c (.bool false))),rM 72 71,rA 73 72 (.callV (.c (.func (.func Y6) [] [])) []),rR 74 (.pick (.t 72) (.t 73) (.c (.bool false))),rM 2 74]) .ret))))))))
theorem h0e:k7 P Y2=.ok ⟨75,[.tmp 2],c0b⟩:=by kernel_rfl
noncomputable def g0B:CC :=
 (.seq (.ops [rX 2 .nils]) (.seq (.ops [rM 6 0,rC 7 d0H [(.t 6),(iC 8),(iC 50)],rC 8 f0a [(.t 7)],rC 9 c0U [(.t 8)],rM 5 9,rE 10 5 0,rE 11 5 1,rM 3 10,rM 4 11]) (.seq (.ops [rM 12 3,rM 2 12]) .ret)))
theorem n0d:k7 P c0T=.ok ⟨13,[.tmp 2],g0B⟩:=by kernel_rfl
noncomputable def k0X:CC :=
 (.seq (.ops [rX 6 .nils]) (.seq (.ops [rX 7 .nils]) (.seq (.seq (.ops [rM 10 0,rV 11 10,rX 12 (iV 0)]) (.block 0 (.loop (.seq (.ops [rR 13 (.bin .lss a7 false (.t 12) (.t 11))]) (.seq (.cond (.t 13) .skip (.exit 0)) (.seq (.block 1 (.seq (.ops [rM 14 12,rR 15 (.idxV 2 (.t 10) (.t 12)),rR 16 (.loadN 2 (.t 15)),rR 9 (.new [.nils,.nils]),rM 8 14,rN (.store 2 (.t 9) (.t 16))]) (.seq (.ops [rM 17 8,rM 18 1,rR 19 (.bin .lss a7 false (.t 17) (.t 18)),rM 20 19,rA 21 20 (.fieldAddr 0 (.t 9)),rA 22 20 (.load1 (.t 21)),rA 23 20 (.lenV (.t 22)),rA 24 20 (.bin .leq a7 true (.t 23) (iC 10)),rR 25 (.pick (.t 20) (.t 24) (.c (.bool false)))]) (.cond (.t 25) (.ops [rM 26 7,rF 27 0 9,rL 28 27,rF 29 1 9,rL 30 29,rF 31 1 9,rL 32 31,rV 33 32,rM 34 2,rR 35 (.mm false (.t 33) [(.t 34)]),rR 36 (.sliceV 2 (.t 30) none (some (.t 35)) none),rR 37 (.build [.nils,.nils] [(0 ,1 ,(.t 28)),(1 ,1 ,(.t 36))]),rR 38 (.buildSlice 1 2 [.nils,.nils] [(0 ,2 ,(.t 37))]),.stage [⟨(some 32),none,.load1 (.t 31)⟩,⟨(some 30),none,.load1 (.t 29)⟩,⟨(some 28),none,.load1 (.t 27)⟩],rR 39 (.app 2 48 (.t 26) (.t 38)),rM 7 39]) .skip)))) (.ops [rR 40 (.bin .add a7 true (.t 12) (iC 1)),rM 12 40]))))))) (.seq (.ops [rM 41 7,rM 6 41]) .ret))))
theorem s0l:k7 P d0H=.ok ⟨42,[.tmp 6],k0X⟩:=by kernel_rfl
noncomputable def j0n:CC :=
 (.seq (.ops [rX 2 .nils]) (.seq (.ops [rX 3 .nils]) (.seq (.seq (.ops [rM 9 0,rV 10 9,rX 11 (iV 0)]) (.block 0 (.loop (.seq (.ops [rR 12 (.bin .lss a7 false (.t 11) (.t 10))]) (.seq (.cond (.t 12) .skip (.exit 0)) (.seq (.block 1 (.seq (.ops [rR 13 (.idxV 2 (.t 9) (.t 11)),rR 14 (.loadN 2 (.t 13)),rR 5 (.new [.nils,.nils]),rN (.store 2 (.t 5) (.t 14))]) (.seq (.seq (.ops [rF 15 1 5,rL 16 15,rV 17 16,rR 18 (.bin .eql a7 true (.t 17) (iC 0))]) (.cond (.t 18) (.exit 1) .skip)) (.seq (.ops [rX 6 (iV 0)]) (.seq (.block 2 (.loop (.seq (.seq (.ops [rM 19 6,rM 20 3,rV 21 20,rR 22 (.bin .lss a7 false (.t 19) (.t 21)),rM 23 22,rA 24 23 (.move (.t 3)),rA 25 23 (.move (.t 6)),rA 26 23 (.idxV 2 (.t 24) (.t 25)),rA 27 23 (.fieldAddr 0 (.t 26)),rA 28 23 (.load1 (.t 27)),rA 29 23 (.fieldAddr 0 (.t 5)),rA 30 23 (.load1 (.t 29)),.stage [⟨(some 30),(some (23 ,true)),.load1 (.t 29)⟩,⟨(some 28),(some (23 ,true)),.load1 (.t 27)⟩],rA 31 23 (.callV (.c (.func (.func M6) [] [])) [(.t 28),(.t 30)]),rA 32 23 (.bin .lss a7 true (.t 31) (iC 0)),rR 33 (.pick (.t 23) (.t 32) (.c (.bool false)))]) (.cond (.t 33) .skip (.exit 2))) (.block 3 (.ops [rM 34 6,rR 35 (.bin .add a7 true (.t 34) (iC 1)),rM 6 35]))))) (.seq (.seq (.ops [rM 36 6,rM 37 3,rV 38 37,rR 39 (.bin .eql a7 false (.t 36) (.t 38)),rM 40 39,rB 41 40 (.move (.t 3)),rB 42 40 (.move (.t 6)),rB 43 40 (.idxV 2 (.t 41) (.t 42)),rB 44 40 (.fieldAddr 0 (.t 43)),rB 45 40 (.load1 (.t 44)),rB 46 40 (.fieldAddr 0 (.t 5)),rB 47 40 (.load1 (.t 46)),.stage [⟨(some 47),(some (40 ,false)),.load1 (.t 46)⟩,⟨(some 45),(some (40 ,false)),.load1 (.t 44)⟩],rB 48 40 (.callV (.c (.func (.func M6) [] [])) [(.t 45),(.t 47)]),rB 49 40 (.bin .neq a7 true (.t 48) (iC 0)),rR 50 (.pick (.t 40) (.c (.bool true)) (.t 49))]) (.cond (.t 50) (.ops [rR 51 (.buildSlice 0 2 [] []),rM 52 3,rM 53 6,rR 54 (.sliceV 2 (.t 52) none (some (.t 53)) none),rF 56 0 5,rL 57 56,rM 62 3,rM 63 6,rR 64 (.sliceV 2 (.t 62) (some (.t 63)) none none),.stage [⟨(some 57),none,.load1 (.t 56)⟩],rR 55 (.app 2 48 (.t 51) (.t 54)),.stage [⟨(some 57),none,.load1 (.t 56)⟩],rC 58 f0b [(.t 57)],rR 59 (.build [.nils,.nils] [(0 ,1 ,(.t 58))]),rR 60 (.buildSlice 1 2 [.nils,.nils] [(0 ,2 ,(.t 59))]),rR 61 (.app 2 48 (.t 55) (.t 60)),rR 65 (.app 2 48 (.t 61) (.t 64)),rM 3 65]) .skip)) (.seq (.ops [rF 66 1 5,rL 67 66,rV 68 67,rX 69 (iV 0)]) (.block 4 (.loop (.seq (.ops [rR 70 (.bin .lss a7 false (.t 69) (.t 68))]) (.seq (.cond (.t 70) .skip (.exit 4)) (.seq (.block 5 (.seq (.ops [rR 71 (.idxV 2 (.t 67) (.t 69)),rR 72 (.loadN 2 (.t 71)),rR 8 (.new [(iV 0),(.int .u64 0)]),rN (.store 2 (.t 8) (.t 72))]) (.ops [rM 73 3,rM 74 6,rM 75 3,rM 76 6,rR 77 (.idxV 2 (.t 75) (.t 76)),rF 78 1 77,rL 79 78,rR 80 (.loadN 2 (.t 8)),.stage [⟨(some 80),none,.loadN 2 (.t 8)⟩,⟨(some 79),none,.load1 (.t 78)⟩],rC 81 d0I [(.t 79),(.t 80)],rR 82 (.idxV 2 (.t 73) (.t 74)),rF 83 1 82,rN (.store 1 (.t 83) (.t 81))]))) (.ops [rR 84 (.bin .add a7 true (.t 69) (iC 1)),rM 69 84]))))))))))))) (.ops [rR 85 (.bin .add a7 true (.t 11) (iC 1)),rM 11 85]))))))) (.seq (.ops [rM 86 3,rM 2 86]) .ret))))
theorem q0d:k7 P f0a=.ok ⟨87,[.tmp 2],j0n⟩:=by kernel_rfl
noncomputable def j0o:CC :=
 (.seq (.ops [rX 2 .nils]) (.seq (.ops [rR 3 (.buildSlice 0 2 [] []),rM 4 0,rR 5 (.app 2 32 (.t 3) (.t 4)),rM 2 5]) .ret))
theorem q0e:k7 P f0b=.ok ⟨6,[.tmp 2],j0o⟩:=by kernel_rfl
noncomputable def k0Y:CC :=
 (.seq (.ops [rR 3 (.box (.t 1)),rX 4 .nils]) (.seq (.ops [rM 7 0,rV 8 7,rM 5 8]) (.seq (.block 0 (.loop (.seq (.seq (.ops [rM 9 5,rR 10 (.bin .gtr a7 true (.t 9) (iC 0)),rM 11 10,rA 12 11 (.move (.t 0)),rA 13 11 (.move (.t 5)),rA 14 11 (.bin .sub a7 true (.t 13) (iC 1)),rA 15 11 (.idxV 2 (.t 12) (.t 14)),rA 16 11 (.fieldAddr 0 (.t 15)),rA 17 11 (.load1 (.t 16)),rA 18 11 (.fieldAddr 0 (.t 3)),rA 19 11 (.load1 (.t 18)),rA 20 11 (.bin .geq a7 false (.t 17) (.t 19)),rR 21 (.pick (.t 11) (.t 20) (.c (.bool false))),.stage [⟨(some 19),(some (11 ,true)),.load1 (.t 18)⟩,⟨(some 17),(some (11 ,true)),.load1 (.t 16)⟩]]) (.cond (.t 21) .skip (.exit 0))) (.block 1 (.ops [rM 22 5,rR 23 (.bin .sub a7 true (.t 22) (iC 1)),rM 5 23]))))) (.seq (.seq (.ops [rM 24 5,rM 25 0,rV 26 25,rR 27 (.bin .lss a7 false (.t 24) (.t 26)),rM 28 27,rA 29 28 (.move (.t 0)),rA 30 28 (.move (.t 5)),rA 31 28 (.idxV 2 (.t 29) (.t 30)),rA 32 28 (.fieldAddr 0 (.t 31)),rA 33 28 (.load1 (.t 32)),rA 34 28 (.fieldAddr 0 (.t 3)),rA 35 28 (.load1 (.t 34)),rA 36 28 (.bin .eql a7 false (.t 33) (.t 35)),rR 37 (.pick (.t 28) (.t 36) (.c (.bool false))),.stage [⟨(some 35),(some (28 ,true)),.load1 (.t 34)⟩,⟨(some 33),(some (28 ,true)),.load1 (.t 32)⟩]]) (.cond (.t 37) (.seq (.ops [rR 38 (.buildSlice 0 2 [] []),rM 39 0,rR 40 (.app 2 16 (.t 38) (.t 39)),rM 6 40]) (.seq (.ops [rM 41 6,rM 42 5,rR 43 (.loadN 2 (.t 3)),rR 44 (.idxV 2 (.t 41) (.t 42)),rN (.store 2 (.t 44) (.t 43))]) (.seq (.ops [rM 45 6,rM 4 45]) .ret))) .skip)) (.seq (.ops [rR 46 (.buildSlice 0 2 [] []),rM 47 0,rM 48 5,rR 49 (.sliceV 2 (.t 47) none (some (.t 48)) none),rR 51 (.loadN 2 (.t 3)),rR 52 (.buildSlice 1 2 [(iV 0),(.int .u64 0)] [(0 ,2 ,(.t 51))]),rM 54 0,rM 55 5,rR 56 (.sliceV 2 (.t 54) (some (.t 55)) none none),.stage [⟨(some 51),none,.loadN 2 (.t 3)⟩],rR 50 (.app 2 16 (.t 46) (.t 49)),.stage [⟨(some 51),none,.loadN 2 (.t 3)⟩],rR 53 (.app 2 16 (.t 50) (.t 52)),rR 57 (.app 2 16 (.t 53) (.t 56)),rM 4 57]) .ret)))))
theorem s0m:k7 P d0I=.ok ⟨58,[.tmp 4],k0Y⟩:=by kernel_rfl
noncomputable def g0C:CC :=
 (.seq (.ops [rX 2 .nils,rX 3 (iV 0)]) (.seq (.seq (.ops [rM 12 0,rC 13 f0Z [(.t 12)],rR 14 (.un .not (.t 13))]) (.cond (.t 14) (.seq (.ops [rX 2 .nils,rX 3 (iV 1)]) .ret) .skip)) (.seq (.ops [rX 4 .nils]) (.seq (.seq (.ops [rM 15 0,rV 16 15,rX 17 (iV 0)]) (.block 0 (.loop (.seq (.ops [rR 18 (.bin .lss a7 false (.t 17) (.t 16))]) (.seq (.cond (.t 18) .skip (.exit 0)) (.seq (.block 1 (.seq (.ops [rR 19 (.idxV 2 (.t 15) (.t 17)),rR 20 (.loadN 2 (.t 19)),rR 6 (.new [.nils,.nils]),rN (.store 2 (.t 6) (.t 20))]) (.seq (.ops [rX 7 (iV 0)]) (.block 2 (.loop (.seq (.seq (.ops [rM 21 7,rF 22 1 6,rL 23 22,rV 24 23,rR 25 (.bin .lss a7 false (.t 21) (.t 24))]) (.cond (.t 25) .skip (.exit 2))) (.seq (.block 3 (.seq (.ops [rF 29 0 6,rL 30 29,rC 31 c0V [(.t 30)],rM 28 31,rE 32 28 0,rE 33 28 1,rM 8 32,rM 9 33]) (.seq (.ops [rF 35 1 6,rL 36 35,rM 37 7,rM 38 7,rR 39 (.bin .add a7 true (.t 38) (iC 20)),rF 40 1 6,rL 41 40,rV 42 41,rR 43 (.mm false (.t 39) [(.t 42)]),rR 44 (.sliceV 2 (.t 36) (some (.t 37)) (some (.t 43)) none),rC 45 a0Y [(.t 44)],rM 34 45,rE 46 34 0,rE 47 34 1,rM 10 46,rM 11 47]) (.seq (.ops [rM 48 8,rM 49 10,rR 50 (.app 1 1 (.t 48) (.t 49)),rM 8 50]) (.ops [rM 51 4,rM 52 8,rV 53 52,rR 54 (.conv (.int .u64) (.t 53)),rC 55 S9 [(.t 54),(iC 4)],rR 56 (.app 1 1 (.t 51) (.t 55)),rM 57 8,rR 58 (.app 1 1 (.t 56) (.t 57)),rM 4 58]))))) (.ops [rM 26 7,rR 27 (.bin .add a7 true (.t 26) (iC 20)),rM 7 27])))))))) (.ops [rR 59 (.bin .add a7 true (.t 17) (iC 1)),rM 17 59]))))))) (.seq (.ops [rM 60 4,rM 2 60,rX 3 (iV 0)]) .ret)))))
theorem n0e:k7 P c0U=.ok ⟨61,[.tmp 2,.tmp 3],g0C⟩:=by kernel_rfl
noncomputable def k0Z:CC :=
 (.seq (.ops [rX 2 (.bool false)]) (.seq (.seq (.ops [rM 5 0,rV 6 5,rX 7 (iV 0)]) (.block 0 (.loop (.seq (.ops [rR 8 (.bin .lss a7 false (.t 7) (.t 6))]) (.seq (.cond (.t 8) .skip (.exit 0)) (.seq (.block 1 (.seq (.ops [rM 9 7,rR 10 (.idxV 2 (.t 5) (.t 7)),rR 11 (.loadN 2 (.t 10)),rR 4 (.new [.nils,.nils]),rM 3 9,rN (.store 2 (.t 4) (.t 11))]) (.seq (.ops [rF 12 0 4,rL 13 12,.stage [⟨(some 13),none,.load1 (.t 12)⟩],rC 14 a0H [(.t 13)],rR 15 (.un .not (.t 14)),rM 16 15,rB 17 16 (.fieldAddr 1 (.t 4)),rB 18 16 (.load1 (.t 17)),rB 19 16 (.lenV (.t 18)),rB 20 16 (.bin .eql a7 true (.t 19) (iC 0)),rR 21 (.pick (.t 16) (.c (.bool true)) (.t 20)),rM 22 21,rB 23 22 (.fieldAddr 1 (.t 4)),rB 24 22 (.load1 (.t 23)),.stage [⟨(some 24),(some (22 ,false)),.load1 (.t 23)⟩,⟨(some 18),(some (16 ,false)),.load1 (.t 17)⟩],rB 25 22 (.callV (.c (.func (.func d0J) [] [])) [(.t 24)]),rB 26 22 (.un .not (.t 25)),rR 27 (.pick (.t 22) (.c (.bool true)) (.t 26)),rM 28 27,rB 29 28 (.move (.t 3)),rB 30 28 (.bin .gtr a7 true (.t 29) (iC 0)),rB 31 28 (.move (.t 30)),rA 32 31 (.move (.t 0)),rA 33 31 (.move (.t 3)),rA 34 31 (.bin .sub a7 true (.t 33) (iC 1)),rA 35 31 (.idxV 2 (.t 32) (.t 34)),rA 36 31 (.fieldAddr 0 (.t 35)),rA 37 31 (.load1 (.t 36)),rA 38 31 (.fieldAddr 0 (.t 4)),rA 39 31 (.load1 (.t 38)),.stage [⟨(some 39),(some (31 ,true)),.load1 (.t 38)⟩,⟨(some 37),(some (31 ,true)),.load1 (.t 36)⟩],rA 40 31 (.callV (.c (.func (.func M6) [] [])) [(.t 37),(.t 39)]),rA 41 31 (.bin .geq a7 true (.t 40) (iC 0)),rB 42 28 (.pick (.t 31) (.t 41) (.c (.bool false))),rR 43 (.pick (.t 28) (.c (.bool true)) (.t 42))]) (.cond (.t 43) (.seq (.ops [rX 2 (.bool false)]) .ret) .skip)))) (.ops [rR 44 (.bin .add a7 true (.t 7) (iC 1)),rM 7 44]))))))) (.seq (.ops [rX 2 (.bool true)]) .ret)))
theorem s0n:k7 P f0Z=.ok ⟨45,[.tmp 2],k0Z⟩:=by kernel_rfl
noncomputable def k00:CC :=
 (.seq (.ops [rX 2 (.bool false)]) (.seq (.seq (.ops [rM 4 0,rV 5 4,rX 6 (iV 0)]) (.block 0 (.loop (.seq (.ops [rR 7 (.bin .lss a7 false (.t 6) (.t 5))]) (.seq (.cond (.t 7) .skip (.exit 0)) (.seq (.block 1 (.seq (.ops [rM 8 6,rM 3 8]) (.seq (.ops [rM 9 3,rR 10 (.bin .gtr a7 true (.t 9) (iC 0)),rM 11 10,rA 12 11 (.move (.t 0)),rA 13 11 (.move (.t 3)),rA 14 11 (.bin .sub a7 true (.t 13) (iC 1)),rA 15 11 (.idxV 2 (.t 12) (.t 14)),rA 16 11 (.fieldAddr 0 (.t 15)),rA 17 11 (.load1 (.t 16)),rA 18 11 (.move (.t 0)),rA 19 11 (.move (.t 3)),rA 20 11 (.idxV 2 (.t 18) (.t 19)),rA 21 11 (.fieldAddr 0 (.t 20)),rA 22 11 (.load1 (.t 21)),rA 23 11 (.bin .geq a7 false (.t 17) (.t 22)),rR 24 (.pick (.t 11) (.t 23) (.c (.bool false))),.stage [⟨(some 22),(some (11 ,true)),.load1 (.t 21)⟩,⟨(some 17),(some (11 ,true)),.load1 (.t 16)⟩]]) (.cond (.t 24) (.seq (.ops [rX 2 (.bool false)]) .ret) .skip)))) (.ops [rR 25 (.bin .add a7 true (.t 6) (iC 1)),rM 6 25]))))))) (.seq (.ops [rM 26 0,rV 27 26,rR 28 (.bin .leq a7 true (.t 27) (iC 65535)),rM 2 28]) .ret)))
theorem s0o:k7 P d0J=.ok ⟨29,[.tmp 2],k00⟩:=by kernel_rfl
noncomputable def g0D:CC :=
 (.seq (.ops [rX 2 .nils,rX 3 (iV 0)]) (.seq (.seq (.ops [rM 7 0,rC 8 a0H [(.t 7)],rR 9 (.un .not (.t 8))]) (.cond (.t 9) (.seq (.ops [rX 2 .nils,rX 3 (iV 1)]) .ret) .skip)) (.seq (.ops [rM 10 0,rV 11 10,rR 12 (.conv (.int .u8) (.t 11)),rR 13 (.buildSlice 1 1 [(.int .u8 0)] [(0 ,1 ,(.t 12))]),rM 4 13]) (.seq (.seq (.ops [rM 14 0,rV 15 14,rX 16 (iV 0)]) (.block 0 (.loop (.seq (.ops [rR 17 (.bin .lss a7 false (.t 16) (.t 15))]) (.seq (.cond (.t 17) .skip (.exit 0)) (.seq (.block 1 (.seq (.ops [rR 18 (.idxV 2 (.t 14) (.t 16)),rR 19 (.loadN 2 (.t 18)),rR 6 (.new [(.str []),(.str [])]),rN (.store 2 (.t 6) (.t 19))]) (.seq (.ops [rM 20 4,rF 21 0 6,rL 22 21,rR 23 (.lenS (.t 22)),rR 24 (.conv (.int .u8) (.t 23)),rR 25 (.buildSlice 1 1 [(.int .u8 0)] [(0 ,1 ,(.t 24))]),rF 27 0 6,rL 28 27,.stage [⟨(some 28),none,.load1 (.t 27)⟩,⟨(some 22),none,.load1 (.t 21)⟩],rR 26 (.app 1 1 (.t 20) (.t 25)),.stage [⟨(some 28),none,.load1 (.t 27)⟩],rR 29 (.app 1 1 (.t 26) (.t 28)),rM 4 29]) (.ops [rM 30 4,rF 31 1 6,rL 32 31,rR 33 (.lenS (.t 32)),rR 34 (.conv (.int .u8) (.t 33)),rR 35 (.buildSlice 1 1 [(.int .u8 0)] [(0 ,1 ,(.t 34))]),rF 37 1 6,rL 38 37,.stage [⟨(some 38),none,.load1 (.t 37)⟩,⟨(some 32),none,.load1 (.t 31)⟩],rR 36 (.app 1 1 (.t 30) (.t 35)),.stage [⟨(some 38),none,.load1 (.t 37)⟩],rR 39 (.app 1 1 (.t 36) (.t 38)),rM 4 39])))) (.ops [rR 40 (.bin .add a7 true (.t 16) (iC 1)),rM 16 40]))))))) (.seq (.ops [rM 41 4,rM 2 41,rX 3 (iV 0)]) .ret)))))
theorem n0f:k7 P c0V=.ok ⟨42,[.tmp 2,.tmp 3],g0D⟩:=by kernel_rfl
noncomputable def d0o:CC :=
 (.seq (.ops [rX 2 .nils,rX 3 (iV 0)]) (.seq (.seq (.ops [rM 10 0,rC 11 d0J [(.t 10)],rR 12 (.un .not (.t 11))]) (.cond (.t 12) (.seq (.ops [rX 2 .nils,rX 3 (iV 1)]) .ret) .skip)) (.seq (.ops [rR 13 (.build [.nils] []),rR 14 (.box (.t 13)),rM 4 14]) (.seq (.seq (.ops [rM 15 0,rV 16 15,rX 17 (iV 0)]) (.block 0 (.loop (.seq (.ops [rR 18 (.bin .lss a7 false (.t 17) (.t 16))]) (.seq (.cond (.t 18) .skip (.exit 0)) (.seq (.block 1 (.seq (.ops [rM 19 17,rR 20 (.idxV 2 (.t 15) (.t 17)),rR 21 (.loadN 2 (.t 20)),rR 6 (.new [(iV 0),(.int .u64 0)]),rM 5 19,rN (.store 2 (.t 6) (.t 21))]) (.seq (.seq (.ops [rM 22 5]) (.block 2 (.seq (.ops [rR 49 (.bin .eql a7 true (.t 22) (iC 0)),rM 48 49]) (.cond (.t 48) (.seq (.ops [rM 50 4,rF 51 0 6,rL 52 51,rR 53 (.conv (.int .u64) (.t 52)),rC 54 m5 [(.t 50),(.t 53),(iC 64)]]) (.seq (.ops [rM 55 4,rF 56 1 6,rL 57 56,rC 58 m5 [(.t 55),(.t 57),(iC 64)]]) (.exit 1))) (.seq (.ops [rR 60 (.bin .eql a7 true (.t 22) (iC 1)),rM 59 60]) (.cond (.t 59) (.ops [rM 61 4,rF 62 0 6,rL 63 62,rM 64 0,rR 65 (.idxV 2 (.t 64) (iC 0)),rF 66 0 65,rL 67 66,rR 68 (.bin .sub a7 false (.t 63) (.t 67)),.stage [⟨(some 67),none,.load1 (.t 66)⟩,⟨(some 63),none,.load1 (.t 62)⟩],rC 69 T5 [(.t 61),(.t 68)]]) (.ops [rM 23 4,rF 24 0 6,rL 25 24,rM 26 0,rM 27 5,rR 28 (.bin .sub a7 true (.t 27) (iC 1)),rR 29 (.idxV 2 (.t 26) (.t 28)),rF 30 0 29,rL 31 30,rR 32 (.bin .sub a7 false (.t 25) (.t 31)),rM 33 0,rM 34 5,rR 35 (.bin .sub a7 true (.t 34) (iC 1)),rR 36 (.idxV 2 (.t 33) (.t 35)),rF 37 0 36,rL 38 37,rM 39 0,rM 40 5,rR 41 (.bin .sub a7 true (.t 40) (iC 2)),rR 42 (.idxV 2 (.t 39) (.t 41)),rF 43 0 42,rL 44 43,rR 45 (.bin .sub a7 false (.t 38) (.t 44)),rR 46 (.bin .sub a7 false (.t 32) (.t 45)),.stage [⟨(some 44),none,.load1 (.t 43)⟩,⟨(some 38),none,.load1 (.t 37)⟩,⟨(some 31),none,.load1 (.t 30)⟩,⟨(some 25),none,.load1 (.t 24)⟩],rC 47 T5 [(.t 23),(.t 46)]]))))))) (.ops [rM 70 4,rF 71 1 6,rL 72 71,rM 73 0,rM 74 5,rR 75 (.bin .sub a7 true (.t 74) (iC 1)),rR 76 (.idxV 2 (.t 73) (.t 75)),rF 77 1 76,rL 78 77,rR 79 (.bin .xor j0 false (.t 72) (.t 78)),.stage [⟨(some 78),none,.load1 (.t 77)⟩,⟨(some 72),none,.load1 (.t 71)⟩],rC 80 T6 [(.t 70),(.t 79)]])))) (.ops [rR 81 (.bin .add a7 true (.t 17) (iC 1)),rM 17 81]))))))) (.seq (.ops [rM 82 0,rV 83 82,rR 84 (.conv (.int .u64) (.t 83)),rC 85 S9 [(.t 84),(iC 2)],rM 7 85]) (.seq (.seq (.ops [rM 86 4,rK 87 86,rF 88 0 87,rL 89 88,rV 90 89,rX 91 (iV 0)]) (.block 3 (.loop (.seq (.ops [rR 92 (.bin .lss a7 false (.t 91) (.t 90))]) (.seq (.cond (.t 92) .skip (.exit 3)) (.seq (.block 4 (.seq (.ops [rM 93 91,rR 94 (.idxV 1 (.t 89) (.t 91)),rL 95 94,rM 8 93,rM 9 95]) (.seq (.seq (.ops [rM 96 8,rR 97 (.bin .rem a7 true (.t 96) (iC 8)),rR 98 (.bin .eql a7 true (.t 97) (iC 0))]) (.cond (.t 98) (.ops [rM 99 7,rR 100 (.buildSlice 1 1 [(.int .u8 0)] [(0 ,1 ,(.c (.int .u8 0)))]),rR 101 (.app 1 1 (.t 99) (.t 100)),rM 7 101]) .skip)) (.seq (.ops [rM 102 9]) (.cond (.t 102) (.ops [rM 103 7,rM 104 7,rV 105 104,rR 106 (.bin .sub a7 true (.t 105) (iC 1)),rM 107 7,rM 108 7,rV 109 108,rR 110 (.bin .sub a7 true (.t 109) (iC 1)),rR 111 (.idxV 1 (.t 107) (.t 110)),rL 112 111,rM 113 8,rR 114 (.bin .rem a7 true (.t 113) (iC 8)),rR 115 (.bin .shr t6 true (.c (.int .u8 128)) (.t 114)),rR 116 (.bin .or t6 false (.t 112) (.t 115)),rR 117 (.idxV 1 (.t 103) (.t 106)),.stage [⟨(some 112),none,.load1 (.t 111)⟩],rN (.store 1 (.t 117) (.t 116))]) .skip))))) (.ops [rR 118 (.bin .add a7 true (.t 91) (iC 1)),rM 91 118]))))))) (.seq (.ops [rM 119 7,rM 2 119,rX 3 (iV 0)]) .ret)))))))
theorem n0g:k7 P a0Y=.ok ⟨120,[.tmp 2,.tmp 3],d0o⟩:=by kernel_rfl
noncomputable def f0J:CC :=
 (.seq (.ops [rM 7 2,rR 8 (.bin .sub a7 true (.t 7) (iC 1)),rM 6 8]) (.block 0 (.loop (.seq (.seq (.ops [rM 9 6,rR 10 (.bin .geq a7 true (.t 9) (iC 0))]) (.cond (.t 10) .skip (.exit 0))) (.seq (.block 1 (.ops [rM 13 0,rM 14 0,rK 15 14,rF 16 0 15,rL 17 16,rM 18 1,rM 19 6,rR 20 (.bin .shr j0 false (.t 18) (.t 19)),rR 21 (.bin .and j0 true (.t 20) (.c (.int .u64 1))),rR 22 (.bin .eql j0 true (.t 21) (.c (.int .u64 1))),rR 23 (.buildSlice 1 1 [(.bool false)] [(0 ,1 ,(.t 22))]),.stage [⟨(some 17),none,.load1 (.t 16)⟩],rR 24 (.app 1 1 (.t 17) (.t 23)),rK 25 13,rF 26 0 25,rN (.store 1 (.t 26) (.t 24))])) (.ops [rM 11 6,rR 12 (.bin .sub a7 true (.t 11) (iC 1)),rM 6 12]))))))
theorem l0k:k7 P m5=.ok ⟨27,[],f0J⟩:=by kernel_rfl
noncomputable def B6:CC :=
 (.block 0 (.seq (.ops [rM 11 1,rR 12 (.bin .eql a7 true (.t 11) (iC 0)),rM 10 12]) (.cond (.t 10) (.ops [rM 13 0,rC 14 m5 [(.t 13),(.c (.int .u64 0)),(iC 1)]]) (.seq (.ops [rM 16 1,rR 17 (.bin .geq a7 true (.t 16) (iC (-64))),rM 18 17,rA 19 18 (.move (.t 1)),rA 20 18 (.bin .leq a7 true (.t 19) (iC 63)),rR 21 (.pick (.t 18) (.t 20) (.c (.bool false))),rM 15 21]) (.cond (.t 15) (.seq (.ops [rM 22 0,rC 23 m5 [(.t 22),(.c (.int .u64 2)),(iC 2)]]) (.ops [rM 24 0,rM 25 1,rR 26 (.conv (.int .u64) (.t 25)),rC 27 m5 [(.t 24),(.t 26),(iC 7)]])) (.seq (.ops [rM 29 1,rR 30 (.bin .geq a7 true (.t 29) (iC (-2048))),rM 31 30,rA 32 31 (.move (.t 1)),rA 33 31 (.bin .leq a7 true (.t 32) (iC 2047)),rR 34 (.pick (.t 31) (.t 33) (.c (.bool false))),rM 28 34]) (.cond (.t 28) (.seq (.ops [rM 35 0,rC 36 m5 [(.t 35),(.c (.int .u64 6)),(iC 3)]]) (.ops [rM 37 0,rM 38 1,rR 39 (.conv (.int .u64) (.t 38)),rC 40 m5 [(.t 37),(.t 39),(iC 12)]])) (.seq (.ops [rM 42 1,rR 43 (.bin .geq a7 true (.t 42) (iC (-2147483648))),rM 44 43,rA 45 44 (.move (.t 1)),rA 46 44 (.bin .leq a7 true (.t 45) (iC 2147483647)),rR 47 (.pick (.t 44) (.t 46) (.c (.bool false))),rM 41 47]) (.cond (.t 41) (.seq (.ops [rM 48 0,rC 49 m5 [(.t 48),(.c (.int .u64 14)),(iC 4)]]) (.ops [rM 50 0,rM 51 1,rR 52 (.conv (.int .u64) (.t 51)),rC 53 m5 [(.t 50),(.t 52),(iC 32)]])) (.seq (.ops [rM 4 0,rC 5 m5 [(.t 4),(.c (.int .u64 15)),(iC 4)]]) (.ops [rM 6 0,rM 7 1,rR 8 (.conv (.int .u64) (.t 7)),rC 9 m5 [(.t 6),(.t 8),(iC 64)]])))))))))))
theorem i0a:k7 P T5=.ok ⟨54,[],B6⟩:=by kernel_rfl
noncomputable def a0x:CC :=
 (.seq (.seq (.ops [rM 7 1,rR 8 (.bin .eql j0 true (.t 7) (.c (.int .u64 0)))]) (.cond (.t 8) (.seq (.ops [rM 9 0,rC 10 m5 [(.t 9),(.c (.int .u64 0)),(iC 1)]]) .ret) .skip)) (.seq (.ops [rX 4 (iV 0),rX 5 (iV 0)]) (.seq (.block 0 (.loop (.seq (.seq (.ops [rM 11 1,rM 12 4,rR 13 (.bin .sub a7 true (iC 63) (.t 12)),rR 14 (.bin .shr j0 false (.t 11) (.t 13)),rR 15 (.bin .and j0 true (.t 14) (.c (.int .u64 1))),rR 16 (.bin .eql j0 true (.t 15) (.c (.int .u64 0)))]) (.cond (.t 16) .skip (.exit 0))) (.block 1 (.ops [rM 17 4,rR 18 (.bin .add a7 true (.t 17) (iC 1)),rM 4 18]))))) (.seq (.block 2 (.loop (.seq (.seq (.ops [rM 19 1,rM 20 5,rR 21 (.bin .shr j0 false (.t 19) (.t 20)),rR 22 (.bin .and j0 true (.t 21) (.c (.int .u64 1))),rR 23 (.bin .eql j0 true (.t 22) (.c (.int .u64 0)))]) (.cond (.t 23) .skip (.exit 2))) (.block 3 (.ops [rM 24 5,rR 25 (.bin .add a7 true (.t 24) (iC 1)),rM 5 25]))))) (.seq (.ops [rM 26 4,rR 27 (.bin .sub a7 true (iC 64) (.t 26)),rM 28 5,rR 29 (.bin .sub a7 false (.t 27) (.t 28)),rM 6 29]) (.seq (.ops [rM 30 0,rC 31 m5 [(.t 30),(.c (.int .u64 1)),(iC 1)]]) (.seq (.ops [rM 32 0,rM 33 4,rR 34 (.conv (.int .u64) (.t 33)),rC 35 m5 [(.t 32),(.t 34),(iC 6)]]) (.seq (.ops [rM 36 0,rM 37 6,rR 38 (.bin .sub a7 true (.t 37) (iC 1)),rR 39 (.conv (.int .u64) (.t 38)),rC 40 m5 [(.t 36),(.t 39),(iC 6)]]) (.ops [rM 41 0,rM 42 1,rM 43 5,rR 44 (.bin .shr j0 false (.t 42) (.t 43)),rM 45 6,rC 46 m5 [(.t 41),(.t 44),(.t 45)]])))))))))
theorem i0b:k7 P T6=.ok ⟨47,[],a0x⟩:=by kernel_rfl
noncomputable def h0y:CC :=
 (.seq (.ops [rX 2 .nils,rX 3 (iV 0)]) (.seq (.ops [rM 9 0,rC 10 f0c [(.t 9),(iC 0)],rM 4 10]) (.seq (.ops [rX 5 .nils]) (.seq (.seq (.ops [rM 12 4,rC 13 P8 [(.t 12)],rM 11 13,rE 14 11 0,rE 15 11 1,rE 16 11 2,rR 6 (.new [.nils,(iV 0),(iV 0),(iV 0),(iV 0)]),rN (.store 5 (.t 6) (.t 14)),rM 7 15,rM 8 16]) (.block 0 (.loop (.seq (.seq (.ops [rM 17 8]) (.cond (.t 17) .skip (.exit 0))) (.seq (.block 1 (.ops [rM 24 5,rR 25 (.loadN 5 (.t 6)),rR 26 (.buildSlice 1 5 [.nils,(iV 0),(iV 0),(iV 0),(iV 0)] [(0 ,5 ,(.t 25))]),rR 27 (.app 5 56 (.t 24) (.t 26)),rM 5 27])) (.seq (.seq (.ops [rR 28 (.loadN 5 (.t 6))]) (.ops [rR 6 (.new [.nils,(iV 0),(iV 0),(iV 0),(iV 0)]),rN (.store 5 (.t 6) (.t 28))])) (.ops [rM 19 4,rC 20 P8 [(.t 19)],rM 18 20,rE 21 18 0,rE 22 18 1,rE 23 18 2,rN (.store 5 (.t 6) (.t 21)),rM 8 23]))))))) (.seq (.seq (.ops [rM 29 4,rC 30 a0o [(.t 29)],rR 31 (.bin .neq A9 true (.t 30) (iC 0)),rM 32 31,rB 33 32 (.move (.t 5)),rB 34 32 (.callV (.c (.func (.func d0E) [] [])) [(.t 33)]),rB 35 32 (.un .not (.t 34)),rR 36 (.pick (.t 32) (.c (.bool true)) (.t 35))]) (.cond (.t 36) (.seq (.ops [rX 2 .nils,rX 3 (iV 5)]) .ret) .skip)) (.seq (.ops [rM 37 5,rM 2 37,rX 3 (iV 0)]) .ret))))))
theorem n0Y:k7 P e0e=.ok ⟨38,[.tmp 2,.tmp 3],h0y⟩:=by kernel_rfl
noncomputable def j0p:CC :=
 (.seq (.ops [rX 4 .nilp]) (.seq (.ops [rM 5 0,rC 6 O8 [(.t 5)],rM 7 1,rR 8 (.mm true (.t 7) [(iC 0)]),rR 9 (.mm false (.t 8) [(iC 2147483647)]),rR 10 (.build [(.bool false),.nils,(iV 0),(.bool false)] [(0 ,1 ,(.c (.bool true))),(1 ,1 ,(.t 6)),(2 ,1 ,(.t 9))]),rR 11 (.box (.t 10)),rM 4 11]) .ret))
theorem q0f:k7 P f0c=.ok ⟨12,[.tmp 4],j0p⟩:=by kernel_rfl
noncomputable def P4:CC :=
 (.seq (.ops [rX 2 .nils]) (.seq (.seq (.ops [rM 3 0,rR 4 (.bin .eql h0L true (.t 3) (.c .nils))]) (.cond (.t 4) (.seq (.ops [rX 2 .nils]) .ret) .skip)) (.seq (.ops [rR 5 (.buildSlice 0 1 [] []),rM 6 0,rR 7 (.app 1 1 (.t 5) (.t 6)),rM 2 7]) .ret)))
theorem e0v:k7 P O8=.ok ⟨8,[.tmp 2],P4⟩:=by kernel_rfl
noncomputable def Y4:CC :=
 (.seq (.ops [rR 2 (.new [.nils,(iV 0),(iV 0),(iV 0),(iV 0)]),rX 3 .nils,rX 4 (.bool false)]) (.seq (.seq (.ops [rM 9 0,rR 10 (.bin .eql b0p true (.t 9) (.c .nilp)),rM 11 10,rB 12 11 (.move (.t 0)),rB 13 11 (.nilCheck (.t 12)),rB 14 11 (.fieldAddr 0 (.t 13)),rB 15 11 (.load1 (.t 14)),rB 16 11 (.un .not (.t 15)),rR 17 (.pick (.t 11) (.c (.bool true)) (.t 16)),rM 18 17,rB 19 18 (.move (.t 0)),rB 20 18 (.nilCheck (.t 19)),rB 21 18 (.fieldAddr 3 (.t 20)),rB 22 18 (.load1 (.t 21)),rR 23 (.pick (.t 18) (.c (.bool true)) (.t 22)),rM 24 23,rB 25 24 (.move (.t 0)),rB 26 24 (.nilCheck (.t 25)),rB 27 24 (.fieldAddr 1 (.t 26)),rB 28 24 (.load1 (.t 27)),rB 29 24 (.lenV (.t 28)),rB 30 24 (.bin .eql a7 true (.t 29) (iC 0)),rR 31 (.pick (.t 24) (.c (.bool true)) (.t 30))]) (.cond (.t 31) (.seq (.ops [rR 32 (.build [.nils,(iV 0),(iV 0),(iV 0),(iV 0)] []),rN (.store 5 (.t 2) (.t 32)),rX 3 .nils,rX 4 (.bool false)]) .ret) .skip)) (.seq (.ops [rM 34 0,rK 35 34,rF 36 1 35,rL 37 36,rC 38 e0f [(.t 37)],rM 33 38,rE 39 33 0,rE 40 33 1,rE 41 33 2,rM 5 39,rM 6 40,rM 7 41]) (.seq (.seq (.ops [rM 42 7,rR 43 (.bin .eql a7 true (.t 42) (iC 0))]) (.cond (.t 43) (.seq (.ops [rM 44 0,rK 45 44,rF 46 3 45,rN (.store 1 (.t 46) (.c (.bool true)))]) (.seq (.ops [rR 47 (.build [.nils,(iV 0),(iV 0),(iV 0),(iV 0)] []),rN (.store 5 (.t 2) (.t 47)),rX 3 .nils,rX 4 (.bool false)]) .ret)) .skip)) (.seq (.ops [rM 48 5,rM 49 0,rK 50 49,rF 51 2 50,rL 52 51,rM 53 7,rM 54 6,rR 55 (.idxV 2 (.t 54) (iC 0)),rF 56 0 55,rL 57 56,rM 58 6,rM 59 6,rV 60 59,rR 61 (.bin .sub a7 true (.t 60) (iC 1)),rR 62 (.idxV 2 (.t 58) (.t 61)),rF 63 0 62,rL 64 63,rR 65 (.build [.nils,(iV 0),(iV 0),(iV 0),(iV 0)] [(0 ,1 ,(.t 48)),(1 ,1 ,(.t 52)),(2 ,1 ,(.t 53)),(3 ,1 ,(.t 57)),(4 ,1 ,(.t 64))]),rR 8 (.new [.nils,(iV 0),(iV 0),(iV 0),(iV 0)]),.stage [⟨(some 64),none,.load1 (.t 63)⟩,⟨(some 57),none,.load1 (.t 56)⟩,⟨(some 52),none,.load1 (.t 51)⟩],rN (.store 5 (.t 8) (.t 65))]) (.seq (.ops [rM 66 0,rM 67 0,rM 68 0,rK 69 68,rF 70 1 69,rL 71 70,rM 72 7,rR 73 (.sliceV 1 (.t 71) (some (.t 72)) none none),rM 74 0,rK 75 74,rF 76 2 75,rL 77 76,rM 78 7,rR 79 (.bin .add a7 false (.t 77) (.t 78)),rK 80 66,rF 81 1 80,.stage [⟨(some 77),none,.load1 (.t 76)⟩,⟨(some 71),none,.load1 (.t 70)⟩],rN (.store 1 (.t 81) (.t 73)),rK 82 67,rF 83 2 82,rN (.store 1 (.t 83) (.t 79))]) (.seq (.ops [rR 84 (.loadN 5 (.t 8)),rM 85 6,rN (.store 5 (.t 2) (.t 84)),rM 3 85,rX 4 (.bool true)]) .ret)))))))
theorem h0f:k7 P P8=.ok ⟨86,[.many 2 5,.tmp 3,.tmp 4],Y4⟩:=by kernel_rfl
noncomputable def b0J:CC :=
 (.seq (.ops [rX 2 .nils,rX 3 .nils,rX 4 (iV 0)]) (.seq (.seq (.ops [rM 11 0,rV 12 11,rR 13 (.bin .lss a7 true (.t 12) (iC 4))]) (.cond (.t 13) (.seq (.ops [rX 2 .nils,rX 3 .nils,rX 4 (iV 0)]) .ret) .skip)) (.seq (.ops [rM 15 0,rR 16 (.sliceV 1 (.t 15) none (some (iC 4)) none),rC 17 c0v [(.t 16)],rM 14 17,rE 18 14 0,rE 19 14 1,rM 5 18,rM 6 19]) (.seq (.seq (.ops [rM 20 0,rV 21 20,rR 22 (.bin .sub a7 true (.t 21) (iC 4)),rR 23 (.conv (.int .u64) (.t 22)),rM 24 5,rR 25 (.bin .lss j0 false (.t 23) (.t 24))]) (.cond (.t 25) (.seq (.ops [rX 2 .nils,rX 3 .nils,rX 4 (iV 0)]) .ret) .skip)) (.seq (.ops [rM 27 0,rM 28 5,rR 29 (.conv (.int .i64) (.t 28)),rR 30 (.bin .add a7 true (iC 4) (.t 29)),rR 31 (.sliceV 1 (.t 27) (some (iC 4)) (some (.t 30)) none),rC 32 b0X [(.t 31)],rM 26 32,rE 33 26 0,rE 34 26 1,rE 35 26 2,rM 7 33,rM 8 34,rM 9 35]) (.seq (.seq (.ops [rM 36 9,rR 37 (.bin .neq A9 true (.t 36) (iC 0))]) (.cond (.t 37) (.seq (.ops [rX 2 .nils,rX 3 .nils,rX 4 (iV 0)]) .ret) .skip)) (.seq (.ops [rM 39 8,rC 40 c0W [(.t 39)],rM 38 40,rE 41 38 0,rE 42 38 1,rM 10 41,rM 9 42]) (.seq (.seq (.ops [rM 43 9,rR 44 (.bin .neq A9 true (.t 43) (iC 0)),rM 45 44,rB 46 45 (.move (.t 10)),rB 47 45 (.lenV (.t 46)),rB 48 45 (.bin .eql a7 true (.t 47) (iC 0)),rR 49 (.pick (.t 45) (.c (.bool true)) (.t 48)),rM 50 49,rB 51 50 (.move (.t 10)),rB 52 50 (.lenV (.t 51)),rB 53 50 (.bin .gtr a7 true (.t 52) (iC 20)),rR 54 (.pick (.t 50) (.c (.bool true)) (.t 53))]) (.cond (.t 54) (.seq (.ops [rX 2 .nils,rX 3 .nils,rX 4 (iV 0)]) .ret) .skip)) (.seq (.ops [rM 55 7,rM 56 10,rM 57 5,rR 58 (.conv (.int .i64) (.t 57)),rR 59 (.bin .add a7 true (iC 4) (.t 58)),rM 2 55,rM 3 56,rM 4 59]) .ret)))))))))
theorem n0Z:k7 P e0f=.ok ⟨60,[.tmp 2,.tmp 3,.tmp 4],b0J⟩:=by kernel_rfl
noncomputable def k0g:CC :=
 (.seq (.ops [rX 2 (.int .u64 0),rX 3 (.bool false)]) (.seq (.seq (.ops [rM 7 0,rV 8 7,rR 9 (.bin .eql a7 true (.t 8) (iC 0)),rM 10 9,rB 11 10 (.move (.t 0)),rB 12 10 (.lenV (.t 11)),rB 13 10 (.bin .gtr a7 true (.t 12) (iC 8)),rR 14 (.pick (.t 10) (.c (.bool true)) (.t 13))]) (.cond (.t 14) (.seq (.ops [rX 2 (.int .u64 0),rX 3 (.bool false)]) .ret) .skip)) (.seq (.ops [rX 4 (.int .u64 0)]) (.seq (.seq (.ops [rM 15 0,rV 16 15,rX 17 (iV 0)]) (.block 0 (.loop (.seq (.ops [rR 18 (.bin .lss a7 false (.t 17) (.t 16))]) (.seq (.cond (.t 18) .skip (.exit 0)) (.seq (.block 1 (.seq (.ops [rR 19 (.idxV 1 (.t 15) (.t 17)),rL 20 19,rM 6 20]) (.ops [rM 21 4,rR 22 (.bin .shl j0 true (.t 21) (.c (.int .u64 8))),rM 23 6,rR 24 (.conv (.int .u64) (.t 23)),rR 25 (.bin .or j0 false (.t 22) (.t 24)),rM 4 25]))) (.ops [rR 26 (.bin .add a7 true (.t 17) (iC 1)),rM 17 26]))))))) (.seq (.ops [rM 27 4,rM 2 27,rX 3 (.bool true)]) .ret)))))
theorem o06:k7 P c0v=.ok ⟨28,[.tmp 2,.tmp 3],k0g⟩:=by kernel_rfl
noncomputable def b03:CC :=
 (.seq (.ops [rX 2 .nils,rX 3 .nils,rX 4 (iV 0)]) (.seq (.seq (.ops [rM 10 0,rV 11 10,rR 12 (.bin .eql a7 true (.t 11) (iC 0))]) (.cond (.t 12) (.seq (.ops [rX 2 .nils,rX 3 .nils,rX 4 (iV 3)]) .ret) .skip)) (.seq (.ops [rM 13 0,rR 14 (.idxV 1 (.t 13) (iC 0)),rL 15 14,rR 16 (.mkS 2 32 [(.str []),(.str [])] (.t 15) (.t 15)),rM 5 16]) (.seq (.ops [rM 17 0,rR 18 (.sliceV 1 (.t 17) (some (iC 1)) none none),rM 0 18]) (.seq (.seq (.ops [rM 19 5,rV 20 19,rX 21 (iV 0)]) (.block 0 (.loop (.seq (.ops [rR 22 (.bin .lss a7 false (.t 21) (.t 20))]) (.seq (.cond (.t 22) .skip (.exit 0)) (.seq (.block 1 (.seq (.ops [rM 23 21,rM 6 23]) (.seq (.ops [rM 24 5,rM 25 6,rR 26 (.idxV 2 (.t 24) (.t 25)),rF 27 0 26,rM 28 5,rM 29 6,rR 30 (.idxV 2 (.t 28) (.t 29)),rF 31 1 30,rR 32 (.build [.nilp,.nilp] [(0 ,1 ,(.t 27)),(1 ,1 ,(.t 31))]),rX 33 (iV 0)]) (.block 2 (.loop (.seq (.ops [rR 34 (.bin .lss a7 true (.t 33) (iC 2))]) (.seq (.cond (.t 34) .skip (.exit 2)) (.seq (.block 3 (.seq (.ops [rR 35 (.index1 2 1 (.t 32) (.t 33)),rM 8 35]) (.seq (.seq (.ops [rM 36 0,rV 37 36,rR 38 (.bin .eql a7 true (.t 37) (iC 0)),rM 39 38,rB 40 39 (.move (.t 0)),rB 41 39 (.lenV (.t 40)),rB 42 39 (.bin .sub a7 true (.t 41) (iC 1)),rB 43 39 (.move (.t 0)),rB 44 39 (.idxV 1 (.t 43) (iC 0)),rB 45 39 (.load1 (.t 44)),rB 46 39 (.conv (.int .i64) (.t 45)),rB 47 39 (.bin .lss a7 false (.t 42) (.t 46)),rR 48 (.pick (.t 39) (.c (.bool true)) (.t 47))]) (.cond (.t 48) (.seq (.ops [rX 2 .nils,rX 3 .nils,rX 4 (iV 3)]) .ret) .skip)) (.seq (.ops [rM 49 0,rR 50 (.idxV 1 (.t 49) (iC 0)),rL 51 50,rR 52 (.conv (.int .i64) (.t 51)),rR 53 (.bin .add a7 true (iC 1) (.t 52)),rM 9 53]) (.ops [rM 54 8,rM 55 0,rM 56 9,rR 57 (.sliceV 1 (.t 55) (some (iC 1)) (some (.t 56)) none),rR 58 (.conv .strB (.t 57)),rM 59 0,rM 60 9,rR 61 (.sliceV 1 (.t 59) (some (.t 60)) none none),rK 62 54,.stage [⟨(some 58),none,.conv .strB (.t 57)⟩],rN (.store 1 (.t 62) (.t 58)),rM 0 61]))))) (.ops [rR 63 (.bin .add a7 true (.t 33) (iC 1)),rM 33 63]))))))))) (.ops [rR 64 (.bin .add a7 true (.t 21) (iC 1)),rM 21 64]))))))) (.seq (.seq (.ops [rM 65 5,rC 66 a0X [(.t 65)],rR 67 (.un .not (.t 66))]) (.cond (.t 67) (.seq (.ops [rX 2 .nils,rX 3 .nils,rX 4 (iV 5)]) .ret) .skip)) (.seq (.ops [rM 68 5,rR 69 (.buildSlice 0 1 [] []),rM 70 0,rR 71 (.app 1 1 (.t 69) (.t 70)),rM 2 68,rM 3 71,rX 4 (iV 0)]) .ret)))))))
theorem l0l:k7 P b0X=.ok ⟨72,[.tmp 2,.tmp 3,.tmp 4],b03⟩:=by kernel_rfl
noncomputable def d0p:CC :=
 (.seq (.ops [rX 2 .nils,rX 3 (iV 0)]) (.seq (.seq (.ops [rM 13 0,rV 14 13,rR 15 (.bin .lss a7 true (.t 14) (iC 2))]) (.cond (.t 15) (.seq (.ops [rX 2 .nils,rX 3 (iV 5)]) .ret) .skip)) (.seq (.ops [rM 17 0,rR 18 (.sliceV 1 (.t 17) none (some (iC 2)) none),rC 19 c0v [(.t 18)],rM 16 19,rE 20 16 0,rE 21 16 1,rM 4 20,rM 5 21]) (.seq (.ops [rM 22 0,rR 23 (.sliceV 1 (.t 22) (some (iC 2)) none none),rM 24 0,rV 25 24,rR 26 (.bin .sub a7 true (.t 25) (iC 2)),rR 27 (.bin .mul a7 true (iC 8) (.t 26)),rR 28 (.build [.nils,(iV 0)] [(0 ,1 ,(.t 23)),(1 ,1 ,(.t 27))]),rR 29 (.build [.nils,(iV 0),(iV 0),(.bool false)] [(0 ,2 ,(.t 28))]),rR 30 (.box (.t 29)),rM 6 30]) (.seq (.ops [rX 7 .nils]) (.seq (.ops [rX 8 (iV 0)]) (.seq .skip (.seq (.seq (.ops [rM 31 4,rR 32 (.conv (.int .i64) (.t 31)),rX 33 (iV 0)]) (.block 0 (.loop (.seq (.ops [rR 34 (.bin .lss a7 false (.t 33) (.t 32))]) (.seq (.cond (.t 34) .skip (.exit 0)) (.seq (.block 1 (.seq (.ops [rM 35 33,rM 9 35]) (.seq (.ops [rR 10 (.new [(iV 0),(.int .u64 0)])]) (.seq (.seq (.ops [rM 36 9,rR 37 (.bin .eql a7 true (.t 36) (iC 0))]) (.cond (.t 37) (.ops [rM 38 6,rC 39 B8 [(.t 38),(iC 64)],rR 40 (.conv (.int .i64) (.t 39)),rM 41 6,rC 42 B8 [(.t 41),(iC 64)],rR 43 (.build [(iV 0),(.int .u64 0)] [(0 ,1 ,(.t 40)),(1 ,1 ,(.t 42))]),rN (.store 2 (.t 10) (.t 43))]) (.seq (.ops [rM 44 8,rM 45 6,rC 46 U5 [(.t 45)],rR 47 (.bin .add a7 false (.t 44) (.t 46)),rM 8 47]) (.ops [rM 48 7,rM 49 9,rR 50 (.bin .sub a7 true (.t 49) (iC 1)),rR 51 (.idxV 2 (.t 48) (.t 50)),rF 52 0 51,rL 53 52,rM 54 8,rR 55 (.bin .add a7 false (.t 53) (.t 54)),rM 56 7,rM 57 9,rR 58 (.bin .sub a7 true (.t 57) (iC 1)),rR 59 (.idxV 2 (.t 56) (.t 58)),rF 60 1 59,rL 61 60,rM 62 6,.stage [⟨(some 61),none,.load1 (.t 60)⟩,⟨(some 53),none,.load1 (.t 52)⟩],rC 63 V5 [(.t 62)],rR 64 (.bin .xor j0 false (.t 61) (.t 63)),rR 65 (.build [(iV 0),(.int .u64 0)] [(0 ,1 ,(.t 55)),(1 ,1 ,(.t 64))]),.stage [⟨(some 61),none,.load1 (.t 60)⟩,⟨(some 53),none,.load1 (.t 52)⟩],rN (.store 2 (.t 10) (.t 65))])))) (.seq (.seq (.ops [rM 66 6,rK 67 66,rF 68 3 67,rL 69 68]) (.cond (.t 69) (.exit 0) .skip)) (.ops [rM 70 7,rR 71 (.loadN 2 (.t 10)),rR 72 (.buildSlice 1 2 [(iV 0),(.int .u64 0)] [(0 ,2 ,(.t 71))]),rR 73 (.app 2 16 (.t 70) (.t 72)),rM 7 73])))))) (.ops [rR 74 (.bin .add a7 true (.t 33) (iC 1)),rM 33 74]))))))) (.seq (.seq (.ops [rM 76 7,rC 77 c0Y [(.t 76)],rM 75 77,rE 78 75 0,rE 79 75 1,rM 11 78,rM 12 79]) (.seq (.ops [rM 80 6,rK 81 80,rF 82 3 81,rL 83 82,rM 84 83,rB 85 84 (.move (.t 12)),rB 86 84 (.bin .neq A9 true (.t 85) (iC 0)),rR 87 (.pick (.t 84) (.c (.bool true)) (.t 86)),rM 88 87,rB 89 88 (.move (.t 11)),rB 90 88 (.move (.t 0)),rB 91 88 (.callV (.c (.func (.func b0D) [] [])) [(.t 89),(.t 90)]),rB 92 88 (.un .not (.t 91)),rR 93 (.pick (.t 88) (.c (.bool true)) (.t 92))]) (.cond (.t 93) (.seq (.ops [rX 2 .nils,rX 3 (iV 5)]) .ret) .skip))) (.seq (.ops [rM 94 7,rM 2 94,rX 3 (iV 0)]) .ret))))))))))
theorem n0h:k7 P c0W=.ok ⟨95,[.tmp 2,.tmp 3],d0p⟩:=by kernel_rfl
noncomputable def c0c:CC :=
 (.seq (.ops [rX 4 (.int .u64 0)]) (.seq (.ops [rM 8 0,rK 9 8,rF 10 0 9,rR 11 (.loadN 2 (.t 10)),rM 12 0,rK 13 12,rF 14 2 13,rL 15 14,rM 16 1,.stage [⟨(some 15),none,.load1 (.t 14)⟩,⟨(some 11),none,.loadN 2 (.t 10)⟩],rC 17 a0I [(.t 11),(.t 15),(.t 16)],rM 7 17,rE 18 7 0,rE 19 7 1,rM 5 18,rM 6 19]) (.seq (.ops [rM 20 0,rM 21 0,rK 22 21,rF 23 3 22,rL 24 23,rM 25 24,rB 26 25 (.move (.t 6)),rB 27 25 (.bin .neq A9 true (.t 26) (iC 0)),rR 28 (.pick (.t 25) (.c (.bool true)) (.t 27)),rK 29 20,rF 30 3 29,rN (.store 1 (.t 30) (.t 28))]) (.seq (.ops [rM 31 0,rK 32 31,rF 33 2 32,rL 34 33,rM 35 1,rR 36 (.bin .add a7 false (.t 34) (.t 35)),rK 37 31,rF 38 2 37,rN (.store 1 (.t 38) (.t 36))]) (.seq (.ops [rM 39 5,rM 4 39]) .ret)))))
theorem h0g:k7 P B8=.ok ⟨40,[.tmp 4],c0c⟩:=by kernel_rfl
noncomputable def k01:CC :=
 (.seq (.ops [rR 3 (.box (.t 0)),rX 6 (.int .u64 0),rX 7 (iV 0)]) (.seq (.block 0 (.seq (.ops [rR 12 (.loadN 2 (.t 3)),rC 13 a0m [(.t 12)],rR 14 (.un .not (.t 13)),rM 15 14,rB 16 15 (.move (.t 2)),rB 17 15 (.bin .lss a7 true (.t 16) (iC 0)),rR 18 (.pick (.t 15) (.c (.bool true)) (.t 17)),rM 19 18,rB 20 19 (.move (.t 2)),rB 21 19 (.bin .gtr a7 true (.t 20) (iC 64)),rR 22 (.pick (.t 19) (.c (.bool true)) (.t 21)),rM 23 22,rB 24 23 (.move (.t 1)),rB 25 23 (.bin .lss a7 true (.t 24) (iC 0)),rR 26 (.pick (.t 23) (.c (.bool true)) (.t 25)),rM 27 26,rB 28 27 (.move (.t 1)),rB 29 27 (.fieldAddr 1 (.t 3)),rB 30 27 (.load1 (.t 29)),rB 31 27 (.bin .gtr a7 false (.t 28) (.t 30)),rR 32 (.pick (.t 27) (.c (.bool true)) (.t 31)),rM 11 32]) (.cond (.t 11) (.seq (.ops [rX 6 (.int .u64 0),rX 7 (iV 1)]) .ret) (.seq (.ops [rF 34 1 3,rL 35 34,rM 36 1,rR 37 (.bin .sub a7 false (.t 35) (.t 36)),rM 38 2,rR 39 (.bin .lss a7 false (.t 37) (.t 38)),rM 33 39]) (.cond (.t 33) (.seq (.ops [rX 6 (.int .u64 0),rX 7 (iV 3)]) .ret) .skip))))) (.seq (.ops [rX 8 (.int .u64 0)]) (.seq (.block 1 (.loop (.seq (.seq (.ops [rM 40 2,rR 41 (.bin .gtr a7 true (.t 40) (iC 0))]) (.cond (.t 41) .skip (.exit 1))) (.block 2 (.seq (.ops [rM 42 1,rR 43 (.bin .rem a7 true (.t 42) (iC 8)),rR 44 (.bin .sub a7 true (iC 8) (.t 43)),rM 9 44]) (.seq (.ops [rM 45 9,rM 46 2,rR 47 (.mm false (.t 45) [(.t 46)]),rM 10 47]) (.seq (.ops [rM 48 8,rM 49 10,rR 50 (.bin .shl j0 false (.t 48) (.t 49)),rF 51 0 3,rL 52 51,rM 53 1,rR 54 (.bin .quo a7 true (.t 53) (iC 8)),rR 55 (.idxV 1 (.t 52) (.t 54)),rL 56 55,rM 57 9,rM 58 10,rR 59 (.bin .sub a7 false (.t 57) (.t 58)),rR 60 (.bin .shr t6 false (.t 56) (.t 59)),rM 61 10,rR 62 (.bin .shl t6 true (.c (.int .u8 1)) (.t 61)),rR 63 (.bin .sub t6 true (.t 62) (.c (.int .u8 1))),rR 64 (.bin .and t6 false (.t 60) (.t 63)),rR 65 (.conv (.int .u64) (.t 64)),rR 66 (.bin .or j0 false (.t 50) (.t 65)),rM 8 66,.stage [⟨(some 56),none,.load1 (.t 55)⟩,⟨(some 52),none,.load1 (.t 51)⟩]]) (.seq (.ops [rM 67 1,rM 68 10,rR 69 (.bin .add a7 false (.t 67) (.t 68)),rM 1 69]) (.ops [rM 70 2,rM 71 10,rR 72 (.bin .sub a7 false (.t 70) (.t 71)),rM 2 72]))))))))) (.seq (.ops [rM 73 8,rM 6 73,rX 7 (iV 0)]) .ret)))))
theorem s0p:k7 P a0I=.ok ⟨74,[.tmp 6,.tmp 7],k01⟩:=by kernel_rfl
noncomputable def i0c:CC :=
 (.seq (.ops [rR 1 (.box (.t 0)),rX 2 (.bool false)]) (.seq (.seq (.ops [rF 4 1 1,rL 5 4,rR 6 (.bin .lss a7 true (.t 5) (iC 0)),rM 7 6,rB 8 7 (.fieldAddr 1 (.t 1)),rB 9 7 (.load1 (.t 8)),rB 10 7 (.fieldAddr 0 (.t 1)),rB 11 7 (.load1 (.t 10)),rB 12 7 (.lenV (.t 11)),rB 13 7 (.bin .mul a7 true (iC 8) (.t 12)),rB 14 7 (.bin .gtr a7 false (.t 9) (.t 13)),rR 15 (.pick (.t 7) (.c (.bool true)) (.t 14)),rM 16 15,rB 17 16 (.fieldAddr 0 (.t 1)),rB 18 16 (.load1 (.t 17)),rB 19 16 (.lenV (.t 18)),rB 20 16 (.bin .mul a7 true (iC 8) (.t 19)),rB 21 16 (.fieldAddr 1 (.t 1)),rB 22 16 (.load1 (.t 21)),rB 23 16 (.bin .sub a7 false (.t 20) (.t 22)),rB 24 16 (.bin .gtr a7 true (.t 23) (iC 7)),rR 25 (.pick (.t 16) (.c (.bool true)) (.t 24))]) (.cond (.t 25) (.seq (.ops [rX 2 (.bool false)]) .ret) .skip)) (.seq (.ops [rF 26 0 1,rL 27 26,rV 28 27,rR 29 (.bin .mul a7 true (iC 8) (.t 28)),rF 30 1 1,rL 31 30,rR 32 (.bin .sub a7 false (.t 29) (.t 31)),rM 3 32]) (.seq (.ops [rM 33 3,rR 34 (.bin .eql a7 true (.t 33) (iC 0)),rM 35 34,rB 36 35 (.fieldAddr 0 (.t 1)),rB 37 35 (.load1 (.t 36)),rB 38 35 (.fieldAddr 0 (.t 1)),rB 39 35 (.load1 (.t 38)),rB 40 35 (.lenV (.t 39)),rB 41 35 (.bin .sub a7 true (.t 40) (iC 1)),rB 42 35 (.idxV 1 (.t 37) (.t 41)),rB 43 35 (.load1 (.t 42)),rB 44 35 (.move (.t 3)),rB 45 35 (.bin .shl t6 true (.c (.int .u8 1)) (.t 44)),rB 46 35 (.bin .sub t6 true (.t 45) (.c (.int .u8 1))),rB 47 35 (.bin .and t6 false (.t 43) (.t 46)),rB 48 35 (.bin .eql t6 true (.t 47) (.c (.int .u8 0))),rR 49 (.pick (.t 35) (.c (.bool true)) (.t 48)),rM 2 49,.stage [⟨(some 43),(some (35 ,false)),.load1 (.t 42)⟩,⟨(some 39),(some (35 ,false)),.load1 (.t 38)⟩,⟨(some 37),(some (35 ,false)),.load1 (.t 36)⟩]]) .ret))))
theorem t0O:k7 P a0m=.ok ⟨50,[.tmp 2],i0c⟩:=by kernel_rfl
noncomputable def b0l:CC :=
 (.seq (.ops [rX 2 (iV 0)]) (.seq (.ops [rM 7 0,rK 8 7,rF 9 0 8,rR 10 (.loadN 2 (.t 9)),rM 11 0,rK 12 11,rF 13 2 12,rL 14 13,.stage [⟨(some 14),none,.load1 (.t 13)⟩,⟨(some 10),none,.loadN 2 (.t 9)⟩],rC 15 c0X [(.t 10),(.t 14)],rM 6 15,rE 16 6 0,rE 17 6 1,rE 18 6 2,rM 3 16,rM 4 17,rM 5 18]) (.seq (.ops [rM 19 0,rM 20 0,rK 21 20,rF 22 3 21,rL 23 22,rM 24 23,rB 25 24 (.move (.t 5)),rB 26 24 (.bin .neq A9 true (.t 25) (iC 0)),rR 27 (.pick (.t 24) (.c (.bool true)) (.t 26)),rK 28 19,rF 29 3 28,rN (.store 1 (.t 29) (.t 27))]) (.seq (.ops [rM 30 0,rM 31 4,rK 32 30,rF 33 2 32,rN (.store 1 (.t 33) (.t 31))]) (.seq (.ops [rM 34 3,rM 2 34]) .ret)))))
theorem f0R:k7 P U5=.ok ⟨35,[.tmp 2],b0l⟩:=by kernel_rfl
noncomputable def g0E:CC :=
 (.seq (.ops [rR 2 (.box (.t 0)),rX 4 (iV 0),rX 5 (iV 0),rX 6 (iV 0)]) (.seq (.seq (.ops [rR 14 (.loadN 2 (.t 2)),rC 15 a0m [(.t 14)],rR 16 (.un .not (.t 15)),rM 17 16,rB 18 17 (.move (.t 1)),rB 19 17 (.bin .lss a7 true (.t 18) (iC 0)),rR 20 (.pick (.t 17) (.c (.bool true)) (.t 19)),rM 21 20,rB 22 21 (.move (.t 1)),rB 23 21 (.fieldAddr 1 (.t 2)),rB 24 21 (.load1 (.t 23)),rB 25 21 (.bin .gtr a7 false (.t 22) (.t 24)),rR 26 (.pick (.t 21) (.c (.bool true)) (.t 25))]) (.cond (.t 26) (.seq (.ops [rX 4 (iV 0),rX 5 (iV 0),rX 6 (iV 1)]) .ret) .skip)) (.seq (.ops [rX 7 (iV 0)]) (.seq (.block 0 (.loop (.seq (.seq (.ops [rM 27 7,rR 28 (.bin .lss a7 true (.t 27) (iC 4))]) (.cond (.t 28) .skip (.exit 0))) (.block 1 (.seq (.ops [rR 30 (.loadN 2 (.t 2)),rM 31 1,rC 32 a0I [(.t 30),(.t 31),(iC 1)],rM 29 32,rE 33 29 0,rE 34 29 1,rM 8 33,rM 9 34]) (.seq (.seq (.ops [rM 35 9,rR 36 (.bin .neq A9 true (.t 35) (iC 0))]) (.cond (.t 36) (.seq (.ops [rM 37 9,rX 4 (iV 0),rX 5 (iV 0),rM 6 37]) .ret) .skip)) (.seq (.ops [rM 38 1,rR 39 (.bin .add a7 true (.t 38) (iC 1)),rM 1 39]) (.seq (.seq (.ops [rM 40 8,rR 41 (.bin .eql j0 true (.t 40) (.c (.int .u64 0)))]) (.cond (.t 41) (.exit 0) .skip)) (.ops [rM 42 7,rR 43 (.bin .add a7 true (.t 42) (iC 1)),rM 7 43]))))))))) (.seq (.ops [rM 44 7,rC 45 c0m [(.t 44)],rM 10 45]) (.seq (.ops [rR 47 (.loadN 2 (.t 2)),rM 48 1,rM 49 10,rC 50 a0I [(.t 47),(.t 48),(.t 49)],rM 46 50,rE 51 46 0,rE 52 46 1,rM 11 51,rM 12 52]) (.seq (.seq (.ops [rM 53 12,rR 54 (.bin .neq A9 true (.t 53) (iC 0))]) (.cond (.t 54) (.seq (.ops [rM 55 12,rX 4 (iV 0),rX 5 (iV 0),rM 6 55]) .ret) .skip)) (.seq (.ops [rM 56 11,rR 57 (.conv (.int .i64) (.t 56)),rM 13 57]) (.seq (.seq (.ops [rM 58 10,rR 59 (.bin .gtr a7 true (.t 58) (iC 0))]) (.cond (.t 59) (.ops [rM 60 11,rM 61 10,rR 62 (.bin .sub a7 true (iC 64) (.t 61)),rR 63 (.bin .shl j0 false (.t 60) (.t 62)),rR 64 (.conv (.int .i64) (.t 63)),rM 65 10,rR 66 (.bin .sub a7 true (iC 64) (.t 65)),rR 67 (.bin .shr a7 false (.t 64) (.t 66)),rM 13 67]) .skip)) (.seq (.seq (.ops [rM 68 13,rC 69 c0n [(.t 68)],rM 70 7,rR 71 (.bin .neq a7 false (.t 69) (.t 70))]) (.cond (.t 71) (.seq (.ops [rX 4 (iV 0),rX 5 (iV 0),rX 6 (iV 5)]) .ret) .skip)) (.seq (.ops [rM 72 13,rM 73 1,rM 74 10,rR 75 (.bin .add a7 false (.t 73) (.t 74)),rM 4 72,rM 5 75,rX 6 (iV 0)]) .ret)))))))))))
theorem n0i:k7 P c0X=.ok ⟨76,[.tmp 4,.tmp 5,.tmp 6],g0E⟩:=by kernel_rfl
noncomputable def j0q:CC :=
 (.seq (.ops [rX 2 (iV 0)]) (.seq (.seq (.ops [rM 3 0]) (.block 0 (.seq (.ops [rR 5 (.bin .eql a7 true (.t 3) (iC 1)),rM 4 5]) (.cond (.t 4) (.seq (.ops [rX 2 (iV 7)]) .ret) (.seq (.ops [rR 7 (.bin .eql a7 true (.t 3) (iC 2)),rM 6 7]) (.cond (.t 6) (.seq (.ops [rX 2 (iV 12)]) .ret) (.seq (.ops [rR 9 (.bin .eql a7 true (.t 3) (iC 3)),rM 8 9]) (.cond (.t 8) (.seq (.ops [rX 2 (iV 32)]) .ret) (.seq (.ops [rR 11 (.bin .eql a7 true (.t 3) (iC 4)),rM 10 11]) (.cond (.t 10) (.seq (.ops [rX 2 (iV 64)]) .ret) .skip)))))))))) (.seq (.ops [rX 2 (iV 0)]) .ret)))
theorem q0g:k7 P c0m=.ok ⟨12,[.tmp 2],j0q⟩:=by kernel_rfl
noncomputable def K4:CC :=
 (.seq (.ops [rX 2 (iV 0)]) (.seq (.ops [rX 3 (iV 4)]) (.seq (.block 0 (.seq (.block 4 (.seq (.block 3 (.seq (.block 2 (.seq (.block 1 (.seq (.seq (.seq (.ops [rM 5 0,rR 6 (.bin .eql a7 true (.t 5) (iC 0)),rM 4 6]) (.cond (.t 4) (.exit 1) .skip)) (.seq (.seq (.ops [rM 8 0,rR 9 (.bin .geq a7 true (.t 8) (iC (-64))),rM 10 9,rA 11 10 (.move (.t 0)),rA 12 10 (.bin .lss a7 true (.t 11) (iC 64)),rR 13 (.pick (.t 10) (.t 12) (.c (.bool false))),rM 7 13]) (.cond (.t 7) (.exit 2) .skip)) (.seq (.seq (.ops [rM 15 0,rR 16 (.bin .geq a7 true (.t 15) (iC (-2048))),rM 17 16,rA 18 17 (.move (.t 0)),rA 19 17 (.bin .lss a7 true (.t 18) (iC 2048)),rR 20 (.pick (.t 17) (.t 19) (.c (.bool false))),rM 14 20]) (.cond (.t 14) (.exit 3) .skip)) (.seq (.ops [rM 22 0,rR 23 (.bin .geq a7 true (.t 22) (iC (-2147483648))),rM 24 23,rA 25 24 (.move (.t 0)),rA 26 24 (.bin .lss a7 true (.t 25) (iC 2147483648)),rR 27 (.pick (.t 24) (.t 26) (.c (.bool false))),rM 21 27]) (.cond (.t 21) (.exit 4) .skip))))) (.exit 0))) (.seq (.seq (.ops [rX 2 (iV 0)]) .ret) (.exit 0)))) (.ops [rM 28 3,rR 29 (.bin .sub a7 true (.t 28) (iC 1)),rM 3 29]))) (.ops [rM 30 3,rR 31 (.bin .sub a7 true (.t 30) (iC 1)),rM 3 31]))) (.seq (.ops [rM 32 3,rR 33 (.bin .sub a7 true (.t 32) (iC 1)),rM 3 33]) (.exit 0)))) (.seq (.ops [rM 34 3,rM 2 34]) .ret))))
theorem q0h:k7 P c0n=.ok ⟨35,[.tmp 2],K4⟩:=by kernel_rfl
noncomputable def W5:CC :=
 (.seq (.ops [rX 2 (.int .u64 0)]) (.seq (.seq (.ops [rM 5 0,rK 6 5,rF 7 3 6,rL 8 7,rM 9 8,rB 10 9 (.move (.t 0)),rB 11 9 (.callV (.c (.func (.func B8) [] [])) [(.t 10),(iC 1)]),rB 12 9 (.bin .eql j0 true (.t 11) (.c (.int .u64 0))),rR 13 (.pick (.t 9) (.c (.bool true)) (.t 12))]) (.cond (.t 13) (.seq (.ops [rX 2 (.int .u64 0)]) .ret) .skip)) (.seq (.ops [rM 14 0,rC 15 B8 [(.t 14),(iC 6)],rR 16 (.conv (.int .i64) (.t 15)),rM 17 0,rC 18 B8 [(.t 17),(iC 6)],rR 19 (.conv (.int .i64) (.t 18)),rR 20 (.bin .add a7 true (.t 19) (iC 1)),rM 3 16,rM 4 20]) (.seq (.seq (.ops [rM 21 0,rM 22 0,rK 23 22,rF 24 3 23,rL 25 24,rM 26 25,rB 27 26 (.move (.t 3)),rB 28 26 (.move (.t 4)),rB 29 26 (.bin .add a7 false (.t 27) (.t 28)),rB 30 26 (.bin .gtr a7 true (.t 29) (iC 64)),rR 31 (.pick (.t 26) (.c (.bool true)) (.t 30)),rK 32 21,rF 33 3 32,rN (.store 1 (.t 33) (.t 31))]) (.seq (.ops [rM 34 0,rK 35 34,rF 36 3 35,rL 37 36]) (.cond (.t 37) (.seq (.ops [rX 2 (.int .u64 0)]) .ret) .skip))) (.seq (.ops [rM 38 0,rM 39 4,rC 40 B8 [(.t 38),(.t 39)],rM 41 3,rR 42 (.bin .sub a7 true (iC 64) (.t 41)),rM 43 4,rR 44 (.bin .sub a7 false (.t 42) (.t 43)),rR 45 (.bin .shl j0 false (.t 40) (.t 44)),rM 2 45]) .ret)))))
theorem g0F:k7 P V5=.ok ⟨46,[.tmp 2],W5⟩:=by kernel_rfl
noncomputable def d0q:CC :=
 (.seq (.ops [rX 2 .nils,rX 3 (iV 0)]) (.seq (.seq (.ops [rM 9 0,rC 10 d0K [(.t 9)],rR 11 (.un .not (.t 10))]) (.cond (.t 11) (.seq (.ops [rX 2 .nils,rX 3 (iV 1)]) .ret) .skip)) (.seq (.ops [rR 4 (.new [.nils,(iV 0)])]) (.seq (.ops [rX 5 (iV 0)]) (.seq (.seq (.ops [rM 12 0,rV 13 12,rX 14 (iV 0)]) (.block 0 (.loop (.seq (.ops [rR 15 (.bin .lss a7 false (.t 14) (.t 13))]) (.seq (.cond (.t 15) .skip (.exit 0)) (.seq (.block 1 (.seq (.ops [rM 16 14,rR 17 (.idxV 2 (.t 12) (.t 14)),rR 18 (.loadN 2 (.t 17)),rR 7 (.new [(iV 0),(.int .u64 0)]),rM 6 16,rN (.store 2 (.t 7) (.t 18))]) (.seq (.seq (.ops [rM 19 6,rR 20 (.bin .eql a7 true (.t 19) (iC 0))]) (.cond (.t 20) (.seq (.ops [rF 21 0 7,rL 22 21,rR 23 (.conv (.int .u64) (.t 22)),rC 24 D9 [(.t 4),(.t 23),(iC 64)]]) (.seq (.ops [rF 25 1 7,rL 26 25,rC 27 D9 [(.t 4),(.t 26),(iC 64)]]) (.exit 1))) .skip)) (.seq (.ops [rM 28 5,rM 8 28]) (.seq (.ops [rF 29 0 7,rL 30 29,rM 31 0,rM 32 6,rR 33 (.bin .sub a7 true (.t 32) (iC 1)),rR 34 (.idxV 2 (.t 31) (.t 33)),rF 35 0 34,rL 36 35,rR 37 (.bin .sub a7 false (.t 30) (.t 36)),rM 5 37,.stage [⟨(some 36),none,.load1 (.t 35)⟩,⟨(some 30),none,.load1 (.t 29)⟩]]) (.seq (.ops [rM 38 5,rM 39 8,rR 40 (.bin .sub a7 false (.t 38) (.t 39)),rC 41 Y3 [(.t 4),(.t 40)]]) (.ops [rF 42 1 7,rL 43 42,rM 44 0,rM 45 6,rR 46 (.bin .sub a7 true (.t 45) (iC 1)),rR 47 (.idxV 2 (.t 44) (.t 46)),rF 48 1 47,rL 49 48,rR 50 (.bin .xor j0 false (.t 43) (.t 49)),.stage [⟨(some 49),none,.load1 (.t 48)⟩,⟨(some 43),none,.load1 (.t 42)⟩],rC 51 a0n [(.t 4),(.t 50)]]))))))) (.ops [rR 52 (.bin .add a7 true (.t 14) (iC 1)),rM 14 52]))))))) (.seq (.ops [rM 53 0,rV 54 53,rR 55 (.conv (.int .u64) (.t 54)),rF 57 0 4,rF 58 0 57,rL 59 58,.stage [⟨(some 59),none,.load1 (.t 58)⟩],rC 56 b0m [(.t 55),(iC 2)],.stage [⟨(some 59),none,.load1 (.t 58)⟩],rR 60 (.app 1 1 (.t 56) (.t 59)),rM 2 60,rX 3 (iV 0)]) .ret))))))
theorem n0j:k7 P c0Y=.ok ⟨61,[.tmp 2,.tmp 3],d0q⟩:=by kernel_rfl
noncomputable def k02:CC :=
 (.seq (.ops [rX 2 (.bool false)]) (.seq (.seq (.ops [rX 3 (iV 1)]) (.block 0 (.loop (.seq (.seq (.ops [rM 4 3,rM 5 0,rV 6 5,rR 7 (.bin .lss a7 false (.t 4) (.t 6))]) (.cond (.t 7) .skip (.exit 0))) (.seq (.block 1 (.seq (.ops [rM 10 0,rM 11 3,rR 12 (.idxV 2 (.t 10) (.t 11)),rF 13 0 12,rL 14 13,rM 15 0,rM 16 3,rR 17 (.bin .sub a7 true (.t 16) (iC 1)),rR 18 (.idxV 2 (.t 15) (.t 17)),rF 19 0 18,rL 20 19,rR 21 (.bin .leq a7 false (.t 14) (.t 20)),.stage [⟨(some 20),none,.load1 (.t 19)⟩,⟨(some 14),none,.load1 (.t 13)⟩]]) (.cond (.t 21) (.seq (.ops [rX 2 (.bool false)]) .ret) .skip))) (.ops [rM 8 3,rR 9 (.bin .add a7 true (.t 8) (iC 1)),rM 3 9])))))) (.seq (.ops [rM 22 0,rV 23 22,rR 24 (.bin .leq a7 true (.t 23) (iC 65535)),rM 2 24]) .ret)))
theorem s0q:k7 P d0K=.ok ⟨25,[.tmp 2],k02⟩:=by kernel_rfl
noncomputable def e0X:CC :=
 (.ops [rM 7 0,rM 8 0,rK 9 8,rF 10 0 9,rR 11 (.loadN 2 (.t 10)),rM 12 1,rM 13 2,rC 14 h0K [(.t 11),(.t 12),(.t 13)],rM 6 14,rE 15 6 0,rE 16 6 1,rK 17 7,rF 18 0 17,rN (.store 2 (.t 18) (.t 15))])
theorem k0h:k7 P D9=.ok ⟨19,[],e0X⟩:=by kernel_rfl
noncomputable def n0k:CC :=
 (.seq (.ops [rR 3 (.box (.t 0)),rR 6 (.new [.nils,(iV 0)]),rX 7 (iV 0)]) (.seq (.seq (.ops [rR 9 (.loadN 2 (.t 3)),rC 10 a0m [(.t 9)],rR 11 (.un .not (.t 10)),rM 12 11,rB 13 12 (.move (.t 2)),rB 14 12 (.bin .lss a7 true (.t 13) (iC 0)),rR 15 (.pick (.t 12) (.c (.bool true)) (.t 14)),rM 16 15,rB 17 16 (.move (.t 2)),rB 18 16 (.bin .gtr a7 true (.t 17) (iC 64)),rR 19 (.pick (.t 16) (.c (.bool true)) (.t 18))]) (.cond (.t 19) (.seq (.ops [rR 20 (.build [.nils,(iV 0)] []),rN (.store 2 (.t 6) (.t 20)),rX 7 (iV 1)]) .ret) .skip)) (.seq (.ops [rF 21 0 3,rL 22 21,rF 24 1 3,rL 25 24,rR 8 (.new [.nils,(iV 0)]),.stage [⟨(some 25),none,.load1 (.t 24)⟩,⟨(some 22),none,.load1 (.t 21)⟩],rC 23 b0C [(.t 22)],rR 26 (.build [.nils,(iV 0)] [(0 ,1 ,(.t 23)),(1 ,1 ,(.t 25))]),.stage [⟨(some 25),none,.load1 (.t 24)⟩],rN (.store 2 (.t 8) (.t 26))]) (.seq (.ops [rM 27 1,rM 28 2,rC 29 b0o [(.t 8),(.t 27),(.t 28)]]) (.seq (.ops [rR 30 (.loadN 2 (.t 8)),rN (.store 2 (.t 6) (.t 30)),rX 7 (iV 0)]) .ret)))))
theorem t0P:k7 P h0K=.ok ⟨31,[.many 6 2,.tmp 7],n0k⟩:=by kernel_rfl
noncomputable def e0w:CC :=
 (.seq (.ops [rX 2 .nils]) (.seq (.seq (.ops [rM 3 0,rR 4 (.bin .eql h0L true (.t 3) (.c .nils))]) (.cond (.t 4) (.seq (.ops [rX 2 .nils]) .ret) .skip)) (.seq (.ops [rR 5 (.buildSlice 0 1 [] []),rM 6 0,rR 7 (.app 1 1 (.t 5) (.t 6)),rM 2 7]) .ret)))
theorem n00:k7 P b0C=.ok ⟨8,[.tmp 2],e0w⟩:=by kernel_rfl
noncomputable def n0l:CC :=
 (.block 0 (.loop (.seq (.seq (.ops [rM 9 2,rR 10 (.bin .gtr a7 true (.t 9) (iC 0))]) (.cond (.t 10) .skip (.exit 0))) (.block 1 (.seq (.seq (.ops [rM 11 0,rK 12 11,rF 13 1 12,rL 14 13,rR 15 (.bin .rem a7 true (.t 14) (iC 8)),rR 16 (.bin .eql a7 true (.t 15) (iC 0))]) (.cond (.t 16) (.ops [rM 17 0,rM 18 0,rK 19 18,rF 20 0 19,rL 21 20,rR 22 (.buildSlice 1 1 [(.int .u8 0)] [(0 ,1 ,(.c (.int .u8 0)))]),rR 23 (.app 1 1 (.t 21) (.t 22)),rK 24 17,rF 25 0 24,rN (.store 1 (.t 25) (.t 23))]) .skip)) (.seq (.ops [rM 26 0,rK 27 26,rF 28 1 27,rL 29 28,rR 30 (.bin .rem a7 true (.t 29) (iC 8)),rR 31 (.bin .sub a7 true (iC 8) (.t 30)),rM 6 31]) (.seq (.ops [rM 32 6,rM 33 2,rR 34 (.mm false (.t 32) [(.t 33)]),rM 7 34]) (.seq (.ops [rM 35 1,rM 36 2,rM 37 7,rR 38 (.bin .sub a7 false (.t 36) (.t 37)),rR 39 (.bin .shr j0 false (.t 35) (.t 38)),rM 40 7,rR 41 (.bin .shl j0 true (.c (.int .u64 1)) (.t 40)),rR 42 (.bin .sub j0 true (.t 41) (.c (.int .u64 1))),rR 43 (.bin .and j0 false (.t 39) (.t 42)),rR 44 (.conv (.int .u8) (.t 43)),rM 8 44]) (.seq (.ops [rM 45 0,rK 46 45,rF 47 0 46,rL 48 47,rM 49 0,rK 50 49,rF 51 0 50,rL 52 51,rV 53 52,rR 54 (.bin .sub a7 true (.t 53) (iC 1)),rR 55 (.idxV 1 (.t 48) (.t 54)),rL 56 55,rM 57 8,rM 58 6,rM 59 7,rR 60 (.bin .sub a7 false (.t 58) (.t 59)),rR 61 (.bin .shl t6 false (.t 57) (.t 60)),rR 62 (.bin .or t6 false (.t 56) (.t 61)),rR 63 (.idxV 1 (.t 48) (.t 54)),.stage [⟨(some 56),none,.load1 (.t 55)⟩,⟨(some 52),none,.load1 (.t 51)⟩,⟨(some 48),none,.load1 (.t 47)⟩],rN (.store 1 (.t 63) (.t 62))]) (.seq (.ops [rM 64 0,rK 65 64,rF 66 1 65,rL 67 66,rM 68 7,rR 69 (.bin .add a7 false (.t 67) (.t 68)),rK 70 64,rF 71 1 70,rN (.store 1 (.t 71) (.t 69))]) (.ops [rM 72 2,rM 73 7,rR 74 (.bin .sub a7 false (.t 72) (.t 73)),rM 2 74])))))))))))
theorem t0Q:k7 P b0o=.ok ⟨75,[],n0l⟩:=by kernel_rfl
noncomputable def c0d:CC :=
 (.ops [rM 5 0,rM 6 0,rK 7 6,rF 8 0 7,rR 9 (.loadN 2 (.t 8)),rM 10 1,rC 11 e0g [(.t 9),(.t 10)],rM 4 11,rE 12 4 0,rE 13 4 1,rK 14 5,rF 15 0 14,rN (.store 2 (.t 15) (.t 12))])
theorem h0h:k7 P Y3=.ok ⟨16,[],c0d⟩:=by kernel_rfl
noncomputable def h0z:CC :=
 (.seq (.ops [rR 2 (.box (.t 0)),rR 4 (.new [.nils,(iV 0)]),rX 5 (iV 0)]) (.seq (.seq (.ops [rR 8 (.loadN 2 (.t 2)),rC 9 a0m [(.t 8)],rR 10 (.un .not (.t 9))]) (.cond (.t 10) (.seq (.ops [rR 11 (.build [.nils,(iV 0)] []),rN (.store 2 (.t 4) (.t 11)),rX 5 (iV 1)]) .ret) .skip)) (.seq (.ops [rF 12 0 2,rL 13 12,rF 15 1 2,rL 16 15,rR 6 (.new [.nils,(iV 0)]),.stage [⟨(some 16),none,.load1 (.t 15)⟩,⟨(some 13),none,.load1 (.t 12)⟩],rC 14 b0C [(.t 13)],rR 17 (.build [.nils,(iV 0)] [(0 ,1 ,(.t 14)),(1 ,1 ,(.t 16))]),.stage [⟨(some 16),none,.load1 (.t 15)⟩],rN (.store 2 (.t 6) (.t 17))]) (.seq (.ops [rM 18 1,rC 19 c0n [(.t 18)],rM 7 19]) (.seq (.ops [rM 20 7,rR 21 (.bin .shl j0 true (.c (.int .u64 1)) (.t 20)),rR 22 (.bin .sub j0 true (.t 21) (.c (.int .u64 1))),rM 23 7,rC 24 b0o [(.t 6),(.t 22),(.t 23)]]) (.seq (.seq (.ops [rM 25 7,rR 26 (.bin .lss a7 true (.t 25) (iC 4))]) (.cond (.t 26) (.ops [rC 27 b0o [(.t 6),(.c (.int .u64 0)),(iC 1)]]) .skip)) (.seq (.ops [rM 28 1,rR 29 (.conv (.int .u64) (.t 28)),rM 30 7,rC 31 c0m [(.t 30)],rC 32 b0o [(.t 6),(.t 29),(.t 31)]]) (.seq (.ops [rR 33 (.loadN 2 (.t 6)),rN (.store 2 (.t 4) (.t 33)),rX 5 (iV 0)]) .ret))))))))
theorem n01:k7 P e0g=.ok ⟨34,[.many 4 2,.tmp 5],h0z⟩:=by kernel_rfl
noncomputable def a0y:CC :=
 (.seq (.seq (.ops [rM 7 1,rR 8 (.bin .eql j0 true (.t 7) (.c (.int .u64 0)))]) (.cond (.t 8) (.seq (.ops [rM 9 0,rC 10 D9 [(.t 9),(.c (.int .u64 0)),(iC 1)]]) .ret) .skip)) (.seq (.ops [rM 11 1,rC 12 L3 [(.t 11)],rM 13 1,rC 14 K0 [(.t 13)],rM 4 12,rM 5 14]) (.seq (.ops [rM 15 4,rR 16 (.bin .sub a7 true (iC 64) (.t 15)),rM 17 5,rR 18 (.bin .sub a7 false (.t 16) (.t 17)),rM 6 18]) (.seq (.ops [rM 19 0,rC 20 D9 [(.t 19),(.c (.int .u64 1)),(iC 1)]]) (.seq (.ops [rM 21 0,rM 22 4,rR 23 (.conv (.int .u64) (.t 22)),rR 24 (.bin .shl j0 true (.t 23) (.c (.int .u64 6))),rM 25 6,rR 26 (.bin .sub a7 true (.t 25) (iC 1)),rR 27 (.conv (.int .u64) (.t 26)),rR 28 (.bin .or j0 false (.t 24) (.t 27)),rC 29 D9 [(.t 21),(.t 28),(iC 12)]]) (.ops [rM 30 0,rM 31 1,rM 32 5,rR 33 (.bin .shr j0 false (.t 31) (.t 32)),rM 34 6,rC 35 D9 [(.t 30),(.t 33),(.t 34)]]))))))
theorem i0d:k7 P a0n=.ok ⟨36,[],a0y⟩:=by kernel_rfl
noncomputable def W6:CC :=
 (.seq (.ops [rX 2 (iV 0)]) (.seq (.ops [rM 3 0,rC 4 a0Z [(.t 3)],rR 5 (.bin .sub a7 true (iC 64) (.t 4)),rM 2 5]) .ret))
theorem d0r:k7 P L3=.ok ⟨6,[.tmp 2],W6⟩:=by kernel_rfl
noncomputable def d03:CC :=
 (.seq (.ops [rX 2 (iV 0)]) (.seq (.seq (.ops [rM 3 0,rR 4 (.bin .geq j0 true (.t 3) (.c (.int .u64 4294967296)))]) (.cond (.t 4) (.seq (.ops [rM 5 0,rR 6 (.bin .shr j0 true (.t 5) (.c (.int .u64 32))),rM 0 6]) (.ops [rX 2 (iV 32)])) .skip)) (.seq (.seq (.ops [rM 7 0,rR 8 (.bin .geq j0 true (.t 7) (.c (.int .u64 65536)))]) (.cond (.t 8) (.seq (.ops [rM 9 0,rR 10 (.bin .shr j0 true (.t 9) (.c (.int .u64 16))),rM 0 10]) (.ops [rM 11 2,rR 12 (.bin .add a7 true (.t 11) (iC 16)),rM 2 12])) .skip)) (.seq (.seq (.ops [rM 13 0,rR 14 (.bin .geq j0 true (.t 13) (.c (.int .u64 256)))]) (.cond (.t 14) (.seq (.ops [rM 15 0,rR 16 (.bin .shr j0 true (.t 15) (.c (.int .u64 8))),rM 0 16]) (.ops [rM 17 2,rR 18 (.bin .add a7 true (.t 17) (iC 8)),rM 2 18])) .skip)) (.seq (.ops [rM 19 2,rM 20 0,rR 21 (.conv (.int .u8) (.t 20)),rR 22 (.indexS (.c (.str [0,1,2,2,3,3,3,3,4,4,4,4,4,4,4,4,5,5,5,5,5,5,5,5,5,5,5,5,5,5,5,5,6,6,6,6,6,6,6,6,6,6,6,6,6,6,6,6,6,6,6,6,6,6,6,6,6,6,6,6,6,6,6,6,7,7,7,7,7,7,7,7,7,7,7,7,7,7,7,7,7,7,7,7,7,7,7,7,7,7,7,7,7,7,7,7,7,7,7,7,7,7,7,7,7,7,7,7,7,7,7,7,7,7,7,7,7,7,7,7,7,7,7,7,7,7,7,7,8,8,8,8,8,8,8,8,8,8,8,8,8,8,8,8,8,8,8,8,8,8,8,8,8,8,8,8,8,8,8,8,8,8,8,8,8,8,8,8,8,8,8,8,8,8,8,8,8,8,8,8,8,8,8,8,8,8,8,8,8,8,8,8,8,8,8,8,8,8,8,8,8,8,8,8,8,8,8,8,8,8,8,8,8,8,8,8,8,8,8,8,8,8,8,8,8,8,8,8,8,8,8,8,8,8,8,8,8,8,8,8,8,8,8,8,8,8,8,8,8,8,8,8,8,8,8,8])) (.t 21)),rR 23 (.conv (.int .i64) (.t 22)),rR 24 (.bin .add a7 false (.t 19) (.t 23)),rM 2 24]) .ret)))))
theorem j0r:k7 P a0Z=.ok ⟨25,[.tmp 2],d03⟩:=by kernel_rfl
noncomputable def V1:CC :=
 (.seq (.ops [rX 2 (iV 0)]) (.seq (.seq (.ops [rM 3 0,rR 4 (.bin .eql j0 true (.t 3) (.c (.int .u64 0)))]) (.cond (.t 4) (.seq (.ops [rX 2 (iV 64)]) .ret) .skip)) (.seq (.ops [rM 5 0,rM 6 0,rR 7 (.un .neg (.t 6)),rR 8 (.bin .and j0 false (.t 5) (.t 7)),rR 9 (.bin .mul j0 true (.t 8) (.c (.int .u64 285870213051353865))),rR 10 (.bin .shr j0 true (.t 9) (.c (.int .u64 58))),rR 11 (.idxA 64 1 (.c (.ptr B5 0)) (.t 10)),rL 12 11,rR 13 (.conv (.int .i64) (.t 12)),rM 2 13]) .ret)))
theorem c0t:k7 P K0=.ok ⟨14,[.tmp 2],V1⟩:=by kernel_rfl
noncomputable def e0x:CC :=
 (.seq (.ops [rX 4 (.bool false)]) (.seq (.ops [rM 5 0,rR 6 (.conv .strB (.t 5)),rM 7 1,rR 8 (.conv .strB (.t 7)),rR 9 (.bin .eql s8 false (.t 6) (.t 8)),rM 4 9]) .ret))
theorem n02:k7 P b0D=.ok ⟨10,[.tmp 4],e0x⟩:=by kernel_rfl
noncomputable def d0s:CC :=
 (.seq (.ops [rX 2 (iV 0)]) (.seq (.block 0 (.seq (.ops [rM 4 0,rR 5 (.bin .eql b0p true (.t 4) (.c .nilp)),rM 6 5,rB 7 6 (.move (.t 0)),rB 8 6 (.nilCheck (.t 7)),rB 9 6 (.fieldAddr 0 (.t 8)),rB 10 6 (.load1 (.t 9)),rB 11 6 (.un .not (.t 10)),rR 12 (.pick (.t 6) (.c (.bool true)) (.t 11)),rM 3 12]) (.cond (.t 3) (.seq (.ops [rX 2 (iV 2)]) .ret) (.seq (.ops [rM 14 0,rK 15 14,rF 16 3 15,rL 17 16,rM 13 17]) (.cond (.t 13) (.seq (.ops [rX 2 (iV 5)]) .ret) .skip))))) (.seq (.ops [rX 2 (iV 0)]) .ret)))
theorem i0e:k7 P a0o=.ok ⟨18,[.tmp 2],d0s⟩:=by kernel_rfl
noncomputable def h0A:CC :=
 (.seq (.ops [rX 2 .nils,rX 3 (iV 0)]) (.seq (.ops [rM 8 0,rC 9 f00 [(.t 8),(iC 0)],rM 7 9,rE 10 7 0,rE 11 7 1,rE 12 7 2,rM 4 10,rM 5 11,rM 6 12]) (.seq (.seq (.ops [rM 13 6,rR 14 (.bin .neq A9 true (.t 13) (iC 0)),rM 15 14,rB 16 15 (.move (.t 4)),rB 17 15 (.callV (.c (.func (.func d0F) [] [])) [(.t 16)]),rB 18 15 (.un .not (.t 17)),rR 19 (.pick (.t 15) (.c (.bool true)) (.t 18))]) (.cond (.t 19) (.seq (.ops [rX 2 .nils,rX 3 (iV 5)]) .ret) .skip)) (.seq (.ops [rM 20 4,rM 2 20,rX 3 (iV 0)]) .ret))))
theorem n03:k7 P e0h=.ok ⟨21,[.tmp 2,.tmp 3],h0A⟩:=by kernel_rfl
end Go.Dk

namespace Go.Dk
open Go Go.Dr
set_option maxRecDepth 100000
noncomputable def k0l:CC :=
 (.seq (.ops [rX 4 .nils,rX 5 .nils,rX 6 (iV 0)]) (.seq (.ops [rM 12 1,rR 13 (.mm true (.t 12) [(iC 0)]),rR 14 (.mm false (.t 13) [(iC 2147483647)]),rM 1 14]) (.seq (.ops [rX 7 .nils]) (.seq (.ops [rX 8 .nils]) (.seq (.block 0 (.loop (.seq (.seq (.ops [rM 15 0,rV 16 15,rR 17 (.bin .gtr a7 true (.t 16) (iC 0))]) (.cond (.t 17) .skip (.exit 0))) (.block 1 (.seq (.ops [rM 19 0,rC 20 e0i [(.t 19)],rM 18 20,rE 21 18 0,rE 22 18 1,rE 23 18 2,rM 9 21,rM 10 22,rM 11 23]) (.seq (.seq (.ops [rM 24 11,rR 25 (.bin .eql a7 true (.t 24) (iC 0))]) (.cond (.t 25) (.seq (.ops [rM 26 7,rM 27 8,rM 4 26,rM 5 27,rX 6 (iV 5)]) .ret) .skip)) (.seq (.ops [rM 28 7,rM 29 9,rM 30 1,rM 31 11,rM 32 10,rR 33 (.idxV 2 (.t 32) (iC 0)),rF 34 0 33,rL 35 34,rM 36 10,rM 37 10,rV 38 37,rR 39 (.bin .sub a7 true (.t 38) (iC 1)),rR 40 (.idxV 2 (.t 36) (.t 39)),rF 41 0 40,rL 42 41,rR 43 (.build [.nils,(iV 0),(iV 0),(iV 0),(iV 0)] [(0 ,1 ,(.t 29)),(1 ,1 ,(.t 30)),(2 ,1 ,(.t 31)),(3 ,1 ,(.t 35)),(4 ,1 ,(.t 42))]),rR 44 (.buildSlice 1 5 [.nils,(iV 0),(iV 0),(iV 0),(iV 0)] [(0 ,5 ,(.t 43))]),.stage [⟨(some 42),none,.load1 (.t 41)⟩,⟨(some 35),none,.load1 (.t 34)⟩],rR 45 (.app 5 56 (.t 28) (.t 44)),rM 7 45]) (.seq (.ops [rM 46 8,rM 47 10,rR 48 (.buildSlice 1 1 [.nils] [(0 ,1 ,(.t 47))]),rR 49 (.app 1 24 (.t 46) (.t 48)),rM 8 49]) (.seq (.ops [rM 50 1,rM 51 11,rR 52 (.bin .add a7 false (.t 50) (.t 51)),rM 1 52]) (.ops [rM 53 0,rM 54 11,rR 55 (.sliceV 1 (.t 53) (some (.t 54)) none none),rM 0 55])))))))))) (.seq (.ops [rM 56 7,rM 57 8,rM 4 56,rM 5 57,rX 6 (iV 0)]) .ret))))))
theorem q0A:k7 P f00=.ok ⟨58,[.tmp 4,.tmp 5,.tmp 6],k0l⟩:=by kernel_rfl
noncomputable def b0x:CC :=
 (.seq (.ops [rX 2 .nils,rX 3 .nils,rX 4 (iV 0)]) (.seq (.ops [rM 13 0,rC 14 a0J [(.t 13),(iC 4)],rM 12 14,rE 15 12 0,rE 16 12 1,rE 17 12 2,rM 5 15,rM 6 16,rM 7 17]) (.seq (.seq (.ops [rM 18 7,rR 19 (.un .not (.t 18)),rM 20 19,rB 21 20 (.move (.t 6)),rB 22 20 (.lenV (.t 21)),rB 23 20 (.move (.t 5)),rB 24 20 (.bin .lss a7 false (.t 22) (.t 23)),rR 25 (.pick (.t 20) (.c (.bool true)) (.t 24))]) (.cond (.t 25) (.seq (.ops [rX 2 .nils,rX 3 .nils,rX 4 (iV 0)]) .ret) .skip)) (.seq (.ops [rM 27 6,rM 28 5,rR 29 (.sliceV 1 (.t 27) none (some (.t 28)) none),rC 30 c0Z [(.t 29)],rM 26 30,rE 31 26 0,rE 32 26 1,rE 33 26 2,rM 8 31,rM 9 32,rM 10 33]) (.seq (.seq (.ops [rM 34 10,rR 35 (.bin .neq A9 true (.t 34) (iC 0))]) (.cond (.t 35) (.seq (.ops [rX 2 .nils,rX 3 .nils,rX 4 (iV 0)]) .ret) .skip)) (.seq (.ops [rM 37 9,rC 38 c00 [(.t 37)],rM 36 38,rE 39 36 0,rE 40 36 1,rM 11 39,rM 10 40]) (.seq (.seq (.ops [rM 41 10,rR 42 (.bin .neq A9 true (.t 41) (iC 0)),rM 43 42,rB 44 43 (.move (.t 11)),rB 45 43 (.lenV (.t 44)),rB 46 43 (.bin .lss a7 true (.t 45) (iC 1)),rR 47 (.pick (.t 43) (.c (.bool true)) (.t 46)),rM 48 47,rB 49 48 (.move (.t 11)),rB 50 48 (.lenV (.t 49)),rB 51 48 (.bin .gtr a7 true (.t 50) (iC 20)),rR 52 (.pick (.t 48) (.c (.bool true)) (.t 51))]) (.cond (.t 52) (.seq (.ops [rX 2 .nils,rX 3 .nils,rX 4 (iV 0)]) .ret) .skip)) (.seq (.ops [rM 53 8,rM 54 11,rM 55 5,rR 56 (.bin .add a7 true (.t 55) (iC 4)),rM 2 53,rM 3 54,rM 4 56]) .ret))))))))
theorem n0v:k7 P e0i=.ok ⟨57,[.tmp 2,.tmp 3,.tmp 4],b0x⟩:=by kernel_rfl
noncomputable def f0U:CC :=
 (.seq (.ops [rX 4 (iV 0),rX 5 .nils,rX 6 (.bool false)]) (.seq (.seq (.ops [rM 9 0,rV 10 9,rM 11 1,rR 12 (.bin .lss a7 false (.t 10) (.t 11))]) (.cond (.t 12) (.seq (.ops [rX 4 (iV 0),rX 5 .nils,rX 6 (.bool false)]) .ret) .skip)) (.seq (.ops [rM 14 0,rM 15 1,rR 16 (.sliceV 1 (.t 14) none (some (.t 15)) none),rC 17 d0L [(.t 16)],rM 13 17,rE 18 13 0,rE 19 13 1,rM 7 18,rM 8 19]) (.seq (.ops [rM 20 7,rR 21 (.conv (.int .i64) (.t 20)),rM 22 0,rM 23 1,rR 24 (.sliceV 1 (.t 22) (some (.t 23)) none none),rM 4 21,rM 5 24,rX 6 (.bool true)]) .ret))))
theorem k0m:k7 P a0J=.ok ⟨25,[.tmp 4,.tmp 5,.tmp 6],f0U⟩:=by kernel_rfl
noncomputable def k0n:CC :=
 (.seq (.ops [rX 2 (.int .u64 0),rX 3 (.bool false)]) (.seq (.seq (.ops [rM 7 0,rV 8 7,rR 9 (.bin .lss a7 true (.t 8) (iC 1)),rM 10 9,rB 11 10 (.move (.t 0)),rB 12 10 (.lenV (.t 11)),rB 13 10 (.bin .gtr a7 true (.t 12) (iC 8)),rR 14 (.pick (.t 10) (.c (.bool true)) (.t 13))]) (.cond (.t 14) (.seq (.ops [rX 2 (.int .u64 0),rX 3 (.bool false)]) .ret) .skip)) (.seq (.ops [rX 4 (.int .u64 0)]) (.seq (.seq (.ops [rM 15 0,rV 16 15,rX 17 (iV 0)]) (.block 0 (.loop (.seq (.ops [rR 18 (.bin .lss a7 false (.t 17) (.t 16))]) (.seq (.cond (.t 18) .skip (.exit 0)) (.seq (.block 1 (.seq (.ops [rR 19 (.idxV 1 (.t 15) (.t 17)),rL 20 19,rM 6 20]) (.ops [rM 21 4,rR 22 (.bin .mul j0 true (.t 21) (.c (.int .u64 256))),rM 23 6,rR 24 (.conv (.int .u64) (.t 23)),rR 25 (.bin .add j0 false (.t 22) (.t 24)),rM 4 25]))) (.ops [rR 26 (.bin .add a7 true (.t 17) (iC 1)),rM 17 26]))))))) (.seq (.ops [rM 27 4,rM 2 27,rX 3 (.bool true)]) .ret)))))
theorem q0B:k7 P d0L=.ok ⟨28,[.tmp 2,.tmp 3],k0n⟩:=by kernel_rfl
noncomputable def c0D:CC :=
 (.seq (.ops [rX 2 .nils,rX 3 .nils,rX 4 (iV 0)]) (.seq (.seq (.ops [rM 13 0,rV 14 13,rR 15 (.bin .eql a7 true (.t 14) (iC 0))]) (.cond (.t 15) (.seq (.ops [rX 2 .nils,rX 3 .nils,rX 4 (iV 3)]) .ret) .skip)) (.seq (.ops [rM 16 0,rR 17 (.idxV 1 (.t 16) (iC 0)),rL 18 17,rR 19 (.conv (.int .i64) (.t 18)),rM 5 19]) (.seq (.ops [rM 20 0,rR 21 (.sliceV 1 (.t 20) (some (iC 1)) none none),rM 0 21]) (.seq (.ops [rX 6 .nils]) (.seq (.seq (.ops [rM 22 5,rX 23 (iV 0)]) (.block 0 (.loop (.seq (.ops [rR 24 (.bin .lss a7 false (.t 23) (.t 22))]) (.seq (.cond (.t 24) .skip (.exit 0)) (.seq (.block 1 (.seq (.ops [rM 26 0,rC 27 b0E [(.t 26)],rM 25 27,rE 28 25 0,rE 29 25 1,rE 30 25 2,rM 7 28,rM 8 29,rM 9 30]) (.seq (.ops [rM 32 8,rC 33 b0E [(.t 32)],rM 31 33,rE 34 31 0,rE 35 31 1,rE 36 31 2,rM 10 34,rM 11 35,rM 12 36]) (.seq (.seq (.ops [rM 37 9,rR 38 (.un .not (.t 37)),rM 39 38,rB 40 39 (.move (.t 12)),rB 41 39 (.un .not (.t 40)),rR 42 (.pick (.t 39) (.c (.bool true)) (.t 41))]) (.cond (.t 42) (.seq (.ops [rX 2 .nils,rX 3 .nils,rX 4 (iV 3)]) .ret) .skip)) (.seq (.ops [rM 43 6,rM 44 7,rM 45 10,rR 46 (.build [(.str []),(.str [])] [(0 ,1 ,(.t 44)),(1 ,1 ,(.t 45))]),rR 47 (.buildSlice 1 2 [(.str []),(.str [])] [(0 ,2 ,(.t 46))]),rR 48 (.app 2 32 (.t 43) (.t 47)),rM 6 48]) (.ops [rM 49 11,rM 0 49])))))) (.ops [rR 50 (.bin .add a7 true (.t 23) (iC 1)),rM 23 50]))))))) (.seq (.seq (.ops [rM 51 6,rC 52 a0H [(.t 51)],rR 53 (.un .not (.t 52))]) (.cond (.t 53) (.seq (.ops [rX 2 .nils,rX 3 .nils,rX 4 (iV 5)]) .ret) .skip)) (.seq (.ops [rM 54 6,rR 55 (.buildSlice 0 1 [] []),rM 56 0,rR 57 (.app 1 1 (.t 55) (.t 56)),rM 2 54,rM 3 57,rX 4 (iV 0)]) .ret))))))))
theorem l0C:k7 P c0Z=.ok ⟨58,[.tmp 2,.tmp 3,.tmp 4],c0D⟩:=by kernel_rfl
noncomputable def b0y:CC :=
 (.seq (.ops [rX 2 (.str []),rX 3 .nils,rX 4 (.bool false)]) (.seq (.seq (.ops [rM 6 0,rV 7 6,rR 8 (.bin .eql a7 true (.t 7) (iC 0)),rM 9 8,rB 10 9 (.move (.t 0)),rB 11 9 (.lenV (.t 10)),rB 12 9 (.bin .sub a7 true (.t 11) (iC 1)),rB 13 9 (.move (.t 0)),rB 14 9 (.idxV 1 (.t 13) (iC 0)),rB 15 9 (.load1 (.t 14)),rB 16 9 (.conv (.int .i64) (.t 15)),rB 17 9 (.bin .lss a7 false (.t 12) (.t 16)),rR 18 (.pick (.t 9) (.c (.bool true)) (.t 17))]) (.cond (.t 18) (.seq (.ops [rX 2 (.str []),rX 3 .nils,rX 4 (.bool false)]) .ret) .skip)) (.seq (.ops [rM 19 0,rR 20 (.idxV 1 (.t 19) (iC 0)),rL 21 20,rR 22 (.conv (.int .i64) (.t 21)),rM 5 22]) (.seq (.ops [rM 23 0,rM 24 5,rR 25 (.bin .add a7 true (iC 1) (.t 24)),rR 26 (.sliceV 1 (.t 23) (some (iC 1)) (some (.t 25)) none),rR 27 (.conv .strB (.t 26)),rM 28 0,rM 29 5,rR 30 (.bin .add a7 true (iC 1) (.t 29)),rR 31 (.sliceV 1 (.t 28) (some (.t 30)) none none),rM 2 27,rM 3 31,rX 4 (.bool true),.stage [⟨(some 27),none,.conv .strB (.t 26)⟩]]) .ret))))
theorem n0w:k7 P b0E=.ok ⟨32,[.tmp 2,.tmp 3,.tmp 4],b0y⟩:=by kernel_rfl
noncomputable def c0E:CC :=
 (.seq (.ops [rX 2 .nils,rX 3 (iV 0)]) (.seq (.seq (.ops [rM 12 0,rV 13 12,rR 14 (.bin .lss a7 true (.t 13) (iC 2))]) (.cond (.t 14) (.seq (.ops [rX 2 .nils,rX 3 (iV 5)]) .ret) .skip)) (.seq (.ops [rM 16 0,rR 17 (.sliceV 1 (.t 16) none (some (iC 2)) none),rC 18 d0L [(.t 17)],rM 15 18,rE 19 15 0,rE 20 15 1,rM 4 19,rM 5 20]) (.seq (.ops [rM 21 0,rR 22 (.sliceV 1 (.t 21) (some (iC 2)) none none),rR 23 (.build [.nils,(iV 0),(.bool false)] [(0 ,1 ,(.t 22))]),rR 24 (.box (.t 23)),rM 6 24]) (.seq (.ops [rX 7 .nils]) (.seq (.seq (.ops [rM 25 4,rR 26 (.conv (.int .i64) (.t 25)),rX 27 (iV 0)]) (.block 0 (.loop (.seq (.ops [rR 28 (.bin .lss a7 false (.t 27) (.t 26))]) (.seq (.cond (.t 28) .skip (.exit 0)) (.seq (.block 1 (.seq (.ops [rM 29 27,rM 8 29]) (.seq (.ops [rR 30 (.build [(iV 0),(.int .u64 0)] []),rR 9 (.new [(iV 0),(.int .u64 0)]),rN (.store 2 (.t 9) (.t 30))]) (.seq (.seq (.ops [rM 31 8]) (.block 2 (.seq (.ops [rR 67 (.bin .eql a7 true (.t 31) (iC 0)),rM 66 67]) (.cond (.t 66) (.seq (.ops [rM 68 6,rC 69 C4 [(.t 68),(iC 64)],rR 70 (.conv (.int .i64) (.t 69)),rF 71 0 9,rN (.store 1 (.t 71) (.t 70))]) (.ops [rM 72 6,rC 73 C4 [(.t 72),(iC 64)],rF 74 1 9,rN (.store 1 (.t 74) (.t 73))])) (.seq (.ops [rR 76 (.bin .eql a7 true (.t 31) (iC 1)),rM 75 76]) (.cond (.t 75) (.seq (.ops [rM 77 7,rR 78 (.idxV 2 (.t 77) (iC 0)),rF 79 0 78,rL 80 79,rM 81 6,.stage [⟨(some 80),none,.load1 (.t 79)⟩],rC 82 T7 [(.t 81)],rR 83 (.bin .add a7 false (.t 80) (.t 82)),rF 84 0 9,.stage [⟨(some 80),none,.load1 (.t 79)⟩],rN (.store 1 (.t 84) (.t 83))]) (.ops [rM 85 7,rR 86 (.idxV 2 (.t 85) (iC 0)),rF 87 1 86,rL 88 87,rM 89 6,.stage [⟨(some 88),none,.load1 (.t 87)⟩],rC 90 L4 [(.t 89)],rR 91 (.bin .xor j0 false (.t 88) (.t 90)),rF 92 1 9,.stage [⟨(some 88),none,.load1 (.t 87)⟩],rN (.store 1 (.t 92) (.t 91))])) (.seq (.ops [rM 32 7,rM 33 8,rR 34 (.bin .sub a7 true (.t 33) (iC 1)),rR 35 (.idxV 2 (.t 32) (.t 34)),rF 36 0 35,rL 37 36,rM 38 7,rM 39 8,rR 40 (.bin .sub a7 true (.t 39) (iC 1)),rR 41 (.idxV 2 (.t 38) (.t 40)),rF 42 0 41,rL 43 42,rM 44 7,rM 45 8,rR 46 (.bin .sub a7 true (.t 45) (iC 2)),rR 47 (.idxV 2 (.t 44) (.t 46)),rF 48 0 47,rL 49 48,rR 50 (.bin .sub a7 false (.t 43) (.t 49)),rR 51 (.bin .add a7 false (.t 37) (.t 50)),rM 52 6,.stage [⟨(some 49),none,.load1 (.t 48)⟩,⟨(some 43),none,.load1 (.t 42)⟩,⟨(some 37),none,.load1 (.t 36)⟩],rC 53 T7 [(.t 52)],rR 54 (.bin .add a7 false (.t 51) (.t 53)),rF 55 0 9,.stage [⟨(some 49),none,.load1 (.t 48)⟩,⟨(some 43),none,.load1 (.t 42)⟩,⟨(some 37),none,.load1 (.t 36)⟩],rN (.store 1 (.t 55) (.t 54))]) (.ops [rM 56 7,rM 57 8,rR 58 (.bin .sub a7 true (.t 57) (iC 1)),rR 59 (.idxV 2 (.t 56) (.t 58)),rF 60 1 59,rL 61 60,rM 62 6,.stage [⟨(some 61),none,.load1 (.t 60)⟩],rC 63 L4 [(.t 62)],rR 64 (.bin .xor j0 false (.t 61) (.t 63)),rF 65 1 9,.stage [⟨(some 61),none,.load1 (.t 60)⟩],rN (.store 1 (.t 65) (.t 64))])))))))) (.seq (.seq (.ops [rM 93 6,rK 94 93,rF 95 2 94,rL 96 95]) (.cond (.t 96) (.seq (.ops [rX 2 .nils,rX 3 (iV 5)]) .ret) .skip)) (.ops [rM 97 7,rR 98 (.loadN 2 (.t 9)),rR 99 (.buildSlice 1 2 [(iV 0),(.int .u64 0)] [(0 ,2 ,(.t 98))]),rR 100 (.app 2 16 (.t 97) (.t 99)),rM 7 100])))))) (.ops [rR 101 (.bin .add a7 true (.t 27) (iC 1)),rM 27 101]))))))) (.seq (.ops [rM 103 7,rC 104 a0Y [(.t 103)],rM 102 104,rE 105 102 0,rE 106 102 1,rM 10 105,rM 11 106]) (.seq (.seq (.ops [rM 107 11,rR 108 (.bin .neq A9 true (.t 107) (iC 0)),rM 109 108,rB 110 109 (.move (.t 10)),rB 111 109 (.conv .strB (.t 110)),rB 112 109 (.move (.t 0)),rB 113 109 (.conv .strB (.t 112)),rB 114 109 (.bin .neq s8 false (.t 111) (.t 113)),rR 115 (.pick (.t 109) (.c (.bool true)) (.t 114))]) (.cond (.t 115) (.seq (.ops [rX 2 .nils,rX 3 (iV 5)]) .ret) .skip)) (.seq (.ops [rM 116 7,rM 2 116,rX 3 (iV 0)]) .ret)))))))))
theorem l0D:k7 P c00=.ok ⟨117,[.tmp 2,.tmp 3],c0E⟩:=by kernel_rfl
noncomputable def f0C:CC :=
 (.seq (.ops [rX 4 (.int .u64 0)]) (.seq (.ops [rX 5 (.int .u64 0)]) (.seq (.seq (.ops [rM 6 1,rX 7 (iV 0)]) (.block 0 (.loop (.seq (.ops [rR 8 (.bin .lss a7 false (.t 7) (.t 6))]) (.seq (.cond (.t 8) .skip (.exit 0)) (.seq (.block 1 (.seq (.seq (.ops [rM 9 0,rK 10 9,rF 11 1 10,rL 12 11,rM 13 0,rK 14 13,rF 15 0 14,rL 16 15,rV 17 16,rR 18 (.bin .mul a7 true (iC 8) (.t 17)),rR 19 (.bin .geq a7 false (.t 12) (.t 18)),.stage [⟨(some 16),none,.load1 (.t 15)⟩,⟨(some 12),none,.load1 (.t 11)⟩]]) (.cond (.t 19) (.seq (.ops [rM 20 0,rK 21 20,rF 22 2 21,rN (.store 1 (.t 22) (.c (.bool true)))]) (.seq (.ops [rX 4 (.int .u64 0)]) .ret)) .skip)) (.seq (.ops [rM 23 5,rR 24 (.bin .mul j0 true (.t 23) (.c (.int .u64 2))),rM 25 0,rK 26 25,rF 27 0 26,rL 28 27,rM 29 0,rK 30 29,rF 31 1 30,rL 32 31,rR 33 (.bin .quo a7 true (.t 32) (iC 8)),rR 34 (.idxV 1 (.t 28) (.t 33)),rL 35 34,rM 36 0,rK 37 36,rF 38 1 37,rL 39 38,rR 40 (.bin .rem a7 true (.t 39) (iC 8)),rR 41 (.bin .sub a7 true (iC 7) (.t 40)),rR 42 (.bin .shr t6 false (.t 35) (.t 41)),rR 43 (.bin .and t6 true (.t 42) (.c (.int .u8 1))),rR 44 (.conv (.int .u64) (.t 43)),rR 45 (.bin .add j0 false (.t 24) (.t 44)),rM 5 45,.stage [⟨(some 39),none,.load1 (.t 38)⟩,⟨(some 35),none,.load1 (.t 34)⟩,⟨(some 32),none,.load1 (.t 31)⟩,⟨(some 28),none,.load1 (.t 27)⟩]]) (.ops [rM 46 0,rK 47 46,rF 48 1 47,rL 49 48,rR 50 (.bin .add a7 true (.t 49) (iC 1)),rK 51 46,rF 52 1 51,rN (.store 1 (.t 52) (.t 50))])))) (.ops [rR 53 (.bin .add a7 true (.t 7) (iC 1)),rM 7 53]))))))) (.seq (.ops [rM 54 5,rM 4 54]) .ret))))
theorem k07:k7 P C4=.ok ⟨55,[.tmp 4],f0C⟩:=by kernel_rfl
noncomputable def c0F:CC :=
 (.seq (.ops [rX 2 (iV 0)]) (.seq (.ops [rX 3 (iV 0)]) (.seq (.block 0 (.loop (.seq (.seq (.ops [rM 6 3,rR 7 (.bin .lss a7 true (.t 6) (iC 4)),rM 8 7,rA 9 8 (.move (.t 0)),rA 10 8 (.callV (.c (.func (.func C4) [] [])) [(.t 9),(iC 1)]),rA 11 8 (.bin .eql j0 true (.t 10) (.c (.int .u64 1))),rR 12 (.pick (.t 8) (.t 11) (.c (.bool false)))]) (.cond (.t 12) .skip (.exit 0))) (.block 1 (.ops [rM 13 3,rR 14 (.bin .add a7 true (.t 13) (iC 1)),rM 3 14]))))) (.seq (.ops [rR 15 (.buildSlice 5 1 [(iV 0),(iV 0),(iV 0),(iV 0),(iV 0)] [(0 ,1 ,(iC 0)),(1 ,1 ,(iC 7)),(2 ,1 ,(iC 12)),(3 ,1 ,(iC 32)),(4 ,1 ,(iC 64))]),rM 16 3,rR 17 (.idxV 1 (.t 15) (.t 16)),rL 18 17,rM 4 18]) (.seq (.ops [rM 19 0,rM 20 4,rC 21 C4 [(.t 19),(.t 20)],rR 22 (.conv (.int .i64) (.t 21)),rM 5 22]) (.seq (.seq (.ops [rM 23 4,rR 24 (.bin .gtr a7 true (.t 23) (iC 0)),rM 25 24,rA 26 25 (.move (.t 4)),rA 27 25 (.bin .lss a7 true (.t 26) (iC 64)),rR 28 (.pick (.t 25) (.t 27) (.c (.bool false))),rM 29 28,rA 30 29 (.move (.t 5)),rA 31 29 (.move (.t 4)),rA 32 29 (.bin .sub a7 true (.t 31) (iC 1)),rA 33 29 (.bin .shl a7 true (iC 1) (.t 32)),rA 34 29 (.bin .geq a7 false (.t 30) (.t 33)),rR 35 (.pick (.t 29) (.t 34) (.c (.bool false)))]) (.cond (.t 35) (.ops [rM 36 5,rM 37 4,rR 38 (.bin .shl a7 true (iC 1) (.t 37)),rR 39 (.bin .sub a7 false (.t 36) (.t 38)),rM 5 39]) .skip)) (.seq (.ops [rM 40 5,rM 2 40]) .ret)))))))
theorem h0C:k7 P T7=.ok ⟨41,[.tmp 2],c0F⟩:=by kernel_rfl
noncomputable def c0G:CC :=
 (.seq (.ops [rX 2 (.int .u64 0)]) (.seq (.seq (.ops [rM 6 0,rC 7 C4 [(.t 6),(iC 1)],rR 8 (.bin .eql j0 true (.t 7) (.c (.int .u64 0)))]) (.cond (.t 8) (.seq (.ops [rX 2 (.int .u64 0)]) .ret) .skip)) (.seq (.ops [rM 9 0,rC 10 C4 [(.t 9),(iC 6)],rR 11 (.conv (.int .i64) (.t 10)),rM 3 11]) (.seq (.ops [rM 12 0,rC 13 C4 [(.t 12),(iC 6)],rR 14 (.conv (.int .i64) (.t 13)),rR 15 (.bin .add a7 true (.t 14) (iC 1)),rM 4 15]) (.seq (.ops [rM 16 0,rM 17 4,rC 18 C4 [(.t 16),(.t 17)],rM 5 18]) (.seq (.seq (.ops [rM 19 3,rM 20 4,rR 21 (.bin .add a7 false (.t 19) (.t 20)),rR 22 (.bin .gtr a7 true (.t 21) (iC 64))]) (.cond (.t 22) (.seq (.ops [rM 23 0,rK 24 23,rF 25 2 24,rN (.store 1 (.t 25) (.c (.bool true)))]) (.seq (.ops [rX 2 (.int .u64 0)]) .ret)) .skip)) (.seq (.ops [rM 26 5,rM 27 3,rR 28 (.bin .sub a7 true (iC 64) (.t 27)),rM 29 4,rR 30 (.bin .sub a7 false (.t 28) (.t 29)),rR 31 (.bin .shl j0 false (.t 26) (.t 30)),rM 2 31]) .ret)))))))
theorem h0D:k7 P L4=.ok ⟨32,[.tmp 2],c0G⟩:=by kernel_rfl
noncomputable def f0V:CC :=
 (.seq (.ops [rX 2 .nils,rX 3 (iV 0)]) (.seq (.ops [rM 16 0,rR 17 (.build [.nils,(.bool false)] [(0 ,1 ,(.t 16))]),rR 18 (.box (.t 17)),rM 4 18]) (.seq (.ops [rX 5 .nils]) (.seq (.seq (.ops [rM 19 4,rC 20 r6 [(.t 19),(iC 4)],rM 6 20]) (.block 0 (.loop (.seq (.seq (.ops [rM 21 6,rR 22 (.bin .gtr a7 true (.t 21) (iC 0)),rM 23 22,rA 24 23 (.move (.t 4)),rA 25 23 (.nilCheck (.t 24)),rA 26 23 (.fieldAddr 1 (.t 25)),rA 27 23 (.load1 (.t 26)),rA 28 23 (.un .not (.t 27)),rR 29 (.pick (.t 23) (.t 28) (.c (.bool false)))]) (.cond (.t 29) .skip (.exit 0))) (.seq (.block 1 (.ops [rM 32 5,rM 33 4,rM 34 4,rC 35 r6 [(.t 34),(iC 1)],rC 36 P9 [(.t 33),(.t 35)],rR 37 (.conv .strB (.t 36)),rR 38 (.buildSlice 1 1 [(.str [])] [(0 ,1 ,(.t 37))]),rR 39 (.app 1 16 (.t 32) (.t 38)),rM 5 39])) (.ops [rM 30 6,rR 31 (.bin .sub a7 true (.t 30) (iC 1)),rM 6 31])))))) (.seq (.ops [rX 7 .nils]) (.seq (.ops [rX 8 (iV 0)]) (.seq (.seq (.ops [rM 40 4,rC 41 r6 [(.t 40),(iC 4)],rM 9 41]) (.block 2 (.loop (.seq (.seq (.ops [rM 42 9,rR 43 (.bin .gtr a7 true (.t 42) (iC 0)),rM 44 43,rA 45 44 (.move (.t 4)),rA 46 44 (.nilCheck (.t 45)),rA 47 44 (.fieldAddr 1 (.t 46)),rA 48 44 (.load1 (.t 47)),rA 49 44 (.un .not (.t 48)),rR 50 (.pick (.t 44) (.t 49) (.c (.bool false))),rM 51 50,rA 52 51 (.move (.t 7)),rA 53 51 (.lenV (.t 52)),rA 54 51 (.bin .leq a7 true (.t 53) (iC 100000)),rR 55 (.pick (.t 51) (.t 54) (.c (.bool false)))]) (.cond (.t 55) .skip (.exit 2))) (.seq (.block 3 (.seq (.ops [rM 58 8,rR 59 (.build [.nils,(iV 0),(iV 0),(iV 0),(iV 0)] [(1 ,1 ,(.t 58))]),rR 10 (.new [.nils,(iV 0),(iV 0),(iV 0),(iV 0)]),rN (.store 5 (.t 10) (.t 59))]) (.seq (.seq (.ops [rM 60 4,rC 61 r6 [(.t 60),(iC 1)],rM 11 61]) (.block 4 (.loop (.seq (.seq (.ops [rM 62 11,rR 63 (.bin .gtr a7 true (.t 62) (iC 0)),rM 64 63,rA 65 64 (.move (.t 4)),rA 66 64 (.nilCheck (.t 65)),rA 67 64 (.fieldAddr 1 (.t 66)),rA 68 64 (.load1 (.t 67)),rA 69 64 (.un .not (.t 68)),rR 70 (.pick (.t 64) (.t 69) (.c (.bool false)))]) (.cond (.t 70) .skip (.exit 4))) (.seq (.block 5 (.seq (.ops [rM 73 4,rC 74 r6 [(.t 73),(iC 4)],rM 75 4,rC 76 r6 [(.t 75),(iC 4)],rM 12 74,rM 13 76]) (.seq (.ops [rM 77 4,rM 78 4,rK 79 78,rF 80 1 79,rL 81 80,rM 82 81,rB 83 82 (.move (.t 12)),rB 84 82 (.move (.t 13)),rB 85 82 (.mm true (.t 83) [(.t 84)]),rB 86 82 (.move (.t 5)),rB 87 82 (.lenV (.t 86)),rB 88 82 (.bin .geq a7 false (.t 85) (.t 87)),rR 89 (.pick (.t 82) (.c (.bool true)) (.t 88)),rK 90 77,rF 91 1 90,rN (.store 1 (.t 91) (.t 89))]) (.seq (.ops [rM 92 4,rK 93 92,rF 94 1 93,rL 95 94,rR 96 (.un .not (.t 95))]) (.cond (.t 96) (.ops [rF 97 0 10,rL 98 97,rM 99 5,rM 100 12,rR 101 (.idxV 1 (.t 99) (.t 100)),rL 102 101,rM 103 5,rM 104 13,rR 105 (.idxV 1 (.t 103) (.t 104)),rL 106 105,rR 107 (.build [(.str []),(.str [])] [(0 ,1 ,(.t 102)),(1 ,1 ,(.t 106))]),rR 108 (.buildSlice 1 2 [(.str []),(.str [])] [(0 ,2 ,(.t 107))]),.stage [⟨(some 106),none,.load1 (.t 105)⟩,⟨(some 102),none,.load1 (.t 101)⟩,⟨(some 98),none,.load1 (.t 97)⟩],rR 109 (.app 2 32 (.t 98) (.t 108)),rF 110 0 10,rN (.store 1 (.t 110) (.t 109))]) .skip))))) (.ops [rM 71 11,rR 72 (.bin .sub a7 true (.t 71) (iC 1)),rM 11 72])))))) (.seq (.ops [rM 111 4,rC 112 r6 [(.t 111),(iC 4)],rM 113 4,rC 114 r6 [(.t 113),(iC 8)],rM 115 4,rC 116 r6 [(.t 115),(iC 8)],rF 117 2 10,rN (.store 1 (.t 117) (.t 112)),rF 118 3 10,rN (.store 1 (.t 118) (.t 114)),rF 119 4 10,rN (.store 1 (.t 119) (.t 116))]) (.seq (.ops [rM 120 8,rF 121 2 10,rL 122 121,rR 123 (.bin .add a7 false (.t 120) (.t 122)),rM 8 123]) (.ops [rM 124 7,rR 125 (.loadN 5 (.t 10)),rR 126 (.buildSlice 1 5 [.nils,(iV 0),(iV 0),(iV 0),(iV 0)] [(0 ,5 ,(.t 125))]),rR 127 (.app 5 56 (.t 124) (.t 126)),rM 7 127])))))) (.ops [rM 56 9,rR 57 (.bin .sub a7 true (.t 56) (iC 1)),rM 9 57])))))) (.seq (.seq (.ops [rM 128 4,rK 129 128,rF 130 1 129,rL 131 130]) (.cond (.t 131) (.seq (.ops [rX 2 .nils,rX 3 (iV 5)]) .ret) .skip)) (.seq (.seq (.ops [rM 133 7,rC 134 a0W [(.t 133)],rM 132 134,rE 135 132 0,rE 136 132 1,rM 14 135,rM 15 136]) (.seq (.ops [rM 137 15,rR 138 (.bin .neq A9 true (.t 137) (iC 0)),rM 139 138,rB 140 139 (.move (.t 14)),rB 141 139 (.move (.t 0)),rB 142 139 (.callV (.c (.func (.func b0D) [] [])) [(.t 140),(.t 141)]),rB 143 139 (.un .not (.t 142)),rR 144 (.pick (.t 139) (.c (.bool true)) (.t 143))]) (.cond (.t 144) (.seq (.ops [rX 2 .nils,rX 3 (iV 5)]) .ret) .skip))) (.seq (.ops [rM 145 7,rM 2 145,rX 3 (iV 0)]) .ret))))))))))
theorem l0E:k7 P c01=.ok ⟨146,[.tmp 2,.tmp 3],f0V⟩:=by kernel_rfl
noncomputable def b0i:CC :=
 (.seq (.ops [rX 4 (iV 0)]) (.seq (.ops [rM 8 0,rM 9 1,rC 10 P9 [(.t 8),(.t 9)],rC 11 c0v [(.t 10)],rM 7 11,rE 12 7 0,rE 13 7 1,rM 5 12,rM 6 13]) (.seq (.ops [rM 14 5,rR 15 (.conv (.int .i64) (.t 14)),rM 4 15]) .ret)))
theorem f0L:k7 P r6=.ok ⟨16,[.tmp 4],b0i⟩:=by kernel_rfl
noncomputable def P6:CC :=
 (.seq (.ops [rX 4 .nils]) (.seq (.seq (.ops [rM 6 0,rM 7 0,rK 8 7,rF 9 1 8,rL 10 9,rM 11 10,rB 12 11 (.move (.t 0)),rB 13 11 (.nilCheck (.t 12)),rB 14 11 (.fieldAddr 0 (.t 13)),rB 15 11 (.load1 (.t 14)),rB 16 11 (.lenV (.t 15)),rB 17 11 (.move (.t 1)),rB 18 11 (.bin .lss a7 false (.t 16) (.t 17)),rR 19 (.pick (.t 11) (.c (.bool true)) (.t 18)),rK 20 6,rF 21 1 20,rN (.store 1 (.t 21) (.t 19))]) (.seq (.ops [rM 22 0,rK 23 22,rF 24 1 23,rL 25 24]) (.cond (.t 25) (.seq (.ops [rX 4 .nils]) .ret) .skip))) (.seq (.ops [rM 26 0,rK 27 26,rF 28 0 27,rL 29 28,rM 30 1,rR 31 (.sliceV 1 (.t 29) none (some (.t 30)) none),rM 5 31]) (.seq (.ops [rM 32 0,rM 33 0,rK 34 33,rF 35 0 34,rL 36 35,rM 37 1,rR 38 (.sliceV 1 (.t 36) (some (.t 37)) none none),rK 39 32,rF 40 0 39,rN (.store 1 (.t 40) (.t 38))]) (.seq (.ops [rM 41 5,rM 4 41]) .ret)))))
theorem g09:k7 P P9=.ok ⟨42,[.tmp 4],P6⟩:=by kernel_rfl
noncomputable def b07:CC :=
 (.seq (.ops [rX 4 (.bool false)]) (.seq (.ops [rM 5 0,rM 6 1,rC 7 A7 [(.t 5),(.t 6),(.c (.func (.func M2) [] []))],rM 4 7]) .ret))
theorem h0a:k7 P Q0=.ok ⟨8,[.tmp 4],b07⟩:=by kernel_rfl
noncomputable def A6:CC :=
 (.seq (.ops [rX 6 (.bool false)]) (.seq (.seq (.ops [rM 10 0,rV 11 10,rM 12 1,rV 13 12,rR 14 (.bin .neq a7 false (.t 11) (.t 13))]) (.cond (.t 14) (.seq (.ops [rX 6 (.bool false)]) .ret) .skip)) (.seq (.seq (.ops [rM 15 0,rV 16 15,rX 17 (iV 0)]) (.block 0 (.loop (.seq (.ops [rR 18 (.bin .lss a7 false (.t 17) (.t 16))]) (.seq (.cond (.t 18) .skip (.exit 0)) (.seq (.block 1 (.seq (.ops [rM 19 17,rR 20 (.idxV 5 (.t 15) (.t 17)),rR 21 (.loadN 5 (.t 20)),rR 8 (.new [.nils,(iV 0),(iV 0),(iV 0),(iV 0)]),rM 7 19,rN (.store 5 (.t 8) (.t 21))]) (.seq (.ops [rM 22 1,rM 23 7,rR 24 (.idxV 5 (.t 22) (.t 23)),rR 25 (.loadN 5 (.t 24)),rR 9 (.new [.nils,(iV 0),(iV 0),(iV 0),(iV 0)]),rN (.store 5 (.t 9) (.t 25))]) (.seq (.ops [rM 26 2,rR 27 (.loadN 5 (.t 8)),rR 28 (.loadN 5 (.t 9)),rR 29 (.callV (.t 26) [(.t 27),(.t 28)]),rR 30 (.un .not (.t 29))]) (.cond (.t 30) (.seq (.ops [rX 6 (.bool false)]) .ret) .skip))))) (.ops [rR 31 (.bin .add a7 true (.t 17) (iC 1)),rM 17 31]))))))) (.seq (.ops [rX 6 (.bool true)]) .ret))))
theorem G7:k7 P A7=.ok ⟨32,[.tmp 6],A6⟩:=by kernel_rfl
noncomputable def b0j:CC :=
 (.seq (.ops [rR 2 (.box (.t 0)),rR 3 (.box (.t 1)),rX 4 (.bool false)]) (.seq (.ops [rF 5 0 2,rL 6 5,rF 7 0 3,rL 8 7,rC 9 D6 [(.t 6),(.t 8)],rM 10 9,rA 11 10 (.fieldAddr 1 (.t 2)),rA 12 10 (.load1 (.t 11)),rA 13 10 (.fieldAddr 1 (.t 3)),rA 14 10 (.load1 (.t 13)),rA 15 10 (.bin .eql a7 false (.t 12) (.t 14)),rR 16 (.pick (.t 10) (.t 15) (.c (.bool false))),rM 17 16,rA 18 17 (.fieldAddr 2 (.t 2)),rA 19 17 (.load1 (.t 18)),rA 20 17 (.fieldAddr 2 (.t 3)),rA 21 17 (.load1 (.t 20)),rA 22 17 (.bin .eql a7 false (.t 19) (.t 21)),rR 23 (.pick (.t 17) (.t 22) (.c (.bool false))),rM 24 23,rA 25 24 (.fieldAddr 3 (.t 2)),rA 26 24 (.load1 (.t 25)),rA 27 24 (.fieldAddr 3 (.t 3)),rA 28 24 (.load1 (.t 27)),rA 29 24 (.bin .eql a7 false (.t 26) (.t 28)),rR 30 (.pick (.t 24) (.t 29) (.c (.bool false))),rM 31 30,rA 32 31 (.fieldAddr 4 (.t 2)),rA 33 31 (.load1 (.t 32)),rA 34 31 (.fieldAddr 4 (.t 3)),rA 35 31 (.load1 (.t 34)),rA 36 31 (.bin .eql a7 false (.t 33) (.t 35)),rR 37 (.pick (.t 31) (.t 36) (.c (.bool false))),rM 4 37]) .ret))
theorem f0M:k7 P M2=.ok ⟨38,[.tmp 4],b0j⟩:=by kernel_rfl
noncomputable def K9:CC :=
 (.seq (.ops [rX 4 (.bool false)]) (.seq (.seq (.ops [rM 6 0,rV 7 6,rM 8 1,rV 9 8,rR 10 (.bin .neq a7 false (.t 7) (.t 9))]) (.cond (.t 10) (.seq (.ops [rX 4 (.bool false)]) .ret) .skip)) (.seq (.seq (.ops [rM 11 0,rV 12 11,rX 13 (iV 0)]) (.block 0 (.loop (.seq (.ops [rR 14 (.bin .lss a7 false (.t 13) (.t 12))]) (.seq (.cond (.t 14) .skip (.exit 0)) (.seq (.block 1 (.seq (.ops [rM 15 13,rM 5 15]) (.seq (.ops [rM 16 0,rM 17 5,rR 18 (.idxV 2 (.t 16) (.t 17)),rR 19 (.loadN 2 (.t 18)),rM 20 1,rM 21 5,rR 22 (.idxV 2 (.t 20) (.t 21)),rR 23 (.loadN 2 (.t 22)),rR 24 (.bin .neq d0M false (.t 19) (.t 23)),.stage [⟨(some 23),none,.loadN 2 (.t 22)⟩,⟨(some 19),none,.loadN 2 (.t 18)⟩]]) (.cond (.t 24) (.seq (.ops [rX 4 (.bool false)]) .ret) .skip)))) (.ops [rR 25 (.bin .add a7 true (.t 13) (iC 1)),rM 13 25]))))))) (.seq (.ops [rX 4 (.bool true)]) .ret))))
theorem a0h:k7 P D6=.ok ⟨26,[.tmp 4],K9⟩:=by kernel_rfl
noncomputable def k0o:CC :=
 (.seq (.ops [rX 2 (.bool false)]) (.seq (.seq (.ops [rM 5 0,rV 6 5,rX 7 (iV 0)]) (.block 0 (.loop (.seq (.ops [rR 8 (.bin .lss a7 false (.t 7) (.t 6))]) (.seq (.cond (.t 8) .skip (.exit 0)) (.seq (.block 1 (.seq (.ops [rM 9 7,rR 10 (.idxV 2 (.t 5) (.t 7)),rR 11 (.loadN 2 (.t 10)),rR 4 (.new [.nils,.nils]),rM 3 9,rN (.store 2 (.t 4) (.t 11))]) (.block 2 (.seq (.seq (.ops [rF 13 0 4,rL 14 13,rC 15 a0X [(.t 14)],rR 16 (.un .not (.t 15)),rM 12 16]) (.cond (.t 12) .skip (.seq (.ops [rF 17 1 4,rL 18 17,rV 19 18,rR 20 (.bin .eql a7 true (.t 19) (iC 0)),rM 12 20]) (.cond (.t 12) .skip (.ops [rF 21 1 4,rL 22 21,rC 23 d0K [(.t 22)],rR 24 (.un .not (.t 23)),rM 12 24]))))) (.cond (.t 12) (.seq (.ops [rX 2 (.bool false)]) .ret) (.seq (.ops [rM 26 3,rR 27 (.bin .gtr a7 true (.t 26) (iC 0)),rM 28 27,rA 29 28 (.move (.t 0)),rA 30 28 (.move (.t 3)),rA 31 28 (.bin .sub a7 true (.t 30) (iC 1)),rA 32 28 (.idxV 2 (.t 29) (.t 31)),rA 33 28 (.fieldAddr 0 (.t 32)),rA 34 28 (.load1 (.t 33)),rA 35 28 (.fieldAddr 0 (.t 4)),rA 36 28 (.load1 (.t 35)),.stage [⟨(some 36),(some (28 ,true)),.load1 (.t 35)⟩,⟨(some 34),(some (28 ,true)),.load1 (.t 33)⟩],rA 37 28 (.callV (.c (.func (.func X7) [] [])) [(.t 34),(.t 36)]),rA 38 28 (.bin .geq a7 true (.t 37) (iC 0)),rR 39 (.pick (.t 28) (.t 38) (.c (.bool false))),rM 25 39]) (.cond (.t 25) (.seq (.ops [rX 2 (.bool false)]) .ret) .skip))))))) (.ops [rR 40 (.bin .add a7 true (.t 7) (iC 1)),rM 7 40]))))))) (.seq (.ops [rX 2 (.bool true)]) .ret)))
theorem q0C:k7 P k0t=.ok ⟨41,[.tmp 2],k0o⟩:=by kernel_rfl
end Go.Dk

namespace Go.Dk
open Go Go.Dr
set_option maxRecDepth 100000
noncomputable def T2:DC :=
 (.seq
 (.ops [
  .row ⟨(some 2),none,.move (.c .nils)⟩])
 (.seq
  (.ops [
  .row ⟨(some 4),none,.move (.t 0)⟩,
  .row ⟨(some 5),none,.callV (.c (.func (.func Q5) [] [])) [(.t 4)]⟩,
  .row ⟨(some 3),none,.move (.t 5)⟩])
  (.seq
  (.ops [
   .row ⟨(some 6),none,.move (.t 3)⟩,
   .row ⟨(some 7),none,.callV (.c (.func (.func C0) [] [])) [(.t 6)]⟩])
  (.seq
   (.ops [
   .row ⟨(some 8),none,.move (.t 3)⟩,
   .row ⟨(some 2),none,.move (.t 8)⟩])
   .ret))))
theorem a0U:d0a P A0=.ok ⟨9,[.tmp 2],T2⟩:=by kernel_rfl
noncomputable def a0F:DC :=
 (.seq
 (.ops [
  .row ⟨(some 2),none,.move (.c .nils)⟩])
 (.seq
  (.ops [
  .row ⟨(some 3),none,.move (.t 0)⟩,
  .row ⟨(some 4),none,.callV (.c (.func (.func d9) [] [])) [(.c .nils),(.t 3)]⟩,
  .row ⟨(some 2),none,.move (.t 4)⟩])
  .ret))
theorem e0A:d0a P Q5=.ok ⟨5,[.tmp 2],a0F⟩:=by kernel_rfl
noncomputable def M9:DC :=
 (.seq
 (.ops [
  .row ⟨(some 2),none,.box (.t 0)⟩,
  .row ⟨(some 4),none,.move (.c .nils)⟩])
 (.seq
  (.seq
  (.ops [
   .row ⟨(some 6),none,.move (.t 1)⟩])
  (.block 0
   (.go 13 (.t 6) #[7] (N5 d9 0) (a00 d9 0))))
  (.seq
  (.ops [
   .row ⟨(some 12),none,.load1 (.t 2)⟩,
   .row ⟨(some 4),none,.move (.t 12)⟩])
  .ret)))
theorem a0V:d0a P d9=.ok ⟨13,[.tmp 4],M9⟩:=by kernel_rfl
noncomputable def E5:DC :=
 (.ops [
 .row ⟨(some 5),none,.move (.t 7)⟩])
theorem T3:Y0 P 13 true (N5 d9 0)=.ok E5:=by kernel_rfl
noncomputable def G5:DC :=
 (.block 1
 (.ops [
  .row ⟨(some 8),none,.load1 (.t 2)⟩,
  .row ⟨(some 9),none,.move (.t 5)⟩,
  .row ⟨(some 10),none,.buildSlice 1 1 [(.str [])] [(0,1,(.t 9))]⟩,
  .row ⟨(some 11),none,.app 1 16 (.t 8) (.t 10)⟩,
  .row ⟨none,none,.store 1 (.t 2) (.t 11)⟩]))
theorem U3:Y0 P 13 true (a00 d9 0)=.ok G5:=by kernel_rfl
noncomputable def G0:DC :=
 (.seq
 (.ops [
  .row ⟨(some 4),none,.load1 (.t 1)⟩,
  .row ⟨(some 5),none,.rangeM (.t 4)⟩])
 (.block 0
  (.loop
  (.seq
   (.ops [
   .row ⟨(some 6),none,.next (.t 5) false⟩,
   .row ⟨(some 7),none,.extract (.t 6) 0⟩])
   (.seq
   (.cond (.t 7)
    .skip
    (.exit 0))
   (.block 1
    (.seq
    (.ops [
     .row ⟨(some 8),none,.entry (.t 5)⟩,
     .row ⟨(some 9),none,.extract (.t 8) 0⟩,
     .row ⟨(some 3),none,.move (.t 9)⟩])
    (.seq
     (.ops [
     .row ⟨(some 10),none,.move (.t 0)⟩,
     .row ⟨(some 11),none,.move (.t 3)⟩,
     .row ⟨(some 12),none,.callV (.t 10) [(.t 11)]⟩,
     .row ⟨(some 13),none,.un .not (.t 12)⟩])
     (.cond (.t 13)
     .ret
     .skip)))))))))
theorem T9:d0a P j6=.ok ⟨14,[],G0⟩:=by kernel_rfl
noncomputable def H1:DC :=
 (.seq
 (.ops [
  .row ⟨(some 4),none,.move (.c .nils)⟩])
 (.seq
  (.ops [
  .row ⟨(some 6),none,.move (.t 0)⟩,
  .row ⟨(some 7),none,.callV (.c (.func (.func J9) [] [])) [(.t 6)]⟩,
  .row ⟨(some 5),none,.move (.t 7)⟩])
  (.seq
  (.ops [
   .row ⟨(some 8),none,.move (.t 5)⟩,
   .row ⟨(some 9),none,.move (.t 1)⟩,
   .row ⟨(some 10),none,.callV (.c (.func (.func s6) [] [])) [(.t 8),(.t 9)]⟩])
  (.seq
   (.ops [
   .row ⟨(some 11),none,.move (.t 5)⟩,
   .row ⟨(some 4),none,.move (.t 11)⟩])
   .ret))))
theorem Q4:d0a P m9=.ok ⟨12,[.tmp 4],H1⟩:=by kernel_rfl
noncomputable def U7:DC :=
 (.seq
 (.ops [
  .row ⟨(some 2),none,.move (.c .nils)⟩])
 (.seq
  (.ops [
  .row ⟨(some 3),none,.move (.t 0)⟩,
  .row ⟨(some 4),none,.callV (.c (.func (.func c9) [] [])) [(.c .nils),(.t 3)]⟩,
  .row ⟨(some 2),none,.move (.t 4)⟩])
  .ret))
theorem c0i:d0a P J9=.ok ⟨5,[.tmp 2],U7⟩:=by kernel_rfl
noncomputable def G6:DC :=
 (.seq
 (.ops [
  .row ⟨(some 2),none,.box (.t 0)⟩,
  .row ⟨(some 4),none,.move (.c .nils)⟩])
 (.seq
  (.seq
  (.ops [
   .row ⟨(some 6),none,.move (.t 1)⟩])
  (.block 0
   (.go 13 (.t 6) #[7] (N5 c9 0) (a00 c9 0))))
  (.seq
  (.ops [
   .row ⟨(some 12),none,.load1 (.t 2)⟩,
   .row ⟨(some 4),none,.move (.t 12)⟩])
  .ret)))
theorem U4:d0a P c9=.ok ⟨13,[.tmp 4],G6⟩:=by kernel_rfl
noncomputable def C2:DC :=
 (.ops [
 .row ⟨(some 5),none,.new [(.int .i64 0),(.int .i64 0)]⟩,
 .row ⟨none,none,.store 2 (.t 5) (.t 7)⟩])
theorem L1:Y0 P 13 true (N5 c9 0)=.ok C2:=by kernel_rfl
noncomputable def C7:DC :=
 (.block 1
 (.ops [
  .row ⟨(some 8),none,.load1 (.t 2)⟩,
  .row ⟨(some 9),none,.loadN 2 (.t 5)⟩,
  .row ⟨(some 10),none,.buildSlice 1 2 [(.int .i64 0),(.int .i64 0)] [(0,2,(.t 9))]⟩,
  .row ⟨(some 11),none,.app 2 16 (.t 8) (.t 10)⟩,
  .row ⟨none,none,.store 1 (.t 2) (.t 11)⟩]))
theorem M4:Y0 P 13 true (a00 c9 0)=.ok C7:=by kernel_rfl
noncomputable def y8:DC :=
 (.seq
 (.ops [
  .row ⟨(some 4),none,.load1 (.t 1)⟩,
  .row ⟨(some 5),none,.rangeM (.t 4)⟩])
 (.block 0
  (.loop
  (.seq
   (.ops [
   .row ⟨(some 6),none,.next (.t 5) false⟩,
   .row ⟨(some 7),none,.extract (.t 6) 0⟩])
   (.seq
   (.cond (.t 7)
    .skip
    (.exit 0))
   (.block 1
    (.seq
    (.ops [
     .row ⟨(some 8),none,.entry (.t 5)⟩,
     .row ⟨(some 9),none,.extract (.t 8) 0⟩,
     .row ⟨(some 3),none,.new [(.int .i64 0),(.int .i64 0)]⟩,
     .row ⟨none,none,.store 2 (.t 3) (.t 9)⟩])
    (.seq
     (.ops [
     .row ⟨(some 10),none,.move (.t 0)⟩,
     .row ⟨(some 11),none,.loadN 2 (.t 3)⟩,
     .row ⟨(some 12),none,.callV (.t 10) [(.t 11)]⟩,
     .row ⟨(some 13),none,.un .not (.t 12)⟩])
     (.cond (.t 13)
     .ret
     .skip)))))))))
theorem D8:d0a P d7=.ok ⟨14,[],y8⟩:=by kernel_rfl
end Go.Dk

namespace Go.Dr
open Go.RowKit
variable {P:Program} {B:Nat} {w0 w w':World} {φ:Phi} {h h':AH}
def cv:AV→Value
 | .int k n=>.int k n
 | .str s=>.string ⟨⟨s⟩⟩
 | .bool b=>.bool b
 | _=>undef
def isC:AV→Bool
 | .int _ _=>true
 | .str _=>true
 | .bool _=>true
 | _=>false
theorem z0a {a:AV} {v:Value} (ha:isC a=true) (hc:Con φ a v):v=cv a:=by
 cases hc <;> first | rfl | cases ha
theorem A0D {a:AV} (ha:isC a=true):Con φ a (cv a):=by
 cases a <;> first | exact .int _ _ | exact .str _ | exact .bool _ | cases ha
noncomputable def l0j (es:Nat) (rest:List AV) (D:List AV→List AV→Prop) (args:List AV) (h:AH):R (AV×AH) :=
 match args with
 | .nils::r=>open Classical in if r=rest then .ok (.tuple [],h) else .error "sort"
 | .slice id off len _ _ es'::r=>match h.get id with
  | some (.cells vs false)=>open Classical in
   if hx:r=rest∧es'=es∧0<len∧off+len*es≤vs.length∧len<4611686018427387904∧∃ A',D ((vs.drop off).take (len*es)) A' then
    .ok (.tuple [],h.set id (.cells (G3 vs off (Classical.choose hx.2.2.2.2.2)) false))
   else .error "sort"
  | _=>.error "sort"
 | _=>.error "sort"
structure RowSortIs (P:Program) (f:FuncId) (es:Nat) (rest:List AV) (D:List AV→List AV→Prop):Prop where
 some:∀ (A A':List AV) (len blk off cap:Nat) (rest':List Value) (φ:Phi) (w:World),D A A'→ConL φ rest rest'→A.length=len*es→len<4611686018427387904 →
  Sort.Holds id w blk off (A.map cv).toArray→blk<w.heap.size →
  Calls P f ⟨.slice (some ⟨blk,off,none⟩) len cap::rest'⟩ w fun e w'=>e=.returned (.tuple #[])∧∃ n os,w'=Sort.grow (Sort.putRow id (Sort.ahead w n) blk off (A'.map cv).toArray) os
 none:∀ (p:Option Addr) (cap:Nat) (rest':List Value) (φ:Phi) (w:World),ConL φ rest rest'→Calls P f ⟨.slice p 0 cap::rest'⟩ w fun e w'=>e=.returned (.tuple #[])∧w'=w
 enter:∀ args w,(callFunc f args).run P w=.ok (.enter f args) w
 len:∀ A A',D A A'→A'.length=A.length
 isC:∀ A A',D A A'→(∀ a ∈ A,isC a=true)∧∀ a ∈ A',isC a=true
theorem t0t {b n off:Nat} {cur:Array Value} {e:TypeId} {fr:Nat×Nat} (d:Array Value) (hb:w.heap[b]? = some (.cells cur e fr)) :
  (Sort.putRow id (Sort.ahead w n) b off d).heap[b]? = some (.cells (Sort.putCells id off d cur) e fr):=by
 simp [Sort.putRow,Sort.mapBlock,Sort.ahead,Array.getElem?_modify,hb,Sort.onCells]
theorem k0L {b n off k:Nat} (d:Array Value) (hk:k≠b):(Sort.putRow id (Sort.ahead w n) b off d).heap[k]? = w.heap[k]?:=by
 have:b≠k:=fun e=>hk e.symm
 simp [Sort.putRow,Sort.mapBlock,Sort.ahead,Array.getElem?_modify,this]
theorem u0q {f:FuncId} {es:Nat} {rest:List AV} {D:List AV→List AV→Prop} (hs:RowSortIs P f es rest D) (hes:0<es) {args:List AV} {v:AV} (he:l0j es rest D args h=.ok (v,h')) {args':List Value} (ha:ConL φ args args') (hR:Rel B w0 φ h w) :
  (∀ w,(callFunc f ⟨args'⟩).run P w=.ok (.enter f ⟨args'⟩) w)∧CallsK P .normal f ⟨args'⟩ w (fun v' w'=>∃ φ',Con φ' v v'∧Rel B w0 φ' h' w'∧Ext φ h φ' h'):=by
 refine ⟨fun w=>hs.enter _ _,?_⟩
 unfold l0j at he
 split at he
 ·split at he
  ·rename_i hr
   subst hr
   cases he
   cases ha with
   | cons h1 h2 =>
    cases h1
    exact .of_calls (hs.none _ _ _ φ w h2) fun e w' hh=>⟨_,hh.1,φ,.tuple .nil,by rw [hh.2];exact hR,.refl _ _⟩
  ·cases he
 ·rename_i id off len cap x es' r
  split at he
  ·rename_i vs hg
   split at he
   ·rename_i hx
    have hd:=Classical.choose_spec hx.2.2.2.2.2
    generalize Classical.choose hx.2.2.2.2.2=A' at hd he
    obtain ⟨rfl,rfl,h0,hle,hbig,_⟩:=hx
    cases he
    have hAl:((vs.drop off).take (len*es')).length=len*es':=by
     rw [List.length_take,List.length_drop];omega
    have hA'l:=hs.len _ _ hd
    rw [hAl] at hA'l
    obtain ⟨hi1,hi2⟩:=hs.isC _ _ hd
    have hpos:0<len*es':=Nat.mul_pos h0 hes
    have hget:∀ j,j<len*es'→vs[off+j]? = ((vs.drop off).take (len*es'))[j]?:=by
     intro j hj
     rw [List.getElem?_take_of_lt (by omega),List.getElem?_drop]
    cases ha with
    | cons h1 h2 =>
     cases h1 with
     | @slice _ _ _ _ c _ _ p ad hp hx hcap hl hr =>
      obtain ⟨c0,e,lo,hi,g1,g2,g3,g4,g5⟩:=hR.obj _ _ _ hp hg
      rcases hr with hr | ⟨hr,rfl⟩
      ·omega
      have hH:Sort.Holds _root_.id w p.blk (p.off+off) (((vs.drop off).take (len*es')).map cv).toArray:=by
       intro j hj
       have hj':j<len*es':=by rw [List.size_toArray,List.length_map,hAl] at hj;exact hj
       obtain ⟨a,haj⟩:∃ a,((vs.drop off).take (len*es'))[j]? = some a:=by
        rw [List.getElem?_eq_getElem (by omega)];exact ⟨_,rfl⟩
       obtain ⟨y,hy,hc⟩:=g4 _ _ ((hget j hj').trans haj)
       have hac:=hi1 a (List.mem_of_getElem? haj)
       have:=z0a hac hc
       subst this
       refine ⟨?_,?_⟩
       ·rw [g0u g1,show p.off+off+j=p.off+(off+j) from by omega,hy]
        have e1:(((vs.drop off).take (len*es')).map cv).toArray[j]! = cv a:=by
         rw [getElem!_def]
         have:(((vs.drop off).take (len*es')).map cv).toArray[j]? = some (cv a):=by
          rw [List.getElem?_toArray,List.getElem?_map,haj];rfl
         rw [this]
        rw [e1];rfl
       ·have hrm:(off+j)<p.room:=by omega
        have:=g5 rfl (p.off+off+j) (by omega) (by omega)
        simp only [World.frozen?,g1,Bool.and_eq_false_iff,decide_eq_false_iff_not]
        omega
      have hB:=hR.own _ _ _ hp hg rfl
      have hlt:=(hR.obj _ _ _ hp hg).lt
      have hcalls:=hs.some _ A' len p.blk (p.off+off) c _ φ w hd h2 hAl hbig hH hlt
      refine .of_calls hcalls fun e' w' hh=>⟨_,hh.1,φ,.tuple .nil,?_,.write hp _⟩
      obtain ⟨n,os,rfl⟩:=hh.2
      have hb1:Below B w (Sort.putRow _root_.id (Sort.ahead w n) p.blk (p.off+off) (A'.map cv).toArray) :=
       ⟨rfl,rfl,rfl,by simp [Sort.putRow,Sort.mapBlock,Sort.ahead],fun k hk=>k0L _ (by omega)⟩
      have hR1:Rel B w0 φ (h.set id (.cells (G3 vs off A') false)) (Sort.putRow _root_.id (Sort.ahead w n) p.blk (p.off+off) (A'.map cv).toArray):=by
       refine hR.write hp hg rfl rfl hb1 (fun k hk=>k0L _ hk) ?_
       refine ⟨_,e,lo,hi,t0t _ g1,?_,?_,fun i x hx=>?_,g5⟩
       ·rw [Z8 _ _ _ (by omega)];exact g2
       ·simp only [Sort.putCells,Array.size_mapIdx];exact g3
       ·rw [n0c _ _ _ _ (by omega)] at hx
        simp only [Sort.putCells,Array.getElem?_mapIdx,List.size_toArray,List.length_map]
        split at hx
        ·rename_i hin
         obtain ⟨a,haj⟩:∃ a,vs[off+(i - off)]? = some a:=by
          rw [List.getElem?_eq_getElem (by omega)];exact ⟨_,rfl⟩
         obtain ⟨y,hy,_⟩:=g4 _ _ haj
         rw [show p.off+i=p.off+(off+(i - off)) from by omega,hy]
         simp only [Option.map_some]
         rw [if_pos (by omega)]
         refine ⟨_,rfl,?_⟩
         rw [show p.off+(off+(i - off)) - (p.off+off)=i - off from by omega]
         have hxc:=hi2 x (List.mem_of_getElem? hx)
         have:(A'.map cv).toArray[i - off]! = cv x:=by simp [getElem!_def,hx]
         rw [this]
         exact A0D hxc
        ·rename_i hout
         obtain ⟨y,hy,hc⟩:=g4 _ _ hx
         rw [hy]
         simp only [Option.map_some]
         rw [if_neg (by omega)]
         exact ⟨_,rfl,hc⟩
      exact hR1.world ⟨rfl,rfl,rfl,by simp [Sort.grow],fun k hk=>Sort.heap_grow_old _ _ (Nat.lt_of_lt_of_le hk hR1.size)⟩ fun i q o e1 e2=>Sort.heap_grow_old _ _ (hR1.obj _ _ _ e1 e2).lt
   ·cases he
  ·cases he
 ·cases he
def fl2 (kA kB:IntKind):List (Int×Int)→List AV
 | []=>[]
 | z::l=>.int kA z.1::.int kB z.2::fl2 kA kB l
def m0Y (kA kB:IntKind) (z:Int×Int):List Value:=[.int kA z.1,.int kB z.2]
section
variable {kA kB:IntKind}
theorem F7:∀ l:List (Int×Int),(fl2 kA kB l).length=l.length*2
 | []=>rfl
 | z::l=>by simp only [fl2,List.length_cons,F7 l];omega
theorem p0V:∀ (l:List (Int×Int)),∀ a ∈ fl2 kA kB l,isC a=true
 | [],a,ha=>by cases ha
 | z::l,a,ha=>by
  rcases List.mem_cons.1 ha with rfl | ha
  ·rfl
  rcases List.mem_cons.1 ha with rfl | ha
  ·rfl
  exact p0V l a ha
theorem u0r:∀ {l r:List (Int×Int)},fl2 kA kB l=fl2 kA kB r→l=r
 | [],[],_=>rfl
 | [],_::_,h=>by cases h
 | _::_,[],h=>by cases h
 | (a,b)::l,(c,d)::r,h=>by
  simp only [fl2,List.cons.injEq,AV.int.injEq,true_and] at h
  obtain ⟨rfl,rfl,h⟩:=h
  rw [u0r h]
theorem t0u (l r:List (Int×Int)):fl2 kA kB (l++r)=fl2 kA kB l++fl2 kA kB r:=by
 induction l with
 | nil=>rfl
 | cons z l ih=>simp only [List.cons_append,fl2,ih]
theorem u0s:∀ (l:List (Int×Int)) (t:Nat),t<l.length*2→((fl2 kA kB l).map cv)[t]? = some (m0Y kA kB l.toArray[t/2]!)[t%2]!
 | [],t,h=>by simp at h
 | z::l,0,h=>by simp [fl2,cv,m0Y]
 | z::l,1,h=>by simp [fl2,cv,m0Y]
 | z::l,t+2,h=>by
  have e1:(t+2)/2=t/2+1:=by omega
  have e2:(t+2)%2=t%2:=by omega
  rw [e1,e2]
  have:=u0s l t (by simp at h;omega)
  simp only [fl2,List.map_cons,List.getElem?_cons_succ]
  rw [this]
  simp [getElem!_def]
theorem r0M (l:List (Int×Int)):((fl2 kA kB l).map cv).toArray=Go.Sort.flatK (m0Y kA kB) 2 l.toArray:=by
 apply Array.ext (by simp [F7])
 intro t h1 h2
 have h3:t<l.length*2:=by simpa [F7] using h1
 have a:=u0s (kA:=kA) (kB:=kB) l t h3
 have b:=Go.Sort.get_flatK (m0Y kA kB) 2 l.toArray t (by simpa using h3)
 rw [getElem!_pos _ t h2] at b
 rw [b]
 have c:((fl2 kA kB l).map cv).toArray[t]? = some (m0Y kA kB l.toArray[t/2]!)[t%2]!:=by rw [← a];simp
 rw [Array.getElem?_eq_getElem h1] at c
 exact Option.some.inj c
end
def e0Q (cf:Int×Int→Int×Int→Int) (zs:List (Int×Int)):List (Int×Int):=zs.mergeSort fun x y=>!(Go.Proofs.ltOf cf) y x
def z0b (cf:Int×Int→Int×Int→Int) (zs:List (Int×Int)):Prop:=∀ x ∈ zs,∀ y ∈ zs,Go.Proofs.ltOf cf x y=false→Go.Proofs.ltOf cf y x=false→x=y
def o0S (kA kB:IntKind) (cf:Int×Int→Int×Int→Int) (A A':List AV):Prop:=∃ zs,A=fl2 kA kB zs∧z0b cf zs∧A'=fl2 kA kB (e0Q cf zs)
theorem c0B (cf:Int×Int→Int×Int→Int) (zs:List (Int×Int)):(e0Q cf zs).Perm zs:=List.mergeSort_perm _ _
theorem g0s (cf:Int×Int→Int×Int→Int) (zs:List (Int×Int)):(e0Q cf zs).length=zs.length:=List.length_mergeSort _
theorem r0N {cf:Int×Int→Int×Int→Int} (hO:Sort.SWO (Go.Proofs.ltOf cf)) (a b c:Int×Int) (h1:(!(Go.Proofs.ltOf cf) b a)=true) (h2:(!(Go.Proofs.ltOf cf) c b)=true):(!(Go.Proofs.ltOf cf) c a)=true:=by
 simp only [Bool.not_eq_true'] at *
 exact hO.ntrans _ _ _ h2 h1
theorem r0O {cf:Int×Int→Int×Int→Int} (hO:Sort.SWO (Go.Proofs.ltOf cf)) (a b:Int×Int):((!(Go.Proofs.ltOf cf) b a)||(!(Go.Proofs.ltOf cf) a b))=true:=by
 cases h1:Go.Proofs.ltOf cf b a with
 | false=>rfl
 | true =>
  cases h2:Go.Proofs.ltOf cf a b with
  | false=>rfl
  | true =>
   have:=hO.trans _ _ _ h1 h2
   rw [hO.irrefl] at this
   cases this
theorem e0p {cf:Int×Int→Int×Int→Int} (hO:Sort.SWO (Go.Proofs.ltOf cf)) (zs:List (Int×Int)):(e0Q cf zs).Pairwise fun x y=>(!(Go.Proofs.ltOf cf) y x)=true :=
 List.pairwise_mergeSort (r0N hO) (r0O hO) zs
theorem k0M {cf:Int×Int→Int×Int→Int} (hO:Sort.SWO (Go.Proofs.ltOf cf)) {zs ys:List (Int×Int)} (ht:z0b cf zs) (hp:ys.Perm zs) (hs:ys.Pairwise fun x y=>(!(Go.Proofs.ltOf cf) y x)=true):ys=e0Q cf zs:=by
 refine List.Perm.eq_of_pairwise (le:=fun x y=>(!(Go.Proofs.ltOf cf) y x)=true) (fun a b ha hb h1 h2=>?_) hs (e0p hO zs) (hp.trans (c0B cf zs).symm)
 simp only [Bool.not_eq_true'] at h1 h2
 exact ht a (hp.mem_iff.1 ha) b ((c0B cf zs).mem_iff.1 hb) h2 h1
theorem i05 {cf:Int×Int→Int×Int→Int} (hO:Sort.SWO (Go.Proofs.ltOf cf)) {zs ys:List (Int×Int)} (ht:z0b cf zs) (hp:ys.Perm zs):e0Q cf ys=e0Q cf zs :=
 k0M hO ht ((c0B cf ys).trans hp) (e0p hO ys)
theorem v0X {f g:FuncId} {kA kB:IntKind} {cf:Int×Int→Int×Int→Int} (hO:Sort.SWO (Go.Proofs.ltOf cf))
  (hsome:∀ (blk off cap:Nat) (d:Array (Int×Int)) (w:World),Go.Sort.HoldsK (m0Y kA kB) 2 w blk off d→blk<w.heap.size→d.size<4611686018427387904 →
   Calls P f #[.slice (some ⟨blk,off,none⟩) d.size cap,.func (.func g) #[] #[]] w fun e w'=>e=.returned (.tuple #[])∧∃ d' n os,Sort.PermIn 0 d.size d d'∧Sort.SortedIn (Go.Proofs.ltOf cf) 0 d.size d'∧w'=Go.Proofs.sortWorldK (m0Y kA kB) 2 w blk off n d' os)
  (hnone:∀ (p:Option Addr) (cap:Nat) (w:World),Calls P f #[.slice p 0 cap,.func (.func g) #[] #[]] w fun e w'=>e=.returned (.tuple #[])∧w'=w)
  (henter:∀ args w,(callFunc f args).run P w=.ok (.enter f args) w):RowSortIs P f 2 [.func (.func g) [] []] (o0S kA kB cf) where
 some:=by
  rintro A A' len blk off cap rest' φ w ⟨zs,rfl,ht,rfl⟩ hr hl hb hH hblk
  have hr:rest'=[.func (.func g) #[] #[]]:=by
   cases hr with
   | cons h1 h2 =>
    cases h2
    cases h1 with
    | func h3 h4=>cases h3;cases h4;rfl
  subst hr
  rw [F7] at hl
  obtain rfl:zs.length=len:=by omega
  rw [r0M] at hH
  have:=hsome blk off cap zs.toArray w hH hblk (by simpa using hb)
  refine this.mono ?_
  rintro e w' ⟨rfl,d',n,os,hp,hs,rfl⟩
  refine ⟨rfl,n,os,?_⟩
  have hd:d'.toList=e0Q cf zs:=by
   have e1:d'.extract 0 zs.length=d':=by
    have:d'.size=zs.length:=by simpa using hp.1
    rw [← this];simp
   have e2:zs.toArray.extract 0 zs.length=zs.toArray:=by simp
   have hp2:=hp.2.2
   simp only [List.size_toArray] at hp2
   rw [e1,e2] at hp2
   refine k0M hO ht (by simpa using hp2) ?_
   rw [List.pairwise_iff_getElem]
   intro i j hi hj hij
   have hsz:d'.size=zs.length:=by simpa using hp.1
   have:=hs i j (Nat.zero_le _) hij (by simp at hj ⊢;omega)
   rw [getElem!_pos d' i (by simpa using hi),getElem!_pos d' j (by simpa using hj)] at this
   simpa using this
  have:d'=(e0Q cf zs).toArray:=by rw [← hd]
  subst this
  unfold Go.Proofs.sortWorldK Go.Sort.putRowK
  rw [r0M]
 none:=by
  intro p cap rest' φ w hr
  have hr:rest'=[.func (.func g) #[] #[]]:=by
   cases hr with
   | cons h1 h2 =>
    cases h2
    cases h1 with
    | func h3 h4=>cases h3;cases h4;rfl
  subst hr
  exact hnone p cap w
 enter:=henter
 len:=by
  rintro A A' ⟨zs,rfl,_,rfl⟩
  rw [F7,F7,g0s]
 isC:=by
  rintro A A' ⟨zs,rfl,_,rfl⟩
  exact ⟨p0V _,p0V _⟩
noncomputable def t0v (P:Program) (S:h0b) (f:FuncId) (Spec:List AV→AH→AV→AH→Prop) (args:List AV) (h:AH):R (AV×AH) :=
 open Classical in if hx : ∃ x : AV × AH, EvN P S (.fn f) args h (fun r g => r = x.1 ∧ Less x.2 g ∧ ∀ i, i < h.next → x.2.get i = g.get i) ∧ Spec args h x.1 x.2 then .ok (Classical.choose hx) else .error "ends"
theorem u0t {S:h0b} {f:FuncId} {Spec:List AV→AH→AV→AH→Prop} (hM:P.follows .mixedOrders=true) (hnum:∀ (f:Nat) fn,P.funcs[f]? = some fn→fn.body.isSome=true→fn.name≠"runtime.NumGoroutine") (hS:f02 P B w0 S)
  {args:List AV} {v:AV} (he:t0v P S f Spec args h=.ok (v,h')) {args':List Value} (ha:ConL φ args args') (hG:GlobRel P φ) (hR:Rel B w0 φ h w) :
  (∀ w,(callFunc f ⟨args'⟩).run P w=.ok (.enter f ⟨args'⟩) w)∧CallsK P .normal f ⟨args'⟩ w (fun v' w'=>∃ φ',Con φ' v v'∧Rel B w0 φ' h' w'∧Ext φ h φ' h'):=by
 unfold t0v at he
 split at he
 ·rename_i hx
  have hc:=Classical.choose_spec hx
  generalize Classical.choose hx=x at hc he
  cases he
  exact r01 hM hnum hS hc.1 ha hG hR
 ·cases he
theorem l0u {S S0:h0b} {f:FuncId} {Spec:List AV→AH→AV→AH→Prop} {args:List AV} {K:AV→AH→Prop} (hs:S f=some (t0v P S0 f Spec)) {v:AV}
  (he:EvN P S0 (.fn f) args h (fun r g=>r=v∧Less h' g∧∀ i,i<h.next→h'.get i=g.get i)) (hsp:Spec args h v h') (hk:∀ v h',Spec args h v h'→K v h'):Ev P S (.fn f) args h K:=by
 have hx:∃ x:AV×AH,EvN P S0 (.fn f) args h (fun r g=>r=x.1∧Less x.2 g∧∀ i,i<h.next→x.2.get i=g.get i)∧Spec args h x.1 x.2:=⟨(v,h'),he,hsp⟩
 refine ⟨1,(Classical.choose hx).1,(Classical.choose hx).2,?_,hk _ _ (Classical.choose_spec hx).2⟩
 have:t0v P S0 f Spec args h=.ok (Classical.choose hx):=by unfold t0v;rw [dif_pos hx]
 simp [cl,E3,hs,this]
end Go.Dr

namespace Go.Dr
section
variable {P:Program} {S:h0b} {Q:G9} {σ:Sg} {ds:List ADef} {h:AH}
@[simp] theorem z0E (t:TypeId) (lit:Bool) (a b:List UInt8):n9 P .eql t lit (.str a) (.str b)=.ok (.bool (decide (a=b))):=by
 simp only [n9,m0N]
 congr 2
 by_cases h:a=b <;> simp [h]
@[simp] theorem z0F (t:TypeId) (lit:Bool) (a b:List UInt8):n9 P .neq t lit (.str a) (.str b)=.ok (.bool (decide (¬ a=b))):=by
 simp only [n9,m0N]
 congr 2
 by_cases h:a=b <;> simp [h]
@[simp] theorem z0G {t e:TypeId} (ht:P.underlying t=some (.pointer e)) (lit:Bool) (i o:Nat):n9 P .eql t lit (.ptr i o) .nilp=.ok (.bool false):=by
 simp [n9,g0T,b01,und,ht,ofO,V9,d0c,f0F]
@[simp] theorem p0k {t e:TypeId} (ht:P.underlying t=some (.slice e)) (lit:Bool):n9 P .eql t lit .nils .nils=.ok (.bool true):=by
 simp [n9,g0T,b01,und,ht,ofO,V9,d0c,f0F]
@[simp] theorem n0s {t e:TypeId} (ht:P.underlying t=some (.slice e)) (lit:Bool) (id off n cap:Nat) (x:Bool) (es:Nat) :
  n9 P .eql t lit (.slice id off n cap x es) .nils=.ok (.bool false):=by
 simp [n9,g0T,b01,und,ht,ofO,V9,d0c,f0F]
theorem Sl.isNil {es n:Nat} {v:AV} {l:List AV} (s:Sl h es n v l) {t e:TypeId} (ht:P.underlying t=some (.slice e)) (lit:Bool) :
  ∃ b,n9 P .eql t lit v .nils=.ok (.bool b)∧(b=true→v=.nils∧n=0∧l=[]):=by
 obtain ⟨hl,s⟩:=s
 rcases s with ⟨rfl,rfl⟩ | ⟨id,off,cap,x,vs,ro,rfl,_⟩
 ·exact ⟨true,p0k ht lit,fun _=>⟨rfl,rfl,by simpa using hl⟩⟩
 ·exact ⟨false,n0s ht lit _ _ _ _ _ _,fun e=>by cases e⟩
theorem z0H {es n bytes at':Nat} {v:AV} {l x:List AV} (s:Sl h es n v l) (hat:at'≤n) (hx:x.length=es) (hs:d8 (l++x)=true) (h1:(n+1)*bytes≤2 ^ 40) (h2:n+1≤2 ^ 40) (k1 k2:IntKind) :
  ∃ a b v1 g1 v2 g2 v3 g3,E8 es v none (some (.int k1 (at':Int))) none=.ok a∧E8 es v (some (.int k2 (at':Int))) none none=.ok b ∧
   H6 es bytes (.slice h.next 0 0 0 true es) a ((h.push (.cells [] false)).push (.cells x false))=okV v1 g1∧H6 es bytes v1 (.slice (h.next+1) 0 1 1 true es) g1=okV v2 g2∧H6 es bytes v2 b g2=okV v3 g3 ∧
   Own h.next g3 es (n+1) v3 (l.take (at'*es)++x++l.drop (at'*es))∧Fr h g3∧Fr h g1∧Fr h g2:=by
 have happ:∀ a b:List AV,d8 (a++b)=(d8 a&&d8 b):=by
  intro a b
  induction a with
  | nil=>simp
  | cons v a ih=>simp [ih,Bool.and_assoc]
 rw [happ] at hs
 obtain ⟨hs1,hs2⟩:d8 l=true∧d8 x=true:=by simpa using hs
 have hst:d8 (l.take (at'*es))=true∧d8 (l.drop (at'*es))=true:=by
  have:=happ (l.take (at'*es)) (l.drop (at'*es))
  rw [List.take_append_drop,hs1] at this
  simpa using this.symm
 have hl:=s.1
 obtain ⟨a,ea,_⟩:=s.slice (lo:=none) (hi:=some (.int k1 (at':Int))) (a:=0) (b:=at') (.inl ⟨rfl,rfl⟩) (.inr ⟨k1,rfl⟩) (Nat.zero_le _) hat
 obtain ⟨b,eb,_⟩:=s.slice (lo:=some (.int k2 (at':Int))) (hi:=none) (a:=at') (b:=n) (.inr ⟨k2,rfl⟩) (.inl ⟨rfl,rfl⟩) hat (Nat.le_refl _)
 generalize hg0:(h.push (.cells [] false)).push (.cells x false)=g0
 have f0:Fr h g0:=by rw [← hg0];exact ((Fr.refl h).push _).push _
 have n0:g0.next=h.next+2:=by rw [← hg0];rfl
 have sa:∀ g,Fr h g→Sl g es at' a (l.take (at'*es)):=by
  intro g f
  obtain ⟨a',ea',sa⟩:=(s.fr f).slice (lo:=none) (hi:=some (.int k1 (at':Int))) (a:=0) (b:=at') (.inl ⟨rfl,rfl⟩) (.inr ⟨k1,rfl⟩) (Nat.zero_le _) hat
  rw [ea] at ea';cases ea'
  simpa using sa
 have sb:∀ g,Fr h g→Sl g es (n - at') b (l.drop (at'*es)):=by
  intro g f
  obtain ⟨b',eb',sb⟩:=(s.fr f).slice (lo:=some (.int k2 (at':Int))) (hi:=none) (a:=at') (b:=n) (.inr ⟨k2,rfl⟩) (.inl ⟨rfl,rfl⟩) hat (Nat.le_refl _)
  rw [eb] at eb';cases eb'
  rw [List.take_of_length_le (by rw [List.length_drop,hl,Nat.sub_mul];omega)] at sb
  exact sb
 have o0:Own h.next g0 es 0 (.slice h.next 0 0 0 true es) []:=by
  refine ⟨by simp,.inr ⟨h.next,0,true,[],rfl,Nat.le_refl _,by omega,?_,by simp,by simp⟩⟩
  rw [← hg0,c7 (by simp),b8]
 obtain ⟨v1,g1,e1,o1,f1,p1,q1⟩:=o0.append (bytes:=bytes) (sa g0 f0) (by omega) hst.1 (by rw [Nat.zero_add];exact Nat.le_trans (Nat.mul_le_mul_right _ (show at'≤n+1 by omega)) h1) (by omega)
 have fr1:Fr h g1:=⟨Nat.le_trans f0.next f1.next,fun i hi=>(f1.get i hi).trans (f0.get i hi)⟩
 have n1:h.next+2≤g1.next:=by have:=f1.next;omega
 have sx:Sl g1 es 1 (.slice (h.next+1) 0 1 1 true es) x:=by
  refine ⟨by omega,.inr ⟨h.next+1,0,1,true,x,false,rfl,by omega,Nat.le_refl _,?_,by omega,by rw [List.drop_zero,List.take_of_length_le (by omega)]⟩⟩
  rw [p1 _ (by omega) (by simp [j9]),← hg0]
  exact b8 _
 obtain ⟨v2,g2,e2,o2,f2,p2,q2⟩:=o1.append (bytes:=bytes) sx (by omega) hs2 (by rw [Nat.zero_add];exact Nat.le_trans (Nat.mul_le_mul_right _ (show at'+1≤n+1 by omega)) h1) (by omega)
 have fr2:Fr h g2:=⟨Nat.le_trans fr1.next f2.next,fun i hi=>(f2.get i hi).trans (fr1.get i hi)⟩
 obtain ⟨v3,g3,e3,o3,f3,p3,q3⟩:=o2.append (bytes:=bytes) (sb g2 fr2) (by have:=f2.next;omega) hst.2 (by rw [show 0+at'+1+(n - at')=n+1 from by omega];exact h1) (by omega)
 rw [show 0+at'+1+(n - at')=n+1 from by omega] at o3
 refine ⟨a,b,v1,g1,v2,g2,v3,g3,ea,eb,e1,e2,e3,by simpa using o3,⟨Nat.le_trans fr2.next f3.next,fun i hi=>(f3.get i hi).trans (fr2.get i hi)⟩,fr1,fr2⟩
theorem D0e {es n bytes at':Nat} {v:AV} {l x:List AV} (s:Sl h es n v l) (hat:at'≤n) (hx:x.length=es) (hs:d8 (l++x)=true) (h1:(n+1)*bytes≤2 ^ 40) (h2:n+1≤2 ^ 40) (k1 k2:IntKind) :
  ∃ a b v1 g1 v2 g2 v3 g3,E8 es v none (some (.int k1 (at':Int))) none=.ok a∧E8 es v (some (.int k2 (at':Int))) none none=.ok b ∧
   H6 es bytes (.slice h.next 0 0 0 true es) a ((h.push (.cells [] false)).push (.cells x false))=okV v1 g1∧H6 es bytes v1 (.slice (h.next+1) 0 1 1 true es) g1=okV v2 g2∧H6 es bytes v2 b g2=okV v3 g3 ∧
   Own h.next g3 es (n+1) v3 (l.take (at'*es)++x++l.drop (at'*es))∧Fr h g3:=by
 obtain ⟨a,b,v1,g1,v2,g2,v3,g3,f1,f2,f3,f4,f5,f6,f7,_⟩:=z0H s hat hx hs h1 h2 k1 k2
 exact ⟨a,b,v1,g1,v2,g2,v3,g3,f1,f2,f3,f4,f5,f6,f7⟩
end
end Go.Dr

namespace Go.Dr
abbrev Txt:=List UInt8
theorem u9 {α:Type} (l:List α) (j:Nat) (x:α) (h:l[j]? = some x):l.take (j+1)=l.take j++[x]:=by
 rw [List.take_add_one,h];rfl
theorem d0A:∀ a:Txt,Op.bytesLess a a=false
 | []=>rfl
 | x::a=>by simp [Op.bytesLess,d0A a,UInt8.lt_irrefl]
theorem A0f (a b:UInt8):a<b∧¬ b<a∧a≠b∨a=b∧¬ a<b∧¬ b<a∨b<a∧¬ a<b∧a≠b:=by
 simp only [UInt8.lt_iff_toNat_lt,ne_eq,← UInt8.toNat_inj];omega
theorem e03:∀ a b:Txt,(Op.bytesLess a b||a == b)=!Op.bytesLess b a
 | [],[]=>rfl
 | [],y::b=>by simp [Op.bytesLess]
 | x::a,[]=>by simp [Op.bytesLess]
 | x::a,y::b=>by
  have ih:=e03 a b
  rcases A0f x y with ⟨h1,h2,h3⟩ | ⟨rfl,h1,h2⟩ | ⟨h1,h2,h3⟩
  ·have:¬ y=x:=fun e=>h3 e.symm
   simp [Op.bytesLess,h1,h2,this]
  ·simp [Op.bytesLess,h1] at ih ⊢
   exact ih
  ·have:¬ y=x:=fun e=>h3 e.symm
   simp [Op.bytesLess,h1,h2,h3]
theorem q0D (a b:Txt):Op.bytesLess a b=true∨a=b∨Op.bytesLess b a=true:=by
 have:=e03 a b
 cases h:Op.bytesLess b a with
 | true=>exact .inr (.inr rfl)
 | false =>
  rw [h] at this
  simp at this
  rcases this with h | h
  ·exact .inl h
  ·exact .inr (.inl h)
theorem c0H:∀ {a b c:Txt},Op.bytesLess a b=true→Op.bytesLess b c=true→Op.bytesLess a c=true
 | _,[],_,h,_=>by cases ‹Txt› <;> simp [Op.bytesLess] at h
 | _,_::_,[],_,h=>by simp [Op.bytesLess] at h
 | [],_::_,_::_,_,_=>rfl
 | x::a,y::b,z::c,h1,h2=>by
  simp only [Op.bytesLess,Bool.or_eq_true,decide_eq_true_eq,Bool.and_eq_true,beq_iff_eq] at h1 h2 ⊢
  rcases h1 with h1 | ⟨rfl,h1⟩
  ·rcases h2 with h2 | ⟨rfl,h2⟩
   ·left;rw [UInt8.lt_iff_toNat_lt] at *;omega
   ·exact .inl h1
  ·rcases h2 with h2 | ⟨rfl,h2⟩
   ·exact .inl h2
   ·exact .inr ⟨rfl,c0H h1 h2⟩
section
variable {P:Program} {h:AH}
@[simp] theorem z0K (t:TypeId) (lit:Bool) (a b:Txt):n9 P .lss t lit (.str a) (.str b)=.ok (.bool (Op.bytesLess a b)):=nr rfl
@[simp] theorem z0L (t:TypeId) (lit:Bool) (a b:Txt):n9 P .leq t lit (.str a) (.str b)=.ok (.bool (!Op.bytesLess b a)):=by
 simp only [n9,m0N,e03]
@[simp] theorem z0M (t:TypeId) (lit:Bool) (a b:Txt):n9 P .gtr t lit (.str a) (.str b)=.ok (.bool (Op.bytesLess b a)):=by
 simp only [n9,m0N,e03,Bool.not_not]
@[simp] theorem z0N (t:TypeId) (lit:Bool) (a b:Txt):n9 P .geq t lit (.str a) (.str b)=.ok (.bool (!Op.bytesLess a b)):=nr rfl
@[simp] theorem AV.cells_ptr (id off:Nat):(AV.ptr id off).cells=[.ptr id off]:=nr rfl
@[simp] theorem AV.cells_nilp:AV.nilp.cells=[.nilp]:=nr rfl
@[simp] theorem AV.cells_map (id:Nat):(AV.map id).cells=[.map id]:=nr rfl
@[simp] theorem AV.cells_nilm:AV.nilm.cells=[.nilm]:=nr rfl
@[simp] theorem AV.cells_nili:AV.nili.cells=[.nili]:=nr rfl
@[simp] theorem AV.cells_iface (t:TypeId) (v:AV):(AV.iface t v).cells=[.iface t v]:=nr rfl
@[simp] theorem AV.cells_func (f:Fn) (a b:List AV):(AV.func f a b).cells=[.func f a b]:=nr rfl
@[simp] theorem AV.scalar_nilp:AV.nilp.scalar=true:=nr rfl
@[simp] theorem AV.scalar_map (id:Nat):(AV.map id).scalar=true:=nr rfl
@[simp] theorem AV.scalar_nilm:AV.nilm.scalar=true:=nr rfl
@[simp] theorem AV.scalar_iface (t:TypeId) (v:AV):(AV.iface t v).scalar=true:=nr rfl
@[simp] theorem AV.scalar_nili:AV.nili.scalar=true:=nr rfl
theorem S8 {α:Type} {f:α→List AV} {es:Nat}:∀ (l:List α),(∀ x ∈ l,(f x).length=es)→(l.flatMap f).length=l.length*es
 | [],_=>by simp
 | x::l,h=>by
  rw [List.flatMap_cons,List.length_append,S8 l fun y hy=>h y (List.mem_cons_of_mem _ hy),h x (by simp),List.length_cons,Nat.add_mul,Nat.one_mul,Nat.add_comm]
theorem l0H {α:Type} {f:α→List AV} {es:Nat}:∀ (l:List α) (_:∀ x ∈ l,(f x).length=es) (i:Nat) (x:α),l[i]? = some x→((l.flatMap f).drop (i*es)).take es=f x
 | [],_,i,x,e=>by simp at e
 | y::l,h,i,x,e=>by
  have hy:=h y (by simp)
  cases i with
  | zero =>
   simp at e;subst e
   rw [List.flatMap_cons,Nat.zero_mul,List.drop_zero,List.take_append_of_le_length (by omega),List.take_of_length_le (by omega)]
  | succ i =>
   rw [List.flatMap_cons,Nat.add_mul,Nat.one_mul,Nat.add_comm,← List.drop_drop,← hy,List.drop_left,hy]
   exact l0H l (fun z hz=>h z (List.mem_cons_of_mem _ hz)) i x (by simpa using e)
theorem a0R {α:Type} {f:α→List AV} {es:Nat}:∀ (l:List α) (_:∀ x ∈ l,(f x).length=es) (i:Nat),(l.flatMap f).take (i*es)=(l.take i).flatMap f
 | [],_,i=>by simp
 | y::l,h,0=>by simp
 | y::l,h,i+1=>by
  have hy:=h y (by simp)
  rw [List.flatMap_cons,Nat.add_mul,Nat.one_mul,List.take_succ_cons,List.flatMap_cons,List.take_append,hy,List.take_of_length_le (by omega),
   show i*es+es - es=i*es from by omega,a0R l (fun z hz=>h z (List.mem_cons_of_mem _ hz)) i]
theorem c0f {α:Type} {f:α→List AV} {es:Nat}:∀ (l:List α) (_:∀ x ∈ l,(f x).length=es) (i:Nat),(l.flatMap f).drop (i*es)=(l.drop i).flatMap f
 | [],_,i=>by simp
 | y::l,h,0=>by simp
 | y::l,h,i+1=>by
  have hy:=h y (by simp)
  rw [List.flatMap_cons,Nat.add_mul,Nat.one_mul,Nat.add_comm,← List.drop_drop,← hy,List.drop_left,hy,List.drop_succ_cons]
  exact c0f l (fun z hz=>h z (List.mem_cons_of_mem _ hz)) i
theorem Sl.elem {α:Type} {f:α→List AV} {es n:Nat} {v:AV} {l:List α} (s:Sl h es n v (l.flatMap f)) (hf:∀ x ∈ l,(f x).length=es) (hes:0<es) {k:IntKind} {i:Int} {j:Nat} (hi:i=j) {x:α} (hx:l[j]? = some x) :
  ∃ id o,E9 es v (.int k i)=.ok (.ptr id o)∧loadN h id o es=.ok (f x)∧(∀ c y,(f x)[c]? = some y→load1 h id (o+c)=.ok y)∧id<h.next:=by
 have hl:=S8 l hf
 have hn:l.length=n:=by
  have:=s.1
  rw [hl] at this
  exact Nat.eq_of_mul_eq_mul_right hes this
 have hjl:j<l.length:=(List.getElem?_eq_some_iff.1 hx).1
 obtain ⟨id,o,h1,h2,h3⟩:=s.get (k:=k) hi (show j<n by omega)
 have hat:=l0H l hf j x hx
 refine ⟨id,o,h1,by rw [h3,hat],fun c y hy=>?_,?_⟩
 ·have hc:c<es:=by rw [← hf x (List.mem_of_getElem? hx)];exact (List.getElem?_eq_some_iff.1 hy).1
  rw [h2 c hc,← hat,List.getElem?_take_of_lt hc,List.getElem?_drop] at *
  rw [hy];rfl
 ·unfold loadN at h3
  split at h3
  ·rename_i vs ro hg
   rcases s.2 with ⟨rfl,rfl⟩ | ⟨id',off,cap,x',vs',ro',rfl,e2,_⟩
   ·omega
   ·subst hi
    rw [N9 _ _ _ _ _ _ _ _ ⟨by omega,by omega⟩] at h1
    cases h1
    exact e2
  ·cases h3
theorem Own.snoc {B es n bytes:Nat} {v:AV} {l x:List AV} (s:Own B h es n v l) (hB:B≤h.next) (hx:x.length=es) (hs:d8 x=true) (h1:(n+1)*bytes≤2 ^ 40) (h2:n+1≤2 ^ 40) :
  ∃ v' h',H6 es bytes v (.slice h.next 0 1 1 true es) (h.push (.cells x false))=okV v' h'∧Own B h' es (n+1) v' (l++x)∧FrB B h h':=by
 have f0:=Fr.push (.refl h) (.cells x false)
 have sx:=(Own.fresh (B:=0) (h:=h) (es:=es) (n:=1) (l:=x) true (Nat.zero_le _) (by omega)).sl
 obtain ⟨v',h',e,o,f,_⟩:=(s.fr f0).append (bytes:=bytes) sx (Nat.le_trans hB (Nat.le_succ _)) hs h1 h2
 exact ⟨v',h',e,o,(f0.b hB).trans f⟩
@[simp] theorem l6 {n:Nat} {z l:List AV} (hz:z.length=n) (hl:l.length=n) (hs:d8 l=true):J2 n (.ptr h.next 0) (.agg l) (h.push (.cells z false))=V0 (.ok (h.push (.cells l false))):=by
 rw [a0K _ _ _ _ hl]
 cases l with
 | nil =>
  have:z=[]:=List.length_eq_zero_iff.1 (by simpa [hz] using hl.symm)
  subst this;rfl
 | cons x l =>
  rw [c09 (b8 _) (by rw [hz,hl]) hs,AH.set_push]
end
end Go.Dr
