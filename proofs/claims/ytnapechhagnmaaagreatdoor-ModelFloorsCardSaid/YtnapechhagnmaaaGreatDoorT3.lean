/-
  Texts joined.
-/
import Derived.Test.YtnapechhagnmaaaGreatDoorT2

namespace Go.Dr
open Go.RowKit
variable {P:Program} {B:Nat} {w0 w w':World} {φ:Phi} {h h':AH}
theorem Q8 {α β:Type} {f:α→RL β}:∀ {l:List α} {s:List β},Y4 f l=.ok s→∀ x ∈ l,∃ r,f x=.ok r∧∀ y ∈ r,y ∈ s
 | [],_,_,_,hx=>by cases hx
 | a::l,s,he,x,hx=>by
  simp only [Y4] at he
  split at he
  ·rename_i r hr
   split at he
   ·rename_i s' hs
    cases he
    rcases List.mem_cons.1 hx with rfl | hx
    ·exact ⟨r,hr,fun y hy=>List.mem_append_left _ hy⟩
    ·obtain ⟨r',h1,h2⟩:=Q8 hs x hx
     exact ⟨r',h1,fun y hy=>List.mem_append_right _ (h2 y hy)⟩
   ·cases he
  ·cases he
theorem f01 {α:Type} {r:R α} {l:List α} (he:i0y r=.ok l):∃ x,r=.ok x∧l=[x]:=by
 cases r with
 | ok x=>cases he;exact ⟨x,rfl,rfl⟩
 | error e=>cases he
def FnD (P:Program) (B:Nat) (w0:World) (kind:CallKind) (f:FuncId) (args:List AV) (h:AH) (K:AV→AH→Prop):Prop :=
 ∀ φ w args',ConL φ args args'→GlobRel P φ→Rel B w0 φ h w →
  (∀ w,(callFunc f ⟨args'⟩).run P w=.ok (.enter f ⟨args'⟩) w) ∧
  CallsK P kind f ⟨args'⟩ w (fun v' w'=>∃ v h' φ',K v h'∧Con φ' v v'∧Rel B w0 φ' h' w'∧Ext φ h φ' h')
def t0M (P:Program) (B:Nat) (w0:World) (l:Nat) (args:List AV) (h:AH) (K:AV→AH→Prop):Prop :=
 ∀ φ w p args',φ l=some p→ConL φ args args'→GlobRel P φ→Rel B w0 φ h w →
  ∃ fn tmps assign body,(Instr.yield p.blk ⟨args'⟩).run P w=.ok (.round p.blk fn tmps assign body) w ∧
   ∀ c cs,∃ v h' v' φ' w',K v h'∧Steps P (lone (Frame.round p.blk fn tmps assign body .normal) (c::cs) w) (lone (c.finish v') cs w')∧Con φ' v v'∧Rel B w0 φ' h' w'∧Ext φ h φ' h'
def b0h (P:Program) (B:Nat) (w0:World) (call:I5):Prop:=∀ f args h l,call (.fn f) args h=.ok l→FnD P B w0 .normal f args h fun v h'=>(v,h') ∈ l
def k0O (P:Program) (B:Nat) (w0:World) (call:I5):Prop:=∀ f args h l,call (.fn f) args h=.ok l→FnD P B w0 .deferred f args h fun v h'=>(v,h') ∈ l
def a0K (P:Program) (B:Nat) (w0:World) (call:I5):Prop:=∀ i args h l,call (.yield i) args h=.ok l→t0M P B w0 i args h fun v h'=>(v,h') ∈ l
theorem k0P {call:I5} {t:Tgt} {args:List AV} {x:AV×AH} (he:i0w call t args h=.ok x):call t args h=.ok [x]:=by
 unfold i0w at he
 split at he
 ·rename_i hc;cases he;exact hc
 ·cases he
 ·cases he
theorem K5 {call:I5} (hC:b0h P B w0 call):a0Y P B w0 (i0w call):=by
 intro f args h v h' he φ w args' ha hG hR
 obtain ⟨h1,h2⟩:=hC _ _ _ _ (k0P he) φ w args' ha hG hR
 refine ⟨h1,fun cs=>?_⟩
 obtain ⟨v',w',fr,fn,⟨v2,h3,φ',k,c⟩,r⟩:=h2 cs
 have:=List.mem_singleton.1 k
 cases this
 exact ⟨v',w',fr,fn,⟨φ',c⟩,r⟩
theorem F0 {call:I5} (hY:a0K P B w0 call):Z0 P B w0 (i0w call):=by
 intro l args h v h' he φ w p args' hp ha hG hR
 obtain ⟨fn,tmps,assign,body,h1,h2⟩:=hY _ _ _ _ (k0P he) φ w p args' hp ha hG hR
 refine ⟨fn,tmps,assign,body,h1,fun c cs=>?_⟩
 obtain ⟨v2,h3,v',φ',w',k,r⟩:=h2 c cs
 have:=List.mem_singleton.1 k
 cases this
 exact ⟨v',φ',w',r⟩
theorem l0L {n:Nat} (hn:0<n):∃ i w',i<n∧(choose (.mapNext n)).run P w=.ok i w'∧(w'=w∨w'=w.drew):=by
 by_cases h1:n≤1
 ·exact ⟨0,w,hn,by simp [choose,Sem.run,Question.forced,h1],.inl rfl⟩
 ·exact ⟨w.tape w.drawn (.mapNext n)%n,w.drew,Nat.mod_lt _ hn,by simp [choose,Sem.run,Question.forced,Question.cut,h1],.inr rfl⟩
theorem ConE.at:∀ {l:List AEntry} {es:List MapEntry},ConE φ l es→∀ (i:Nat) (e':MapEntry),es[i]? = some e'→∃ e:AEntry,l[i]? = some e∧Con φ e.key e'.key∧Con φ e.val e'.val∧e'.born=e.born
 | _,_,.nil,i,e',he=>by simp at he
 | _,_,.cons h1 h2 h3 t,0,e',he=>by cases he;exact ⟨_,rfl,h1,h2,h3⟩
 | _,_,.cons h1 h2 h3 t,i+1,e',he=>by
  obtain ⟨e,g⟩:=ConE.at t i e' (by simpa using he)
  exact ⟨e,by simpa using g.1,g.2⟩
theorem ConE.length:∀ {l:List AEntry} {es:List MapEntry},ConE φ l es→es.length=l.length
 | _,_,.nil=>rfl
 | _,_,.cons _ _ _ t=>by simp [t.length]
theorem q0A {ty:TypeId} {it:AV} {it':Value} {l:List (AV×AH)} (hR:Rel B w0 φ h w) (hi:Con φ it it') (hr:f05 h it=.ok l) :
  ∃ x v' w',x ∈ l∧(Instr.next it' false ty).run P w=.ok v' w'∧Con φ x.1 v'∧Rel B w0 φ x.2 w'∧Ext φ h φ x.2:=by
 unfold f05 at hr
 split at hr
 ·rename_i id
  cases hi with
  | @ptr _ _ p hp =>
  split at hr
  ·rename_i m since seen last hg
   obtain ⟨g0,m',g1,g2⟩:=hR.obj _ _ _ hp hg
   rw [g0]
   have hget:(getObj p.blk).run P w=.ok (.mapIter m' since ⟨seen⟩ last) w:=by simp [getObj,Sem.run,g1]
   split at hr
   ·cases hr
    have:m'=none:=g2
    subst this
    refine ⟨_,.tuple #[.bool false],w,List.mem_singleton.2 rfl,?_,.tuple (.cons (.bool _) .nil),hR,.refl _ _⟩
    simp only [Instr.next,Nat.add_zero,Sem.run_bind,hget,Result.andThen_ok]
    rfl
   ·rename_i m
    obtain ⟨q,hq,rfl⟩:=g2
    split at hr
    ·rename_i al clock hgm
     obtain ⟨es,k1,k2⟩:=hR.obj _ _ _ hq hgm
     split at hr
     ·cases hr
     ·rename_i hall
      have hall':¬ ((!(⟨seen⟩:Array Nat).isEmpty&&!(⟨es⟩:Array MapEntry).isEmpty&&(⟨es⟩:Array MapEntry).all (fun e=>decide (e.born ≥ last)))=true):=by
       intro hh
       apply hall
       rw [← hh]
       have e1:(⟨seen⟩:Array Nat).isEmpty=seen.isEmpty:=by cases seen <;> rfl
       have e2:(⟨es⟩:Array MapEntry).isEmpty=al.isEmpty:=by rw [← k2.isEmpty];cases es <;> rfl
       have e3:((⟨es⟩:Array MapEntry).all fun e=>decide (e.born ≥ last))=al.all fun e=>Nat.ble last e.born:=by
        rw [← k2.all (f:=fun b=>Nat.ble last b)]
        simp only [List.all_toArray]
        congr 1;funext e
        rw [Bool.eq_iff_iff];simp
       rw [e1,e2,e3]
      have hfil:=k2.filter (f:=fun b=>!seen.contains b)
      have hleft:(⟨es⟩:Array MapEntry).filter (fun e=>!(⟨seen⟩:Array Nat).contains e.born)=⟨es.filter fun e=>!seen.contains e.born⟩:=by
       apply Array.ext';simp
      generalize hL:es.filter (fun e=>!seen.contains e.born)=L at hleft hfil
      generalize al.filter (fun e=>!seen.contains e.born)=A at hr hfil
      split at hr
      ·cases hfil
       cases hr
       refine ⟨_,.tuple #[.bool false],w,List.mem_singleton.2 rfl,?_,.tuple (.cons (.bool _) .nil),hR,.refl _ _⟩
       simp only [Instr.next,Nat.add_zero,Sem.run_bind,hget,Result.andThen_ok,D3 k1]
       rw [if_neg hall']
       simp only [hleft]
       simp [Question.forced]
      ·rename_i hne
       split at hr
       ·rename_i hsince
        cases hr
        have hold:∀ e' ∈ L,e'.born<since:=by
         intro e' he'
         obtain ⟨i,hi⟩:=List.mem_iff_getElem?.1 he'
         obtain ⟨e,ge,_,_,gb⟩:=hfil.at i e' hi
         rw [List.all_eq_true] at hsince
         have:=hsince e (List.mem_of_getElem? ge)
         rw [gb];simpa [Nat.blt_eq] using this
        have f1:(⟨L⟩:Array MapEntry).filter (fun e=>decide (e.born<since))=⟨L⟩:=by
         apply Array.ext'
         simp only [Array.toList_filter]
         exact List.filter_eq_self.2 fun e he=>by simpa using hold e he
        have f2:(⟨L⟩:Array MapEntry).filter (fun e=>decide (e.born ≥ since))=#[]:=by
         apply Array.ext'
         simp only [Array.toList_filter]
         exact List.filter_eq_nil_iff.2 fun e he=>by have:=hold e he;simp;omega
        have hpos:0<L.length:=by
         rw [hfil.length]
         cases A with
         | nil=>exact absurd rfl hne
         | cons a A=>simp
        have f3:(⟨L⟩:Array MapEntry).isEmpty=false:=by
         cases L with
         | nil=>simp at hpos
         | cons a L=>rfl
        obtain ⟨i,w1,hi,hch,hw1⟩:=l0L (P:=P) (w:=w) (n:=L.length) hpos
        have hLi:L[i]? = some L[i]:=List.getElem?_eq_getElem hi
        obtain ⟨e,ge,c1,c2,c3⟩:=hfil.at i _ hLi
        have hg1:w1.heap[p.blk]? = some (.mapIter (some q.blk) since ⟨seen⟩ last):=by rcases hw1 with rfl | rfl <;> exact g1
        have hR1:Rel B w0 φ h w1:=by
         rcases hw1 with rfl | rfl
         ·exact hR
         ·exact hR.drew
        have hset:∀ o,(setObj p.blk o).run P w1=.ok () (w1.putObj p.blk o):=fun o=>by simp [setObj,Sem.run,hg1,World.putObj]
        refine ⟨_,.tuple #[.bool true,L[i].key,L[i].val],w1.putObj p.blk (.mapIter (some q.blk) since ((⟨seen⟩:Array Nat).push L[i].born) clock),List.mem_map.2 ⟨e,List.mem_of_getElem? ge,rfl⟩,?_,.tuple (.cons (.bool _) (.cons c1 (.cons c2 .nil))),?_,.write hp _⟩
        ·simp only [Instr.next,Nat.add_zero,Sem.run_bind,hget,Result.andThen_ok,D3 k1]
         rw [if_neg hall']
         simp only [hleft,f1,f2,f3,Bool.false_eq_true,if_false]
         have hsz:((#[]:Array (Option MapEntry))++((⟨L⟩:Array MapEntry)++#[]).map some).size=L.length:=by simp
         rw [hsz,Sem.run_bind,hch,Result.andThen_ok]
         have hge:((#[]:Array (Option MapEntry))++((⟨L⟩:Array MapEntry)++#[]).map some)[i]? = some (some L[i]):=by simp [hLi]
         rw [hge]
         simp only [Sem.run_bind,hset,Result.andThen_ok,Sem.run_pure]
        ·refine hR1.write (w':=w1.putObj p.blk (.mapIter (some q.blk) since ((⟨seen⟩:Array Nat).push L[i].born) clock)) hp hg rfl rfl (World.putObj_below (hR.own _ _ _ hp hg rfl) _) (fun k hk=>World.putObj_heap_other hk) ?_
         refine ⟨g0,some q.blk,?_,q,hq,rfl⟩
         rw [World.putObj_heap_same (Array.getElem?_eq_some_iff.1 hg1).1,c3]
         simp
       ·cases hr
    ·cases hr
  ·cases hr
 ·cases hr
theorem g0S {o:Op} {x:Operand} (h:i0x o=some x):o=.next x false:=by
 unfold i0x at h
 split at h
 ·cases h;rfl
 ·cases h
theorem n0r {call:I5} (hC:b0h P B w0 call) (hY:a0K P B w0 call) {o:Oper} {a:AAct} {l:List (AAct×AH)} (he:a0A P call o a h=.ok l)
  {b:Frame} {tm:Array Value} {ds:List Deferred} (s:St P B w0 φ a h b.roundOf.isSome tm ds w) {ops:Array Oper} {i:Nat} {rest:List Nat} (ho:ops[i]? = some o)
  (hw:Region.wanted o (yielded ops tm)=true) (k:List Item) (cs:List Frame) :
  ∃ x φ' tm' ds' w',x ∈ l∧Steps P (lone (mk b tm ds (.inRegion ops (i::rest)::k)) cs w) (lone (mk b tm' ds' (.inRegion ops rest::k)) cs w') ∧
   St P B w0 φ' x.1 x.2 b.roundOf.isSome tm' ds' w'∧Ext φ h φ' x.2:=by
 unfold a0A at he
 split at he
 ·rename_i x hx
  have hop:=g0S hx
  split at he
  ·rename_i c hc
   unfold h01 at he
   split at he
   ·rename_i r hn
    cases he
    obtain ⟨y,v',w',hy,hrun,hcon,hR',hE⟩:=q0A (P:=P) (ty:=o.type) s.rel (G1 (ds:=ds) hc s.glob s.act) hn
    have h2:(execOp (Act.eval ⟨tm,ds⟩) o).run P w=.ok (.value v') w':=by
     simp only [execOp,hop,Sem.run_bind,hrun,Result.andThen_ok,Sem.run_pure]
    refine ⟨_,φ,_,ds,w',List.mem_map.2 ⟨y,hy,rfl⟩,.one (go_value ho hw (.inr fun c e=>?_) h2),?_,hE⟩
    ·rw [hop] at e;cases e
    ·simp only [e0R,p6]
     exact s.put (.refl _) hcon hR' _
   ·cases he
  ·cases he
 ·split at he
  ·rename_i c hc
   unfold n0s at he
   split at he
   ·rename_i n h1 hr
    have hs:=g0W (ds:=ds) hc hr s.glob s.act s.rel
    have hd:(∀ d,n≠.defer d)→b.roundOf=none∨∀ c,o.op≠.defer c:=fun hn=>.inr fun call e=>by
     obtain ⟨d,e⟩:=e08 e hc hr
     exact hn d e
    split at he
    ·rename_i v
     cases he
     obtain ⟨v',w',φ',h2,h3,h4,h5⟩:=hs
     refine ⟨_,φ',_,ds,w',List.mem_singleton.2 rfl,.one (go_value ho hw (hd (by simp)) h2),?_,h5⟩
     simp only [e0R,p6]
     exact s.put h5.le h3 h4 _
    ·cases he
     obtain ⟨w',h2,h4,h5⟩:=hs
     exact ⟨_,φ,_,ds,w',List.mem_singleton.2 rfl,.one (go_opskip ho hw (hd (by simp)) h2),s.put (.refl _) T4 h4 _,h5⟩
    ·rename_i d
     cases hrd:a.rd with
     | true=>rw [hrd] at he;cases he
     | false =>
      rw [hrd] at he;cases he
      obtain ⟨rfl,d',hd',h2⟩:=hs
      have hb:b.roundOf=none:=by have:=s.rd;rw [hrd] at this;cases hb:b.roundOf with
       | none=>rfl
       | some l=>rw [hb] at this;cases this
      refine ⟨_,φ,_,_,w,List.mem_singleton.2 rfl,.one (go_defer ho hw hb h2),?_,.refl _ _⟩
      have s2:St P B w0 φ (⟨a.n,a.ts,d::a.ds,false⟩:AAct) h1 b.roundOf.isSome tm (d'::ds) w:=⟨⟨s.act.size,s.act.val⟩,.cons hd' s.defs,s.rel,s.glob,by rw [hb];rfl⟩
      exact s2.put (.refl _) T4 s.rel _
    ·rename_i f args
     obtain ⟨rfl,args',hargs,h2⟩:=hs
     split at he
     ·rename_i r hcall
      cases he
      obtain ⟨hen,hK⟩:=hC _ _ _ _ hcall φ w args' hargs s.glob s.rel
      obtain ⟨v',w',fr,fn,⟨v,h3,φ',hm,c1,c2,c3⟩,hst,e1,e2,e3,e4,e5,e6⟩:=hK (mk b tm ds (.inRegion ops (i::rest)::k)::cs)
      rw [hen] at h2
      refine ⟨_,φ',f0R tm o.dst v',ds,w',List.mem_map.2 ⟨_,hm,rfl⟩,.head (go_enter ho hw (hd (by simp)) h2) (hst.trans (.one ?_)),?_,c3⟩
      ·rw [← Y3 ho]
       exact go_leave e2 e3 e4 e5 e6
      ·simp only [e0R,p6]
       exact s.put c3.le c1 c2 _
     ·cases he
    ·rename_i f args
     obtain ⟨rfl,p,args',hp,hargs,h2⟩:=hs
     split at he
     ·rename_i r hcall
      cases he
      obtain ⟨fn,tmps,assign,body,hy,hK⟩:=hY _ _ _ _ hcall φ w p args' hp hargs s.glob s.rel
      obtain ⟨v,h3,v',φ',w',hm,hst,c1,c2,c3⟩:=hK (mk b tm ds (.inRegion ops (i::rest)::k)) cs
      rw [hy] at h2
      refine ⟨_,φ',f0R tm o.dst v',ds,w',List.mem_map.2 ⟨_,hm,rfl⟩,.head (go_round ho hw (hd (by simp)) h2) ?_,?_,c3⟩
      ·rw [← Y3 ho]
       exact hst
      ·simp only [e0R,p6]
       exact s.put c3.le c1 c2 _
     ·cases he
   ·cases he
  ·cases he
theorem g0T {call:I5} (hC:b0h P B w0 call) (hY:a0K P B w0 call) {ops:Array Oper} {b:Frame} (k:List Item) (cs:List Frame) :
  ∀ (l:List Oper) (is:List Nat) (a:AAct) (r:List (AAct×AH)) (h:AH) (φ:Phi) (tm:Array Value) (ds:List Deferred) (w:World),is.map (ops[·]?)=l.map some→W0 P call ops l a h=.ok r →
   St P B w0 φ a h b.roundOf.isSome tm ds w→∃ x φ' tm' ds' w',x ∈ r∧Steps P (lone (mk b tm ds (.inRegion ops is::k)) cs w) (lone (mk b tm' ds' k) cs w') ∧
    St P B w0 φ' x.1 x.2 b.roundOf.isSome tm' ds' w'∧Ext φ h φ' x.2
 | [],is,a,r,h,φ,tm,ds,w,hl,he,s=>by
  have:is=[]:=by simpa using hl
  subst this
  cases he
  exact ⟨_,φ,tm,ds,w,List.mem_singleton.2 rfl,.one go_regionEnd,s,.refl _ _⟩
 | o::l,is,a,r,h,φ,tm,ds,w,hl,he,s=>by
  cases is with
  | nil=>simp at hl
  | cons i rest =>
   simp only [List.map_cons,List.cons.injEq] at hl
   obtain ⟨ho,hl⟩:=hl
   simp only [W0] at he
   split at he
   ·rename_i hw
    split at he
    ·rename_i r1 h2
     obtain ⟨x,φ1,tm1,ds1,w1,hx,st1,s1,e1⟩:=n0r hC hY h2 s ho (T5 s.act hw) k cs (rest:=rest)
     obtain ⟨r2,h3,h4⟩:=Q8 he x hx
     obtain ⟨y,φ2,tm2,ds2,w2,hy,st2,s2,e2⟩:=g0T hC hY k cs l rest _ _ _ _ _ _ _ hl h3 s1
     exact ⟨y,φ2,tm2,ds2,w2,h4 _ hy,st1.trans st2,s2,e1.trans e2⟩
    ·cases he
   ·rename_i hw
    have s1:=s.put (.refl _) T4 s.rel o.dst
    obtain ⟨y,φ2,tm2,ds2,w2,hy,st2,s2,e2⟩:=g0T hC hY k cs l rest _ _ _ _ _ _ _ hl he s1
    exact ⟨y,φ2,tm2,ds2,w2,hy,.head (go_unwanted ho (T5 s.act hw)) st2,s2,e2⟩
   ·cases he
def CodeDOk (P:Program) (B:Nat) (w0:World) (f:AAct→AH→XD) (it:Item):Prop :=
 ∀ a h r,f a h=.ok r→∀ φ b tm ds w,St P B w0 φ a h (Option.isSome (Frame.roundOf b)) tm ds w→∀ k cs,
  ∃ x φ' tm' ds' w',x ∈ r∧Arr P (lone (mk b tm ds (it::k)) cs w) b k cs tm' ds' w' x.1∧St P B w0 φ' x.2.1 x.2.2 b.roundOf.isSome tm' ds' w'∧Ext φ h φ' x.2.2
theorem CodeDOk.of_one {f:AAct→AH→R (AX×AAct×AH)} {it:Item} (hf:k0I P B w0 f it):CodeDOk P B w0 (fun a h=>i0y (f a h)) it:=by
 intro a h r he φ b tm ds w s k cs
 obtain ⟨x,h1,rfl⟩:=f01 he
 obtain ⟨φ',tm',ds',w',h2⟩:=hf a h x.1 x.2.1 x.2.2 h1 φ b tm ds w s k cs
 exact ⟨x,φ',tm',ds',w',List.mem_singleton.2 rfl,h2⟩
theorem i0u {f:AAct→AH→XD} {c:Code} (hf:CodeDOk P B w0 f (.code c)):∀ n a h r,V3 f n a h=.ok r →
  ∀ φ b tm ds w,St P B w0 φ a h (Option.isSome (Frame.roundOf b)) tm ds w→∀ k cs,
  ∃ x φ' tm' ds' w',x ∈ r∧Arr P (lone (mk b tm ds (.code c::.inLoop c::k)) cs w) b k cs tm' ds' w' x.1∧St P B w0 φ' x.2.1 x.2.2 b.roundOf.isSome tm' ds' w'∧Ext φ h φ' x.2.2
 | 0=>fun a h r he=>by cases he
 | n+1=>fun a h r he φ b tm ds w s k cs=>by
  simp only [V3] at he
  split at he
  ·rename_i r1 hb
   obtain ⟨⟨x,a1,h1⟩,φ1,tm1,ds1,w1,hx,r1',s1,e1⟩:=hf _ _ _ hb φ b tm ds w s (.inLoop c::k) cs
   obtain ⟨r2,h3,h4⟩:=Q8 he _ hx
   cases x with
   | normal =>
    simp only at h3 r1' s1 e1
    obtain ⟨y,φ2,tm2,ds2,w2,hy,r2',s2,e2⟩:=i0u hf n _ _ _ h3 φ1 b tm1 ds1 w1 s1 k cs
    exact ⟨y,φ2,tm2,ds2,w2,h4 _ hy,.of_steps (Steps.trans r1' (.one go_inLoop)) r2',s2,e1.trans e2⟩
   | exit i =>
    cases h3
    exact ⟨_,φ1,tm1,ds1,w1,h4 _ (List.mem_singleton.2 rfl),.pass (fun id _=>rfl) (by simp) r1',s1,e1⟩
   | ret =>
    cases h3
    exact ⟨_,φ1,tm1,ds1,w1,h4 _ (List.mem_singleton.2 rfl),.pass (fun id _=>rfl) (by simp) r1',s1,e1⟩
   | goto i=>exact r1'.elim
  ·cases he
theorem q0B {b:Frame} {tm:Array Value} {ds:List Deferred} {k:List Item} {cs:List Frame} {a:AAct} {did:Nat} {h3:AH} {x:AX×AAct×AH} (he:e0Y did a h3=.ok x) {m:Machine} {p:Pl} {d:Deferred}
  (s:St P B w0 φ ⟨a.n,a.ts,.collected did::a.ds,a.rd⟩ h3 b.roundOf.isSome tm (d::ds) w) (hp:φ (did+1)=some p)
  (hst:Steps P m (lone (mk b tm (d::ds) (.endRangeFunc p.blk::k)) cs w)) :
  ∃ w',Arr P m b k cs tm (d::ds) w' x.1∧St P B w0 φ x.2.1 x.2.2 b.roundOf.isSome tm (d::ds) w'∧Ext φ h3 φ x.2.2:=by
 unfold e0Y at he
 split at he
 ·rename_i r hg
  obtain ⟨r',hr1,hr2⟩:=(s.rel.obj _ _ _ hp hg).loop_get
  have key:r.state≠.busy→∀ y,(∀ w1,Steps P (lone (mk b tm (d::ds) ((r.pending.map Item.code).toList++k)) cs w1) (lone (mk b tm (d::ds) ((r.pending.map Item.code).toList++k)) cs w1) →
     Arr P (lone (mk b tm (d::ds) ((r.pending.map Item.code).toList++k)) cs w1) b k cs tm (d::ds) w1 y) →
    ∃ w',Arr P m b k cs tm (d::ds) w' y∧St P B w0 φ ⟨a.n,a.ts,.collected did::a.ds,a.rd⟩ (h3.set (did+1) (.loop { r with state:=.exhausted })) b.roundOf.isSome tm (d::ds) w' ∧
     Ext φ h3 φ (h3.set (did+1) (.loop { r with state:=.exhausted })):=by
   intro hbusy y hy
   have s2:=go_endLoop (P:=P) (b:=b) (tm:=tm) (ds:=d::ds) (k:=k) (cs:=cs) hr1 (by rw [hr2.state];exact hbusy)
   rw [hr2.pending] at s2
   exact ⟨_,.of_steps (hst.trans (.one s2)) (hy _ (.refl _ _)),⟨s.act,s.defs,s.rel.putLoop hp hg hr2 .exhausted r.pending,s.glob,s.rd⟩,.write hp _⟩
  split at he
  ·cases he
  ·rename_i hbusy
   split at he
   ·rename_i hpd;cases he
    exact key hbusy .normal (fun w1 st=>by rw [hpd] at st ⊢;exact st)
   ·rename_i hpd;cases he
    exact key hbusy .ret (fun w1 st=>by rw [hpd] at st ⊢;exact ⟨k,st⟩)
   ·rename_i id hpd;cases he
    exact key hbusy (.exit id) (fun w1 st=>by rw [hpd] at st ⊢;exact ⟨k,rfl,st⟩)
   ·cases he
 ·cases he
theorem q0C {call:I5} (hC:b0h P B w0 call) {f:Operand} {c:CO} {params:Array Tmp} {assign body:Code} (hf:cO P f=.ok c) :
  CodeDOk P B w0 (fun a h=>f06 call (c.ev a) params assign body a h) (.code (.rangeFunc f params assign body)):=by
 intro a h r he φ b tm ds w s k cs
 have hv:=G1 (ds:=ds) hf s.glob s.act
 simp only [f06] at he
 split at he
 ·rename_i g first captured hfv
  cases hrd:a.rd with
  | true=>rw [hrd] at he;cases he
  | false =>
   rw [hrd] at he
   simp only [cond_false,o8] at he
   have hb:b.roundOf=none:=by have:=s.rd;rw [hrd] at this;cases hb:b.roundOf with
    | none=>rfl
    | some l=>rw [hb] at this;cases this
   rw [hfv] at hv
   generalize hev:Act.eval ⟨tm,ds⟩ f=fv at hv
   cases hv with
   | @func _ _ _ first' captured' h1 h2 =>
    have R1:=s.rel.push (room:=0) (o:=.deferred (some [])) (O:=.deferred (some [])) (Y2 _ _)
    have X1:=Ext.push s.rel (.deferred (some [])) ⟨w.heap.size,0,0⟩
    generalize hφ1:φ.set h.next ⟨w.heap.size,0,0⟩=φ1 at R1 X1
    have g1:φ1 h.next=some ⟨w.heap.size,0,0⟩:=by rw [← hφ1];exact Phi.set_same _ _ _
    generalize hL:({ state:=.ready,pending:=none,n:=a.n,tmps:=a.ts,params,assign,body }:ALoop)=L at he
    generalize hL':({ state:=.ready,pending:=none,fn:=b.fn,tmps:=tm,params,assign,body,defers:=w.heap.size }:Loop)=L'
    have hLR:∀ ψ:Phi,φ.le ψ→LoopRel ψ L L':=fun ψ hle=>by
     subst hL hL'
     exact ⟨rfl,rfl,rfl,rfl,rfl,s.act.size,fun i=>(s.act.val i).mono hle⟩
    have R2:=R1.push (room:=0) (o:=.loop L) (O:=.loop L') ⟨L',Y2 _ _,hLR _ (X1.le.trans (Phi.le_set _ R1.fresh))⟩
    have X2:=Ext.push R1 (.loop L) ⟨(w.alloc (.deferred (some []))).heap.size,0,0⟩
    rw [World.size_alloc] at R2 X2
    rw [AH.next_push] at R2 X2
    generalize hφ2:φ1.set (h.next+1) ⟨w.heap.size+1,0,0⟩=φ2 at R2 X2
    have g2:φ2 (h.next+1)=some ⟨w.heap.size+1,0,0⟩:=by rw [← hφ2];exact Phi.set_same _ _ _
    have X:=X1.trans X2
    split at he
    ·rename_i rl hcall
     have hargs:ConL φ2 (first++(.func (.yield (h.next+1)) [] []::captured)) (first'++(.func (.yield (w.heap.size+1)) #[] #[]::captured')) :=
      (h1.mono X.le).append (.cons (.yield g2) (h2.mono X.le))
     obtain ⟨hen,hK⟩:=hC _ _ _ _ hcall φ2 _ _ hargs (s.glob.mono X.le) R2
     have e:(⟨first'++(.func (.yield (w.heap.size+1)) #[] #[]::captured')⟩:Array Value)=⟨first'⟩++#[.func (.yield (w.heap.size+1)) #[] #[]]++⟨captured'⟩:=by simp
     rw [e] at hK hen
     obtain ⟨v',w3,fr,fn,⟨v3,h3,φ3,hm,c1,R3,X3⟩,hst,e1,e2,e3,e4,e5,e6⟩:=hK (mk b tm ({ target:=.collected w.heap.size,args:=#[] }::ds) (.inRangeFunc (w.heap.size+1)::k)::cs)
     have s0:=go_rangeFunc (P:=P) (k:=k) (cs:=cs) (params:=params) (assign:=assign) (body:=body) hb hev rfl (by rw [hL'];exact hen _)
     rw [hL'] at s0
     have s1:=Steps.head s0 (hst.trans (.one (go_leave e2 e3 e4 e5 e6)))
     rw [show (mk b tm ({ target:=.collected w.heap.size,args:=#[] }::ds) (.inRangeFunc (w.heap.size+1)::k)).finish v'=mk b tm ({ target:=.collected w.heap.size,args:=#[] }::ds) (.endRangeFunc (w.heap.size+1)::k) from rfl] at s1
     obtain ⟨r2,h4,h5⟩:=Q8 he _ hm
     obtain ⟨x,h6,rfl⟩:=f01 h4
     have hp3:φ3 (h.next+1)=some ⟨w.heap.size+1,0,0⟩:=X3.le _ _ g2
     have s3:St P B w0 φ3 ⟨a.n,a.ts,.collected h.next::a.ds,a.rd⟩ h3 b.roundOf.isSome tm ({ target:=.collected w.heap.size,args:=#[] }::ds) w3 :=
      ⟨⟨s.act.size,fun i=>((s.act.val i).mono X.le).mono X3.le⟩,.cons (.collected (X3.le _ _ (X2.le _ _ g1))) ((s.defs.mono X.le).mono X3.le),R3,(s.glob.mono X.le).mono X3.le,s.rd⟩
     obtain ⟨w4,a4,s4,e4'⟩:=q0B (k:=k) (cs:=cs) h6 s3 hp3 s1
     exact ⟨x,φ3,tm,_,w4,h5 _ (List.mem_singleton.2 rfl),a4,s4,(X.trans X3).trans e4'⟩
    ·cases he
 ·cases he
theorem L9 {call:I5} {lf:Nat} (hM:P.follows .mixedOrders=true) (hC:b0h P B w0 call) (hY:a0K P B w0 call):∀ c:Code,CodeDOk P B w0 (l8 P call lf c) (.code c)
 | .skip=>.of_one (B9 hM (K5 hC) (F0 hY) (b06 (K5 hC) (F0 hY)) _)
 | .label _=>.of_one (B9 hM (K5 hC) (F0 hY) (b06 (K5 hC) (F0 hY)) _)
 | .exit id=>.of_one (B9 hM (K5 hC) (F0 hY) (b06 (K5 hC) (F0 hY)) _)
 | .ret=>.of_one (B9 hM (K5 hC) (F0 hY) (b06 (K5 hC) (F0 hY)) _)
 | .goto _=>.of_one (B9 hM (K5 hC) (F0 hY) (b06 (K5 hC) (F0 hY)) _)
 | .refuse _=>.of_one (B9 hM (K5 hC) (F0 hY) (b06 (K5 hC) (F0 hY)) _)
 | .region id ops draw=>fun a h r he φ b tm ds w s k cs=>by
  simp only [l8] at he
  split at he
  ·split at he
   ·rename_i a1 h1 h2
    cases he
    obtain ⟨φ1,tm1,ds1,w1,st1,s1,e1⟩:=b06 (K5 hC) (F0 hY) _ _ _ _ _ h2 φ b tm ds w.drew ⟨s.act,s.defs,s.rel.drew,s.glob,s.rd⟩ (w.tape w.drawn (.order b.fn id)) k cs
    refine ⟨_,φ1,tm1,ds1,w1,List.mem_singleton.2 rfl,.head go_region_draw ?_,s1,e1⟩
    rw [hM]
    exact st1
   ·cases he
  ·split at he
   ·rename_i r1 h2
    cases he
    have hl:(List.range ops.size).map (ops[·]?)=ops.toList.map some:=by
     apply List.ext_getElem
     ·simp
     ·intro i h1 h2
      simp at h1
      simp [h1]
    obtain ⟨x,φ1,tm1,ds1,w1,hx,st1,s1,e1⟩:=g0T hC hY k cs _ _ _ _ _ _ _ _ _ hl h2 s
    exact ⟨_,φ1,tm1,ds1,w1,List.mem_map.2 ⟨x,hx,rfl⟩,.head go_region st1,s1,e1⟩
   ·cases he
 | .seq x y=>fun a h r he φ b tm ds w s k cs=>by
  simp only [l8] at he
  split at he
  ·rename_i r1 hx
   obtain ⟨⟨z,a1,h1⟩,φ1,tm1,ds1,w1,hz,r1',s1,e1⟩:=L9 hM hC hY x _ _ _ hx φ b tm ds w s (.code y::k) cs
   obtain ⟨r2,h3,h4⟩:=Q8 he _ hz
   cases z with
   | normal =>
    simp only at h3 r1' s1 e1
    obtain ⟨u,φ2,tm2,ds2,w2,hu,r2',s2,e2⟩:=L9 hM hC hY y _ _ _ h3 φ1 b tm1 ds1 w1 s1 k cs
    exact ⟨u,φ2,tm2,ds2,w2,h4 _ hu,.of_steps (.head go_seq r1') r2',s2,e1.trans e2⟩
   | exit i =>
    cases h3
    exact ⟨_,φ1,tm1,ds1,w1,h4 _ (List.mem_singleton.2 rfl),.pass (fun id _=>rfl) (by simp) (.of_steps (.one go_seq) r1'),s1,e1⟩
   | ret =>
    cases h3
    exact ⟨_,φ1,tm1,ds1,w1,h4 _ (List.mem_singleton.2 rfl),.pass (fun id _=>rfl) (by simp) (.of_steps (.one go_seq) r1'),s1,e1⟩
   | goto i=>exact r1'.elim
  ·cases he
 | .cond c x y=>fun a h r he φ b tm ds w s k cs=>by
  simp only [l8] at he
  split at he
  ·rename_i cc hc
   have hv:=G1 (ds:=ds) hc s.glob s.act
   split at he
   ·rename_i hb
    rw [hb] at hv
    generalize hev:Act.eval ⟨tm,ds⟩ c=v at hv
    cases hv
    obtain ⟨z,φ1,tm1,ds1,w1,hz,r1,s1,e1⟩:=L9 hM hC hY x _ _ _ he φ b tm ds w s k cs
    exact ⟨z,φ1,tm1,ds1,w1,hz,.of_steps (.one (go_cond hev)) r1,s1,e1⟩
   ·rename_i hb
    rw [hb] at hv
    generalize hev:Act.eval ⟨tm,ds⟩ c=v at hv
    cases hv
    obtain ⟨z,φ1,tm1,ds1,w1,hz,r1,s1,e1⟩:=L9 hM hC hY y _ _ _ he φ b tm ds w s k cs
    exact ⟨z,φ1,tm1,ds1,w1,hz,.of_steps (.one (go_cond hev)) r1,s1,e1⟩
   ·cases he
  ·cases he
 | .block id c=>fun a h r he φ b tm ds w s k cs=>by
  simp only [l8] at he
  split at he
  ·rename_i r0 hx
   cases he
   obtain ⟨⟨z,a1,h1⟩,φ1,tm1,ds1,w1,hz,r1,s1,e1⟩:=L9 hM hC hY c _ _ _ hx φ b tm ds w s (.inBlock id::k) cs
   refine ⟨_,φ1,tm1,ds1,w1,List.mem_map.2 ⟨_,hz,rfl⟩,?_⟩
   cases z with
   | normal=>exact ⟨.head go_block (Steps.trans r1 (.one go_inBlock)),s1,e1⟩
   | exit i =>
    obtain ⟨k1,hk1,r1⟩:=r1
    simp only at s1 e1 ⊢
    cases hb:Nat.beq i id with
    | true =>
     have:i=id:=Nat.eq_of_beq_eq_true hb
     subst this
     simp only [cond_true]
     exact ⟨.head go_block (r1.trans (.one (go_exit (by rw [hk1];simp [exitTo])))),s1,e1⟩
    | false =>
     have hne:id≠i:=fun e=>by subst e;rw [Nat.beq_refl] at hb;cases hb
     simp only [cond_false]
     exact ⟨⟨k1,by rw [hk1];simp [exitTo,hne],.head go_block r1⟩,s1,e1⟩
   | ret=>exact ⟨.of_steps (.one go_block) (.pass (fun id e=>by cases e) (by simp) r1),s1,e1⟩
   | goto l=>exact r1.elim
  ·cases he
 | .loop c=>fun a h r he φ b tm ds w s k cs=>by
  simp only [l8] at he
  obtain ⟨z,φ1,tm1,ds1,w1,hz,r1,s1,e1⟩:=i0u (L9 hM hC hY c) lf _ _ _ he φ b tm ds w s k cs
  exact ⟨z,φ1,tm1,ds1,w1,hz,.of_steps (.one go_loop) r1,s1,e1⟩
 | .scope c=>fun a h r he φ b tm ds w s k cs=>by
  simp only [l8] at he
  split at he
  ·rename_i r0 hx
   cases he
   obtain ⟨⟨z,a1,h1⟩,φ1,tm1,ds1,w1,hz,r1,s1,e1⟩:=L9 hM hC hY c _ _ _ hx φ b tm ds w s (.inScope c::k) cs
   refine ⟨_,φ1,tm1,ds1,w1,hz,?_,s1,e1⟩
   cases z with
   | normal=>exact .head go_scope (Steps.trans r1 (.one go_inScope))
   | exit i=>exact .of_steps (.one go_scope) (.pass (fun id _=>rfl) (by simp) r1)
   | ret=>exact .of_steps (.one go_scope) (.pass (fun id _=>rfl) (by simp) r1)
   | goto l=>exact r1.elim
  ·cases he
 | .rangeFunc f params assign body=>fun a h r he=>by
  simp only [l8] at he
  split at he
  ·rename_i cc hc
   exact q0C hC hc _ _ _ he
  ·cases he
end Go.Dr

namespace Go.Dr
open Go.RowKit
variable {P:Program} {B:Nat} {w0 w w':World} {φ:Phi} {h h':AH}
theorem c0A {call:I5} (hC:k0O P B w0 call) {b:Frame} {tm:Array Value} {todo:List Item} {cs:List Frame} :
  ∀ (l:List ADef) (h:AH) (r:List AH) (φ:Phi) (ds:List Deferred) (w:World),C9 call l h=.ok r→DefsR φ l ds→Rel B w0 φ h w→GlobRel P φ →
   ∃ h' φ' w',h' ∈ r∧Steps P (lone (lv b tm ds todo) cs w) (lone (lv b tm [] todo) cs w')∧Rel B w0 φ' h' w'∧Ext φ h φ' h'
 | [],h,r,φ,ds,w,he,hd,hR,hG=>by
  cases he;cases hd
  exact ⟨_,φ,w,List.mem_singleton.2 rfl,.refl _ _,hR,.refl _ _⟩
 | d::l,h,r,φ,ds,w,he,hd,hR,hG=>by
  cases hd with
  | @cons _ d' _ ds hd1 hd2 =>
   simp only [C9] at he
   cases hd1 with
   | @collected id p hp =>
    simp only at he
    split at he
    ·rename_i hg
     have ho:w.heap[p.blk]? = some (.deferred (some [])):=hR.obj _ _ _ hp hg
     have R1:=hR.putObj (O:=.deferred none) (o':=.deferred none) hp hg rfl rfl (World.putObj_heap_same (Array.getElem?_eq_some_iff.1 ho).1)
     obtain ⟨h2,φ2,w2,hm,st,R2,X2⟩:=c0A hC (b:=b) (tm:=tm) (todo:=todo) (cs:=cs) l _ _ _ _ _ he hd2 R1 hG
     exact ⟨h2,φ2,w2,hm,.head (go_collected ho) st,R2,(Ext.write hp _).trans X2⟩
    ·cases he
   | @call f c a c' a' hc ha =>
    simp only [a0f] at he
    split at he
    ·rename_i r1 hcall
     obtain ⟨hen,hK⟩:=hC _ _ _ _ hcall φ w _ (ha.append hc) hG hR
     have e:(⟨a'++c'⟩:Array Value)=⟨a'⟩++⟨c'⟩:=by simp
     rw [e] at hK hen
     obtain ⟨v',w3,fr,fn,⟨v,h3,φ3,hm,c1,R3,X3⟩,hst,e1,e2,e3,e4,e5,e6⟩:=hK (lv b tm ds todo::cs)
     obtain ⟨r2,h4,h5⟩:=Q8 he _ hm
     obtain ⟨h2,φ2,w2,hm2,st,R2,X2⟩:=c0A hC (b:=b) (tm:=tm) (todo:=todo) (cs:=cs) l _ _ _ _ _ h4 (hd2.mono X3.le) R3 (hG.mono X3.le)
     exact ⟨h2,φ2,w2,h5 _ hm2,.head (go_deferred (hen _)) (hst.trans (.head (go_leaveDeferred e2 e3 e4 rfl e5 e6) st)),R2,X3.trans X2⟩
    ·cases he
theorem r0D {call dcall:I5} {lf:Nat} {kind:CallKind} (hF:k0O P B w0 dcall) (hM:P.follows .mixedOrders=true) (hC:b0h P B w0 call) (hY:a0K P B w0 call) {f:FuncId} {fn:Func} {c:Code} {args:List AV} {r:List (AV×AH)} (hf:P.funcs[f]? = some fn) (hb:fn.body=some c)
  (hn:args.length≤fn.ntmps) (he:Z2 P dcall fn (l8 P call lf c ⟨fn.ntmps,laid args 0 .leaf,[],false⟩ h)=.ok r) {args':List Value} (ha:ConL φ args args') (hG:GlobRel P φ) (hR:Rel B w0 φ h w) :
  CallsK P kind f ⟨args'⟩ w (fun v' w'=>∃ v h' φ',(v,h') ∈ r∧Con φ' v v'∧Rel B w0 φ' h' w'∧Ext φ h φ' h'):=by
 intro cs
 unfold Z2 at he
 split at he
 ·rename_i xs hcode
  have s0:St P B w0 φ ⟨fn.ntmps,laid args 0 .leaf,[],false⟩ h (Option.isSome (Frame.roundOf { (default:Frame) with fn:=f,kind:=kind,roundOf:=none })) _ [] w :=
   ⟨k0c ha hn,.nil,hR,hG,rfl⟩
  obtain ⟨⟨x,a1,h1⟩,φ1,tm1,ds1,w1,hx,r1,s1,e1⟩:=L9 hM hC hY c _ _ _ hcode φ _ _ _ w s0 [] cs
  obtain ⟨r2,hl,hsub⟩:=Q8 he _ hx
  have henter:Frame.enter P f ⟨args'⟩ kind=mk { (default:Frame) with fn:=f,kind:=kind,roundOf:=none } ((⟨args'⟩:Array Value)++Array.replicate (fn.ntmps - (⟨args'⟩:Array Value).size) undef) [] [.code c]:=by
   simp [Frame.enter,mk,hf,hb]
  rw [← henter] at r1
  simp only at r1 s1 e1
  have key:(∃ todo,Steps P (lone (Frame.enter P f ⟨args'⟩ kind) cs w) (lone (lv { (default:Frame) with fn:=f,kind:=kind,roundOf:=none } tm1 ds1 todo) cs w1)) →
    (match C9 dcall a1.ds h1 with
     | .ok l=>Y4 (fun h=>match I8 P h a1 fn.results.toList with
      | .ok l=>(.ok [(a0n l,h)]:RL (AV×AH))
      | .error e=>.error (fn.name++": "++e)) l
     | .error e=>.error (fn.name++": "++e))=.ok r2 →
    ∃ v' w' fr fn',(∃ v h' φ',(v,h') ∈ r∧Con φ' v v'∧Rel B w0 φ' h' w'∧Ext φ h φ' h')∧Steps P (lone (Frame.enter P f ⟨args'⟩ kind) cs w) (lone fr cs w') ∧
     fr.fn=f∧fr.mode=.returning∧fr.defers=[]∧fr.kind=kind∧P.funcs[fr.fn]? = some fn'∧(results fn' fr.tmps).run P w'=.ok v' w':=by
   rintro ⟨todo,hst⟩ hl
   split at hl
   ·rename_i hs hrd
    obtain ⟨h2,φ2,w2,hm,st,R2,X2⟩:=c0A hF (b:={ (default:Frame) with fn:=f,kind:=kind,roundOf:=none }) (tm:=tm1) (todo:=todo) (cs:=cs) _ _ _ _ _ _ hrd s1.defs s1.rel s1.glob
    obtain ⟨r3,h3,h4⟩:=Q8 hl _ hm
    split at h3
    ·rename_i vs hvs
     cases h3
     obtain ⟨v',hv1,hv2⟩:=h0N (s1.act.mono X2.le) R2 hvs
     exact ⟨v',w2,_,fn,⟨_,h2,φ2,hsub _ (h4 _ (List.mem_singleton.2 rfl)),hv2,R2,e1.trans X2⟩,hst.trans st,rfl,rfl,rfl,rfl,hf,hv1⟩
    ·cases h3
   ·cases hl
  unfold c01 at hl
  cases x with
  | normal=>exact key ⟨_,Steps.trans r1 (.one (go_end rfl))⟩ hl
  | ret =>
   obtain ⟨k1,r1⟩:=r1
   exact key ⟨_,Steps.trans r1 (.one (go_ret rfl))⟩ hl
  | exit i=>cases hl
  | goto i=>cases hl
 ·cases he
theorem k0z {call:I5} {lf:Nat} (hM:P.follows .mixedOrders=true) (hC:b0h P B w0 call) (hY:a0K P B w0 call) {l:Nat} {r:ALoop} {args:List AV} {res:List (AV×AH)}
  (hg:h.get l=some (.loop r)) (he:b0i P call lf l r args h=.ok res) {p:Pl} {args':List Value} (hp:φ l=some p) (ha:ConL φ args args') (hG:GlobRel P φ) (hR:Rel B w0 φ h w) :
  ∃ fn tmps assign body,(Instr.yield p.blk ⟨args'⟩).run P w=.ok (.round p.blk fn tmps assign body) w ∧
   ∀ c cs,∃ v h' v' φ' w',(v,h') ∈ res∧Steps P (lone (Frame.round p.blk fn tmps assign body .normal) (c::cs) w) (lone (c.finish v') cs w')∧Con φ' v v'∧Rel B w0 φ' h' w'∧Ext φ h φ' h':=by
 obtain ⟨r',hr1,hr2⟩:=(hR.obj _ _ _ hp hg).loop_get
 unfold b0i at he
 cases hlen:Nat.beq args.length r.params.size with
 | false=>rw [hlen] at he;cases he
 | true =>
  rw [hlen] at he
  simp only [cond_true] at he
  have hlen:=Nat.eq_of_beq_eq_true hlen
  have hsz:(⟨args'⟩:Array Value).size=r'.params.size:=by rw [hr2.params,← hlen,ha.length];rfl
  refine ⟨_,_,_,_,run_yield hr1 hsz,fun c cs=>?_⟩
  rw [k0d,hr2.params,hr2.assign,hr2.body]
  have hA0:ActRel φ ⟨r.n,r.tmps,[],true⟩ r'.tmps:=⟨hr2.size,fun i=>hr2.tmps i⟩
  obtain ⟨hA1,hds,hrd⟩:=c04 r.params.toList args args' _ _ hA0 ha
  generalize hb:({ (default:Frame) with fn:=r'.fn,kind:=.normal,roundOf:=some p.blk }:Frame)=b
  have s0:St P B w0 φ (Q9 r.params.toList args ⟨r.n,r.tmps,[],true⟩) h b.roundOf.isSome _ [] w:=⟨hA1,by rw [hds];exact .nil,hR,hG,by rw [hrd];subst hb;rfl⟩
  generalize (List.foldl (fun tm (x:Tmp×Value)=>tm.setIfInBounds x.fst x.snd) r'.tmps (r.params.toList.zip args'))=tm0 at *
  have hround:Frame.round p.blk r'.fn tm0 r.assign r.body .normal=mk b tm0 [] (.code r.assign::[.beginRound,.code r.body]):=by subst hb;rfl
  split at he
  ·rename_i xs hassign
   obtain ⟨⟨x,a1,h1⟩,φ1,tm1,ds1,w1,hx,r1,s1,e1⟩:=L9 hM hC hY _ _ _ _ hassign φ b tm0 [] w s0 [.beginRound,.code r.body] (c::cs)
   rw [← hround] at r1
   simp only at r1 s1 e1
   obtain ⟨r2,hl,hsub⟩:=Q8 he _ hx
   have hp1:=e1.le _ _ hp
   unfold c02 at hl
   cases x with
   | normal =>
    simp only at hl
    split at hl
    ·rename_i q hg1
     obtain ⟨q',hq1,hq2⟩:=(s1.rel.obj _ _ _ hp1 hg1).loop_get
     split at hl
     ·rename_i hst
      have hbr:b.roundOf=some p.blk:=by subst hb;rfl
      have hbk:b.kind=.normal:=by subst hb;rfl
      have st2:step P (lone (mk b tm1 ds1 [.beginRound,.code r.body]) (c::cs) w1)=.next (lone (mk b tm1 ds1 [.code r.body]) (c::cs) (w1.putObj p.blk (.loop { q' with state:=.busy }))) :=
       stepR_beginRound (a:=⟨tm1,ds1⟩) hbr (run_beginRound hq1 (by rw [hq2.state];exact hst))
      have hpe:q'.pending=q.pending:=hq2.pending
      have R2:Rel B w0 φ1 (h1.set l (.loop { q with state:=.busy })) (w1.putObj p.blk (.loop { q' with state:=.busy })):=by
       have:=s1.rel.putLoop hp1 hg1 hq2 .busy q.pending
       rw [show ({ q' with state:=.busy,pending:=q.pending }:Loop)={ q' with state:=.busy } from by rw [← hpe]] at this
       exact this
      have X2:Ext φ1 h1 φ1 (h1.set l (.loop { q with state:=.busy })):=.write hp1 _
      have s2:St P B w0 φ1 a1 (h1.set l (.loop { q with state:=.busy })) b.roundOf.isSome tm1 ds1 (w1.putObj p.blk (.loop { q' with state:=.busy })):=⟨s1.act,s1.defs,R2,s1.glob,s1.rd⟩
      have st3:=Steps.trans r1 (.one st2)
      split at hl
      ·rename_i ys hbody
       obtain ⟨⟨y,a2,h2⟩,φ3,tm3,ds3,w3,hy,r3,s3,e3⟩:=L9 hM hC hY _ _ _ _ hbody φ1 b tm1 ds1 _ s2 [] (c::cs)
       obtain ⟨r4,hl4,hsub4⟩:=Q8 hl _ hy
       obtain ⟨z,hz,rfl⟩:=f01 hl4
       have hmem:=hsub _ (hsub4 _ (List.mem_singleton.2 rfl))
       simp only at r3 s3 e3
       unfold c0P at hz
       split at hz
       ·rename_i heq
        cases heq
        split at hz
        ·split at hz
         ·rename_i u hg2
          have hp3:=e3.le _ _ hp1
          obtain ⟨z',hz1,hz2⟩:=(s3.rel.obj _ _ _ hp3 hg2).loop_get
          have X:=e1.trans (X2.trans e3)
          split at hz
          ·cases hz
           exact ⟨_,_,.bool true,φ3,_,hmem,st3.trans (Steps.trans r3 (.one (stepR_round_end (a:=⟨tm3,ds3⟩) hbr hbk (run_endRound none hz1)))),.bool true,s3.rel.putLoop hp3 hg2 hz2 .ready none,X.trans (.write hp3 _)⟩
          ·cases hz
           obtain ⟨k1,r3⟩:=r3
           exact ⟨_,_,.bool false,φ3,_,hmem,st3.trans (Steps.trans r3 (.one (stepR_round_ret (a:=⟨tm3,ds3⟩) hbr hbk (run_endRound (some .ret) hz1)))),.bool false,s3.rel.putLoop hp3 hg2 hz2 .done (some .ret),X.trans (.write hp3 _)⟩
          ·rename_i id;cases hz
           obtain ⟨k1,hk1,r3⟩:=r3
           exact ⟨_,_,.bool false,φ3,_,hmem,st3.trans (Steps.trans r3 (.one (stepR_round_exit (a:=⟨tm3,ds3⟩) hbr hbk (by rw [hk1];rfl) (run_endRound (some (.exit id)) hz1)))),.bool false,s3.rel.putLoop hp3 hg2 hz2 .done (some (.exit id)),X.trans (.write hp3 _)⟩
          ·cases hz
         ·cases hz
        ·cases hz
       ·cases hz
      ·cases hl
     ·cases hl
    ·cases hl
   | exit i=>cases hl
   | ret=>cases hl
   | goto i=>cases hl
  ·cases he
theorem h09 {α:Type} {f:α→α→Bool} (hf:∀ x y,f x y=true→x=y):∀ {l m:List α},o07 f l m=true→l=m
 | [],[],_=>rfl
 | x::l,y::m,h=>by
  simp only [o07,Bool.and_eq_true] at h
  rw [hf _ _ h.1,h09 hf h.2]
 | [],_::_,h=>by cases h
 | _::_,[],h=>by cases h
theorem o0b {x y:AEntry} (h:k0Q x y=true):x=y:=by
 simp only [k0Q,Bool.and_eq_true] at h
 obtain ⟨h1,h2,h3⟩:=h
 cases x;cases y
 simp only at h1 h2 h3
 rw [e0r _ _ _ h1,e0r _ _ _ h2,Nat.eq_of_beq_eq_true h3]
theorem r0E {x y:AObj} (h:q0E x y=true):x=y:=by
 unfold q0E at h
 split at h
 ·simp only [Bool.and_eq_true,beq_iff_eq] at h
  rw [h.1,h09 (e0r 12) h.2]
 ·simp only [Bool.and_eq_true] at h
  rw [Nat.eq_of_beq_eq_true h.1,h09 (fun _ _=>o0b) h.2]
 ·rename_i a b
  unfold q0D at h
  split at h
  ·rfl
  ·rfl
  ·cases h
 ·simp only [Bool.and_eq_true,decide_eq_true_eq] at h
  rw [Nat.eq_of_beq_eq_true h.1,h.2]
 ·rename_i m a b c n x y z
  simp only [Bool.and_eq_true] at h
  obtain ⟨h1,h2,h3,h4⟩:=h
  have:m=n:=by
   unfold v0t at h1
   split at h1
   ·rfl
   ·rw [Nat.eq_of_beq_eq_true h1]
   ·cases h1
  rw [this,Nat.eq_of_beq_eq_true h2,h09 (fun _ _=>Nat.eq_of_beq_eq_true) h3,Nat.eq_of_beq_eq_true h4]
 ·cases h
theorem k0A {x y:Option AObj} (h:i0z x y=true):x=y:=by
 unfold i0z at h
 split at h
 ·rfl
 ·rw [r0E h]
 ·cases h
structure View (base:Nat) (z y:AV×AH):Prop where
 val:z.1=y.1
 next:z.2.next=y.2.next
 old:∀ i,i<base→z.2.get i=y.2.get i
 new:∀ i o,i<y.2.next→z.2.get i=some o→y.2.get i=some o
theorem View.refl (base:Nat) (x:AV×AH):View base x x:=⟨rfl,rfl,fun _ _=>rfl,fun _ _ _ e=>e⟩
theorem View.trans {base:Nat} {x y z:AV×AH} (a:View base x y) (b:View base y z):View base x z :=
 ⟨a.val.trans b.val,a.next.trans b.next,fun i hi=>(a.old i hi).trans (b.old i hi),fun i o hi e=>b.new i o hi (a.new i o (by rw [b.next];exact hi) e)⟩
theorem j0m {h k:AH}:∀ {n:Nat},f07 h k n=true→∀ i,i<n→h.get i=k.get i
 | 0,_,i,hi=>absurd hi (by omega)
 | n+1,hs,i,hi=>by
  simp only [f07,Bool.and_eq_true] at hs
  by_cases e:i=n
  ·subst e;exact k0A hs.1
  ·exact j0m hs.2 i (by omega)
theorem f0I {k:AH}:∀ (n i:Nat) (h:AH),(b0j k n i h).next=h.next∧(∀ j,j<i→(b0j k n i h).get j=h.get j)∧(∀ j,i+n≤j→(b0j k n i h).get j=h.get j) ∧
  (∀ j o,(b0j k n i h).get j=some o→h.get j=some o)∧(∀ j o,i≤j→j<i+n→(b0j k n i h).get j=some o→k.get j=some o)
 | 0,i,h=>⟨rfl,fun _ _=>rfl,fun _ _=>rfl,fun _ _ e=>e,fun j o h1 h2=>absurd h2 (by omega)⟩
 | n+1,i,h=>by
  simp only [b0j]
  cases hb:i0z (h.get i) (k.get i) with
  | true =>
   simp only [cond_true]
   obtain ⟨a1,a2,a3,a4,a5⟩:=f0I n (i+1) h
   refine ⟨a1,fun j hj=>a2 j (by omega),fun j hj=>a3 j (by omega),a4,fun j o h1 h2 e=>?_⟩
   by_cases hj:j=i
   ·subst hj
    rw [a2 j (by omega)] at e
    rw [← k0A hb];exact e
   ·exact a5 j o (by omega) (by omega) e
  | false =>
   simp only [cond_false]
   obtain ⟨a1,a2,a3,a4,a5⟩:=f0I n (i+1) (h.kill i)
   have hk:∀ j o,(h.kill i).get j=some o→h.get j=some o:=fun j o e=>by
    rw [AH.get_kill] at e;split at e
    ·cases e
    ·exact e
   refine ⟨a1,fun j hj=>?_,fun j hj=>?_,fun j o e=>hk _ _ (a4 j o e),fun j o h1 h2 e=>?_⟩
   ·rw [a2 j (by omega),AH.get_kill,if_neg (by omega)]
   ·rw [a3 j (by omega),AH.get_kill,if_neg (by omega)]
   ·by_cases hj:j=i
    ·subst hj
     rw [a2 j (by omega),AH.get_kill,if_pos rfl] at e
     cases e
    ·exact a5 j o (by omega) (by omega) e
theorem r0F {base:Nat} {x y z:AV×AH} (he:q0F base x y=some z):View base z x∧View base z y:=by
 unfold q0F at he
 cases hb:Bool.and (R8 12 x.1 y.1) (Bool.and (Nat.beq x.2.next y.2.next) (f07 x.2 y.2 base)) with
 | false=>rw [hb] at he;cases he
 | true =>
  rw [hb] at he
  cases he
  simp only [Bool.and_eq_true] at hb
  obtain ⟨h1,h2,h3⟩:=hb
  have hv:=e0r _ _ _ h1
  have hn:=Nat.eq_of_beq_eq_true h2
  have ho:=j0m h3
  obtain ⟨a1,a2,a3,a4,a5⟩:=f0I (k:=y.2) (x.2.next - base) base x.2
  refine ⟨⟨rfl,a1,fun i hi=>a2 i hi,fun i o _ e=>a4 i o e⟩,⟨hv,a1.trans hn,fun i hi=>(a2 i hi).trans (ho i hi),fun i o hi e=>?_⟩⟩
  simp only at e hi
  by_cases hlt:i<base
  ·rw [a2 i hlt] at e;rw [← ho i hlt];exact e
  ·exact a5 i o (by omega) (by omega) e
theorem j0n {base:Nat}:∀ {l:List (AV×AH)} {x z:AV×AH},h02 base x l=some z→View base z x∧∀ y ∈ l,View base z y
 | [],x,z,he=>by cases he;exact ⟨.refl _ _,fun y hy=>by cases hy⟩
 | y::l,x,z,he=>by
  simp only [h02] at he
  split at he
  ·rename_i u hu
   obtain ⟨h1,h2⟩:=r0F hu
   obtain ⟨h3,h4⟩:=j0n he
   refine ⟨h3.trans h1,fun v hv=>?_⟩
   rcases List.mem_cons.1 hv with rfl | hv
   ·exact h3.trans h2
   ·exact h4 v hv
  ·cases he
theorem p0Z {base:Nat} {r:RL (AV×AH)} {l:List (AV×AH)} (he:n0t base r=.ok l):∃ s,r=.ok s∧∀ y ∈ s,∃ z ∈ l,View base z y:=by
 unfold n0t at he
 split at he
 ·rename_i x y m
  refine ⟨_,rfl,?_⟩
  split at he
  ·rename_i z hz
   cases he
   obtain ⟨h1,h2⟩:=j0n hz
   intro u hu
   rcases List.mem_cons.1 hu with rfl | hu
   ·exact ⟨z,List.mem_singleton.2 rfl,h1⟩
   ·exact ⟨z,List.mem_singleton.2 rfl,h2 u hu⟩
  ·cases he
   exact fun u hu=>⟨u,hu,.refl _ _⟩
 ·exact ⟨l,he,fun u hu=>⟨u,hu,.refl _ _⟩⟩
theorem Rel.sub (r:Rel B w0 φ h w) {k:AH} (hn:k.next=h.next) (hs:∀ i o,i<h.next→k.get i=some o→h.get i=some o):Rel B w0 φ k w :=
 ⟨fun i p e=>by rw [hn];exact r.lt i p e,fun i p o e g=>r.obj i p o e (hs i o (r.lt i p e) g),fun i p o e g=>r.own i p o e (hs i o (r.lt i p e) g),
  fun i j p q oi oj hij e1 e2 g1 g2=>r.inj i j p q oi oj hij e1 e2 (hs _ _ (r.lt _ _ e1) g1) (hs _ _ (r.lt _ _ e2) g2),r.below,r.base⟩
theorem FnD.view {kind:CallKind} {f:FuncId} {args:List AV} {s l:List (AV×AH)} (hf:FnD P B w0 kind f args h fun v h'=>(v,h') ∈ s) (hv:∀ y ∈ s,∃ z ∈ l,View h.next z y):FnD P B w0 kind f args h fun v h'=>(v,h') ∈ l:=by
 intro φ w args' ha hG hR
 obtain ⟨h1,h2⟩:=hf φ w args' ha hG hR
 refine ⟨h1,fun cs=>?_⟩
 obtain ⟨v',w',fr,fn,⟨v,h3,φ',k,c,R',X⟩,r⟩:=h2 cs
 obtain ⟨⟨v2,k2⟩,hz,hV⟩:=hv _ k
 have e1:v2=v:=hV.val
 subst e1
 refine ⟨v',w',fr,fn,⟨v2,k2,φ',hz,c,R'.sub hV.next hV.new,⟨X.le,?_,fun i hi e=>?_⟩⟩,r⟩
 ·have:=hV.next;simp only at this;rw [this];exact X.next
 ·obtain ⟨x1,x2⟩:=X.keep i hi e
  exact ⟨x1,(hV.old i hi).trans x2⟩
theorem j0o {S:FuncId→Option (List AV→AH→R (AV×AH))} {lf:Nat} (hM:P.follows .mixedOrders=true) (hN:∀ (f:Nat) fn,P.funcs[f]? = some fn→fn.body.isSome=true→fn.name≠"runtime.NumGoroutine") (hS:c0a P B w0 S) :
  ∀ n,b0h P B w0 (Z3 P S lf n)∧a0K P B w0 (Z3 P S lf n)∧k0O P B w0 (P3 S (Z3 P S lf n))
 | 0=>⟨fun f args h l e=>(by cases e),fun i args h l e=>(by cases e),fun f args h l e=>(by unfold P3 at e;simp only at e;split at e <;> cases e)⟩
 | n+1=>by
  obtain ⟨hC,hY,hF⟩:=j0o hM hN hS n
  have body:∀ (kind:CallKind) (f:FuncId) args h l,S f=none→Z3 P S lf (n+1) (.fn f) args h=.ok l→FnD P B w0 kind f args h fun v h'=>(v,h') ∈ l:=by
   intro kind f args h l hs e
   unfold Z3 at e
   rw [hs] at e
   simp only at e
   split at e
   ·rename_i fn hf
    split at e
    ·rename_i c hb
     cases hle:Nat.ble args.length fn.ntmps with
     | false=>rw [hle] at e;cases e
     | true =>
      rw [hle] at e
      simp only [cond_true] at e
      obtain ⟨s,hs,hv⟩:=p0Z e
      refine FnD.view (s:=s) (fun φ w args' ha hG hR=>?_) hv
      exact ⟨fun w=>P5 hN hf (by rw [hb];rfl) w,r0D hF hM hC hY hf hb (Nat.le_of_ble_eq_true hle) hs ha hG hR⟩
    ·cases e
   ·cases e
  refine ⟨fun f args h l e=>?_,fun i args h l e φ w p args' hp ha hG hR=>?_,fun f args h l e=>?_⟩
  ·cases hs:S f with
   | some g =>
    unfold Z3 at e
    rw [hs] at e
    obtain ⟨⟨v,h'⟩,hx,rfl⟩:=f01 e
    intro φ w args' ha hG hR
    obtain ⟨h1,h2⟩:=hS _ _ hs _ _ _ _ hx _ _ _ ha hG hR
    refine ⟨h1,fun cs=>?_⟩
    obtain ⟨v',w',fr,fn,⟨φ',c⟩,r⟩:=h2 cs
    exact ⟨v',w',fr,fn,⟨v,h',φ',List.mem_singleton.2 rfl,c⟩,r⟩
   | none=>exact body _ _ _ _ _ hs e
  ·unfold Z3 at e
   split at e
   ·rename_i r hg
    exact k0z hM hC hY hg e hp ha hG hR
   ·cases e
  ·unfold P3 at e
   simp only at e
   split at e
   ·cases e
   ·rename_i hs
    exact body _ _ _ _ _ hs e
def l0o:RL (AV×AH)→Bool
 | .ok [(.bool b,_)]=>b
 | _=>false
theorem o0c {r:RL (AV×AH)} (h:l0o r=true):∃ h',r=.ok [(.bool true,h')]:=by
 unfold l0o at h
 split at h
 ·cases h;exact ⟨_,rfl⟩
 ·cases h
end Go.Dr

namespace Go.Dr
open Go.RowKit
variable {P:Program}
def E7 (P:Program) (S:FuncId→Option (List AV→AH→R (AV×AH))) (lf:Nat):Nat→I5
 | 0,_,_,_=>.error "depth"
 | n+1,.fn f,args,h=>match S f with
  | some g=>i0y (g args h)
  | none=>match P.funcs[f]? with
   | some fn=>match fn.body with
    | some c=>bif Nat.ble args.length fn.ntmps
     then Z2 P (P3 S (E7 P S lf n)) fn (l8 P (E7 P S lf n) lf c ⟨fn.ntmps,laid args 0 .leaf,[],false⟩ h) else .error "arguments"
    | none=>.error ("no body: "++fn.name)
   | none=>.error "no function"
 | n+1,.yield l,args,h=>match h.get l with
  | some (.loop r)=>b0i P (E7 P S lf n) lf l r args h
  | _=>.error "yield: no loop"
theorem i0A {B:Nat} {w0:World} {S:FuncId→Option (List AV→AH→R (AV×AH))} {lf:Nat} (hM:P.follows .mixedOrders=true) (hN:∀ (f:Nat) fn,P.funcs[f]? = some fn→fn.body.isSome=true→fn.name≠"runtime.NumGoroutine") (hS:c0a P B w0 S) :
  ∀ n,b0h P B w0 (E7 P S lf n)∧a0K P B w0 (E7 P S lf n)∧k0O P B w0 (P3 S (E7 P S lf n))
 | 0=>⟨fun f args h l e=>(by cases e),fun i args h l e=>(by cases e),fun f args h l e=>(by unfold P3 at e;simp only at e;split at e <;> cases e)⟩
 | n+1=>by
  obtain ⟨hC,hY,hF⟩:=i0A hM hN hS n
  have body:∀ (kind:CallKind) (f:FuncId) args h l,S f=none→E7 P S lf (n+1) (.fn f) args h=.ok l→FnD P B w0 kind f args h fun v h'=>(v,h') ∈ l:=by
   intro kind f args h l hs e
   unfold E7 at e
   rw [hs] at e
   simp only at e
   split at e
   ·rename_i fn hf
    split at e
    ·rename_i c hb
     cases hle:Nat.ble args.length fn.ntmps with
     | false=>rw [hle] at e;cases e
     | true =>
      rw [hle] at e
      simp only [cond_true] at e
      intro φ w args' ha hG hR
      exact ⟨fun w=>P5 hN hf (by rw [hb];rfl) w,r0D hF hM hC hY hf hb (Nat.le_of_ble_eq_true hle) e ha hG hR⟩
    ·cases e
   ·cases e
  refine ⟨fun f args h l e=>?_,fun i args h l e φ w p args' hp ha hG hR=>?_,fun f args h l e=>?_⟩
  ·cases hs:S f with
   | some g =>
    unfold E7 at e
    rw [hs] at e
    obtain ⟨⟨v,h'⟩,hx,rfl⟩:=f01 e
    intro φ w args' ha hG hR
    obtain ⟨h1,h2⟩:=hS _ _ hs _ _ _ _ hx _ _ _ ha hG hR
    refine ⟨h1,fun cs=>?_⟩
    obtain ⟨v',w',fr,fn,⟨φ',c⟩,r⟩:=h2 cs
    exact ⟨v',w',fr,fn,⟨v,h',φ',List.mem_singleton.2 rfl,c⟩,r⟩
   | none=>exact body _ _ _ _ _ hs e
  ·unfold E7 at e
   split at e
   ·rename_i r hg
    exact k0z hM hC hY hg e hp ha hG hR
   ·cases e
  ·unfold P3 at e
   simp only at e
   split at e
   ·cases e
   ·rename_i hs
    exact body _ _ _ _ _ hs e
variable {c c':I5}
def P4 (c c':I5):Prop:=∀ t args h r,c t args h=.ok r→c' t args h=.ok r
theorem F1 {α β:Type} {f g:α→RL β} (hf:∀ x r,f x=.ok r→g x=.ok r):∀ {l:List α} {s:List β},Y4 f l=.ok s→Y4 g l=.ok s
 | [],_,he=>he
 | a::l,s,he=>by
  simp only [Y4] at he ⊢
  split at he
  ·rename_i r hr
   split at he
   ·rename_i s' hs
    simp only [hf _ _ hr,F1 hf hs];exact he
   ·cases he
  ·cases he
theorem o08 (hc:P4 c c'):N9 (i0w c) (i0w c'):=by
 intro t args h r he
 have:=hc _ _ _ _ (k0P he)
 simp only [i0w,this]
theorem o09 (hc:P4 c c') {o:Oper} {a:AAct} {n:RN} {r:List (AAct×AH)} (he:n0s c o a n=.ok r):n0s c' o a n=.ok r:=by
 unfold n0s at he ⊢
 split at he
 ·split at he
  ·exact he
  ·exact he
  ·exact he
  ·split at he
   ·rename_i hcall;simp only [hc _ _ _ _ hcall];exact he
   ·cases he
  ·split at he
   ·rename_i hcall;simp only [hc _ _ _ _ hcall];exact he
   ·cases he
 ·cases he
theorem f08 (hc:P4 c c') {o:Oper} {a:AAct} {h:AH} {r:List (AAct×AH)} (he:a0A P c o a h=.ok r):a0A P c' o a h=.ok r:=by
 unfold a0A at he ⊢
 split at he
 ·exact he
 ·split at he
  ·exact o09 hc he
  ·cases he
theorem a0L (hc:P4 c c') {ops:Array Oper}:∀ (l:List Oper) {a:AAct} {h:AH} {r:List (AAct×AH)},W0 P c ops l a h=.ok r→W0 P c' ops l a h=.ok r
 | [],_,_,_,he=>he
 | o::l,a,h,r,he=>by
  simp only [W0] at he ⊢
  split at he
  ·split at he
   ·rename_i hop;simp only [f08 hc hop];exact F1 (fun x r=>a0L hc l) he
   ·cases he
  ·exact a0L hc l he
  ·cases he
theorem b0k {b b':AAct→AH→XD} (hb:∀ a h r,b a h=.ok r→b' a h=.ok r):∀ {n n':Nat} {a:AAct} {h:AH} {r:List (AX×AAct×AH)},n≤n'→V3 b n a h=.ok r→V3 b' n' a h=.ok r
 | 0,_,_,_,_,_,he=>by cases he
 | n+1,0,_,_,_,hn,_=>absurd hn (by omega)
 | n+1,n'+1,a,h,r,hn,he=>by
  simp only [V3] at he ⊢
  split at he
  ·rename_i hbody
   simp only [hb _ _ _ hbody]
   refine F1 (fun x r hr=>?_) he
   split at hr
   ·exact b0k hb (by omega) hr
   ·exact hr
  ·cases he
theorem n0u (hc:P4 c c') {f:AV} {params:Array Tmp} {assign body:Code} {a:AAct} {h:AH} {r:List (AX×AAct×AH)} (he:f06 c f params assign body a h=.ok r):f06 c' f params assign body a h=.ok r:=by
 unfold f06 at he ⊢
 split at he
 ·cases hb:a.rd with
  | true=>rw [hb] at he;cases he
  | false =>
   rw [hb] at he
   simp only [cond_false,o8] at he ⊢
   split at he
   ·rename_i hcall;simp only [hc _ _ _ _ hcall];exact he
   ·cases he
 ·cases he
theorem u9 (hc:P4 c c') {lf lf':Nat} (hl:lf≤lf'):∀ (k:Code) {a:AAct} {h:AH} {r:List (AX×AAct×AH)},l8 P c lf k a h=.ok r→l8 P c' lf' k a h=.ok r
 | .skip,_,_,_,he=>he
 | .label _,_,_,_,he=>he
 | .exit _,_,_,_,he=>he
 | .ret,_,_,_,he=>he
 | .goto _,_,_,_,he=>he
 | .refuse _,_,_,_,he=>he
 | .region _ ops draw,a,h,r,he=>by
  simp only [l8] at he ⊢
  cases draw with
  | true =>
   simp only at he ⊢
   split at he
   ·rename_i hop;simp only [c0c (o08 hc) hop];exact he
   ·cases he
  | false =>
   simp only at he ⊢
   split at he
   ·rename_i hop;simp only [a0L hc _ hop];exact he
   ·cases he
 | .seq x y,a,h,r,he=>by
  simp only [l8] at he ⊢
  split at he
  ·rename_i hx
   simp only [u9 hc hl x hx]
   refine F1 (fun x r hr=>?_) he
   split at hr
   ·exact u9 hc hl y hr
   ·exact hr
  ·cases he
 | .cond o x y,a,h,r,he=>by
  simp only [l8] at he ⊢
  split at he
  ·split at he
   ·exact u9 hc hl x he
   ·exact u9 hc hl y he
   ·cases he
  ·cases he
 | .block id k,a,h,r,he=>by
  simp only [l8] at he ⊢
  split at he
  ·rename_i hx;simp only [u9 hc hl k hx];exact he
  ·cases he
 | .loop k,a,h,r,he=>by
  simp only [l8] at he ⊢
  exact b0k (fun a h r=>u9 hc hl k) hl he
 | .scope k,a,h,r,he=>by
  simp only [l8] at he ⊢
  split at he
  ·rename_i hx;simp only [u9 hc hl k hx];exact he
  ·cases he
 | .rangeFunc f ps x y,a,h,r,he=>by
  simp only [l8] at he ⊢
  split at he
  ·exact n0u hc he
  ·cases he
theorem B1 (hc:P4 c c'):∀ (l:List ADef) {h:AH} {r:List AH},C9 c l h=.ok r→C9 c' l h=.ok r
 | [],_,_,he=>he
 | d::l,h,r,he=>by
  unfold C9 at he ⊢
  split at he
  ·split at he
   ·exact B1 hc l he
   ·cases he
  ·split at he
   ·split at he
    ·rename_i hcall;simp only [hc _ _ _ _ hcall];exact F1 (fun x r=>B1 hc l) he
    ·cases he
   ·cases he
   ·cases he
theorem k0R (hc:P4 c c') {fn:Func} {x y:XD} (hx:∀ r,x=.ok r→y=.ok r) {r:List (AV×AH)} (he:Z2 P c fn x=.ok r):Z2 P c' fn y=.ok r:=by
 unfold Z2 at he
 split at he
 ·rename_i l
  rw [hx _ rfl]
  simp only [Z2]
  refine F1 (fun z r hr=>?_) he
  unfold c01 at hr ⊢
  split at hr
  ·split at hr
   ·rename_i hd;simp only [B1 hc _ hd];exact hr
   ·cases hr
  ·split at hr
   ·rename_i hd;simp only [B1 hc _ hd];exact hr
   ·cases hr
  ·cases hr
 ·cases he
theorem k0S (hc:P4 c c') {lf lf':Nat} (hl:lf≤lf') {l:Nat} {q:ALoop} {args:List AV} {h:AH} {r:List (AV×AH)} (he:b0i P c lf l q args h=.ok r):b0i P c' lf' l q args h=.ok r:=by
 unfold b0i at he ⊢
 cases hb:Nat.beq args.length q.params.size with
 | false=>rw [hb] at he;cases he
 | true =>
  rw [hb] at he
  simp only [cond_true] at he ⊢
  split at he
  ·rename_i hx
   simp only [u9 hc hl _ hx]
   refine F1 (fun z r hr=>?_) he
   unfold c02 at hr ⊢
   split at hr
   ·split at hr
    ·split at hr
     ·split at hr
      ·rename_i hbody;simp only [u9 hc hl _ hbody];exact hr
      ·cases hr
     ·cases hr
    ·cases hr
   ·cases hr
  ·cases he
theorem S4 {S:FuncId→Option (List AV→AH→R (AV×AH))} (hc:P4 c c'):P4 (P3 S c) (P3 S c'):=by
 intro t args h r he
 unfold P3 at he ⊢
 split at he
 ·split at he
  ·cases he
  ·exact hc _ _ _ _ he
 ·exact hc _ _ _ _ he
theorem b0l {S:FuncId→Option (List AV→AH→R (AV×AH))} {lf lf':Nat} (hl:lf≤lf'):∀ {n n':Nat},n≤n'→P4 (E7 P S lf n) (E7 P S lf' n')
 | 0,_,_=>fun t args h r he=>by cases t <;> cases he
 | n+1,0,hn=>absurd hn (by omega)
 | n+1,n'+1,hn=>fun t args h r he=>by
  have ih:=b0l (S:=S) hl (n:=n) (n':=n') (by omega)
  cases t with
  | fn f =>
   unfold E7 at he ⊢
   split at he
   ·exact he
   ·split at he
    ·split at he
     ·rename_i fn _ _ k _
      cases hb:Nat.ble args.length fn.ntmps with
      | false=>rw [hb] at he;cases he
      | true =>
       rw [hb] at he
       simp only [cond_true] at he ⊢
       exact k0R (S4 ih) (fun r hr=>u9 ih hl _ hr) he
     ·cases he
    ·cases he
  | yield l =>
   unfold E7 at he ⊢
   split at he
   ·exact k0S ih hl he
   ·cases he
end Go.Dr

namespace Go.Dr
open Go.RowKit
variable {P:Program} {c:E0} {d:I5}
def DSub (c:E0) (d:I5):Prop:=∀ t args h r,c t args h=.ok r→d t args h=.ok [r]
theorem DSub.one (hc:DSub c d):N9 c (i0w d):=fun t args h r he=>by simp only [i0w,hc _ _ _ _ he]
theorem L3 {α β:Type} {f:α→RL β} {x:α} {r:List β} (h:f x=.ok r):Y4 f [x]=.ok r:=by
 simp only [Y4,h,List.append_nil]
theorem p0F {h:AH} {it:AV} {n:AN} {h':AH} (he:a0v h it false=.ok (n,h')):∃ v,n=.value v∧f05 h it=.ok [(v,h')]:=by
 unfold a0v at he
 split at he
 ·rename_i id
  simp only at he
  unfold k0s at he
  unfold f05
  split at he
  ·rename_i m since seen last hg
   simp only [hg]
   split at he
   ·cases he;exact ⟨_,rfl,rfl⟩
   ·rename_i m
    split at he
    ·rename_i es clock hgm
     simp only [hgm]
     split at he
     ·cases he
     ·rename_i hno
      rw [if_neg hno]
      split at he
      ·rename_i hf;cases he;refine ⟨_,rfl,?_⟩;simp only [hf]
      ·rename_i e hf
       split at he
       ·rename_i hlt
        cases he
        refine ⟨_,rfl,?_⟩
        simp only [hf]
        have:([e].all fun e=>Nat.blt e.born since)=true:=by simpa [Nat.blt_eq] using hlt
        simp only [this,if_true]
        rfl
       ·cases he
      ·cases he
    ·cases he
  ·cases he
 ·cases he
theorem n0T (hc:DSub c d) {o:Oper} {a:AAct} {h:AH} {r:AAct×AH} (he:M9 P c o a h=.ok r):a0A P d o a h=.ok [r]:=by
 unfold M9 at he
 unfold a0A
 split
 ·rename_i x hx
  have hop:=g0S hx
  have hcomp:comp P o=H8 P x fun a=>.ok (.next a false):=by simp only [comp,hop]
  split at he
  ·rename_i cc hcc
   rw [hcomp] at hcc
   obtain ⟨ca,ha,hcc⟩:=q9 hcc
   cases hcc
   simp only [ha]
   split at he
   ·rename_i n h1 hr
    obtain ⟨v,rfl,hn⟩:=p0F (show a0v h (ca.ev a) false=.ok (n,h1) from hr)
    simp only [p6] at he
    cases he
    simp only [h01,hn,List.map_cons,List.map_nil,e0R,p6]
   ·cases he
  ·cases he
 ·split at he
  ·rename_i cc hcc
   simp only [hcc]
   unfold n0s
   split at he
   ·rename_i n h1 hr
    rw [hr]
    simp only []
    split at he
    ·simp only [p6] at he;cases he;simp only [e0R,p6]
    ·cases he;rfl
    ·rename_i df
     cases hrd:a.rd with
     | true=>rw [hrd] at he;cases he
     | false=>rw [hrd] at he;cases he;rfl
    ·split at he
     ·rename_i v h2 hcall
      simp only [p6] at he
      cases he
      simp only [hc _ _ _ _ hcall,List.map_cons,List.map_nil,e0R,p6]
     ·cases he
    ·split at he
     ·rename_i v h2 hcall
      simp only [p6] at he
      cases he
      simp only [hc _ _ _ _ hcall,List.map_cons,List.map_nil,e0R,p6]
     ·cases he
   ·cases he
  ·cases he
theorem h0e (hc:DSub c d) {ops:Array Oper}:∀ (l:List Oper) {a:AAct} {h:AH} {r:AAct×AH},c0m P c ops l a h=.ok r→W0 P d ops l a h=.ok [r]
 | [],a,h,r,he=>by cases he;rfl
 | o::l,a,h,r,he=>by
  simp only [c0m] at he
  simp only [W0]
  split at he
  ·rename_i hw
   simp only [hw]
   split at he
   ·rename_i hop;simp only [n0T hc hop];exact L3 (h0e hc l he)
   ·cases he
  ·rename_i hw
   simp only [hw]
   exact h0e hc l he
  ·cases he
theorem i08 {b:AAct→AH→R (AX×AAct×AH)} {b':AAct→AH→XD} (hb:∀ a h r,b a h=.ok r→b' a h=.ok [r]):∀ {n:Nat} {a:AAct} {h:AH} {r:AX×AAct×AH},a0w b n a h=.ok r→V3 b' n a h=.ok [r]
 | 0,_,_,_,he=>by cases he
 | n+1,a,h,r,he=>by
  simp only [a0w] at he
  simp only [V3]
  split at he
  ·rename_i hbody
   simp only [hb _ _ _ hbody]
   exact L3 (i08 hb he)
  ·rename_i hnot
   simp only [hb _ _ _ he]
   refine L3 ?_
   split
   ·rename_i hx
    obtain ⟨x,a1,h1⟩:=r
    simp only at hx
    subst hx
    exact absurd he (hnot _ _)
   ·rfl
theorem r0c (hc:DSub c d) {f:AV} {params:Array Tmp} {assign body:Code} {a:AAct} {h:AH} {r:AX×AAct×AH} (he:k09 c f params assign body a h=.ok r):f06 d f params assign body a h=.ok [r]:=by
 unfold k09 at he
 unfold f06
 split at he
 ·cases hb:a.rd with
  | true=>rw [hb] at he;cases he
  | false =>
   rw [hb] at he
   simp only [cond_false,o8] at he ⊢
   split at he
   ·rename_i hcall
    simp only [hc _ _ _ _ hcall]
    refine L3 ?_
    unfold e0Y
    rw [hb]
    split at he
    ·rename_i r1 hg
     simp only [hg]
     split at he
     ·cases he
     ·rename_i hnb
      split at he
      ·rename_i hp;cases he;simp only [hp];rfl
      ·rename_i hp;cases he;simp only [hp];rfl
      ·rename_i hp;cases he;simp only [hp];rfl
      ·cases he
    ·cases he
   ·cases he
 ·cases he
theorem I4 (hc:DSub c d) {lf:Nat}:∀ (k:Code) {a:AAct} {h:AH} {r:AX×AAct×AH},n9 P c lf k a h=.ok r→l8 P d lf k a h=.ok [r]
 | .skip,_,_,_,he=>by cases he;rfl
 | .label _,_,_,_,he=>by cases he;rfl
 | .exit _,_,_,_,he=>by cases he;rfl
 | .ret,_,_,_,he=>by cases he;rfl
 | .goto _,_,_,_,he=>by cases he
 | .refuse _,_,_,_,he=>by cases he
 | .region _ ops draw,a,h,r,he=>by
  simp only [n9] at he
  simp only [l8]
  cases draw with
  | true =>
   simp only [cond_true] at he
   split at he
   ·rename_i hop;cases he;simp only [c0c hc.one hop]
   ·cases he
  | false =>
   simp only [cond_false] at he
   split at he
   ·rename_i hop;cases he;simp only [h0e hc _ hop,List.map_cons,List.map_nil]
   ·cases he
 | .seq x y,a,h,r,he=>by
  simp only [n9] at he
  simp only [l8]
  split at he
  ·rename_i hx
   simp only [I4 hc x hx]
   exact L3 (I4 hc y he)
  ·rename_i hnot
   simp only [I4 hc x he]
   refine L3 ?_
   split
   ·rename_i hx
    obtain ⟨q,a1,h1⟩:=r
    simp only at hx
    subst hx
    exact absurd he (hnot _ _)
   ·rfl
 | .cond o x y,a,h,r,he=>by
  simp only [n9] at he
  simp only [l8]
  split at he
  ·rename_i ho
   simp only [ho]
   unfold h0d at he
   split at he
   ·rename_i hb;simp only [hb];exact I4 hc x he
   ·rename_i hb;simp only [hb];exact I4 hc y he
   ·cases he
  ·cases he
 | .block id k,a,h,r,he=>by
  simp only [n9] at he
  simp only [l8]
  split at he
  ·rename_i i a1 h1 hx
   simp only [I4 hc k hx,List.map_cons,List.map_nil]
   cases hb:Nat.beq i id with
   | true=>rw [hb] at he;cases he;rfl
   | false=>rw [hb] at he;cases he;rfl
  ·rename_i hnot
   simp only [I4 hc k he,List.map_cons,List.map_nil]
   obtain ⟨q,a1,h1⟩:=r
   cases q with
   | exit i=>exact absurd he (hnot _ _ _)
   | _=>rfl
 | .loop k,a,h,r,he=>by
  simp only [n9] at he
  simp only [l8]
  exact i08 (fun a h r=>I4 hc k) he
 | .scope k,a,h,r,he=>by
  simp only [n9] at he
  simp only [l8]
  split at he
  ·cases he
  ·simp only [I4 hc k he]
 | .rangeFunc f ps x y,a,h,r,he=>by
  simp only [n9] at he
  simp only [l8]
  split at he
  ·rename_i ho;simp only [ho];exact r0c hc he
  ·cases he
theorem a0G (hc:DSub c d):∀ (l:List ADef) {h h':AH},H9 c l h=.ok h'→C9 d l h=.ok [h']
 | [],h,h',he=>by cases he;rfl
 | x::l,h,h',he=>by
  unfold H9 at he
  unfold C9
  split at he
  ·split at he
   ·rename_i hg;simp only [hg];exact a0G hc l he
   ·cases he
  ·split at he
   ·rename_i hcf
    simp only [hcf]
    split at he
    ·rename_i hcall;simp only [hc _ _ _ _ hcall];exact L3 (a0G hc l he)
    ·cases he
   ·cases he
   ·cases he
theorem n0U (hc:DSub c d) {fn:Func} {x:R (AX×AAct×AH)} {y:XD} (hx:∀ r,x=.ok r→y=.ok [r]) {r:AV×AH} (he:N0 P c fn x=.ok r):Z2 P d fn y=.ok [r]:=by
 unfold N0 at he
 split at he
 ·rename_i x a h
  rw [hx _ rfl]
  simp only [Z2]
  refine L3 ?_
  unfold c01
  split at he
  ·split at he
   ·rename_i hd
    simp only [a0G hc _ hd]
    refine L3 ?_
    split at he
    ·rename_i hr;cases he;simp only [hr]
    ·cases he
   ·cases he
  ·split at he
   ·rename_i hd
    simp only [a0G hc _ hd]
    refine L3 ?_
    split at he
    ·rename_i hr;cases he;simp only [hr]
    ·cases he
   ·cases he
  ·cases he
 ·cases he
theorem n0V (hc:DSub c d) {lf:Nat} {l:Nat} {q:ALoop} {args:List AV} {h:AH} {r:AV×AH} (he:e0d P c lf l q args h=.ok r):b0i P d lf l q args h=.ok [r]:=by
 unfold e0d at he
 unfold b0i
 cases hb:Nat.beq args.length q.params.size with
 | false=>rw [hb] at he;cases he
 | true =>
  rw [hb] at he
  simp only [cond_true] at he ⊢
  split at he
  ·rename_i hx
   simp only [I4 hc _ hx]
   refine L3 ?_
   unfold c02
   split at he
   ·rename_i hg
    simp only [hg]
    split at he
    ·rename_i hst
     simp only [hst]
     generalize hres:n9 P c lf q.body _ _=res at he
     cases res with
     | error e=>unfold c0P at he;cases he
     | ok z =>
      simp only [I4 hc _ hres]
      refine L3 ?_
      rw [he];rfl
    ·cases he
   ·cases he
  ·cases he
  ·cases he
theorem p0G {S:FuncId→Option (List AV→AH→R (AV×AH))} (hc:DSub c d):DSub (b0a S c) (P3 S d):=by
 intro t args h r he
 unfold b0a at he
 unfold P3
 split at he
 ·rename_i f
  split at he
  ·cases he
  ·rename_i hs;simp only [hs];exact hc _ _ _ _ he
 ·exact hc _ _ _ _ he
theorem f0u {S:FuncId→Option (List AV→AH→R (AV×AH))} {lf:Nat}:∀ {n:Nat},DSub (A3 P S lf n) (E7 P S lf n)
 | 0=>fun t args h r he=>by cases t <;> cases he
 | n+1=>fun t args h r he=>by
  have ih:=f0u (S:=S) (lf:=lf) (n:=n)
  cases t with
  | fn f =>
   unfold A3 at he
   unfold E7
   split at he
   ·rename_i g hs;simp only [hs,he];rfl
   ·rename_i hs
    simp only [hs]
    split at he
    ·rename_i fn hf
     simp only [hf]
     split at he
     ·rename_i k hk
      simp only [hk]
      cases hb:Nat.ble args.length fn.ntmps with
      | false=>rw [hb] at he;cases he
      | true =>
       rw [hb] at he
       simp only [cond_true] at he ⊢
       exact n0U (p0G ih) (fun r hr=>I4 ih _ hr) he
     ·cases he
    ·cases he
  | yield l =>
   unfold A3 at he
   unfold E7
   split at he
   ·rename_i hg;simp only [hg];exact n0V ih he
   ·cases he
end Go.Dr
