/-
  Texts joined.
-/
import Derived.Test.YtnapechhagnmaaaGreatDoorT1
import Derived.RangeFuncIn
import Derived.Orders
import Derived.ProofKit

namespace Go.Dr
open Go.RowKit
variable {P:Program} {B:Nat} {w0 w:World} {φ:Phi} {h h':AH}
theorem d0u {o:Oper} {c:COp} {a:AAct} {tm:Array Value} {ds:List Deferred} {n:AN} (hc:comp P o=.ok c) (hr:evC P c a h=.ok (n,h')) (hG:GlobRel P φ) (hA:ActRel φ a tm) (hR:Rel B w0 φ h w) :
  OpSound P B w0 φ h (execOp (Act.eval ⟨tm,ds⟩) o) w n h':=by
 have con:=fun {x:Operand} {c:CO} (hx:cO P x=.ok c)=>w8 (ds:=ds) hx hG hA
 have conO:=fun {x:Option Operand} {c:Option CO} (hx:cOO P x=.ok c)=>m0p (ds:=ds) hG hA hx
 unfold comp at hc
 split at hc
 ·rename_i x ho
  obtain ⟨ca,ha,hc⟩:=i9 hc
  cases hc;cases hr
  exact ⟨_,w,φ,by simp only [execOp,ho];rfl,con ha,hR,.refl _ _⟩
 ·rename_i x ho
  obtain ⟨ca,ha,hc⟩:=i9 hc
  cases hc;cases hr
  exact ⟨_,w,φ,by simp only [execOp,ho];rfl,con ha,hR,.refl _ _⟩
 ·rename_i q x y ho
  obtain ⟨cq,cx,cy,hq,hx,hy,hc⟩:=d0f hc
  cases hc
  simp only [evC] at hr
  obtain ⟨v,h1,rfl,rfl⟩:=b0O hr
  have hqc:=con hq
  unfold d0I at h1
  split at h1
  ·rename_i hb;cases h1
   rw [hb] at hqc
   generalize hv:Act.eval ⟨tm,ds⟩ q=qv at hqc
   cases hqc
   exact ⟨_,w,φ,by simp only [execOp,ho,hv];rfl,con hx,hR,.refl _ _⟩
  ·rename_i hb;cases h1
   rw [hb] at hqc
   generalize hv:Act.eval ⟨tm,ds⟩ q=qv at hqc
   cases hqc
   exact ⟨_,w,φ,by simp only [execOp,ho,hv];rfl,con hy,hR,.refl _ _⟩
  ·cases h1
 ·rename_i e ho
  split at hc
  ·rename_i z hz;cases hc;cases hr
   obtain ⟨z',hz1,hz2⟩:=I8 (P:=P) (w:=w) hz
   refine .val (s:=Instr.alloc e true (.tuple #[])) (g0M (e:=e) (v':=z') hR (hz2 φ).cells ?_) (by simp only [execOp,ho])
   simp only [Instr.alloc,Sem.run_bind,hz1,Result.andThen_ok,newVar,newRow,run_newObj,Sem.run_pure]
   rfl
  ·cases hc
 ·rename_i e x ho
  obtain ⟨ca,ha,hc⟩:=i9 hc
  cases hc;cases hr
  refine .val (s:=Instr.box e (Act.eval ⟨tm,ds⟩ x)) (g0M (e:=e) (v':=Act.eval ⟨tm,ds⟩ x) hR (con ha).cells ?_) (by simp only [execOp,ho])
  simp only [Instr.box,Sem.run_bind,Result.andThen_ok,newVar,newRow,run_newObj,Sem.run_pure]
  rfl
 ·rename_i t parts ho
  have hex:execOp (Act.eval ⟨tm,ds⟩) o=(do pure (.value (← Instr.build t (parts.map fun (i,x)=>(i,Act.eval ⟨tm,ds⟩ x))))):=by simp only [execOp,ho]
  split at hc
  ·rename_i fields z ht hz
   split at hc
   ·rename_i pl hpl
    split at hc
    ·rename_i l hl;cases hc
     exact i5 hR hr (fun v hv=>l0y hG hA ht hz hpl hl hv) hex
    ·cases hc
   ·cases hc
  ·rename_i k e z ht hz
   split at hc
   ·rename_i size hs
    split at hc
    ·rename_i l hl;cases hc
     exact i5 hR hr (fun v hv=>k0i hG hA ht hz hs hl hv) hex
    ·cases hc
   ·cases hc
  ·cases hc
 ·rename_i t len parts ho
  split at hc
  ·rename_i e ht
   split at hc
   ·rename_i es z hs hz
    split at hc
    ·cases hc
    ·rename_i hne
     split at hc
     ·rename_i l hl;cases hc
      exact o5 (f0H (ds:=ds) hG hA hR ht hz hs (fun e=>hne (.inl e)) (fun e=>hne (.inr (.inl e))) (Decidable.byContradiction fun e=>hne (.inr (.inr e))) hl hr) (by simp only [execOp,ho])
     ·cases hc
   ·cases hc
  ·cases hc
 ·rename_i t x ho
  obtain ⟨ca,ha,hc⟩:=i9 hc
  split at hc
  ·rename_i hagg
   split at hc
   ·rename_i k hk;cases hc
    exact o5 (j0n hagg hk hR (con ha) hr) (by simp only [execOp,ho])
   ·cases hc
  ·rename_i hagg;cases hc
   exact o5 (j0m hagg hR (con ha) hr) (by simp only [execOp,ho])
  ·cases hc
 ·rename_i t x y ho
  obtain ⟨ca,cb,ha,hb,hc⟩:=D9 hc
  split at hc
  ·rename_i k hk;cases hc
   have:=j0o (B:=B) (w0:=w0) hk hR (con ha) (con hb) hr
   simpa only [execOp,ho] using this
  ·cases hc
 ·rename_i x ho
  obtain ⟨ca,ha,hc⟩:=i9 hc
  cases hc
  exact f0R ho hR (con ha) hr
 ·rename_i op t x y yt ho
  obtain ⟨ca,cb,ha,hb,hc⟩:=D9 hc
  cases hc
  exact i5 hR hr (fun v hv=>l02 hv (con ha) (con hb)) (by simp only [execOp,ho])
 ·rename_i op t x ho
  obtain ⟨ca,ha,hc⟩:=i9 hc
  cases hc
  exact i5 hR hr (fun v hv=>m04 hv (con ha)) (by simp only [execOp,ho])
 ·rename_i s d x ho
  obtain ⟨ca,ha,hc⟩:=i9 hc
  have hex:execOp (Act.eval ⟨tm,ds⟩) o=(do pure (.value (← convert s d (Act.eval ⟨tm,ds⟩ x)))):=by simp only [execOp,ho]
  split at hc
  ·rename_i sd k hs hd;cases hc
   exact o5 (h0Q hs hd hr (con ha) hR) hex
  ·rename_i sd hs hd
   split at hc
   ·rename_i e hse
    split at hc
    ·rename_i he;cases hc
     exact o5 (g0Q hse he hd hr (con ha) hR) hex
    ·cases hc
   ·rename_i hss;cases hc
    exact o5 (d0W hss hd (.inl rfl) hr (con ha) hR) hex
   ·rename_i k hss;cases hc
    exact o5 (d0W hss hd (.inr ⟨k,rfl⟩) hr (con ha) hR) hex
   ·cases hc
  ·rename_i e hs hd
   split at hc
   ·rename_i he;cases hc
    exact o5 (f0I hs hd he hr (con ha) hR) hex
   ·rename_i he;cases hc
    exact o5 (f0J hs hd he hr (con ha) hR) hex
   ·cases hc
  ·cases hc
 ·rename_i t x ho
  obtain ⟨ca,ha,hc⟩:=i9 hc
  split at hc
  ·cases hc
  ·rename_i td hne ht;cases hc;cases hr
   refine .pure hR (s:=Instr.makeInterface t (Act.eval ⟨tm,ds⟩ x)) ⟨_,?_,.iface (con ha)⟩ (by simp only [execOp,ho])
   simp only [Instr.makeInterface,Sem.run_bind,a8 ht,Result.andThen_ok]
   cases td <;> first | (exact absurd rfl (hne _)) | rfl
  ·cases hc
 ·rename_i fn first captured ho
  split at hc
  ·rename_i f
   split at hc
   ·rename_i l1 l2 h1 h2;cases hc;cases hr
    refine .pure hR (s:=Instr.makeFunc (.func f) (first.map (Act.eval ⟨tm,ds⟩)) (captured.map (Act.eval ⟨tm,ds⟩))) ⟨.func (.func f) ⟨first.toList.map (Act.eval ⟨tm,ds⟩)⟩ ⟨captured.toList.map (Act.eval ⟨tm,ds⟩)⟩,?_,.func (Z2 hG hA h1) (Z2 hG hA h2)⟩ (by simp only [execOp,ho])
    rcases first with ⟨first⟩;rcases captured with ⟨captured⟩
    simp [Instr.makeFunc]
   ·cases hc
  ·cases hc
 ·rename_i t r ho
  split at hc
  ·rename_i kt et r' ht hr';cases hc
   have hrr:=conO hr'
   simp only [evC] at hr
   generalize b0D a r'=ro at hr hrr
   have key:∀ n,c0d ro h=.ok (n,h')→n=.value (.map h.next)∧h'=h.push (.map [] 0)∧(Instr.makeMap t (r.map (Act.eval ⟨tm,ds⟩))).run P w=.ok (.map (some w.heap.size)) (w.alloc (.map #[] 0)):=by
    intro n hn
    generalize r.map (Act.eval ⟨tm,ds⟩)=rv at hrr
    unfold c0d at hn
    cases hrr with
    | none =>
     cases hn
     exact ⟨rfl,rfl,by simp [Instr.makeMap]⟩
    | some hcv =>
     split at hn
     ·rename_i e;cases e
     ·rename_i e;cases hn;cases e
      cases hcv
      refine ⟨rfl,rfl,?_⟩
      simp [Instr.makeMap,a8 ht,asInt,asIntOf]
     ·cases hn
   obtain ⟨rfl,rfl,hrun⟩:=key _ hr
   refine .val (s:=Instr.makeMap t (r.map (Act.eval ⟨tm,ds⟩))) ⟨_,_,_,hrun,?_,hR.push (room:=0) (o:=.map [] 0) (O:=.map #[] 0) ⟨[],L2 _ _,.nil⟩,Ext.push hR _ _⟩ (by simp only [execOp,ho])
   exact .map (p:=⟨w.heap.size,0,0⟩) (Phi.set_same _ _ _)
  ·cases hc
 ·rename_i t l k ho
  obtain ⟨ca,cb,ha,hb,hc⟩:=D9 hc
  split at hc
  ·rename_i e ht
   split at hc
   ·rename_i es bytes z hs hby hz
    split at hc
    ·cases hc
    ·rename_i hne;cases hc
     exact o5 (l0x ht hs hby hz (fun e=>hne (.inl e)) (Decidable.byContradiction fun e=>hne (.inr e)) hr (con ha) (con hb) hR) (by simp only [execOp,ho])
   ·cases hc
  ·cases hc
 ·rename_i t x lo hi mx ho
  obtain ⟨ca,ha,hc⟩:=i9 hc
  have hex:execOp (Act.eval ⟨tm,ds⟩) o=(do pure (.value (← Instr.sliceAt t (Act.eval ⟨tm,ds⟩ x) (lo.map (Act.eval ⟨tm,ds⟩)) (hi.map (Act.eval ⟨tm,ds⟩)) (mx.map (Act.eval ⟨tm,ds⟩))))):=by simp only [execOp,ho]
  split at hc
  ·rename_i lo' hi' mx' hlo hhi hmx
   split at hc
   ·rename_i ht
    split at hc
    ·cases hc
     have hm:=conO hmx
     simp only [b0D] at hm
     generalize hmv:mx.map (Act.eval ⟨tm,ds⟩)=mv at hm
     cases hm
     rw [hmv] at hex
     exact i5 hR hr (fun v hv=>h0I ht hv (con ha) (conO hlo) (conO hhi)) hex
    ·cases hc
   ·rename_i e ht
    split at hc
    ·rename_i es hs;cases hc
     exact i5 hR hr (fun v hv=>h0J ht hs hv (con ha) (conO hlo) (conO hhi) (conO hmx)) hex
    ·cases hc
   ·rename_i k e ht
    split at hc
    ·rename_i es hs
     split at hc
     ·cases hc
     ·cases hc
      exact i5 hR hr (fun v hv=>h0K ht hs hv (con ha) hR (conO hlo) (conO hhi) (conO hmx)) hex
    ·cases hc
   ·cases hc
  ·cases hc
 ·rename_i s x f ho
  obtain ⟨ca,ha,hc⟩:=i9 hc
  split at hc
  ·rename_i fields ht
   split at hc
   ·rename_i fd hf
    split at hc
    ·cases hc
    ·rename_i k hk0 hk;cases hc
     exact i5 hR hr (fun v hv=>e0Y ht hf hk (fun e=>hk0 (by rw [e])) hv (con ha)) (by simp only [execOp,ho])
    ·cases hc
   ·cases hc
  ·cases hc
 ·rename_i t x f ho
  obtain ⟨ca,ha,hc⟩:=i9 hc
  split at hc
  ·rename_i fields ht
   split at hc
   ·rename_i fd hf
    split at hc
    ·rename_i k hagg hk;cases hc
     exact i5 hR hr (fun v hv=>k0m ht hf hagg hk hv (con ha)) (by simp only [execOp,ho])
    ·rename_i hagg;cases hc
     exact i5 hR hr (fun v hv=>k0l ht hf hagg hv (con ha)) (by simp only [execOp,ho])
    ·cases hc
   ·cases hc
  ·cases hc
 ·rename_i t x i ho
  obtain ⟨ca,cb,ha,hb,hc⟩:=D9 hc
  split at hc
  ·rename_i k e ht
   split at hc
   ·rename_i es hs;cases hc
    exact i5 hR hr (fun v hv=>k0j ht hs hv (con ha) (con hb)) (by simp only [execOp,ho])
   ·cases hc
  ·rename_i e ht
   split at hc
   ·rename_i es hs;cases hc
    exact i5 hR hr (fun v hv=>k0k ht hs hv (con ha) (con hb)) (by simp only [execOp,ho])
   ·cases hc
  ·cases hc
 ·rename_i t x i ho
  obtain ⟨ca,cb,ha,hb,hc⟩:=D9 hc
  split at hc
  ·rename_i k e ht
   split at hc
   ·rename_i es hagg hs;cases hc
    exact i5 hR hr (fun v hv=>h0O ht hagg hs hv (con ha) (con hb)) (by simp only [execOp,ho])
   ·rename_i es hagg hs;cases hc
    exact i5 hR hr (fun v hv=>h0N ht hagg hs hv (con ha) (con hb)) (by simp only [execOp,ho])
   ·cases hc
  ·rename_i ht;cases hc
   exact i5 hR hr (fun v hv=>h0P ht hv (con ha) (con hb)) (by simp only [execOp,ho])
  ·cases hc
 ·rename_i t x k ok ho
  obtain ⟨ca,cb,ha,hb,hc⟩:=D9 hc
  split at hc
  ·rename_i kt et ht
   split at hc
   ·rename_i z hz;cases hc
    exact i5 hR hr (fun v hv=>h03 ht hz hR (con ha) (con hb) hv) (by simp only [execOp,ho])
   ·cases hc
  ·cases hc
 ·rename_i t m k v ho
  obtain ⟨cm,ck,cv,hm,hk,hv,hc⟩:=d0f hc
  split at hc
  ·rename_i kt et ht;cases hc
   exact a05 hr (fun h1=>h05 ht hR (con hm) (con hk) (con hv) h1) (by simp only [execOp,ho])
  ·cases hc
 ·rename_i t m k v ho
  obtain ⟨cm,ck,cv,hm,hk,hv,hc⟩:=d0f hc
  split at hc
  ·rename_i kt et ht;cases hc
   exact a05 hr (fun h1=>h05 ht hR (con hm) (con hk) (con hv) h1) (by simp only [execOp,ho])
  ·cases hc
 ·rename_i t m k ho
  obtain ⟨ca,cb,ha,hb,hc⟩:=D9 hc
  split at hc
  ·rename_i kt et ht
   split at hc
   ·rename_i z hz;cases hc
    exact o5 (f0N ht hz hR (con ha) (con hb) hr) (by simp only [execOp,ho])
   ·cases hc
  ·cases hc
 ·rename_i t m s v ho
  obtain ⟨cm,cs,cv,hm,hs,hv,hc⟩:=d0f hc
  cases hc
  exact a05 hr (fun h1=>e0b (t:=t) hR (con hm) (con hs) (con hv) h1) (by simp only [execOp,ho])
 ·rename_i t x ho
  obtain ⟨ca,ha,hc⟩:=i9 hc
  split at hc
  ·rename_i ht;cases hc
   exact o5 (h0v ht hR (con ha) hr) (by simp only [execOp,ho])
  ·rename_i kt et ht;cases hc
   exact o5 (h0w ht hR (con ha) hr) (by simp only [execOp,ho])
  ·cases hc
 ·rename_i it s ho
  obtain ⟨ca,ha,hc⟩:=i9 hc
  cases hc
  exact o5 (j01 (ty:=o.type) hR (con ha) hr) (by simp only [execOp,ho])
 ·rename_i it ho
  obtain ⟨ca,ha,hc⟩:=i9 hc
  cases hc
  exact i5 hR hr (fun v hv=>i0T hR (con ha) hv) (by simp only [execOp,ho])
 ·rename_i x xt t ok ho
  obtain ⟨ca,ha,hc⟩:=i9 hc
  cases hc
  exact i5 hR hr (fun v hv=>e0f (xt:=xt) (con ha) hv) (by simp only [execOp,ho])
 ·rename_i x i ho
  obtain ⟨ca,ha,hc⟩:=i9 hc
  cases hc
  refine i5 (s:=Instr.extract (Act.eval ⟨tm,ds⟩ x) i) hR hr (fun v hv=>?_) (by simp only [execOp,ho])
  have hx:=con ha
  unfold M0 at hv
  split at hv
  ·rename_i l hl
   rw [hl] at hx
   generalize hxv:Act.eval ⟨tm,ds⟩ x=xv at hx
   cases hx with
   | tuple hx =>
    rename_i l2
    unfold ofO at hv
    split at hv
    ·rename_i y hy;cases hv
     obtain ⟨z,h1,h2⟩:=hx.get _ _ hy
     refine ⟨z,?_,h2⟩
     have:(⟨l2⟩:Array Value)[i]? = some z:=by simpa using h1
     simp only [Instr.extract,this]
     rfl
    ·cases hv
  ·cases hv
 ·rename_i call ho
  exact i0w ho hc hr hG hA hR
 ·rename_i call ho
  split at hc
  ·rename_i f hcal
   obtain ⟨g,hg,hc⟩:=i9 hc
   split at hc
   ·rename_i l hl;cases hc
    have hf:=con hg
    have ha:=Z2 (ds:=ds) hG hA hl
    simp only [evC] at hr
    unfold c03 at hr
    split at hr
    ·rename_i fn first captured hfv
     split at hr
     ·cases hr
      rw [hfv] at hf
      generalize hv:Act.eval ⟨tm,ds⟩ f=fv at hf
      cases hf with
      | func h1 h2 =>
       refine ⟨rfl,_,.call h2 (h1.append ha),?_⟩
       have hargs:call.args.map (Act.eval ⟨tm,ds⟩)=⟨call.args.toList.map (Act.eval ⟨tm,ds⟩)⟩:=by apply Array.ext';simp
       simp only [execOp,ho,resolve,hcal,hv,Deferred.ofValue,Sem.run_bind,Sem.run_pure,Result.andThen_ok,hargs]
       simp
     ·cases hr
    ·cases hr
   ·cases hc
  ·cases hc
 ·cases hc
end Go.Dr

namespace Go.Dr
open Go.RowKit
variable {P:Program} {B:Nat} {w0 w w':World} {φ:Phi} {h h':AH}
def mk (b:Frame) (tm:Array Value) (ds:List Deferred) (todo:List Item):Frame :=
 { fn:=b.fn,tmps:=tm,todo,defers:=ds,mode:=.run,kind:=b.kind,roundOf:=b.roundOf }
theorem j0v (b:Frame) (tm:Array Value) (ds:List Deferred) (todo:List Item):(mk b tm ds todo).eval=Act.eval ⟨tm,ds⟩:=by
 funext x;cases x <;> rfl
def c0H (tm:Array Value) (d:Option Tmp) (v:Value):Array Value :=
 match d with
 | some d=>tm.setIfInBounds d v
 | none=>tm
theorem ActRel.put {a:AAct} {tm:Array Value} {v:AV} {v':Value} (hA:ActRel φ a tm) (d:Option Tmp) (hv:Con φ v v'):ActRel φ (a.put d v) (c0H tm d v'):=by
 cases d with
 | none=>exact hA
 | some d =>
  unfold AAct.put c0H
  simp only
  cases hb:Nat.blt d a.n with
  | false =>
   have hd:¬ d<a.n:=fun e=>by
    have e2:Nat.blt d a.n=true:=Nat.blt_eq.symm ▸ e
    rw [e2] at hb;cases hb
   simp only [cond_false]
   have:tm.setIfInBounds d v'=tm:=by
    apply Array.ext
    ·simp
    ·intro i h1 h2
     rw [Array.getElem_setIfInBounds]
     split
     ·rename_i e;subst e;exact absurd (by rw [← hA.size];exact h2) hd
     ·rfl
   rw [this];exact hA
  | true =>
   simp only [cond_true]
   have hd:d<a.n:=Nat.blt_eq ▸ hb
   refine ⟨by simp only [Array.size_setIfInBounds];exact hA.size,fun i=>?_⟩
   simp only [AAct.val,PT.get_set]
   by_cases hi:i=d
   ·subst hi
    rw [if_pos rfl]
    simp only [Array.getD_eq_getD_getElem?,Array.getElem?_setIfInBounds_self_of_lt (by rw [hA.size];exact hd),Option.getD_some]
    exact hv
   ·rw [if_neg hi]
    have:=hA.val i
    simp only [AAct.val] at this
    simp only [Array.getD_eq_getD_getElem?,Array.getElem?_setIfInBounds_ne (fun e=>hi e.symm)] at this ⊢
    exact this
inductive DefsR (φ:Phi):List ADef→List Deferred→Prop
 | nil:DefsR φ [] []
 | cons {d:ADef} {d':Deferred} {l:List ADef} {l':List Deferred} (h:DefR φ d d') (t:DefsR φ l l'):DefsR φ (d::l) (d'::l')
theorem DefsR.mono {φ ψ:Phi} (hle:φ.le ψ) {l:List ADef} {l':List Deferred} (h:DefsR φ l l'):DefsR ψ l l':=by
 induction h with
 | nil=>exact .nil
 | cons h _ ih=>exact .cons (h.mono hle) ih
structure St (P:Program) (B:Nat) (w0:World) (φ:Phi) (a:AAct) (h:AH) (rd:Bool) (tm:Array Value) (ds:List Deferred) (w:World):Prop where
 act:ActRel φ a tm
 defs:DefsR φ a.ds ds
 rel:Rel B w0 φ h w
 glob:GlobRel P φ
 rd:a.rd=rd
theorem AAct.put_ds (a:AAct) (d:Option Tmp) (v:AV):(a.put d v).ds=a.ds∧(a.put d v).rd=a.rd∧(a.put d v).n=a.n:=by
 unfold AAct.put;split
 ·cases Nat.blt _ _ <;> exact ⟨rfl,rfl,rfl⟩
 ·exact ⟨rfl,rfl,rfl⟩
theorem St.put {a:AAct} {rd:Bool} {tm:Array Value} {ds:List Deferred} (s:St P B w0 φ a h rd tm ds w) {φ':Phi} {v:AV} {v':Value} (hle:φ.le φ') (hv:Con φ' v v') (hR:Rel B w0 φ' h' w') (d:Option Tmp) :
  St P B w0 φ' (a.put d v) h' rd (c0H tm d v') ds w' :=
 ⟨(s.act.mono hle).put d hv,by rw [(a.put_ds d v).1];exact s.defs.mono hle,hR,s.glob.mono hle,by rw [(a.put_ds d v).2.1];exact s.rd⟩
def CallsK (P:Program) (kind:CallKind) (f:FuncId) (args:Array Value) (w:World) (R:Value→World→Prop):Prop :=
 ∀ cs,∃ v w' fr fn,R v w'∧Steps P (lone (Frame.enter P f args kind) cs w) (lone fr cs w') ∧
  fr.fn=f∧fr.mode=.returning∧fr.defers=[]∧fr.kind=kind∧P.funcs[fr.fn]? = some fn∧(results fn fr.tmps).run P w'=.ok v w'
def R7 (P:Program) (B:Nat) (w0:World) (call:u6):Prop :=
 ∀ f args h v h',call (.fn f) args h=.ok (v,h')→∀ φ w args',ConL φ args args'→GlobRel P φ→Rel B w0 φ h w →
  (∀ w,(callFunc f ⟨args'⟩).run P w=.ok (.enter f ⟨args'⟩) w) ∧
  CallsK P .normal f ⟨args'⟩ w (fun v' w'=>∃ φ',Con φ' v v'∧Rel B w0 φ' h' w'∧Ext φ h φ' h')
def j0w (P:Program) (B:Nat) (w0:World) (call:u6):Prop :=
 ∀ f args h v h',call (.fn f) args h=.ok (v,h')→∀ φ w args',ConL φ args args'→GlobRel P φ→Rel B w0 φ h w →
  (∀ w,(callFunc f ⟨args'⟩).run P w=.ok (.enter f ⟨args'⟩) w) ∧
  CallsK P .deferred f ⟨args'⟩ w (fun v' w'=>∃ φ',Con φ' v v'∧Rel B w0 φ' h' w'∧Ext φ h φ' h')
def M3 (P:Program) (B:Nat) (w0:World) (call:u6):Prop :=
 ∀ l args h v h',call (.yield l) args h=.ok (v,h')→∀ φ w p args',φ l=some p→ConL φ args args'→GlobRel P φ→Rel B w0 φ h w →
  ∃ fn tmps assign body,(Instr.yield p.blk ⟨args'⟩).run P w=.ok (.round p.blk fn tmps assign body) w ∧
   ∀ c cs,∃ v' φ' w',Steps P (lone (Frame.round p.blk fn tmps assign body .normal) (c::cs) w) (lone (c.finish v') cs w')∧Con φ' v v'∧Rel B w0 φ' h' w'∧Ext φ h φ' h'
section moves
variable {b:Frame} {tm:Array Value} {ds:List Deferred} {k:List Item} {cs:List Frame} {ops:Array Oper}
theorem go_skip:step P (lone (mk b tm ds (.code .skip::k)) cs w)=.next (lone (mk b tm ds k) cs w):=step_lone_go (by simp [stepG,stepG.exec,mk])
theorem go_label {l:Nat}:step P (lone (mk b tm ds (.code (.label l)::k)) cs w)=.next (lone (mk b tm ds k) cs w):=step_lone_go (by simp [stepG,stepG.exec,mk])
theorem go_inBlock {id:Nat}:step P (lone (mk b tm ds (.inBlock id::k)) cs w)=.next (lone (mk b tm ds k) cs w):=step_lone_go (by simp [stepG,stepG.exec,mk])
theorem go_inScope {c:Code}:step P (lone (mk b tm ds (.inScope c::k)) cs w)=.next (lone (mk b tm ds k) cs w):=step_lone_go (by simp [stepG,stepG.exec,mk])
theorem go_seq {x y:Code}:step P (lone (mk b tm ds (.code (.seq x y)::k)) cs w)=.next (lone (mk b tm ds (.code x::.code y::k)) cs w):=step_lone_go (by simp [stepG,stepG.exec,mk])
theorem go_cond {c:Operand} {x y:Code} {t:Bool} (hc:Act.eval ⟨tm,ds⟩ c=.bool t) :
  step P (lone (mk b tm ds (.code (.cond c x y)::k)) cs w)=.next (lone (mk b tm ds (.code (if t then x else y)::k)) cs w) :=
 step_lone_go (by
  have:=congrFun (j0v b tm ds (.code (.cond c x y)::k)) c
  simp only [mk] at this
  simp [stepG,stepG.exec,mk,this,hc])
theorem go_block {id:Nat} {c:Code}:step P (lone (mk b tm ds (.code (.block id c)::k)) cs w)=.next (lone (mk b tm ds (.code c::.inBlock id::k)) cs w):=step_lone_go (by simp [stepG,stepG.exec,mk])
theorem go_scope {c:Code}:step P (lone (mk b tm ds (.code (.scope c)::k)) cs w)=.next (lone (mk b tm ds (.code c::.inScope c::k)) cs w):=step_lone_go (by simp [stepG,stepG.exec,mk])
theorem go_loop {c:Code}:step P (lone (mk b tm ds (.code (.loop c)::k)) cs w)=.next (lone (mk b tm ds (.code c::.inLoop c::k)) cs w):=step_lone_go (by simp [stepG,stepG.exec,mk])
theorem go_inLoop {c:Code}:step P (lone (mk b tm ds (.inLoop c::k)) cs w)=.next (lone (mk b tm ds (.code c::.inLoop c::k)) cs w):=step_lone_go (by simp [stepG,stepG.exec,mk])
theorem go_exit {id:Nat} {k':List Item} (hk:exitTo id k=some k'):step P (lone (mk b tm ds (.code (.exit id)::k)) cs w)=.next (lone (mk b tm ds k') cs w):=step_lone_go (by simp [stepG,stepG.exec,mk,hk])
theorem go_region {id:Nat}:step P (lone (mk b tm ds (.code (.region id ops false)::k)) cs w)=.next (lone (mk b tm ds (.inRegion ops (List.range ops.size)::k)) cs w):=step_lone_go (by simp [stepG,stepG.exec,mk])
theorem go_region_draw {id:Nat}:step P (lone (mk b tm ds (.code (.region id ops true)::k)) cs w) =
  .next (lone (mk b tm ds (.inRegion ops (Region.schedule (P.follows .mixedOrders) ops (w.tape w.drawn (.order b.fn id)))::k)) cs w.drew):=step_lone_go (by simp [stepG,stepG.exec,mk,choose,Sem.run,Question.forced,Question.cut])
theorem go_regionEnd:step P (lone (mk b tm ds (.inRegion ops []::k)) cs w)=.next (lone (mk b tm ds k) cs w):=step_lone_go (by simp [stepG,stepG.exec,mk])
theorem go_ret (hb:b.roundOf=none):step P (lone (mk b tm ds (.code .ret::k)) cs w)=.next (lone { mk b tm ds (.code .ret::k) with mode:=.returning } cs w):=step_lone_go (by simp [stepG,stepG.exec,mk,hb])
theorem go_end (hb:b.roundOf=none):step P (lone (mk b tm ds []) cs w)=.next (lone { mk b tm ds [] with mode:=.returning } cs w):=step_lone_go (by simp [stepG,stepG.exec,mk,hb])
theorem L3 {i:Nat} {rest:List Nat} {o:Oper} (ho:ops[i]? = some o) (v:Value) :
  (mk b tm ds (.inRegion ops (i::rest)::k)).finish v=mk b (c0H tm o.dst v) ds (.inRegion ops rest::k):=by
 cases hd:o.dst <;> simp [Frame.finish,mk,c0H,ho,hd]
theorem go_unwanted {i:Nat} {rest:List Nat} {o:Oper} (ho:ops[i]? = some o) (hw:Region.wanted o (yielded ops tm)=false) :
  step P (lone (mk b tm ds (.inRegion ops (i::rest)::k)) cs w)=.next (lone (mk b (c0H tm o.dst undef) ds (.inRegion ops rest::k)) cs w):=by
 rw [← L3 ho]
 exact step_lone_go (by simp only [mk];simp [stepG,stepG.exec,ho,hw])
theorem U6 {i:Nat} {rest:List Nat} {o:Oper} (ho:ops[i]? = some o) (hw:Region.wanted o (yielded ops tm)=true) (hd:b.roundOf=none∨∀ c,o.op≠.defer c) :
  stepG P true { frame:=mk b tm ds (.inRegion ops (i::rest)::k),callers:=cs,status:=.running,dying:=none } w =
   stepG.apply P true (mk b tm ds (.inRegion ops (i::rest)::k)) cs none (execOp (Act.eval ⟨tm,ds⟩) o) w:=by
 have he:=j0v b tm ds (.inRegion ops (i::rest)::k)
 simp only [mk] at he
 simp only [stepG,stepG.exec,mk,ho,hw,Option.map_some,Option.getD_some,if_true,stepG.oper,Frame.oper?,he]
 split
 ·rename_i l c h1 h2
  rcases hd with hd | hd
  ·rw [hd] at h1;cases h1
  ·exact absurd h2 (hd c)
 ·rfl
variable {i:Nat} {rest:List Nat} {o:Oper} (ho:ops[i]? = some o) (hw:Region.wanted o (yielded ops tm)=true)
include ho hw
theorem go_value {v:Value} (hd:b.roundOf=none∨∀ c,o.op≠.defer c) (hr:(execOp (Act.eval ⟨tm,ds⟩) o).run P w=.ok (.value v) w') :
  step P (lone (mk b tm ds (.inRegion ops (i::rest)::k)) cs w)=.next (lone (mk b (c0H tm o.dst v) ds (.inRegion ops rest::k)) cs w'):=by
 rw [← L3 ho]
 exact step_lone_go (by rw [U6 ho hw hd];simp [stepG.apply,hr])
theorem go_opskip (hd:b.roundOf=none∨∀ c,o.op≠.defer c) (hr:(execOp (Act.eval ⟨tm,ds⟩) o).run P w=.ok .skip w') :
  step P (lone (mk b tm ds (.inRegion ops (i::rest)::k)) cs w)=.next (lone (mk b (c0H tm o.dst undef) ds (.inRegion ops rest::k)) cs w'):=by
 rw [← L3 ho]
 exact step_lone_go (by rw [U6 ho hw hd];simp [stepG.apply,hr])
theorem go_enter {f:FuncId} {args:Array Value} (hd:b.roundOf=none∨∀ c,o.op≠.defer c) (hr:(execOp (Act.eval ⟨tm,ds⟩) o).run P w=.ok (.enter f args) w') :
  step P (lone (mk b tm ds (.inRegion ops (i::rest)::k)) cs w)=.next (lone (Frame.enter P f args .normal) (mk b tm ds (.inRegion ops (i::rest)::k)::cs) w') :=
 step_lone_go (by rw [U6 ho hw hd];simp [stepG.apply,hr,mk])
theorem go_round {l:Nat} {f:FuncId} {tmps:Array Value} {assign body:Code} (hd:b.roundOf=none∨∀ c,o.op≠.defer c) (hr:(execOp (Act.eval ⟨tm,ds⟩) o).run P w=.ok (.round l f tmps assign body) w') :
  step P (lone (mk b tm ds (.inRegion ops (i::rest)::k)) cs w)=.next (lone (Frame.round l f tmps assign body .normal) (mk b tm ds (.inRegion ops (i::rest)::k)::cs) w') :=
 step_lone_go (by rw [U6 ho hw hd];simp [stepG.apply,hr,mk])
theorem go_defer {d:Deferred} (hb:b.roundOf=none) (hr:(execOp (Act.eval ⟨tm,ds⟩) o).run P w=.ok (.defer d) w') :
  step P (lone (mk b tm ds (.inRegion ops (i::rest)::k)) cs w)=.next (lone (mk b (c0H tm o.dst undef) (d::ds) (.inRegion ops rest::k)) cs w'):=by
 rw [← L3 ho]
 exact step_lone_go (by rw [U6 ho hw (.inl hb)];simp [stepG.apply,hr,mk])
end moves
theorem go_leave {fr c:Frame} {cs:List Frame} {v:Value} {fn:Func} (hm:fr.mode=.returning) (hd:fr.defers=[]) (hk:fr.kind=.normal)
  (hf:P.funcs[fr.fn]? = some fn) (hr:(results fn fr.tmps).run P w=.ok v w):step P (lone fr (c::cs) w)=.next (lone (c.finish v) cs w) :=
 step_lone_go (by simp [stepG,unwind,doReturn,hm,hd,hk,hf,hr])
theorem c0f {o:Oper} {c:COp} {call:Call} {a:AAct} {n:AN} (ho:o.op=.defer call) (hc:comp P o=.ok c) (hr:evC P c a h=.ok (n,h')):∃ d,n=.defer d:=by
 unfold comp at hc
 rw [ho] at hc
 simp only at hc
 split at hc
 ·obtain ⟨g,hg,hc⟩:=i9 hc
  split at hc
  ·cases hc
   simp only [evC] at hr
   unfold c03 at hr
   split at hr
   ·split at hr
    ·cases hr;exact ⟨_,rfl⟩
    ·cases hr
   ·cases hr
  ·cases hc
 ·cases hc
theorem G9:Con φ d8 undef:=.tuple .nil
theorem H0 {ops:Array Oper} {o:Oper} {a:AAct} {tm:Array Value} {b:Bool} (hA:ActRel φ a tm) (hw:j4 ops o a=.ok b):Region.wanted o (yielded ops tm)=b:=by
 unfold j4 at hw
 unfold Region.wanted
 split at hw
 ·rename_i hg;cases hw;rw [hg]
 ·rename_i j want hg
  rw [hg]
  simp only [yielded]
  split at hw
  ·rename_i d hd
   rw [hd]
   have hv:=hA.val d
   simp only [Option.bind_some]
   rw [Array.getD_eq_getD_getElem?] at hv
   generalize a.val d=av at hv hw
   split at hw
   ·rename_i x;cases hw
    cases he:tm[d]? with
    | none=>rw [he] at hv;cases hv
    | some v =>
     rw [he] at hv
     simp only [Option.getD_some] at hv
     cases hv
     simp
   ·cases hw
   ·rename_i x h1 h2;cases hw
    cases he:tm[d]? with
    | none=>rfl
    | some v =>
     rw [he] at hv
     simp only [Option.getD_some] at hv
     split
     ·rename_i y hy
      cases hy
      cases hv
      ·exact absurd rfl (h1 _)
      ·exact absurd rfl (h2 _)
     ·rfl
  ·rename_i hd;cases hw
   rw [hd];rfl
theorem d0m {call:u6} (hC:R7 P B w0 call) (hY:M3 P B w0 call) {o:Oper} {a a':AAct} (he:D0 P call o a h=.ok (a',h'))
  {b:Frame} {tm:Array Value} {ds:List Deferred} (s:St P B w0 φ a h b.roundOf.isSome tm ds w) {ops:Array Oper} {i:Nat} {rest:List Nat} (ho:ops[i]? = some o)
  (hw:Region.wanted o (yielded ops tm)=true) (k:List Item) (cs:List Frame) :
  ∃ φ' tm' ds' w',Steps P (lone (mk b tm ds (.inRegion ops (i::rest)::k)) cs w) (lone (mk b tm' ds' (.inRegion ops rest::k)) cs w') ∧
   St P B w0 φ' a' h' b.roundOf.isSome tm' ds' w'∧Ext φ h φ' h':=by
 unfold D0 at he
 split at he
 ·rename_i c hc
  split at he
  ·rename_i n h1 hr
   have hs:=d0u (ds:=ds) hc hr s.glob s.act s.rel
   have hd:(∀ d,n≠.defer d)→b.roundOf=none∨∀ c,o.op≠.defer c:=fun hn=>.inr fun call e=>by
    obtain ⟨d,e⟩:=c0f e hc hr
    exact hn d e
   split at he
   ·rename_i v
    rw [i7] at he;cases he
    obtain ⟨v',w',φ',h2,h3,h4,h5⟩:=hs
    exact ⟨φ',_,ds,w',.one (go_value ho hw (hd (by simp)) h2),s.put h5.le h3 h4 _,h5⟩
   ·cases he
    obtain ⟨w',h2,h4,h5⟩:=hs
    exact ⟨φ,_,ds,w',.one (go_opskip ho hw (hd (by simp)) h2),s.put (.refl _) G9 h4 _,h5⟩
   ·rename_i d
    cases hrd:a.rd with
    | true=>rw [hrd] at he;cases he
    | false =>
     rw [hrd] at he;cases he
     obtain ⟨rfl,d',hd',h2⟩:=hs
     have hb:b.roundOf=none:=by have:=s.rd;rw [hrd] at this;cases hb:b.roundOf with
      | none=>rfl
      | some l=>rw [hb] at this;cases this
     refine ⟨φ,_,_,w,.one (go_defer ho hw hb h2),?_,.refl _ _⟩
     have s2:St P B w0 φ (⟨a.n,a.ts,d::a.ds,false⟩:AAct) h' b.roundOf.isSome tm (d'::ds) w:=⟨⟨s.act.size,s.act.val⟩,.cons hd' s.defs,s.rel,s.glob,by rw [hb];rfl⟩
     exact s2.put (.refl _) G9 s.rel _
   ·rename_i f args
    obtain ⟨rfl,args',hargs,h2⟩:=hs
    split at he
    ·rename_i v h3 hcall
     rw [i7] at he;cases he
     obtain ⟨hen,hK⟩:=hC _ _ _ _ _ hcall φ w args' hargs s.glob s.rel
     obtain ⟨v',w',fr,fn,⟨φ',c1,c2,c3⟩,hst,e1,e2,e3,e4,e5,e6⟩:=hK (mk b tm ds (.inRegion ops (i::rest)::k)::cs)
     rw [hen] at h2
     refine ⟨φ',_,ds,w',.head (go_enter ho hw (hd (by simp)) h2) (hst.trans (.one ?_)),s.put c3.le c1 c2 _,c3⟩
     rw [← L3 ho]
     exact go_leave e2 e3 e4 e5 e6
    ·cases he
   ·rename_i f args
    obtain ⟨rfl,p,args',hp,hargs,h2⟩:=hs
    split at he
    ·rename_i v h3 hcall
     rw [i7] at he;cases he
     obtain ⟨fn,tmps,assign,body,hy,hK⟩:=hY _ _ _ _ _ hcall φ w p args' hp hargs s.glob s.rel
     obtain ⟨v',φ',w',hst,c1,c2,c3⟩:=hK (mk b tm ds (.inRegion ops (i::rest)::k)) cs
     rw [hy] at h2
     refine ⟨φ',_,ds,w',.head (go_round ho hw (hd (by simp)) h2) ?_,s.put c3.le c1 c2 _,c3⟩
     rw [← L3 ho]
     exact hst
    ·cases he
  ·cases he
 ·cases he
end Go.Dr

namespace Go.Dr
open Go.RowKit
variable {P:Program} {B:Nat} {w0 w w':World} {φ:Phi} {h h':AH}
theorem e0z {call:u6} (hC:R7 P B w0 call) (hY:M3 P B w0 call) {ops:Array Oper} {b:Frame} (k:List Item) (cs:List Frame) :
  ∀ (l:List Oper) (is:List Nat) (a a':AAct) (h h':AH) (φ:Phi) (tm:Array Value) (ds:List Deferred) (w:World),is.map (ops[·]?)=l.map some→Z0 P call ops l a h=.ok (a',h') →
   St P B w0 φ a h b.roundOf.isSome tm ds w→∃ φ' tm' ds' w',Steps P (lone (mk b tm ds (.inRegion ops is::k)) cs w) (lone (mk b tm' ds' k) cs w') ∧
    St P B w0 φ' a' h' b.roundOf.isSome tm' ds' w'∧Ext φ h φ' h'
 | [],is,a,a',h,h',φ,tm,ds,w,hl,he,s=>by
  have:is=[]:=by simpa using hl
  subst this
  cases he
  exact ⟨φ,tm,ds,w,.one go_regionEnd,s,.refl _ _⟩
 | o::l,is,a,a',h,h',φ,tm,ds,w,hl,he,s=>by
  cases is with
  | nil=>simp at hl
  | cons i rest =>
   simp only [List.map_cons,List.cons.injEq] at hl
   obtain ⟨ho,hl⟩:=hl
   simp only [Z0] at he
   split at he
   ·rename_i hw
    split at he
    ·rename_i a1 h1 h2
     obtain ⟨φ1,tm1,ds1,w1,st1,s1,e1⟩:=d0m hC hY h2 s ho (H0 s.act hw) k cs (rest:=rest)
     obtain ⟨φ2,tm2,ds2,w2,st2,s2,e2⟩:=e0z hC hY k cs l rest _ _ _ _ _ _ _ _ hl he s1
     exact ⟨φ2,tm2,ds2,w2,st1.trans st2,s2,e1.trans e2⟩
    ·cases he
   ·rename_i hw
    have s1:=s.put (.refl _) G9 s.rel o.dst
    obtain ⟨φ2,tm2,ds2,w2,st2,s2,e2⟩:=e0z hC hY k cs l rest _ _ _ _ _ _ _ _ hl he s1
    exact ⟨φ2,tm2,ds2,w2,.head (go_unwanted ho (H0 s.act hw)) st2,s2,e2⟩
   ·cases he
def e0A (P:Program) (B:Nat) (w0:World) (call:u6):Prop :=
 ∀ ops a h a' h',W7 P call ops a h=.ok (a',h')→∀ φ b tm ds w,St P B w0 φ a h (Option.isSome (Frame.roundOf b)) tm ds w→∀ t k cs,
  ∃ φ' tm' ds' w',Steps P (lone (mk b tm ds (.inRegion ops (Region.linearise .any ops t)::k)) cs w) (lone (mk b tm' ds' k) cs w') ∧
   St P B w0 φ' a' h' b.roundOf.isSome tm' ds' w'∧Ext φ h φ' h'
def Arr (P:Program) (m:Machine) (b:Frame) (k:List Item) (cs:List Frame) (tm:Array Value) (ds:List Deferred) (w:World):AX→Prop
 | .normal=>Steps P m (lone (mk b tm ds k) cs w)
 | .exit id=>∃ k1,exitTo id k1=exitTo id k∧Steps P m (lone (mk b tm ds (.code (.exit id)::k1)) cs w)
 | .ret=>∃ k1,Steps P m (lone (mk b tm ds (.code .ret::k1)) cs w)
 | .goto _=>False
section
variable {m m1:Machine} {b:Frame} {k:List Item} {cs:List Frame} {tm:Array Value} {ds:List Deferred} {x:AX}
theorem Arr.of_steps (st:Steps P m m1) (r:Arr P m1 b k cs tm ds w x):Arr P m b k cs tm ds w x:=by
 cases x with
 | normal=>exact st.trans r
 | exit id=>obtain ⟨k1,e,s⟩:=r;exact ⟨k1,e,st.trans s⟩
 | ret=>obtain ⟨k1,s⟩:=r;exact ⟨k1,st.trans s⟩
 | goto l=>exact r
theorem Arr.pass {it:Item} (hx:∀ id,x=.exit id→exitTo id (it::k)=exitTo id k) (hn:x≠.normal) (r:Arr P m b (it::k) cs tm ds w x):Arr P m b k cs tm ds w x:=by
 cases x with
 | normal=>exact absurd rfl hn
 | exit id=>obtain ⟨k1,e,s⟩:=r;exact ⟨k1,e.trans (hx id rfl),s⟩
 | ret=>exact r
 | goto l=>exact r
end
def g0D (P:Program) (B:Nat) (w0:World) (f:AAct→AH→R (AX×AAct×AH)) (it:Item):Prop :=
 ∀ a h x a' h',f a h=.ok (x,a',h')→∀ φ b tm ds w,St P B w0 φ a h (Option.isSome (Frame.roundOf b)) tm ds w→∀ k cs,
  ∃ φ' tm' ds' w',Arr P (lone (mk b tm ds (it::k)) cs w) b k cs tm' ds' w' x∧St P B w0 φ' a' h' b.roundOf.isSome tm' ds' w'∧Ext φ h φ' h'
theorem f03 {f:AAct→AH→R (AX×AAct×AH)} {c:Code} (hf:g0D P B w0 f (.code c)):∀ n a h x a' h',P2 f n a h=.ok (x,a',h') →
  ∀ φ b tm ds w,St P B w0 φ a h (Option.isSome (Frame.roundOf b)) tm ds w→∀ k cs,
  ∃ φ' tm' ds' w',Arr P (lone (mk b tm ds (.code c::.inLoop c::k)) cs w) b k cs tm' ds' w' x∧St P B w0 φ' a' h' b.roundOf.isSome tm' ds' w'∧Ext φ h φ' h'
 | 0=>fun a h x a' h' he=>by cases he
 | n+1=>fun a h x a' h' he φ b tm ds w s k cs=>by
  simp only [P2] at he
  split at he
  ·rename_i a1 h1 hb
   obtain ⟨φ1,tm1,ds1,w1,r1,s1,e1⟩:=hf _ _ _ _ _ hb φ b tm ds w s (.inLoop c::k) cs
   obtain ⟨φ2,tm2,ds2,w2,r2,s2,e2⟩:=f03 hf n _ _ _ _ _ he φ1 b tm1 ds1 w1 s1 k cs
   exact ⟨φ2,tm2,ds2,w2,.of_steps (Steps.trans r1 (.one go_inLoop)) r2,s2,e1.trans e2⟩
  ·rename_i hn
   obtain ⟨φ1,tm1,ds1,w1,r1,s1,e1⟩:=hf _ _ _ _ _ he φ b tm ds w s (.inLoop c::k) cs
   refine ⟨φ1,tm1,ds1,w1,.pass (fun id _=>rfl) (fun e=>?_) r1,s1,e1⟩
   subst e
   exact hn _ _ he
theorem Rel.putObj {φ:Phi} (r:Rel B w0 φ h w) {i:Nat} {p:Pl} {o o':AObj} {O:Obj} (hi:φ i=some p) (hg:h.get i=some o) (hw:o.writable=true) (hw':o'.writable=true)
  (ho:ObjRel φ (w.putObj p.blk O) p o'):Rel B w0 φ (h.set i o') (w.putObj p.blk O):=by
 have hB:=r.own _ _ _ hi hg hw
 refine r.write hi hg hw hw' ⟨rfl,rfl,rfl,by simp [World.putObj],fun k hk=>World.putObj_heap_other (by omega)⟩ (fun k hk=>World.putObj_heap_other hk) ho
theorem ObjRel.loop_get {p:Pl} {r:ALoop} (ho:ObjRel φ w p (.loop r)):∃ r',w.heap[p.blk]? = some (.loop r')∧LoopRel φ r r':=ho
theorem Rel.putLoop {φ:Phi} (R:Rel B w0 φ h w) {i:Nat} {p:Pl} {r:ALoop} {r':Loop} (hi:φ i=some p) (hg:h.get i=some (.loop r)) (hr:LoopRel φ r r') (st:LoopState) (pd:Option Code) :
  Rel B w0 φ (h.set i (.loop { r with state:=st,pending:=pd })) (w.putObj p.blk (.loop { r' with state:=st,pending:=pd })):=by
 obtain ⟨r1,h1,h2⟩:=(R.obj _ _ _ hi hg).loop_get
 exact R.putObj hi hg rfl rfl ⟨_,World.putObj_heap_same (Array.getElem?_eq_some_iff.1 h1).1,{ hr with state:=rfl,pending:=rfl }⟩
theorem go_endLoop {b:Frame} {tm:Array Value} {ds:List Deferred} {k:List Item} {cs:List Frame} {l:Nat} {r:Loop} (hl:w.heap[l]? = some (.loop r)) (hb:r.state≠.busy) :
  step P (lone (mk b tm ds (.endRangeFunc l::k)) cs w)=.next (lone (mk b tm ds ((r.pending.map Item.code).toList++k)) cs (w.putObj l (.loop { r with state:=.exhausted }))) :=
 stepR_endRangeFunc (a:=⟨tm,ds⟩) (run_endLoop hl hb)
theorem go_rangeFunc {b:Frame} {tm:Array Value} {ds:List Deferred} {k:List Item} {cs:List Frame} {f:Operand} {params:Array Tmp} {assign body:Code} {g:FuncId} {first captured:Array Value}
  (hb:b.roundOf=none) (hf:Act.eval ⟨tm,ds⟩ f=.func (.func g) first captured) {w2:World}
  (hw2:w2=(w.alloc (.deferred (some []))).alloc (.loop { state:=.ready,pending:=none,fn:=b.fn,tmps:=tm,params,assign,body,defers:=w.heap.size }))
  (hc:(callFunc g (first++#[.func (.yield (w.heap.size+1)) #[] #[]]++captured)).run P w2=.ok (.enter g (first++#[.func (.yield (w.heap.size+1)) #[] #[]]++captured)) w2) :
  step P (lone (mk b tm ds (.code (.rangeFunc f params assign body)::k)) cs w) =
   .next (lone (Frame.enter P g (first++#[.func (.yield (w.heap.size+1)) #[] #[]]++captured) .normal)
    (mk b tm ({ target:=.collected w.heap.size,args:=#[] }::ds) (.inRangeFunc (w.heap.size+1)::k)::cs) w2):=by
 refine stepR_rangeFunc (a:=⟨tm,ds⟩) (d:={ target:=.fn (.func g) captured,args:=first++#[.func (.yield (w.heap.size+1)) #[] #[]] }) (w₁:=w2) (w₁':=w2)
  (mark:=[{ target:=.collected w.heap.size,args:=#[] }]) (l:=w.heap.size+1) ?_ ?_ ?_
 ·rw [hb,run_enterLoop_outer,hw2]
 ·simp only [resolve,hf,Deferred.ofValue,Sem.run_pure]
  simp [Act.eval]
 ·simp only [invoke]
  exact hc
theorem m0B {call:u6} (hC:R7 P B w0 call) {f:Operand} {c:CO} {params:Array Tmp} {assign body:Code} (hf:cO P f=.ok c) :
  g0D P B w0 (fun a h=>g03 call (c.ev a) params assign body a h) (.code (.rangeFunc f params assign body)):=by
 intro a h x a' h' he φ b tm ds w s k cs
 have hv:=w8 (ds:=ds) hf s.glob s.act
 simp only [g03] at he
 split at he
 ·rename_i g first captured hfv
  cases hrd:a.rd with
  | true=>rw [hrd] at he;cases he
  | false =>
   rw [hrd] at he
   simp only [cond_false,j0] at he
   have hb:b.roundOf=none:=by have:=s.rd;rw [hrd] at this;cases hb:b.roundOf with
    | none=>rfl
    | some l=>rw [hb] at this;cases this
   rw [hfv] at hv
   generalize hev:Act.eval ⟨tm,ds⟩ f=fv at hv
   cases hv with
   | @func _ _ _ first' captured' h1 h2 =>
    have R1:=s.rel.push (room:=0) (o:=.deferred (some [])) (O:=.deferred (some [])) (L2 _ _)
    have X1:=Ext.push s.rel (.deferred (some [])) ⟨w.heap.size,0,0⟩
    generalize hφ1:φ.set h.next ⟨w.heap.size,0,0⟩=φ1 at R1 X1
    have g1:φ1 h.next=some ⟨w.heap.size,0,0⟩:=by rw [← hφ1];exact Phi.set_same _ _ _
    generalize hL:({ state:=.ready,pending:=none,n:=a.n,tmps:=a.ts,params,assign,body }:ALoop)=L at he
    generalize hL':({ state:=.ready,pending:=none,fn:=b.fn,tmps:=tm,params,assign,body,defers:=w.heap.size }:Loop)=L'
    have hLR:∀ ψ:Phi,φ.le ψ→LoopRel ψ L L':=fun ψ hle=>by
     subst hL hL'
     exact ⟨rfl,rfl,rfl,rfl,rfl,s.act.size,fun i=>(s.act.val i).mono hle⟩
    have R2:=R1.push (room:=0) (o:=.loop L) (O:=.loop L') ⟨L',L2 _ _,hLR _ (X1.le.trans (Phi.le_set _ R1.fresh))⟩
    have X2:=Ext.push R1 (.loop L) ⟨(w.alloc (.deferred (some []))).heap.size,0,0⟩
    rw [World.size_alloc] at R2 X2
    rw [AH.next_push] at R2 X2
    generalize hφ2:φ1.set (h.next+1) ⟨w.heap.size+1,0,0⟩=φ2 at R2 X2
    have g2:φ2 (h.next+1)=some ⟨w.heap.size+1,0,0⟩:=by rw [← hφ2];exact Phi.set_same _ _ _
    have X:=X1.trans X2
    split at he
    ·rename_i rv h3 hcall
     have hargs:ConL φ2 (first++(.func (.yield (h.next+1)) [] []::captured)) (first'++(.func (.yield (w.heap.size+1)) #[] #[]::captured')) :=
      (h1.mono X.le).append (.cons (.yield g2) (h2.mono X.le))
     obtain ⟨hen,hK⟩:=hC _ _ _ _ _ hcall φ2 _ _ hargs (s.glob.mono X.le) R2
     have e:(⟨first'++(.func (.yield (w.heap.size+1)) #[] #[]::captured')⟩:Array Value)=⟨first'⟩++#[.func (.yield (w.heap.size+1)) #[] #[]]++⟨captured'⟩:=by simp
     rw [e] at hK hen
     obtain ⟨v',w3,fr,fn,⟨φ3,c1,R3,X3⟩,hst,e1,e2,e3,e4,e5,e6⟩:=hK (mk b tm ({ target:=.collected w.heap.size,args:=#[] }::ds) (.inRangeFunc (w.heap.size+1)::k)::cs)
     have s0:=go_rangeFunc (P:=P) (k:=k) (cs:=cs) (params:=params) (assign:=assign) (body:=body) hb hev rfl (by rw [hL'];exact hen _)
     rw [hL'] at s0
     have s1:=Steps.head s0 (hst.trans (.one (go_leave e2 e3 e4 e5 e6)))
     rw [show (mk b tm ({ target:=.collected w.heap.size,args:=#[] }::ds) (.inRangeFunc (w.heap.size+1)::k)).finish v'=mk b tm ({ target:=.collected w.heap.size,args:=#[] }::ds) (.endRangeFunc (w.heap.size+1)::k) from rfl] at s1
     split at he
     ·rename_i r hg
      have hp3:φ3 (h.next+1)=some ⟨w.heap.size+1,0,0⟩:=X3.le _ _ g2
      obtain ⟨r',hr1,hr2⟩:=(R3.obj _ _ _ hp3 hg).loop_get
      have key:r.state≠.busy→∀ x,(∀ (b:Frame) tm ds w,Steps P (lone (mk b tm ds ((r.pending.map Item.code).toList++k)) cs w) (lone (mk b tm ds ((r.pending.map Item.code).toList++k)) cs w)→Arr P (lone (mk b tm ds ((r.pending.map Item.code).toList++k)) cs w) b k cs tm ds w x) →
        ∃ φ' tm' ds' w',Arr P (lone (mk b tm ds (.code (.rangeFunc f params assign body)::k)) cs w) b k cs tm' ds' w' x ∧
         St P B w0 φ' ⟨a.n,a.ts,.collected h.next::a.ds,false⟩ (h3.set (h.next+1) (.loop { r with state:=.exhausted })) b.roundOf.isSome tm' ds' w' ∧
         Ext φ h φ' (h3.set (h.next+1) (.loop { r with state:=.exhausted })):=by
       intro hbusy x hx
       have s2:=go_endLoop (P:=P) (b:=b) (tm:=tm) (ds:={ target:=.collected w.heap.size,args:=#[] }::ds) (k:=k) (cs:=cs) hr1 (by rw [hr2.state];exact hbusy)
       rw [hr2.pending] at s2
       refine ⟨φ3,tm,_,_,.of_steps (s1.trans (.one s2)) (hx b tm _ _ (.refl _ _)),⟨?_,?_,R3.putLoop hp3 hg hr2 .exhausted r.pending,(s.glob.mono X.le).mono X3.le,by rw [hb];rfl⟩,(X.trans X3).trans (.write hp3 _)⟩
       ·exact ⟨s.act.size,fun i=>((s.act.val i).mono X.le).mono X3.le⟩
       ·exact .cons (.collected (X3.le _ _ (X2.le _ _ g1))) ((s.defs.mono X.le).mono X3.le)
      split at he
      ·cases he
      ·rename_i hbusy
       split at he
       ·rename_i hpd;cases he
        exact key hbusy .normal (fun b tm ds w st=>by rw [hpd] at st ⊢;exact st)
       ·rename_i hpd;cases he
        exact key hbusy .ret (fun b tm ds w st=>by rw [hpd] at st ⊢;exact ⟨k,st⟩)
       ·rename_i id hpd;cases he
        exact key hbusy (.exit id) (fun b tm ds w st=>by rw [hpd] at st ⊢;exact ⟨k,rfl,st⟩)
       ·cases he
     ·cases he
    ·cases he
 ·cases he
end Go.Dr

namespace Go.Dr
open Go.RowKit
variable {P:Program} {B:Nat} {w0 w w':World} {φ:Phi} {h h':AH}
theorem o9 {call:u6} {lf:Nat} (hM:P.follows .mixedOrders=true) (hC:R7 P B w0 call) (hY:M3 P B w0 call) (hD:e0A P B w0 call) :
  ∀ c:Code,g0D P B w0 (d9 P call lf c) (.code c)
 | .skip=>fun a h x a' h' he φ b tm ds w s k cs=>by cases he;exact ⟨φ,tm,ds,w,.one go_skip,s,.refl _ _⟩
 | .label _=>fun a h x a' h' he φ b tm ds w s k cs=>by cases he;exact ⟨φ,tm,ds,w,.one go_label,s,.refl _ _⟩
 | .exit id=>fun a h x a' h' he φ b tm ds w s k cs=>by cases he;exact ⟨φ,tm,ds,w,⟨k,rfl,.refl _ _⟩,s,.refl _ _⟩
 | .ret=>fun a h x a' h' he φ b tm ds w s k cs=>by cases he;exact ⟨φ,tm,ds,w,⟨k,.refl _ _⟩,s,.refl _ _⟩
 | .goto _=>fun a h x a' h' he=>by cases he
 | .refuse _=>fun a h x a' h' he=>by cases he
 | .region id ops draw=>fun a h x a' h' he φ b tm ds w s k cs=>by
  simp only [d9] at he
  cases draw with
  | true =>
   simp only [cond_true] at he
   split at he
   ·rename_i a1 h1 h2
    cases he
    obtain ⟨φ1,tm1,ds1,w1,st1,s1,e1⟩:=hD _ _ _ _ _ h2 φ b tm ds w.drew ⟨s.act,s.defs,s.rel.drew,s.glob,s.rd⟩ (w.tape w.drawn (.order b.fn id)) k cs
    refine ⟨φ1,tm1,ds1,w1,.head go_region_draw ?_,s1,e1⟩
    rw [hM]
    exact st1
   ·cases he
  | false =>
   simp only [cond_false] at he
   split at he
   ·rename_i a1 h1 h2
    cases he
    have hl:(List.range ops.size).map (ops[·]?)=ops.toList.map some:=by
     apply List.ext_getElem
     ·simp
     ·intro i h1 h2
      simp at h1
      simp [h1]
    obtain ⟨φ1,tm1,ds1,w1,st1,s1,e1⟩:=e0z hC hY k cs _ _ _ _ _ _ _ _ _ _ hl h2 s
    exact ⟨φ1,tm1,ds1,w1,.head go_region st1,s1,e1⟩
   ·cases he
 | .seq x y=>fun a h x' a' h' he φ b tm ds w s k cs=>by
  simp only [d9] at he
  split at he
  ·rename_i a1 h1 hx
   obtain ⟨φ1,tm1,ds1,w1,r1,s1,e1⟩:=o9 hM hC hY hD x _ _ _ _ _ hx φ b tm ds w s (.code y::k) cs
   obtain ⟨φ2,tm2,ds2,w2,r2,s2,e2⟩:=o9 hM hC hY hD y _ _ _ _ _ he φ1 b tm1 ds1 w1 s1 k cs
   exact ⟨φ2,tm2,ds2,w2,.of_steps (.head go_seq r1) r2,s2,e1.trans e2⟩
  ·rename_i hn
   obtain ⟨φ1,tm1,ds1,w1,r1,s1,e1⟩:=o9 hM hC hY hD x _ _ _ _ _ he φ b tm ds w s (.code y::k) cs
   refine ⟨φ1,tm1,ds1,w1,.pass (fun id _=>rfl) (fun e=>?_) (.of_steps (.one go_seq) r1),s1,e1⟩
   subst e
   exact hn _ _ he
 | .cond c x y=>fun a h x' a' h' he φ b tm ds w s k cs=>by
  simp only [d9] at he
  split at he
  ·rename_i cc hc
   have hv:=w8 (ds:=ds) hc s.glob s.act
   unfold d0K at he
   split at he
   ·rename_i hb
    rw [hb] at hv
    generalize hev:Act.eval ⟨tm,ds⟩ c=v at hv
    cases hv
    obtain ⟨φ1,tm1,ds1,w1,r1,s1,e1⟩:=o9 hM hC hY hD x _ _ _ _ _ he φ b tm ds w s k cs
    exact ⟨φ1,tm1,ds1,w1,.of_steps (.one (go_cond hev)) r1,s1,e1⟩
   ·rename_i hb
    rw [hb] at hv
    generalize hev:Act.eval ⟨tm,ds⟩ c=v at hv
    cases hv
    obtain ⟨φ1,tm1,ds1,w1,r1,s1,e1⟩:=o9 hM hC hY hD y _ _ _ _ _ he φ b tm ds w s k cs
    exact ⟨φ1,tm1,ds1,w1,.of_steps (.one (go_cond hev)) r1,s1,e1⟩
   ·cases he
  ·cases he
 | .block id c=>fun a h x' a' h' he φ b tm ds w s k cs=>by
  simp only [d9] at he
  split at he
  ·rename_i i a1 h1 hx
   obtain ⟨φ1,tm1,ds1,w1,⟨k1,hk1,r1⟩,s1,e1⟩:=o9 hM hC hY hD c _ _ _ _ _ hx φ b tm ds w s (.inBlock id::k) cs
   cases hb:Nat.beq i id with
   | true =>
    rw [hb] at he
    cases he
    have:i=id:=Nat.eq_of_beq_eq_true hb
    subst this
    exact ⟨φ1,tm1,ds1,w1,.head go_block (r1.trans (.one (go_exit (by rw [hk1];simp [exitTo])))),s1,e1⟩
   | false =>
    rw [hb] at he
    cases he
    have hne:id≠i:=fun e=>by subst e;rw [Nat.beq_refl] at hb;cases hb
    exact ⟨φ1,tm1,ds1,w1,⟨k1,by rw [hk1];simp [exitTo,hne],.head go_block r1⟩,s1,e1⟩
  ·rename_i hn
   obtain ⟨φ1,tm1,ds1,w1,r1,s1,e1⟩:=o9 hM hC hY hD c _ _ _ _ _ he φ b tm ds w s (.inBlock id::k) cs
   cases x' with
   | normal=>exact ⟨φ1,tm1,ds1,w1,.head go_block (Steps.trans r1 (.one go_inBlock)),s1,e1⟩
   | exit i=>exact absurd he (hn _ _ _)
   | ret=>exact ⟨φ1,tm1,ds1,w1,.of_steps (.one go_block) (.pass (fun id e=>by cases e) (by simp) r1),s1,e1⟩
   | goto l=>exact r1.elim
 | .loop c=>fun a h x' a' h' he φ b tm ds w s k cs=>by
  simp only [d9] at he
  obtain ⟨φ1,tm1,ds1,w1,r1,s1,e1⟩:=f03 (o9 hM hC hY hD c) lf _ _ _ _ _ he φ b tm ds w s k cs
  exact ⟨φ1,tm1,ds1,w1,.of_steps (.one go_loop) r1,s1,e1⟩
 | .scope c=>fun a h x' a' h' he φ b tm ds w s k cs=>by
  simp only [d9] at he
  split at he
  ·cases he
  ·rename_i hn
   obtain ⟨φ1,tm1,ds1,w1,r1,s1,e1⟩:=o9 hM hC hY hD c _ _ _ _ _ he φ b tm ds w s (.inScope c::k) cs
   cases x' with
   | normal=>exact ⟨φ1,tm1,ds1,w1,.head go_scope (Steps.trans r1 (.one go_inScope)),s1,e1⟩
   | exit i=>exact ⟨φ1,tm1,ds1,w1,.of_steps (.one go_scope) (.pass (fun id _=>rfl) (by simp) r1),s1,e1⟩
   | ret=>exact ⟨φ1,tm1,ds1,w1,.of_steps (.one go_scope) (.pass (fun id _=>rfl) (by simp) r1),s1,e1⟩
   | goto l=>exact r1.elim
 | .rangeFunc f params assign body=>fun a h x' a' h' he=>by
  simp only [d9] at he
  split at he
  ·rename_i cc hc
   exact m0B hC hc _ _ _ _ _ he
  ·cases he
def i0i (tm:Array Value):ResultVar→Sem Value
 | .tmp t=>pure (tm.getD t undef)
 | .cell a t=>do loadVar t (← asAddr (tm.getD a undef))
theorem Z1 {a:AAct} {tm:Array Value} (hA:ActRel φ a tm) (hR:Rel B w0 φ h w):∀ {l:List ResultVar} {vs:List AV},z7 P h a l=.ok vs →
  ∃ vs',(l.mapM (i0i tm)).run P w=.ok vs' w∧ConL φ vs vs'
 | [],vs,he=>by cases he;exact ⟨[],by simp,.nil⟩
 | .tmp t::l,vs,he=>by
  simp only [z7] at he
  split at he
  ·rename_i r hr;cases he
   obtain ⟨vs',h1,h2⟩:=Z1 hA hR hr
   refine ⟨_::vs',?_,.cons (hA.val t) h2⟩
   simp only [List.mapM_cons,Sem.run_bind,h1,i0i,Sem.run_pure,Result.andThen_ok]
  ·cases he
 | .cell p t::l,vs,he=>by
  simp only [z7] at he
  split at he
  ·rename_i id off hv
   have hc:=hA.val p
   rw [hv] at hc
   generalize hev:tm.getD p undef=v at hc
   cases hc with
   | @ptr _ _ q hp =>
    split at he
    ·rename_i n hagg hs
     split at he
     ·rename_i v r hl hr;cases he
      obtain ⟨vs',h1,h2⟩:=Z1 hA hR hr
      obtain ⟨c,c1,c2,c3⟩:=a0y hl hR hp
      refine ⟨.agg ⟨c⟩::vs',?_,.cons (.agg c3) h2⟩
      have:(i0i tm (.cell p t)).run P w=.ok (.agg ⟨c⟩) w:=by
       simp only [i0i,hev,Sem.run_bind,Sem.run_pure,Result.andThen_ok,asAddr,loadVar,a0x hagg,if_true,s8 hs,A6 c1 c2]
      simp only [List.mapM_cons,Sem.run_bind,this,Result.andThen_ok,h1,Sem.run_pure]
     ·cases he
    ·rename_i hagg
     split at he
     ·rename_i v r hl hr;cases he
      obtain ⟨vs',h1,h2⟩:=Z1 hA hR hr
      obtain ⟨c,c1,c2⟩:=i0s hl hR hp
      refine ⟨c::vs',?_,.cons c2 h2⟩
      have:(i0i tm (.cell p t)).run P w=.ok c w:=by
       simp only [i0i,hev,Sem.run_bind,Sem.run_pure,Result.andThen_ok,asAddr,loadVar,a0x hagg,Bool.false_eq_true,if_false,b0N c1]
      simp only [List.mapM_cons,Sem.run_bind,this,Result.andThen_ok,h1,Sem.run_pure]
     ·cases he
    ·cases he
  ·cases he
theorem d08 {fn:Func} {a:AAct} {tm:Array Value} {vs:List AV} (hA:ActRel φ a tm) (hR:Rel B w0 φ h w) (he:z7 P h a fn.results.toList=.ok vs) :
  ∃ v',(results fn tm).run P w=.ok v' w∧Con φ (O4 vs) v':=by
 obtain ⟨vs',h1,h2⟩:=Z1 hA hR he
 have hm:(fn.results.mapM (i0i tm)).run P w=.ok ⟨vs'⟩ w:=by
  rw [Array.mapM_eq_mapM_toList,Sem.run_map,h1];rfl
 have hres:(results fn tm).run P w=((fn.results.mapM (i0i tm)).run P w).andThen fun vs w'=>.ok (if h:vs.size=1 then vs[0] else .tuple vs) w':=by
  unfold results
  rw [Sem.run_bind]
  rfl
 rw [hres,hm,Result.andThen_ok]
 refine ⟨_,rfl,?_⟩
 cases h2 with
 | nil=>exact .tuple .nil
 | cons c t =>
  cases t with
  | nil=>exact c
  | cons c' t'=>exact .tuple (.cons c (.cons c' t'))
def lv (b:Frame) (tm:Array Value) (ds:List Deferred) (todo:List Item):Frame:={ mk b tm ds todo with mode:=.returning }
theorem go_collected {b:Frame} {tm:Array Value} {ds:List Deferred} {todo:List Item} {cs:List Frame} {r:Nat} {args:Array Value} (hg:w.heap[r]? = some (.deferred (some []))) :
  step P (lone (lv b tm ({ target:=.collected r,args }::ds) todo) cs w)=.next (lone (lv b tm ds todo) cs (w.putObj r (.deferred none))) :=
 step_lone_go (by simp [stepG,unwind,lv,mk,Sem.runT_eq,run_takeDeferred hg])
theorem go_deferred {b:Frame} {tm:Array Value} {ds:List Deferred} {todo:List Item} {cs:List Frame} {f:FuncId} {captured args:Array Value}
  (hc:(callFunc f (args++captured)).run P w=.ok (.enter f (args++captured)) w) :
  step P (lone (lv b tm ({ target:=.fn (.func f) captured,args }::ds) todo) cs w) =
   .next (lone (Frame.enter P f (args++captured) .deferred) (lv b tm ds todo::cs) w) :=
 step_lone_go (by simp [stepG,unwind,callDeferred,lv,mk,Sem.runT_eq,invoke,hc])
theorem go_leaveDeferred {fr c:Frame} {cs:List Frame} {v:Value} {fn:Func} (hm:fr.mode=.returning) (hd:fr.defers=[]) (hk:fr.kind=.deferred) (hcm:c.mode=.returning)
  (hf:P.funcs[fr.fn]? = some fn) (hr:(results fn fr.tmps).run P w=.ok v w):step P (lone fr (c::cs) w)=.next (lone c cs w) :=
 step_lone_go (by simp [stepG,unwind,doReturn,hm,hd,hk,hf,hr,hcm])
theorem a03 {call:u6} (hC:j0w P B w0 call) {b:Frame} {tm:Array Value} {todo:List Item} {cs:List Frame} :
  ∀ (l:List ADef) (h h':AH) (φ:Phi) (ds:List Deferred) (w:World),y4 call l h=.ok h'→DefsR φ l ds→Rel B w0 φ h w→GlobRel P φ →
   ∃ φ' w',Steps P (lone (lv b tm ds todo) cs w) (lone (lv b tm [] todo) cs w')∧Rel B w0 φ' h' w'∧Ext φ h φ' h'
 | [],h,h',φ,ds,w,he,hd,hR,hG=>by
  cases he;cases hd
  exact ⟨φ,w,.refl _ _,hR,.refl _ _⟩
 | d::l,h,h',φ,ds,w,he,hd,hR,hG=>by
  cases hd with
  | @cons _ d' _ ds hd1 hd2 =>
   simp only [y4] at he
   cases hd1 with
   | @collected id p hp =>
    simp only at he
    split at he
    ·rename_i hg
     have ho:w.heap[p.blk]? = some (.deferred (some [])):=hR.obj _ _ _ hp hg
     have R1:=hR.putObj (O:=.deferred none) (o':=.deferred none) hp hg rfl rfl (World.putObj_heap_same (Array.getElem?_eq_some_iff.1 ho).1)
     obtain ⟨φ2,w2,st,R2,X2⟩:=a03 hC (b:=b) (tm:=tm) (todo:=todo) (cs:=cs) l _ _ _ _ _ he hd2 R1 hG
     exact ⟨φ2,w2,.head (go_collected ho) st,R2,(Ext.write hp _).trans X2⟩
    ·cases he
   | @call f c a c' a' hc ha =>
    simp only [N4] at he
    split at he
    ·rename_i v h2 hcall
     obtain ⟨hen,hK⟩:=hC _ _ _ _ _ hcall φ w _ (ha.append hc) hG hR
     have e:(⟨a'++c'⟩:Array Value)=⟨a'⟩++⟨c'⟩:=by simp
     rw [e] at hK hen
     obtain ⟨v',w3,fr,fn,⟨φ3,c1,R3,X3⟩,hst,e1,e2,e3,e4,e5,e6⟩:=hK (lv b tm ds todo::cs)
     obtain ⟨φ2,w2,st,R2,X2⟩:=a03 hC (b:=b) (tm:=tm) (todo:=todo) (cs:=cs) l _ _ _ _ _ he (hd2.mono X3.le) R3 (hG.mono X3.le)
     exact ⟨φ2,w2,.head (go_deferred (hen _)) (hst.trans (.head (go_leaveDeferred e2 e3 e4 rfl e5 e6) st)),R2,X3.trans X2⟩
    ·cases he
end Go.Dr

namespace Go.Dr
open Go.RowKit
variable {P:Program} {B:Nat} {w0 w w':World} {φ:Phi} {h h':AH}
theorem c0Q:∀ (l:List AV) (i:Nat) (t:PT AV) (j:Nat),(laid l i t).get j=if i≤j∧j<i+l.length then l[j - i]? else t.get j
 | [],i,t,j=>by rw [if_neg (by simp only [List.length_nil];omega)];rfl
 | v::l,i,t,j=>by
  rw [laid,c0Q l (i+1) _ j,PT.get_set,List.length_cons]
  by_cases hj:j=i
  ·subst hj
   rw [if_neg (by omega),if_pos rfl,if_pos (by omega),Nat.sub_self];rfl
  ·by_cases h1:i+1≤j∧j<i+1+l.length
   ·rw [if_pos h1,if_pos (by omega),show j - i=(j - (i+1))+1 from by omega];rfl
   ·rw [if_neg h1,if_neg hj,if_neg (by omega)]
theorem g0a {args:List AV} {args':List Value} {n:Nat} {ds:List ADef} {rd:Bool} (ha:ConL φ args args') (hn:args.length≤n) :
  ActRel φ ⟨n,laid args 0 .leaf,ds,rd⟩ ((⟨args'⟩:Array Value)++Array.replicate (n - (⟨args'⟩:Array Value).size) undef):=by
 have hl:=ha.length
 refine ⟨by simp only [Array.size_append,Array.size_replicate];simp;omega,fun i=>?_⟩
 simp only [AAct.val,c0Q,Nat.zero_le,true_and,Nat.zero_add,Nat.sub_zero]
 rw [Array.getD_eq_getD_getElem?]
 by_cases hi:i<args.length
 ·rw [if_pos hi]
  have:i<(⟨args'⟩:Array Value).size:=by simp;omega
  rw [Array.getElem?_append_left this]
  obtain ⟨y,hy,hc⟩:=ha.get i args[i] (List.getElem?_eq_getElem hi)
  rw [List.getElem?_eq_getElem hi]
  simp only [List.getElem?_toArray,hy,Option.getD_some]
  exact hc
 ·rw [if_neg hi]
  have e:(PT.leaf:PT AV).get i=none:=rfl
  rw [e]
  rw [Array.getElem?_append_right (by simp;omega),Array.getElem?_replicate]
  have:(if i - (⟨args'⟩:Array Value).size<n - (⟨args'⟩:Array Value).size then some undef else none).getD undef=undef:=by split <;> rfl
  rw [this]
  exact G9
theorem a0I:∀ (ts:List Tmp) (vs:List AV) (vs':List Value) (a:AAct) (tm:Array Value),ActRel φ a tm→ConL φ vs vs' →
  ActRel φ (F6 ts vs a) ((ts.zip vs').foldl (fun tm (t,v)=>tm.setIfInBounds t v) tm)∧(F6 ts vs a).ds=a.ds∧(F6 ts vs a).rd=a.rd
 | [],vs,vs',a,tm,hA,hc=>⟨hA,rfl,rfl⟩
 | t::ts,[],vs',a,tm,hA,hc=>by cases hc;exact ⟨hA,rfl,rfl⟩
 | t::ts,v::vs,vs',a,tm,hA,hc=>by
  cases hc with
  | @cons _ v' _ vs' h1 h2 =>
   obtain ⟨i1,i2,i3⟩:=a0I ts vs vs' _ _ (hA.put (some t) h1) h2
   obtain ⟨j1,j2,_⟩:=a.put_ds (some t) v
   exact ⟨i1,by rw [F6,i2,j1],by rw [F6,i3,j2]⟩
def b0m (P:Program) (B:Nat) (w0:World) (S:FuncId→Option (List AV→AH→R (AV×AH))):Prop :=
 ∀ f g,S f=some g→∀ args h v h',g args h=.ok (v,h')→∀ φ w args',ConL φ args args'→GlobRel P φ→Rel B w0 φ h w →
  (∀ w,(callFunc f ⟨args'⟩).run P w=.ok (.enter f ⟨args'⟩) w) ∧
  CallsK P .normal f ⟨args'⟩ w (fun v' w'=>∃ φ',Con φ' v v'∧Rel B w0 φ' h' w'∧Ext φ h φ' h')
theorem e0S:b0m P B w0 (fun _=>none):=fun _ _ e=>by cases e
section
variable {S:FuncId→Option (List AV→AH→R (AV×AH))} {lf:Nat}
theorem V1 {f:FuncId} {fn:Func} {args:Array Value} (hN:∀ (f:Nat) fn,P.funcs[f]? = some fn→fn.body.isSome=true→fn.name≠"runtime.NumGoroutine")
  (hf:P.funcs[f]? = some fn) (hb:fn.body.isSome=true) (w:World):(callFunc f args).run P w=.ok (.enter f args) w:=by
 have hn:=hN f fn hf hb
 have hb':fn.body≠none:=by intro h;rw [h] at hb;cases hb
 simp [callFunc,hf,hn,hb']
theorem p0H {call dcall:u6} {kind:CallKind} (hF:j0w P B w0 dcall) (hM:P.follows .mixedOrders=true)
  (hC:R7 P B w0 call) (hY:M3 P B w0 call) (hD:e0A P B w0 call) {f:FuncId} {fn:Func} {c:Code} {args:List AV} {v:AV} (hf:P.funcs[f]? = some fn) (hb:fn.body=some c)
  (hn:args.length≤fn.ntmps) (he:D1 P dcall fn (d9 P call lf c ⟨fn.ntmps,laid args 0 .leaf,[],false⟩ h)=.ok (v,h')) {args':List Value} (ha:ConL φ args args') (hG:GlobRel P φ) (hR:Rel B w0 φ h w) :
  CallsK P kind f ⟨args'⟩ w (fun v' w'=>∃ φ',Con φ' v v'∧Rel B w0 φ' h' w'∧Ext φ h φ' h'):=by
 intro cs
 unfold D1 at he
 split at he
 ·rename_i x a1 h1 hcode
  have s0:St P B w0 φ ⟨fn.ntmps,laid args 0 .leaf,[],false⟩ h (Option.isSome (Frame.roundOf { (default:Frame) with fn:=f,kind:=kind,roundOf:=none })) _ [] w :=
   ⟨g0a ha hn,.nil,hR,hG,rfl⟩
  obtain ⟨φ1,tm1,ds1,w1,r1,s1,e1⟩:=o9 hM hC hY hD c _ _ _ _ _ hcode φ _ _ _ w s0 [] cs
  have henter:Frame.enter P f ⟨args'⟩ kind=mk { (default:Frame) with fn:=f,kind:=kind,roundOf:=none } ((⟨args'⟩:Array Value)++Array.replicate (fn.ntmps - (⟨args'⟩:Array Value).size) undef) [] [.code c]:=by
   simp [Frame.enter,mk,hf,hb]
  rw [← henter] at r1
  have key:∀ (v:AV) (h':AH),(∃ todo,Steps P (lone (Frame.enter P f ⟨args'⟩ kind) cs w) (lone (lv { (default:Frame) with fn:=f,kind:=kind,roundOf:=none } tm1 ds1 todo) cs w1)) →
    (match y4 dcall a1.ds h1 with
     | .ok h=>match z7 P h a1 fn.results.toList with
      | .ok l=>(.ok (O4 l,h):R (AV×AH))
      | .error e=>.error (fn.name++": "++e)
     | .error e=>.error (fn.name++": "++e))=.ok (v,h') →
    ∃ v' w' fr fn',(∃ φ',Con φ' v v'∧Rel B w0 φ' h' w'∧Ext φ h φ' h')∧Steps P (lone (Frame.enter P f ⟨args'⟩ kind) cs w) (lone fr cs w') ∧
     fr.fn=f∧fr.mode=.returning∧fr.defers=[]∧fr.kind=kind∧P.funcs[fr.fn]? = some fn'∧(results fn' fr.tmps).run P w'=.ok v' w':=by
   rintro v h' ⟨todo,hst⟩ he
   split at he
   ·rename_i h2 hrd
    obtain ⟨φ2,w2,st,R2,X2⟩:=a03 hF (b:={ (default:Frame) with fn:=f,kind:=kind,roundOf:=none }) (tm:=tm1) (todo:=todo) (cs:=cs) _ _ _ _ _ _ hrd s1.defs s1.rel s1.glob
    split at he
    ·rename_i l hl
     cases he
     obtain ⟨v',hv1,hv2⟩:=d08 (s1.act.mono X2.le) R2 hl
     exact ⟨v',w2,_,fn,⟨φ2,hv2,R2,e1.trans X2⟩,hst.trans st,rfl,rfl,rfl,rfl,hf,hv1⟩
    ·cases he
   ·cases he
  split at he
  ·exact key _ _ ⟨_,Steps.trans r1 (.one (go_end rfl))⟩ he
  ·obtain ⟨k1,r1⟩:=r1
   exact key _ _ ⟨_,Steps.trans r1 (.one (go_ret rfl))⟩ he
  ·cases he
 ·cases he
theorem g0b (params:Array Tmp) (args:List Value) (tm:Array Value) :
  (params.zip ⟨args⟩).foldl (fun tmps (t,a)=>tmps.setIfInBounds t a) tm=(params.toList.zip args).foldl (fun tm (t,v)=>tm.setIfInBounds t v) tm:=by
 rw [← Array.foldl_toList,Array.toList_zip]
theorem l0n {call:u6} (hM:P.follows .mixedOrders=true) (hC:R7 P B w0 call) (hY:M3 P B w0 call) (hD:e0A P B w0 call) {l:Nat} {r:ALoop} {args:List AV} {v:AV}
  (hg:h.get l=some (.loop r)) (he:b0K P call lf l r args h=.ok (v,h')) {p:Pl} {args':List Value} (hp:φ l=some p) (ha:ConL φ args args') (hG:GlobRel P φ) (hR:Rel B w0 φ h w) :
  ∃ fn tmps assign body,(Instr.yield p.blk ⟨args'⟩).run P w=.ok (.round p.blk fn tmps assign body) w ∧
   ∀ c cs,∃ v' φ' w',Steps P (lone (Frame.round p.blk fn tmps assign body .normal) (c::cs) w) (lone (c.finish v') cs w')∧Con φ' v v'∧Rel B w0 φ' h' w'∧Ext φ h φ' h':=by
 obtain ⟨r',hr1,hr2⟩:=(hR.obj _ _ _ hp hg).loop_get
 unfold b0K at he
 cases hlen:Nat.beq args.length r.params.size with
 | false=>rw [hlen] at he;cases he
 | true =>
  rw [hlen] at he
  simp only [cond_true] at he
  have hlen:=Nat.eq_of_beq_eq_true hlen
  have hsz:(⟨args'⟩:Array Value).size=r'.params.size:=by rw [hr2.params,← hlen,ha.length];rfl
  refine ⟨_,_,_,_,run_yield hr1 hsz,fun c cs=>?_⟩
  rw [g0b,hr2.params,hr2.assign,hr2.body]
  have hA0:ActRel φ ⟨r.n,r.tmps,[],true⟩ r'.tmps:=⟨hr2.size,fun i=>hr2.tmps i⟩
  obtain ⟨hA1,hds,hrd⟩:=a0I r.params.toList args args' _ _ hA0 ha
  generalize hb:({ (default:Frame) with fn:=r'.fn,kind:=.normal,roundOf:=some p.blk }:Frame)=b
  have s0:St P B w0 φ (F6 r.params.toList args ⟨r.n,r.tmps,[],true⟩) h b.roundOf.isSome _ [] w:=⟨hA1,by rw [hds];exact .nil,hR,hG,by rw [hrd];subst hb;rfl⟩
  generalize (List.foldl (fun tm (x:Tmp×Value)=>tm.setIfInBounds x.fst x.snd) r'.tmps (r.params.toList.zip args'))=tm0 at *
  have hround:Frame.round p.blk r'.fn tm0 r.assign r.body .normal=mk b tm0 [] (.code r.assign::[.beginRound,.code r.body]):=by subst hb;rfl
  split at he
  ·rename_i a1 h1 hassign
   obtain ⟨φ1,tm1,ds1,w1,r1,s1,e1⟩:=o9 hM hC hY hD _ _ _ _ _ _ hassign φ b tm0 [] w s0 [.beginRound,.code r.body] (c::cs)
   rw [← hround] at r1
   have hp1:=e1.le _ _ hp
   split at he
   ·rename_i q hg1
    obtain ⟨q',hq1,hq2⟩:=(s1.rel.obj _ _ _ hp1 hg1).loop_get
    split at he
    ·rename_i hst
     have hbr:b.roundOf=some p.blk:=by subst hb;rfl
     have hbk:b.kind=.normal:=by subst hb;rfl
     have st2:step P (lone (mk b tm1 ds1 [.beginRound,.code r.body]) (c::cs) w1)=.next (lone (mk b tm1 ds1 [.code r.body]) (c::cs) (w1.putObj p.blk (.loop { q' with state:=.busy }))) :=
      stepR_beginRound (a:=⟨tm1,ds1⟩) hbr (run_beginRound hq1 (by rw [hq2.state];exact hst))
     have hpe:q'.pending=q.pending:=hq2.pending
     have R2:Rel B w0 φ1 (h1.set l (.loop { q with state:=.busy })) (w1.putObj p.blk (.loop { q' with state:=.busy })):=by
      have:=s1.rel.putLoop hp1 hg1 hq2 .busy q.pending
      rw [show ({ q' with state:=.busy,pending:=q.pending }:Loop)={ q' with state:=.busy } from by rw [← hpe]] at this
      exact this
     have X2:Ext φ1 h1 φ1 (h1.set l (.loop { q with state:=.busy })):=.write hp1 _
     have s2:St P B w0 φ1 a1 (h1.set l (.loop { q with state:=.busy })) b.roundOf.isSome tm1 ds1 (w1.putObj p.blk (.loop { q' with state:=.busy })):=⟨s1.act,s1.defs,R2,s1.glob,s1.rd⟩
     have st3:=Steps.trans r1 (.one st2)
     generalize hres:d9 P call lf r.body a1 (h1.set l (.loop { q with state:=.busy }))=res at he
     unfold a0u at he
     split at he
     ·rename_i x a2 h2
      split at he
      ·split at he
       ·rename_i z hg2
        obtain ⟨φ3,tm3,ds3,w3,r3,s3,e3⟩:=o9 hM hC hY hD _ _ _ _ _ _ hres φ1 b tm1 ds1 _ s2 [] (c::cs)
        have hp3:=e3.le _ _ hp1
        obtain ⟨z',hz1,hz2⟩:=(s3.rel.obj _ _ _ hp3 hg2).loop_get
        have X:=e1.trans (X2.trans e3)
        split at he
        ·cases he
         refine ⟨.bool true,φ3,_,st3.trans (Steps.trans r3 (.one (stepR_round_end (a:=⟨tm3,ds3⟩) hbr hbk (run_endRound none hz1)))),.bool true,s3.rel.putLoop hp3 hg2 hz2 .ready none,X.trans (.write hp3 _)⟩
        ·cases he
         obtain ⟨k1,r3⟩:=r3
         refine ⟨.bool false,φ3,_,st3.trans (Steps.trans r3 (.one (stepR_round_ret (a:=⟨tm3,ds3⟩) hbr hbk (run_endRound (some .ret) hz1)))),.bool false,s3.rel.putLoop hp3 hg2 hz2 .done (some .ret),X.trans (.write hp3 _)⟩
        ·rename_i id;cases he
         obtain ⟨k1,hk1,r3⟩:=r3
         refine ⟨.bool false,φ3,_,st3.trans (Steps.trans r3 (.one (stepR_round_exit (a:=⟨tm3,ds3⟩) hbr hbk (by rw [hk1];rfl) (run_endRound (some (.exit id)) hz1)))),.bool false,s3.rel.putLoop hp3 hg2 hz2 .done (some (.exit id)),X.trans (.write hp3 _)⟩
        ·cases he
       ·cases he
      ·cases he
     ·cases he
    ·cases he
   ·cases he
  ·cases he
  ·cases he
theorem g0c (hM:P.follows .mixedOrders=true) (hN:∀ (f:Nat) fn,P.funcs[f]? = some fn→fn.body.isSome=true→fn.name≠"runtime.NumGoroutine") (hS:b0m P B w0 S)
  (hD:∀ call,R7 P B w0 call→M3 P B w0 call→e0A P B w0 call):∀ n,R7 P B w0 (t6 P S lf n)∧M3 P B w0 (t6 P S lf n)∧j0w P B w0 (a0v S (t6 P S lf n))
 | 0=>⟨fun f args h v h' e=>(by cases e),fun l args h v h' e=>(by cases e),fun f args h v h' e=>(by unfold a0v at e;simp only at e;split at e <;> cases e)⟩
 | n+1=>by
  obtain ⟨hC,hY,hF⟩:=g0c hM hN hS hD n
  have hDr:=hD _ hC hY
  have body:∀ (kind:CallKind) (f:FuncId) args h v h',S f=none→t6 P S lf (n+1) (.fn f) args h=.ok (v,h')→∀ φ w args',ConL φ args args'→GlobRel P φ→Rel B w0 φ h w →
    (∀ w,(callFunc f ⟨args'⟩).run P w=.ok (.enter f ⟨args'⟩) w)∧CallsK P kind f ⟨args'⟩ w (fun v' w'=>∃ φ',Con φ' v v'∧Rel B w0 φ' h' w'∧Ext φ h φ' h'):=by
   intro kind f args h v h' hs e φ w args' ha hG hR
   unfold t6 at e
   rw [hs] at e
   simp only at e
   split at e
   ·rename_i fn hf
    split at e
    ·rename_i c hb
     cases hle:Nat.ble args.length fn.ntmps with
     | false=>rw [hle] at e;cases e
     | true =>
      rw [hle] at e
      simp only [cond_true] at e
      exact ⟨fun w=>V1 hN hf (by rw [hb];rfl) w,p0H hF hM hC hY hDr hf hb (Nat.le_of_ble_eq_true hle) e ha hG hR⟩
    ·cases e
   ·cases e
  refine ⟨fun f args h v h' e φ w args' ha hG hR=>?_,fun l args h v h' e φ w p args' hp ha hG hR=>?_,fun f args h v h' e φ w args' ha hG hR=>?_⟩
  ·cases hs:S f with
   | some g =>
    unfold t6 at e
    rw [hs] at e
    exact hS _ _ hs _ _ _ _ e _ _ _ ha hG hR
   | none=>exact body _ _ _ _ _ _ hs e _ _ _ ha hG hR
  ·unfold t6 at e
   split at e
   ·rename_i r hg
    exact l0n hM hC hY hDr hg e hp ha hG hR
   ·cases e
  ·unfold a0v at e
   simp only at e
   split at e
   ·cases e
   ·rename_i hs
    exact body _ _ _ _ _ _ hs e _ _ _ ha hG hR
end
end Go.Dr

namespace Go.Dr
open Go.RowKit
variable {P:Program} {B:Nat} {w0 w w':World} {φ φ':Phi} {h h':AH}
theorem Phi.le.same (hle:φ.le φ') {i:Nat} {p q:Pl} (h:φ i=some p) (h':φ' i=some q):φ i=some q:=by
 have:=hle _ _ h;rw [this] at h';cases h';exact h
mutual
theorem Con.back (hle:φ.le φ'):∀ {x:AV} {y y':Value},Con φ x y'→Con φ' x y→Con φ x y
 | _,_,_,.bool b,h=>by cases h;exact .bool _
 | _,_,_,.int k n,h=>by cases h;exact .int _ _
 | _,_,_,.str s,h=>by cases h;exact .str _
 | _,_,_,.nilp,h=>by cases h;exact .nilp
 | _,_,_,.ptr h1,h=>by cases h with | ptr h2=>exact .ptr (hle.same h1 h2)
 | _,_,_,.nils,h=>by cases h;exact .nils
 | _,_,_,.slice h1 _ _ _ _,h=>by cases h with | slice h2 a b c d=>exact .slice (hle.same h1 h2) a b c d
 | _,_,_,.nilm,h=>by cases h;exact .nilm
 | _,_,_,.map h1,h=>by cases h with | map h2=>exact .map (hle.same h1 h2)
 | _,_,_,.nilf,h=>by cases h;exact .nilf
 | _,_,_,.func ha hb,h=>by cases h with | func h1 h2=>exact .func (ha.back hle h1) (hb.back hle h2)
 | _,_,_,.yield h1,h=>by cases h with | yield h2=>exact .yield (hle.same h1 h2)
 | _,_,_,.nili,h=>by cases h;exact .nili
 | _,_,_,.iface h1,h=>by cases h with | iface h2=>exact .iface (h1.back hle h2)
 | _,_,_,.agg h1,h=>by cases h with | agg h2=>exact .agg (h1.back hle h2)
 | _,_,_,.tuple h1,h=>by cases h with | tuple h2=>exact .tuple (h1.back hle h2)
 | _,_,_,.raw h1 e1,h=>by cases h with | raw h2 e2=>exact .raw h2 (by rw [← hle.raw];exact e2)
theorem ConL.back (hle:φ.le φ'):∀ {x:List AV} {y y':List Value},ConL φ x y'→ConL φ' x y→ConL φ x y
 | _,_,_,.nil,h=>by cases h;exact .nil
 | _,_,_,.cons h1 h2,h=>by cases h with | cons h3 h4=>exact .cons (h1.back hle h3) (h2.back hle h4)
end
theorem ConE.back (hle:φ.le φ'):∀ {x:List AEntry} {y y':List MapEntry},ConE φ x y'→ConE φ' x y→ConE φ x y
 | _,_,_,.nil,h=>by cases h;exact .nil
 | _,_,_,.cons h1 h2 h3 h4,h=>by
  cases h with | cons g1 g2 g3 g4=>exact .cons (h1.back hle g1) (h2.back hle g2) g3 (ConE.back hle h4 g4)
theorem ObjRel.back (hle:φ.le φ') {p:Pl} {o:AObj} (h:ObjRel φ w p o) (h':ObjRel φ' w' p o):ObjRel φ w' p o:=by
 cases o with
 | cells vs ro =>
  obtain ⟨c,e,lo,hi,h1,h2,h3,h4,h5⟩:=h
  obtain ⟨c',e',lo',hi',g1,g2,g3,g4,g5⟩:=h'
  refine ⟨c',e',lo',hi',g1,g2,g3,fun i x hx=>?_,g5⟩
  obtain ⟨y,_,hy⟩:=h4 i x hx
  obtain ⟨z,hz,hc⟩:=g4 i x hx
  exact ⟨z,hz,hy.back hle hc⟩
 | map l clock =>
  obtain ⟨es,h1,h2⟩:=h
  obtain ⟨es',g1,g2⟩:=h'
  exact ⟨es',g1,h2.back hle g2⟩
 | loop r =>
  obtain ⟨r1,h1,h2⟩:=h
  obtain ⟨r2,g1,g2⟩:=h'
  exact ⟨r2,g1,{ g2 with tmps:=fun i=>(h2.tmps i).back hle (g2.tmps i) }⟩
 | deferred ds =>
  cases ds with
  | none=>exact h'
  | some l=>cases l <;> exact h'
 | siter s pos=>exact h'
 | miter m since seen stepped =>
  obtain ⟨h0,m1,h1,h2⟩:=h
  obtain ⟨g0,m2,g1,g2⟩:=h'
  refine ⟨g0,m2,g1,?_⟩
  cases m with
  | none=>exact g2
  | some id =>
   obtain ⟨q,hq,hm⟩:=h2
   obtain ⟨q',hq',hm'⟩:=g2
   exact ⟨q',hle.same hq hq',hm'⟩
def Fresh (φ:Phi) (o:AObj):Prop:=o=.map [] 0∨∃ l vs,o=.cells l false∧ConL φ l vs
theorem Fresh.back (hle:φ.le φ') {p:Pl} {o:AObj} (hf:Fresh φ o) (h':ObjRel φ' w' p o):ObjRel φ w' p o:=by
 rcases hf with rfl | ⟨l,vs,rfl,hl⟩
 ·obtain ⟨es',g1,g2⟩:=h'
  cases g2
  exact ⟨_,g1,.nil⟩
 ·obtain ⟨c',e',lo',hi',g1,g2,g3,g4,g5⟩:=h'
  refine ⟨c',e',lo',hi',g1,g2,g3,fun i x hx=>?_,g5⟩
  obtain ⟨y,_,hy⟩:=hl.get i x hx
  obtain ⟨z,hz,hc⟩:=g4 i x hx
  exact ⟨z,hz,hy.back hle hc⟩
def Shape (mkv:Nat→AV):Prop:=(mkv=fun i=>.ptr i 0)∨(mkv=fun i=>.map i)∨∃ len cap x es,mkv=fun i=>.slice i 0 len cap x es
theorem Shape.laid {mkv:Nat→AV} (hs:Shape mkv) {i:Nat} {v:Value} (h:Con φ (mkv i) v):∃ p,φ i=some p:=by
 rcases hs with rfl | rfl | ⟨len,cap,x,es,rfl⟩
 ·cases h with | ptr h=>exact ⟨_,h⟩
 ·cases h with | map h=>exact ⟨_,h⟩
 ·cases h with | slice h _ _ _ _=>exact ⟨_,h⟩
theorem Shape.move {mkv:Nat→AV} (hs:Shape mkv) {i j:Nat} {v:Value} {p:Pl} (h:Con φ (mkv i) v) (hi:φ i=some p) {ψ:Phi} (hj:ψ j=some p):Con ψ (mkv j) v:=by
 rcases hs with rfl | rfl | ⟨len,cap,x,es,rfl⟩
 ·cases h with | ptr h=>rw [hi] at h;cases h;exact .ptr hj
 ·cases h with | map h=>rw [hi] at h;cases h;exact .map hj
 ·cases h with | slice h a b c d=>rw [hi] at h;cases h;exact .slice hj a b c d
theorem n07 {mkv:Nat→AV} {O:AObj} {v':Value} {id:Nat} (hs:Shape mkv) (hf:Fresh φ O) (R:Rel B w0 φ h w) (R':Rel B w0 φ' (h.push O) w') (X:Ext φ h φ' (h.push O)) (hv:Con φ' (mkv h.next) v')
  (hid:φ id=none) (hlt:id<h.next) (hget:h.get id=some O):∃ p,Con (φ.set id p) (mkv id) v'∧Rel B w0 (φ.set id p) h w':=by
 obtain ⟨p,hp⟩:=hs.laid hv
 have hgn:(h.push O).get h.next=some O:=by rw [AH.get_push,if_pos rfl]
 have hO:ObjRel φ w' p O:=hf.back X.le (R'.obj _ _ _ hp hgn)
 have hold:∀ j q oj,φ j=some q→h.get j=some oj→φ' j=some q∧(h.push O).get j=some oj∧j≠h.next:=by
  intro j q oj e1 e2
  have hj:=R.lt _ _ e1
  exact ⟨X.le _ _ e1,by rw [AH.get_push,if_neg (Nat.ne_of_lt hj)];exact e2,Nat.ne_of_lt hj⟩
 have Rw:Rel B w0 φ h w':=by
  refine ⟨R.lt,fun i q o e e'=>?_,R.own,R.inj,R'.below,R.base⟩
  obtain ⟨a,b,_⟩:=hold i q o e e'
  exact (R.obj _ _ _ e e').back X.le (R'.obj _ _ _ a b)
 refine ⟨p,hs.move hv hp (Phi.set_same _ _ _),Rw.lay hlt hid hget (hO.mono (Phi.le_set _ hid)) (fun hw=>R'.own _ _ _ hp hgn hw) fun j q oj e1 e2 hw=>?_⟩
 obtain ⟨a,b,c⟩:=hold j q oj e1 e2
 exact R'.inj _ _ _ _ _ _ c a hp b hgn hw.symm
end Go.Dr

namespace Go.Dr
open Go.RowKit
variable {P:Program} {B:Nat} {w0 w w':World} {φ φ':Phi} {h h':AH} {a a':AAct}
theorem CO.ev_congr {x:CO} (hx:∀ t ∈ x.reads,a.val t=a'.val t):x.ev a=x.ev a':=by
 cases x with
 | t i=>exact hx i (by simp [CO.reads])
 | c v=>rfl
theorem b05:∀ {l:List CO},(∀ t ∈ d0J l,a.val t=a'.val t)→evL a l=evL a' l
 | [],_=>rfl
 | x::l,hx=>by
  simp only [d0J,List.mem_append] at hx
  rw [evL,evL,CO.ev_congr fun t ht=>hx t (.inl ht),b05 fun t ht=>hx t (.inr ht)]
theorem P3 {x:Option CO} (hx:∀ t ∈ c0v x,a.val t=a'.val t):b0D a x=b0D a' x:=by
 cases x with
 | none=>rfl
 | some x=>simp only [b0D];rw [CO.ev_congr hx]
theorem e0a:∀ {pl:List (Nat×Nat×CO)} {z:List AV},(∀ t ∈ g01 pl,a.val t=a'.val t)→b0a a z pl=b0a a' z pl
 | [],_,_=>rfl
 | (o,s,x)::pl,z,hx=>by
  simp only [g01,List.mem_append] at hx
  simp only [b0a]
  rw [CO.ev_congr fun t ht=>hx t (.inl ht)]
  simp only [e0a (pl:=pl) fun t ht=>hx t (.inr ht)]
theorem k0R {c:COp} (hx:∀ t ∈ c.reads,a.val t=a'.val t):evC P c a h=evC P c a' h:=by
 cases c <;> simp only [COp.reads,List.mem_append] at hx <;> simp only [evC,a01,E7] <;>
  first
   | rfl
   | rw [CO.ev_congr hx]
   | rw [P3 hx]
   | rw [e0a hx]
   | rw [CO.ev_congr fun t ht=>hx t (.inl ht),CO.ev_congr fun t ht=>hx t (.inr ht)]
   | rw [CO.ev_congr fun t ht=>hx t (.inl ht),b05 fun t ht=>hx t (.inr ht)]
   | rw [b05 fun t ht=>hx t (.inl ht),b05 fun t ht=>hx t (.inr ht)]
   | rw [CO.ev_congr fun t ht=>hx t (.inl ht),CO.ev_congr fun t ht=>hx t (.inr (.inl ht)),CO.ev_congr fun t ht=>hx t (.inr (.inr ht))]
   | rw [CO.ev_congr fun t ht=>hx t (.inl ht),P3 fun t ht=>hx t (.inr (.inl ht)),P3 fun t ht=>hx t (.inr (.inr ht))]
   | rw [CO.ev_congr fun t ht=>hx t (.inl ht),P3 fun t ht=>hx t (.inr (.inl ht)),P3 fun t ht=>hx t (.inr (.inr (.inl ht))),P3 fun t ht=>hx t (.inr (.inr (.inr ht)))]
theorem j0p {r:R AV} {n:AN} (hr:d5 h r=.ok (n,h')):∃ v,n=.value v∧h'=h∧∀ H,d5 H r=.ok (.value v,H):=by
 obtain ⟨v,h1,h2,h3⟩:=b0O hr
 exact ⟨v,h2,h3,fun H=>by rw [h1];rfl⟩
theorem N9 {v:AV} {n:AN} (hr:okV v h=.ok (n,h')):∃ v',n=.value v'∧h'=h∧∀ H,okV v H=.ok (.value v',H):=by
 cases hr;exact ⟨_,rfl,rfl,fun _=>rfl⟩
theorem f0S {x:AV} {n:AN} (hr:B3 x h=.ok (n,h')):∃ v',n=.value v'∧h'=h∧∀ H,B3 x H=.ok (.value v',H):=by
 unfold B3 at hr ⊢
 split at hr
 ·exact N9 hr
 ·exact N9 hr
 ·exact N9 hr
 ·split at hr
  ·exact N9 hr
  ·exact N9 hr
  ·cases hr
 ·cases hr
theorem j0O {c:COp} {n:AN} (hk:c.kind=.pure) (hr:evC P c a h=.ok (n,h')):∃ v,n=.value v∧h'=h∧∀ H,evC P c a H=.ok (.value v,H):=by
 cases c <;> simp only [COp.kind] at hk <;> simp only [evC] at hr ⊢ <;>
  first
   | exact j0p hr
   | exact N9 hr
   | exact f0S hr
   | (cases hk;done)
   | skip
 rename_i cv x
 cases cv <;> simp only [B6] at hr ⊢ <;> first | (cases hk;done) | skip
 ·split at hr
  ·exact N9 hr
  ·cases hr
 ·split at hr
  ·exact N9 hr
  ·exact N9 hr
  ·cases hr
theorem f0x {r:R AV} {n:AN} (hr:d5 h r=.ok (n,h')):∃ v,n=.value v∧h'=h:=by
 obtain ⟨v,_,h2,h3⟩:=b0O hr
 exact ⟨v,h2,h3⟩
theorem f0y {v:AV} {n:AN} (hr:okV v h=.ok (n,h')):∃ v',n=.value v'∧h'=h:=by
 cases hr;exact ⟨_,rfl,rfl⟩
theorem h0i {c:COp} {n:AN} (hk:c.kind=.read) (hr:evC P c a h=.ok (n,h')):∃ v,n=.value v∧h'=h:=by
 cases c <;> simp only [COp.kind] at hk <;> simp only [evC] at hr ⊢ <;>
  first
   | exact f0x hr
   | (cases hk;done)
   | skip
 ·rename_i x
  unfold Y9 at hr
  split at hr
  ·exact f0x hr
  ·cases hr
 ·unfold B4 at hr
  split at hr
  ·split at hr
   ·exact f0y hr
   ·cases hr
  ·cases hr
 ·rename_i cv x
  cases cv <;> simp only [B6] at hr ⊢ <;> first | (cases hk;done) | skip
  split at hr
  ·exact f0y hr
  ·split at hr
   ·split at hr
    ·split at hr
     ·exact f0y hr
     ·cases hr
    ·cases hr
   ·cases hr
  ·cases hr
theorem f0T {o:Oper} {c:COp} (hk:T5 o c=.alloc):c.kind=.alloc∧U1 o.op=true:=by
 unfold T5 at hk
 split at hk
 ·rename_i e
  cases hb:U1 o.op with
  | true=>exact ⟨e,rfl⟩
  | false=>rw [hb] at hk;cases hk
 ·rename_i hn;exact absurd hk hn
theorem d0h {o:Oper} {c:COp} (hk:T5 o c=.pure):c.kind=.pure:=by
 unfold T5 at hk
 split at hk
 ·cases hb:U1 o.op <;> rw [hb] at hk <;> cases hk
 ·exact hk
theorem a06 {o:Oper} {c:COp} (hk:T5 o c=.read):c.kind=.read:=by
 unfold T5 at hk
 split at hk
 ·cases hb:U1 o.op <;> rw [hb] at hk <;> cases hk
 ·exact hk
def m0q (P:Program) (c:COp) (a:AAct) (h:AH) (n:AN) (h':AH):Prop :=
 ∃ mkv O,Shape mkv∧n=.value (mkv h.next)∧h'=h.push O∧(∀ φ tm,GlobRel P φ→ActRel φ a tm→Fresh φ O)∧∀ H,evC P c a H=.ok (.value (mkv H.next),H.push O)
theorem i0x {o:Oper} {c:COp} {n:AN} (hc:comp P o=.ok c) (hk:T5 o c=.alloc) (hr:evC P c a h=.ok (n,h')) :
  m0q P c a h n h':=by
 obtain ⟨hk,ho⟩:=f0T hk
 unfold U1 at ho
 split at ho
 ·rename_i e hop
  simp only [comp,hop] at hc
  split at hc
  ·rename_i z hz;cases hc
   simp only [evC,O3] at hr ⊢
   cases hr
   obtain ⟨z',_,hz2⟩:=I8 (P:=P) (w:=default) hz
   exact ⟨_,_,.inl rfl,rfl,rfl,fun φ tm hG hA=>.inr ⟨_,_,rfl,(hz2 φ).cells⟩,fun H=>rfl⟩
  ·cases hc
 ·rename_i e x hop
  simp only [comp,hop] at hc
  obtain ⟨ca,ha,hc⟩:=i9 hc
  cases hc
  simp only [evC,O3] at hr ⊢
  cases hr
  exact ⟨_,_,.inl rfl,rfl,rfl,fun φ tm hG hA=>.inr ⟨_,_,rfl,(w8 (ds:=[]) ha hG hA).cells⟩,fun H=>rfl⟩
 ·rename_i t len parts hop
  simp only [comp,hop] at hc
  split at hc
  ·rename_i e ht
   split at hc
   ·rename_i es z hs hz
    split at hc
    ·cases hc
    ·rename_i hne
     split at hc
     ·rename_i l hl;cases hc
      simp only [evC,E7] at hr ⊢
      split at hr
      ·rename_i q hq;cases hr
       obtain ⟨z',hz1,hz2⟩:=I8 (P:=P) (w:=default) hz
       refine ⟨fun i=>.slice i 0 len len true es,_,.inr (.inr ⟨_,_,_,_,rfl⟩),rfl,rfl,fun φ tm hG hA=>?_,fun H=>by simp only [evC,E7];rw [hq];rfl⟩
       have hcz:=a0i (φ:=φ) (hz2 φ).cells (Decidable.byContradiction fun e=>hne (.inr (.inr e))) (by have:=fun e=>hne (.inr (.inl e));omega) len
       obtain ⟨l',g1,g2⟩:=b0o (ds:=[]) hG hA hl hq hcz
       exact .inr ⟨_,_,rfl,g2⟩
      ·cases hr
     ·cases hc
   ·cases hc
  ·cases hc
 ·rename_i t r hop
  simp only [comp,hop] at hc
  split at hc
  ·rename_i r' ht hr';cases hc
   simp only [evC] at hr
   unfold c0d at hr
   split at hr
   ·rename_i hv;cases hr;exact ⟨_,_,.inr (.inl rfl),rfl,rfl,fun _ _ _ _=>.inl rfl,fun H=>by simp only [evC,c0d,hv];rfl⟩
   ·rename_i hv;cases hr;exact ⟨_,_,.inr (.inl rfl),rfl,rfl,fun _ _ _ _=>.inl rfl,fun H=>by simp only [evC,c0d,hv];rfl⟩
   ·cases hr
  ·cases hc
 ·rename_i t l k hop
  simp only [comp,hop] at hc
  obtain ⟨ca,cb,ha,hb,hc⟩:=D9 hc
  split at hc
  ·rename_i e ht
   split at hc
   ·rename_i es bytes z hs hby hz
    split at hc
    ·cases hc
    ·rename_i hne;cases hc
     simp only [evC] at hr
     unfold d05 at hr
     split at hr
     ·rename_i hv1 hv2
      split at hr
      ·rename_i hcond;cases hr
       obtain ⟨z',hz1,hz2⟩:=I8 (P:=P) (w:=default) hz
       have hcz:=fun φ n=>a0i (φ:=φ) (hz2 φ).cells (Decidable.byContradiction fun e=>hne (.inr e)) (by have:=fun e=>hne (.inl e);omega) n
       exact ⟨fun i=>.slice i 0 _ _ true es,_,.inr (.inr ⟨_,_,_,_,rfl⟩),rfl,rfl,fun φ _ _ _=>.inr ⟨_,_,rfl,hcz φ _⟩,fun H=>by simp only [evC,d05,hv1,hv2];rw [if_pos hcond];rfl⟩
      ·cases hr
     ·cases hr
   ·cases hc
  ·cases hc
 ·rename_i s d x hop
  simp only [comp,hop] at hc
  obtain ⟨ca,ha,hc⟩:=i9 hc
  have key:∀ cv,c=.conv cv ca→m0q P c a h n h':=by
   rintro cv rfl
   cases cv with
   | bytes =>
    simp only [evC,B6] at hr
    split at hr
    ·rename_i hv;cases hr
     exact ⟨fun i=>.slice i 0 _ _ false 1,_,.inr (.inr ⟨_,_,_,_,rfl⟩),rfl,rfl,fun _ _ _ _=>.inr ⟨_,_,rfl,L7 _⟩,fun H=>by simp only [evC,B6,hv];rfl⟩
    ·cases hr
   | runes =>
    simp only [evC,B6] at hr
    split at hr
    ·rename_i hv
     split at hr
     ·rename_i hle
      simp only [j0] at hr
      cases hr
      refine ⟨fun i=>.slice i 0 _ _ false 1,_,.inr (.inr ⟨_,_,_,_,rfl⟩),rfl,rfl,fun φ _ _ _=>?_,fun H=>by simp only [evC,B6,hv,if_pos hle,j0];rfl⟩
      obtain ⟨vs,_,e2⟩:=b0r (φ:=φ) _ _ _ #[]
      exact .inr ⟨_,_,rfl,e2⟩
     ·cases hr
    ·cases hr
   | int k=>cases hk
   | str=>cases hk
   | strB=>cases hk
  split at hc
  ·cases hc;exact key _ rfl
  ·split at hc
   ·split at hc
    ·cases hc;exact key _ rfl
    ·cases hc
   ·cases hc;exact key _ rfl
   ·cases hc;exact key _ rfl
   ·cases hc
  ·split at hc
   ·cases hc;exact key _ rfl
   ·cases hc;exact key _ rfl
   ·cases hc
  ·cases hc
 ·cases ho
end Go.Dr

namespace Go.Dr
open Go.RowKit
variable {P:Program} {call:u6} {ops:Array Oper} {W:Nat}
theorem d0d (m i:Nat):x7 m i=m.testBit i:=by
 unfold x7 Nat.testBit
 have e:Nat.land (Nat.shiftRight m i) 1=(m >>> i)%2:=Nat.and_one_is_mod _
 have e2:(1 &&& m >>> i)=(m >>> i)%2:=by rw [Nat.and_comm];exact Nat.and_one_is_mod _
 rw [e,e2]
 rcases Nat.mod_two_eq_zero_or_one (m >>> i) with h | h <;> rw [h] <;> rfl
theorem b03 (i:Nat):x7 0 i=false:=by rw [d0d];simp
theorem C6 (a b i:Nat):x7 (Nat.lor a b) i=(x7 a i||x7 b i):=by
 rw [d0d,d0d,d0d];exact Nat.testBit_or a b i
theorem W8 (i j:Nat):x7 (f0O i) j=true↔i=j:=by
 rw [d0d]
 have:f0O i=2 ^ i:=by show 1 <<< i=_;rw [Nat.one_shiftLeft]
 rw [this,Nat.testBit_two_pow];simp
theorem i0p {a b i:Nat} (hs:k0x a b=true) (hi:x7 a i=true):x7 b i=true:=by
 have:=Nat.eq_of_beq_eq_true hs
 rw [← this,C6,hi];rfl
theorem g0w {d:Option Tmp} {t:Nat}:x7 (l0W d) t=true↔d=some t:=by
 cases d with
 | none=>simp [l0W,b03]
 | some d=>simp only [l0W,W8,Option.some.injEq]
inductive Anc (ops:Array Oper):Nat→Nat→Prop
 | one {i:Nat} {o:Oper} {e:Edge} (ho:ops[i]? = some o) (he:e ∈ o.after.toList) (hb:K7 e=true):Anc ops i e.on
 | more {i k:Nat} {o:Oper} {e:Edge} (ho:ops[i]? = some o) (he:e ∈ o.after.toList) (hb:K7 e=true) (h:Anc ops e.on k):Anc ops i k
def S6 (ops:Array Oper) (j:Nat):Option Tmp:=(ops[j]?).bind (·.dst)
structure RowOk (P:Program) (ops:Array Oper) (r:DRow):Prop where
 get:ops[r.i]? = some r.o
 comp:comp P r.o=.ok r.c
 kind:r.k=T5 r.o r.c
 af:r.af=U2 r.o.after.toList
 rd:r.rd=a02 ops r.o++r.c.reads
theorem RowOk.dst {r:DRow} (h:RowOk P ops r):S6 ops r.i=r.o.dst:=by simp [S6,h.get]
theorem d0e:∀ {l:List Edge} {e:Edge},e ∈ l→K7 e=true→x7 (U2 l) e.on=true
 | x::l,e,he,hb=>by
  simp only [U2]
  rcases List.mem_cons.1 he with rfl | he
  ·rw [hb,cond_true,C6,(W8 _ _).2 rfl];rfl
  ·have:=d0e he hb
   cases K7 x
   ·exact this
   ·rw [cond_true,C6,this,Bool.or_true]
structure Cel where
 r:DRow
 a:AAct
 h:AH
structure InvSt (ops:Array Oper) (W:Nat) (pre:List Cel) (st:DSt):Prop where
 done:∀ i,x7 st.done i=true→∃ c ∈ pre,c.r.i=i
 hv:∀ c ∈ pre,c.r.k.isHeavy=true→x7 st.hv c.r.i=true
 wr:∀ c ∈ pre,∀ d,c.r.o.dst=some d→x7 st.wr d=true
 tbl:∀ i x y,st.tbl.get i=some (x,y)→(∀ j,x7 x j=true→j=i∨Anc ops i j)∧(∀ t,x7 y t=true→∃ j,(j=i∨Anc ops i j)∧S6 ops j=some t)
 rs:∀ c ∈ pre,c.r.k.isRead=true→c.r ∈ st.rs∨∃ c2 ∈ pre,c2.r.k.isHeavy=true∧(c.r.i=c2.r.i∨Anc ops c2.r.i c.r.i)
 old:∀ c ∈ pre,∀ t ∈ c.r.rd,x7 W t=true→(∃ j,Anc ops c.r.i j∧S6 ops j=some t)∨(t,c.r.i) ∈ st.old
theorem i0q {t:PT (Nat×Nat)} (ht:∀ i x y,t.get i=some (x,y)→(∀ j,x7 x j=true→j=i∨Anc ops i j)∧(∀ s,x7 y s=true→∃ j,(j=i∨Anc ops i j)∧S6 ops j=some s))
  {i:Nat} {o:Oper} (ho:ops[i]? = some o):∀ {l:List Edge},(∀ e ∈ l,e ∈ o.after.toList) →
   (∀ j,x7 (c04 t l).1 j=true→Anc ops i j)∧(∀ s,x7 (c04 t l).2 s=true→∃ j,Anc ops i j∧S6 ops j=some s)
 | [],_=>by simp [c04,b03]
 | e::l,hl=>by
  obtain ⟨i1,i2⟩:=i0q ht ho (l:=l) fun x hx=>hl x (List.mem_cons_of_mem _ hx)
  simp only [c04]
  cases hb:K7 e with
  | false=>exact ⟨i1,i2⟩
  | true =>
   simp only [cond_true]
   split
   ·rename_i x' y' hg
    obtain ⟨t1,t2⟩:=ht _ _ _ hg
    have hmem:=hl e (List.mem_cons_self)
    have up:∀ {j},j=e.on∨Anc ops e.on j→Anc ops i j:=by
     rintro j (rfl | hj)
     ·exact .one ho hmem hb
     ·exact .more ho hmem hb hj
    refine ⟨fun j hj=>?_,fun s hs=>?_⟩
    ·simp only [C6,Bool.or_eq_true] at hj
     rcases hj with hj | hj
     ·exact i1 _ hj
     ·exact up (t1 _ hj)
    ·simp only [C6,Bool.or_eq_true] at hs
     rcases hs with hs | hs
     ·exact i2 _ hs
     ·obtain ⟨j,hj,hd⟩:=t2 _ hs
      exact ⟨j,up hj,hd⟩
   ·exact ⟨i1,i2⟩
theorem f0w {D wr:Nat}:∀ {l:List Nat},b01 W D wr l=true→∀ t ∈ l,x7 W t=true→x7 D t=true∨x7 wr t=false
 | x::l,h,t,ht,hw=>by
  simp only [b01] at h
  rcases List.mem_cons.1 ht with rfl | ht
  ·rw [hw] at h
   simp only [cond_true,Bool.and_eq_true,Bool.or_eq_true,Bool.not_eq_true'] at h
   exact h.1
  ·refine f0w (l:=l) ?_ t ht hw
   cases hx:x7 W x
   ·rw [hx] at h;exact h
   ·rw [hx] at h
    simp only [cond_true,Bool.and_eq_true] at h
    exact h.2
theorem i0r {D i:Nat}:∀ {l:List Nat},∀ t ∈ l,x7 W t=true→x7 D t=true∨(t,i) ∈ b0J W D i l
 | x::l,t,ht,hw=>by
  simp only [b0J]
  rcases List.mem_cons.1 ht with rfl | ht
  ·cases hd:x7 D t
   ·right;rw [hw];exact List.mem_cons_self
   ·exact .inl rfl
  ·rcases i0r (D:=D) (i:=i) t ht hw with h | h
   ·exact .inl h
   ·right
    cases (Bool.and (x7 W x) (Bool.not (x7 D x)))
    ·exact h
    ·exact List.mem_cons_of_mem _ h
theorem m0m {d x i:Nat} (l:List (Nat×Nat)):h09 d x i l=true→∀ j,(d,j) ∈ l→j=i∨x7 x j=true:=by
 induction l with
 | nil=>intro _ j hj;cases hj
 | cons q l ih =>
  intro h j hj
  obtain ⟨t,k⟩:=q
  simp only [h09] at h
  rcases List.mem_cons.1 hj with e | hj
  ·cases e
   rw [Nat.beq_refl] at h
   simp only [cond_true,Bool.and_eq_true,Bool.or_eq_true] at h
   rcases h.1 with h | h
   ·exact .inl (Nat.eq_of_beq_eq_true h)
   ·exact .inr h
  ·refine ih ?_ j hj
   cases hx:Nat.beq t d
   ·rw [hx] at h;exact h
   ·rw [hx] at h
    simp only [cond_true,Bool.and_eq_true] at h
    exact h.2
theorem k0O {x:Nat} (l:List DRow):∀ r ∈ l,x7 x r.i=true∨r ∈ f0l x l:=by
 induction l with
 | nil=>intro r hr;cases hr
 | cons y l ih =>
  intro r hr
  simp only [f0l]
  rcases List.mem_cons.1 hr with rfl | hr
  ·cases x7 x r.i
   ·right;exact List.mem_cons_self
   ·exact .inl rfl
  ·rcases ih r hr with h | h
   ·exact .inl h
   ·right
    cases x7 x y.i
    ·exact List.mem_cons_of_mem _ h
    ·exact h
structure Fact (P:Program) (ops:Array Oper) (W:Nat) (pre:List Cel) (r:DRow):Prop where
 row:RowOk P ops r
 hv:∀ c ∈ pre,c.r.k.isHeavy=true→Anc ops r.i c.r.i
 rd:∀ t ∈ r.rd,x7 W t=true→(∃ j,Anc ops r.i j∧S6 ops j=some t)∨(r.k.isRead=false∧∀ c ∈ pre,c.r.o.dst≠some t)
 old:∀ d,r.o.dst=some d→x7 W d=true→∀ c ∈ pre,d ∈ c.r.rd→(∃ j,Anc ops c.r.i j∧S6 ops j=some d)∨c.r.i=r.i∨Anc ops r.i c.r.i
theorem o0U {pre:List Cel} {st st':DSt} {r:DRow} (I:InvSt ops W pre st) (hr:RowOk P ops r) (hp:st.put W r=.ok st') (a:AAct) (h:AH) :
  Fact P ops W pre r∧InvSt ops W (pre++[⟨r,a,h⟩]) st':=by
 unfold DSt.put at hp
 simp only [j0] at hp
 obtain ⟨A1,A2⟩:=i0q I.tbl hr.get (l:=r.o.after.toList) fun e he=>he
 generalize (c04 st.tbl r.o.after.toList).1=x at *
 generalize (c04 st.tbl r.o.after.toList).2=y at *
 cases hc:(k0x st.hv x&&(b01 W y st.wr r.rd&&(l0U r.o.dst x r.i (b0J W y r.i r.rd++st.old)&&(!r.k.isRead||l0V (b0J W y r.i r.rd))))) with
 | false=>rw [hc] at hp;cases hp
 | true =>
  rw [hc] at hp
  cases hp
  simp only [Bool.and_eq_true] at hc
  obtain ⟨c1,c2,c3,c4⟩:=hc
  have X:∀ j,x7 (x.lor (f0O r.i)) j=true→j=r.i∨Anc ops r.i j:=by
   intro j hj
   rw [C6,Bool.or_eq_true,W8] at hj
   rcases hj with hj | hj
   ·exact .inr (A1 _ hj)
   ·exact .inl hj.symm
  have rdd:∀ t ∈ r.rd,x7 W t=true→(∃ j,Anc ops r.i j∧S6 ops j=some t)∨(t,r.i) ∈ b0J W y r.i r.rd:=fun t ht hw=>by
   rcases i0r (D:=y) (i:=r.i) t ht hw with h1 | h1
   ·exact .inl (A2 _ h1)
   ·exact .inr h1
  refine ⟨⟨hr,fun c hc hh=>A1 _ (i0p c1 (I.hv c hc hh)),fun t ht hw=>?_,fun d hd hw c hc ht=>?_⟩,⟨fun i hi=>?_,fun c hc hh=>?_,fun c hc d hd=>?_,fun i x' y' hg=>?_,fun c hc hh=>?_,fun c hc t ht hw=>?_⟩⟩
  ·rcases rdd t ht hw with h1 | h1
   ·exact .inl h1
   ·rcases f0w c2 t ht hw with h2 | h2
    ·exact .inl (A2 _ h2)
    ·refine .inr ⟨?_,fun c hc e=>?_⟩
     ·cases hk:r.k.isRead with
      | false=>rfl
      | true =>
       rw [hk] at c4
       simp only [Bool.not_true,Bool.false_or] at c4
       generalize b0J W y r.i r.rd=ol at h1 c4
       cases ol with
       | nil=>cases h1
       | cons _ _=>cases c4
     ·rw [I.wr c hc t e] at h2;cases h2
  ·rcases I.old c hc d ht hw with h1 | h1
   ·exact .inl h1
   ·rw [hd] at c3
    rcases m0m _ c3 _ (List.mem_append_right _ h1) with h2 | h2
    ·exact .inr (.inl h2)
    ·exact .inr (.inr (A1 _ h2))
  ·simp only [C6,Bool.or_eq_true,W8] at hi
   rcases hi with hi | hi
   ·obtain ⟨c,h1,h2⟩:=I.done i hi
    exact ⟨c,List.mem_append_left _ h1,h2⟩
   ·exact ⟨_,List.mem_append_right _ (List.mem_singleton.2 rfl),hi⟩
  ·rcases List.mem_append.1 hc with hc | hc
   ·have:=I.hv c hc hh
    simp only
    cases r.k.isHeavy
    ·exact this
    ·rw [cond_true,C6,this];rfl
   ·obtain rfl:=List.mem_singleton.1 hc
    simp only at hh ⊢
    rw [hh,cond_true,C6,(W8 _ _).2 rfl,Bool.or_true]
  ·rcases List.mem_append.1 hc with hc | hc
   ·simp only [C6];rw [I.wr c hc d hd];rfl
   ·obtain rfl:=List.mem_singleton.1 hc
    simp only [C6];rw [(g0w).2 hd,Bool.or_true]
  ·rw [PT.get_set] at hg
   by_cases hi:i=r.i
   ·subst hi
    rw [if_pos rfl] at hg
    cases hg
    refine ⟨X,fun t ht=>?_⟩
    rw [C6,Bool.or_eq_true] at ht
    rcases ht with ht | ht
    ·obtain ⟨j,hj,hd⟩:=A2 _ ht
     exact ⟨j,.inr hj,hd⟩
    ·exact ⟨r.i,.inl rfl,by rw [hr.dst];exact g0w.1 ht⟩
   ·rw [if_neg hi] at hg
    exact I.tbl _ _ _ hg
  ·rcases List.mem_append.1 hc with hc | hc
   ·have lift:(∃ c2 ∈ pre,c2.r.k.isHeavy=true∧(c.r.i=c2.r.i∨Anc ops c2.r.i c.r.i))→∃ c2 ∈ pre++[(⟨r,a,h⟩:Cel)],c2.r.k.isHeavy=true∧(c.r.i=c2.r.i∨Anc ops c2.r.i c.r.i) :=
     fun ⟨c2,h1,h2⟩=>⟨c2,List.mem_append_left _ h1,h2⟩
    rcases I.rs c hc hh with h1 | h1
    ·simp only
     cases hrd:r.k.isRead with
     | true=>exact .inl (List.mem_cons_of_mem _ h1)
     | false =>
      cases hhv:r.k.isHeavy with
      | false=>exact .inl h1
      | true =>
       simp only [cond_false,cond_true]
       rcases k0O (x:=x.lor (f0O r.i)) _ c.r h1 with h2 | h2
       ·exact .inr ⟨_,List.mem_append_right _ (List.mem_singleton.2 rfl),hhv,X _ h2⟩
       ·exact .inl h2
    ·exact .inr (lift h1)
   ·obtain rfl:=List.mem_singleton.1 hc
    simp only at hh ⊢
    rw [hh]
    exact .inl List.mem_cons_self
  ·rcases List.mem_append.1 hc with hc | hc
   ·rcases I.old c hc t ht hw with h1 | h1
    ·exact .inl h1
    ·exact .inr (List.mem_append_right _ h1)
   ·obtain rfl:=List.mem_singleton.1 hc
    rcases rdd t ht hw with h1 | h1
    ·exact .inl h1
    ·exact .inr (List.mem_append_left _ h1)
end Go.Dr

namespace Go.Dr
open Go.RowKit
variable {P:Program} {call:u6} {ops:Array Oper} {W:Nat}
theorem k0Y {f:AV→AV→Bool} (hf:∀ x y,f x y=true→x=y):∀ (l m:List AV),eqL f l m=true→l=m
 | [],[],_=>rfl
 | [],_::_,h=>by cases h
 | _::_,[],h=>by cases h
 | x::l,y::m,h=>by
  simp only [eqL,Bool.and_eq_true] at h
  rw [hf _ _ h.1,k0Y hf l m h.2]
theorem j0r:∀ (d:Nat) (x y:AV),I6 d x y=true→x=y
 | 0,_,_,h=>by cases h
 | d+1,x,y,h=>by
  have ih:=fun x y=>j0r d x y
  have ihl:=fun l m=>k0Y ih l m
  unfold I6 at h
  split at h <;> try (simp only [Bool.and_eq_true,beq_iff_eq,decide_eq_true_eq] at h)
  ·rw [h]
  ·rw [h.1,h.2]
  ·rw [h]
  ·rfl
  ·rw [Nat.eq_of_beq_eq_true h.1,Nat.eq_of_beq_eq_true h.2]
  ·rfl
  ·obtain ⟨h1,h2,h3,h4,h5,h6⟩:=h
   rw [Nat.eq_of_beq_eq_true h1,Nat.eq_of_beq_eq_true h2,Nat.eq_of_beq_eq_true h3,Nat.eq_of_beq_eq_true h4,h5,Nat.eq_of_beq_eq_true h6]
  ·rfl
  ·rw [Nat.eq_of_beq_eq_true h]
  ·rfl
  ·split at h
   ·simp only [Bool.and_eq_true] at h
    rw [Nat.eq_of_beq_eq_true h.1,ihl _ _ h.2.1,ihl _ _ h.2.2]
   ·simp only [Bool.and_eq_true] at h
    rw [Nat.eq_of_beq_eq_true h.1,ihl _ _ h.2.1,ihl _ _ h.2.2]
   ·cases h
  ·rfl
  ·rw [Nat.eq_of_beq_eq_true h.1,ih _ _ h.2]
  ·rw [ihl _ _ h]
  ·rw [ihl _ _ h]
  ·rw [Nat.eq_of_beq_eq_true h]
  ·cases h
def g0z (P:Program) (ops:Array Oper) (r:DRow) (a:AAct) (h:AH):Prop :=
 j4 ops r.o a=.ok false∨∃ v h2,j4 ops r.o a=.ok true∧evC P r.c a h=.ok (.value v,h2)∧∀ d,r.o.dst=some d→v=a.val d
theorem c0C {a:AAct} {h:AH}:∀ (l:List DRow),again P ops l a h=true→∀ r ∈ l,g0z P ops r a h
 | [],_,r,hr=>by cases hr
 | x::l,hh,r,hr=>by
  unfold again at hh
  split at hh
  ·rename_i hw
   split at hh
   ·rename_i v h2 he
    simp only [Bool.and_eq_true] at hh
    rcases List.mem_cons.1 hr with rfl | hr
    ·refine .inr ⟨v,h2,hw,he,fun d hd=>?_⟩
     have:=hh.1
     rw [hd] at this
     exact j0r _ _ _ this
    ·exact c0C l hh.2 r hr
   ·cases hh
  ·rename_i hw
   rcases List.mem_cons.1 hr with rfl | hr
   ·exact .inl hw
   ·exact c0C l hh r hr
  ·cases hh
theorem c0D {hv:Bool} {done:Nat}:∀ {l l':List DRow} {r:DRow},U3 hv done l=some (r,l')→r.k.isHeavy=hv∧k0x r.af done=true∧l.Perm (r::l')
 | [],_,_,h=>by cases h
 | x::l,l',r,h=>by
  simp only [U3] at h
  cases hc:(Bool.and (x.k.isHeavy == hv) (k0x x.af done)) with
  | true =>
   rw [hc] at h;cases h
   simp only [Bool.and_eq_true,beq_iff_eq] at hc
   exact ⟨hc.1,hc.2,.refl _⟩
  | false =>
   rw [hc] at h
   simp only [cond_false] at h
   split at h
   ·rename_i y l2 hy
    cases h
    obtain ⟨h1,h2,h3⟩:=c0D hy
    exact ⟨h1,h2,(h3.cons x).trans (.swap _ _ _)⟩
   ·cases h
def StepOf (P:Program) (call:u6) (ops:Array Oper) (r:DRow) (a:AAct) (h:AH) (a1:AAct) (h1:AH):Prop :=
 (j4 ops r.o a=.ok true∧D0 P call r.o a h=.ok (a1,h1))∨(j4 ops r.o a=.ok false∧a1=a.put r.o.dst d8∧h1=h)
inductive Trace (P:Program) (call:u6) (ops:Array Oper) (W:Nat):DSt→List DRow→AAct→AH→List Cel→AAct→AH→Prop
 | nil {st:DSt} {a:AAct} {h:AH} (ha:again P ops st.rs a h=true):Trace P call ops W st [] a h [] a h
 | cons {st st':DSt} {rem rem':List DRow} {r:DRow} {a a1 aN:AAct} {h h1 hN:AH} {cs:List Cel} {hv:Bool} (hf:U3 hv st.done rem=some (r,rem')) (ha:hv=true→again P ops st.rs a h=true)
   (hp:st.put W r=.ok st') (hs:StepOf P call ops r a h a1 h1) (t:Trace P call ops W st' rem' a1 h1 cs aN hN):Trace P call ops W st rem a h (⟨r,a,h⟩::cs) aN hN
theorem f0U {o:Oper} {l:List DEnt} {a aN:AAct} {h hN:AH} (he:D6 P call ops (.op o::l) a h=.ok (aN,hN)) :
  ∃ a1 h1,((j4 ops o a=.ok true∧D0 P call o a h=.ok (a1,h1))∨(j4 ops o a=.ok false∧a1=a.put o.dst d8∧h1=h))∧D6 P call ops l a1 h1=.ok (aN,hN):=by
 simp only [D6] at he
 split at he
 ·rename_i hw
  split at he
  ·rename_i a1 h1 h2
   exact ⟨a1,h1,.inl ⟨hw,h2⟩,he⟩
  ·cases he
 ·rename_i hw
  exact ⟨_,_,.inr ⟨hw,rfl,rfl⟩,he⟩
 ·cases he
theorem c0E {re:List DRow} {l:List DEnt} {a aN:AAct} {h hN:AH} (he:D6 P call ops (.stage re::l) a h=.ok (aN,hN)) :
  again P ops re a h=true∧D6 P call ops l a h=.ok (aN,hN):=by
 simp only [D6] at he
 cases hb:again P ops re a h with
 | true=>rw [hb] at he;exact ⟨rfl,he⟩
 | false=>rw [hb] at he;cases he
theorem e0p:∀ (n:Nat) (st:DSt) (rem:List DRow) (ents:List DEnt) (a:AAct) (h:AH) (aN:AAct) (hN:AH),g0s W n st rem=.ok ents→D6 P call ops ents a h=.ok (aN,hN) →
  ∃ cs,Trace P call ops W st rem a h cs aN hN
 | n,st,[],ents,a,h,aN,hN,hs,he=>by
  have:ents=[.stage st.rs]:=by cases n <;> (simp only [g0s] at hs;cases hs;rfl)
  subst this
  obtain ⟨h1,h2⟩:=c0E he
  cases h2
  exact ⟨[],.nil h1⟩
 | 0,st,_::_,ents,a,h,aN,hN,hs,he=>by cases hs
 | n+1,st,x::rem,ents,a,h,aN,hN,hs,he=>by
  simp only [g0s] at hs
  split at hs
  ·rename_i r rem' hf
   split at hs
   ·rename_i st' hp
    split at hs
    ·rename_i l hl;cases hs
     obtain ⟨a1,h1,hst,he⟩:=f0U he
     obtain ⟨cs,t⟩:=e0p n _ _ _ _ _ _ _ hl he
     exact ⟨_,.cons hf (fun e=>by cases e) hp hst t⟩
    ·cases hs
   ·cases hs
  ·split at hs
   ·rename_i r rem' hf
    split at hs
    ·rename_i st' hp
     split at hs
     ·rename_i l hl;cases hs
      obtain ⟨ha,he⟩:=c0E he
      obtain ⟨a1,h1,hst,he⟩:=f0U he
      obtain ⟨cs,t⟩:=e0p n _ _ _ _ _ _ _ hl he
      exact ⟨_,.cons hf (fun _=>ha) hp hst t⟩
     ·cases hs
    ·cases hs
   ·cases hs
theorem f0V:∀ (l:List Oper) (i:Nat) (rows:List DRow),g02 P ops l i=.ok rows→(∀ j o,l[j]? = some o→ops[i+j]? = some o)→(∀ r ∈ rows,RowOk P ops r)∧rows.map (·.i)=List.range' i l.length
 | [],i,rows,h,_=>by cases h;exact ⟨fun r hr=>(by cases hr),rfl⟩
 | o::l,i,rows,h,ho=>by
  simp only [g02] at h
  split at h
  ·rename_i c hc
   split at h
   ·rename_i r hr;cases h
    obtain ⟨i1,i2⟩:=f0V l (i+1) r hr fun j o' hj=>by
     have:=ho (j+1) o' (by simpa using hj)
     rw [show i+1+j=i+(j+1) from by omega];exact this
    have h0:ops[i]? = some o:=ho 0 o rfl
    refine ⟨fun x hx=>?_,by simp only [List.map_cons,i2,List.length_cons,List.range'_succ]⟩
    rcases List.mem_cons.1 hx with rfl | hx
    ·exact ⟨h0,hc,rfl,rfl,rfl⟩
    ·exact i1 x hx
   ·cases h
  ·cases h
theorem d0P:∀ (l:List Oper) (W:Nat),c05 l=.ok W→(∀ (i:Nat) o d,l[i]? = some o→o.dst=some d→x7 W d=true) ∧
  (∀ (i j:Nat) o o' d,l[i]? = some o→l[j]? = some o'→o.dst=some d→o'.dst=some d→i=j)∧(∀ d,x7 W d=true→∃ (i:Nat) (o:Oper),l[i]? = some o∧o.dst=some d)
 | [],W,h=>by cases h;exact ⟨fun i o d e=>(by simp at e),fun i j o o' d e=>(by simp at e),fun d h=>(by rw [b03] at h;cases h)⟩
 | o::l,W,h=>by
  simp only [c05] at h
  split at h
  ·rename_i W' hW
   obtain ⟨i1,i2,i3⟩:=d0P l W' hW
   split at h
   ·rename_i d hd
    cases hb:x7 W' d with
    | true=>rw [hb] at h;cases h
    | false =>
     rw [hb] at h;cases h
     refine ⟨fun i o1 d1 h1 h2=>?_,fun i j o1 o2 d1 h1 h2 h3 h4=>?_,fun d1 h1=>?_⟩
     ·rw [C6]
      cases i with
      | zero=>cases h1;rw [hd] at h2;cases h2;rw [(W8 _ _).2 rfl,Bool.or_true]
      | succ i=>rw [i1 i o1 d1 (by simpa using h1) h2];rfl
     ·cases i with
      | zero =>
       cases h1;rw [hd] at h3;cases h3
       cases j with
       | zero=>rfl
       | succ j=>rw [i1 j o2 d (by simpa using h2) h4] at hb;cases hb
      | succ i =>
       cases j with
       | zero=>cases h2;rw [hd] at h4;cases h4;rw [i1 i o1 d (by simpa using h1) h3] at hb;cases hb
       | succ j=>rw [i2 i j o1 o2 d1 (by simpa using h1) (by simpa using h2) h3 h4]
     ·rw [C6,Bool.or_eq_true,W8] at h1
      rcases h1 with h1 | h1
      ·obtain ⟨i,o1,h2,h3⟩:=i3 d1 h1
       exact ⟨i+1,o1,by simpa using h2,h3⟩
      ·subst h1;exact ⟨0,o,rfl,hd⟩
   ·rename_i hd;cases h
    refine ⟨fun i o1 d1 h1 h2=>?_,fun i j o1 o2 d1 h1 h2 h3 h4=>?_,fun d1 h1=>?_⟩
    ·cases i with
     | zero=>cases h1;rw [hd] at h2;cases h2
     | succ i=>exact i1 i o1 d1 (by simpa using h1) h2
    ·cases i with
     | zero=>cases h1;rw [hd] at h3;cases h3
     | succ i =>
      cases j with
      | zero=>cases h2;rw [hd] at h4;cases h4
      | succ j=>rw [i2 i j o1 o2 d1 (by simpa using h1) (by simpa using h2) h3 h4]
    ·obtain ⟨i,o1,h2,h3⟩:=i3 d1 h1
     exact ⟨i+1,o1,by simpa using h2,h3⟩
  ·cases h
def stA (cs:List Cel) (aN:AAct):AAct:=match cs with | []=>aN | c::_=>c.a
def stH (cs:List Cel) (hN:AH):AH:=match cs with | []=>hN | c::_=>c.h
theorem Trace.start {st:DSt} {rem:List DRow} {a aN:AAct} {h hN:AH} {cs:List Cel} (t:Trace P call ops W st rem a h cs aN hN):stA cs aN=a∧stH cs hN=h:=by
 cases t <;> exact ⟨rfl,rfl⟩
def j0s (P:Program) (ops:Array Oper) (pre:List Cel) (a:AAct) (h:AH):Prop :=
 ∀ c ∈ pre,c.r.k.isRead=true→g0z P ops c.r a h∨∃ c2 ∈ pre,c2.r.k.isHeavy=true∧(c.r.i=c2.r.i∨Anc ops c2.r.i c.r.i)
structure Place (P:Program) (call:u6) (ops:Array Oper) (W:Nat) (pre:List Cel) (c:Cel) (a1:AAct) (h1:AH):Prop where
 fact:Fact P ops W pre c.r
 lin:∀ e ∈ c.r.o.after.toList,K7 e=true→∃ c' ∈ pre,c'.r.i=e.on
 step:StepOf P call ops c.r c.a c.h a1 h1
 again:c.r.k.isHeavy=true→j0s P ops pre c.a c.h
theorem Trace.places {st:DSt} {rem:List DRow} {a aN:AAct} {h hN:AH} {cs:List Cel} (t:Trace P call ops W st rem a h cs aN hN) :
  ∀ pre,InvSt ops W pre st→(∀ r ∈ rem,RowOk P ops r) →
   (∀ c1 c c2,cs=c1++c::c2→Place P call ops W (pre++c1) c (stA c2 aN) (stH c2 hN))∧j0s P ops (pre++cs) aN hN∧(cs.map (·.r)).Perm rem:=by
 induction t with
 | nil ha =>
  intro pre I hr
  refine ⟨fun c1 c c2 e=>(by cases c1 <;> cases e),fun c hc hh=>?_,.refl _⟩
  rw [List.append_nil] at hc ⊢
  rcases I.rs c hc hh with h1 | h1
  ·exact .inl (c0C _ ha _ h1)
  ·exact .inr h1
 | @cons st st' rem rem' r a a1 aN h h1 hN cs hv hf ha hp hs t ih =>
  intro pre I hr
  obtain ⟨f1,f2,f3⟩:=c0D hf
  have hrow:=hr r (f3.mem_iff.2 List.mem_cons_self)
  obtain ⟨F,I'⟩:=o0U I hrow hp a h
  obtain ⟨i1,i2,i3⟩:=ih (pre++[⟨r,a,h⟩]) I' fun x hx=>hr x (f3.mem_iff.2 (List.mem_cons_of_mem _ hx))
  refine ⟨fun c1 c c2 e=>?_,by simpa using i2,(i3.cons r).trans f3.symm⟩
  cases c1 with
  | nil =>
   cases e
   rw [List.append_nil]
   refine ⟨F,fun e he hb=>I.done _ ?_,?_,fun hh c hc hrd=>?_⟩
   ·refine i0p f2 ?_
    rw [hrow.af]
    exact d0e he hb
   ·rw [t.start.1,t.start.2];exact hs
   ·rcases I.rs c hc hrd with h1 | h1
    ·exact .inl (c0C _ (ha (f1.symm.trans hh)) _ h1)
    ·exact .inr h1
  | cons x c1 =>
   cases e
   have:=i1 c1 c c2 rfl
   simpa using this
theorem q0Q:InvSt ops W [] ⟨0,0,0,0,.leaf,[],[]⟩ :=
 ⟨fun i h=>(by rw [b03] at h;cases h),fun c hc=>(by cases hc),fun c hc=>(by cases hc),fun i x y h=>(by cases h),fun c hc=>(by cases hc),fun c hc=>(by cases hc)⟩
structure Canon (P:Program) (call:u6) (ops:Array Oper) (a0:AAct) (h0:AH) (aN:AAct) (hN:AH) (W:Nat) (cs:List Cel):Prop where
 first:stA cs aN=a0∧stH cs hN=h0
 place:∀ c1 c c2,cs=c1++c::c2→Place P call ops W c1 c (stA c2 aN) (stH c2 hN)
 reads:j0s P ops cs aN hN
 all:(cs.map (·.r.i)).Perm (List.range ops.size)
 w1:∀ (i:Nat) o d,ops[i]? = some o→o.dst=some d→x7 W d=true
 w2:∀ (i j:Nat) o o' d,ops[i]? = some o→ops[j]? = some o'→o.dst=some d→o'.dst=some d→i=j
theorem k0Z {a0 aN:AAct} {h0 hN:AH} (he:W7 P call ops a0 h0=.ok (aN,hN)):∃ W cs,Canon P call ops a0 h0 aN hN W cs:=by
 unfold W7 at he
 split at he
 ·rename_i l hl
  unfold m0X at hl
  split at hl
  ·rename_i W rows hW hrows
   obtain ⟨r1,r2⟩:=f0V _ _ _ hrows fun j o hj=>by rw [Nat.zero_add,← Array.getElem?_toList];exact hj
   obtain ⟨cs,t⟩:=e0p _ _ _ _ _ _ _ _ hl he
   obtain ⟨t1,t2,t3⟩:=t.places [] q0Q r1
   obtain ⟨w1,w2,_⟩:=d0P _ _ hW
   refine ⟨W,cs,t.start,fun c1 c c2 e=>by simpa using t1 c1 c c2 e,by simpa using t2,?_,fun i o d h1=>w1 i o d (by rw [Array.getElem?_toList];exact h1),fun i j o o' d h1 h2=>w2 i j o o' d (by rw [Array.getElem?_toList];exact h1) (by rw [Array.getElem?_toList];exact h2)⟩
   have:=t3.map (·.i)
   rw [List.map_map] at this
   refine this.trans ?_
   rw [r2,List.range_eq_range']
   exact .refl _
  ·cases hl
  ·cases hl
 ·cases he
end Go.Dr

namespace Go.Dr
open Go.RowKit
variable {P:Program} {call:u6} {ops:Array Oper} {W:Nat}
theorem f0A {o:Oper} {a a':AAct} (hr:∀ t ∈ a02 ops o,a.val t=a'.val t):j4 ops o a=j4 ops o a':=by
 unfold j4
 unfold a02 at hr
 split
 ·rfl
 ·rename_i j want hg
  rw [hg] at hr
  simp only at hr
  split
  ·rename_i d hd
   rw [hd] at hr
   rw [hr d (by simp)]
  ·rfl
def y5 (a:AAct) (ds:List ADef):AAct:=⟨a.n,a.ts,ds,a.rd⟩
theorem c0F {o:Oper} {c:COp} {a a' a1:AAct} {h h1:AH} (hc:comp P o=.ok c) (hv:evC P c a h=evC P c a' h) (hds:a.ds=a'.ds) (hrd:a.rd=a'.rd)
  (he:D0 P call o a h=.ok (a1,h1)):∃ v ds1,a1=(y5 a ds1).put o.dst v∧D0 P call o a' h=.ok ((y5 a' ds1).put o.dst v,h1):=by
 unfold D0 at he ⊢
 rw [hc] at he ⊢
 simp only at he ⊢
 rw [← hv]
 split at he
 ·rename_i n h2 hr
  split at he
  ·rename_i v;rw [i7] at he ⊢;cases he
   exact ⟨v,a.ds,rfl,by rw [hds];rfl⟩
  ·cases he
   exact ⟨d8,a.ds,rfl,by rw [hds];rfl⟩
  ·rename_i d
   cases hb:a.rd with
   | true=>rw [hb] at he;cases he
   | false =>
    rw [hb] at he;cases he
    refine ⟨d8,d::a.ds,by rw [← hb];rfl,?_⟩
    rw [hds,← hrd,hb,y5,← hrd,hb];rfl
  ·split at he
   ·rename_i v h3 hcall;rw [i7] at he;cases he
    refine ⟨v,a.ds,rfl,?_⟩
    simp only [i7]
    rw [hds];rfl
   ·cases he
  ·split at he
   ·rename_i v h3 hcall;rw [i7] at he;cases he
    refine ⟨v,a.ds,rfl,?_⟩
    simp only [i7]
    rw [hds];rfl
   ·cases he
 ·cases he
theorem put_val (a:AAct) (o:Option Tmp) (v:AV) (t:Nat):(o=some t→t<a.n→(a.put o v).val t=v)∧((o≠some t∨¬ t<a.n)→(a.put o v).val t=a.val t):=by
 cases o with
 | none=>exact ⟨fun e=>(by cases e),fun _=>rfl⟩
 | some d =>
  unfold AAct.put
  simp only
  cases hb:Nat.blt d a.n with
  | false =>
   have hd:¬ d<a.n:=fun e=>by
    have e2:Nat.blt d a.n=true:=Nat.blt_eq.symm ▸ e
    rw [e2] at hb;cases hb
   exact ⟨fun e h=>by cases e;exact absurd h hd,fun _=>rfl⟩
  | true =>
   have hd:d<a.n:=Nat.blt_eq ▸ hb
   refine ⟨fun e _=>by cases e;simp only [cond_true,AAct.val,PT.get_set,if_true],fun e=>?_⟩
   simp only [cond_true,AAct.val,PT.get_set]
   rw [if_neg]
   rintro rfl
   rcases e with e | e
   ·exact e rfl
   ·exact e hd
theorem StepOf.shape {r:DRow} {a a1:AAct} {h h1:AH} (hc:comp P r.o=.ok r.c) (s:StepOf P call ops r a h a1 h1):∃ v ds1,a1=(y5 a ds1).put r.o.dst v:=by
 rcases s with ⟨_,s⟩ | ⟨_,s,_⟩
 ·obtain ⟨v,ds1,h1,_⟩:=c0F hc rfl rfl rfl s
  exact ⟨v,ds1,h1⟩
 ·exact ⟨d8,a.ds,s⟩
section
variable {a0 aN:AAct} {h0 hN:AH} {cs:List Cel}
theorem Canon.row (C:Canon P call ops a0 h0 aN hN W cs) {c:Cel} (hc:c ∈ cs):RowOk P ops c.r:=by
 obtain ⟨c1,c2,e⟩:=List.append_of_mem hc
 exact (C.place c1 c c2 e).fact.row
theorem Canon.uniq (C:Canon P call ops a0 h0 aN hN W cs) {c1 c2:List Cel} {c:Cel} (e:cs=c1++c::c2):(∀ c' ∈ c1,c'.r.i≠c.r.i)∧(∀ c' ∈ c2,c'.r.i≠c.r.i):=by
 have hn:(cs.map (·.r.i)).Nodup:=C.all.nodup_iff.2 List.nodup_range
 rw [e,List.map_append,List.map_cons,List.nodup_append,List.nodup_cons] at hn
 obtain ⟨_,⟨h2,_⟩,h3⟩:=hn
 exact ⟨fun c' hc' ee=>h3 _ (List.mem_map.2 ⟨c',hc',rfl⟩) _ List.mem_cons_self ee,fun c' hc' ee=>h2 (List.mem_map.2 ⟨c',hc',ee⟩)⟩
theorem Canon.skip (C:Canon P call ops a0 h0 aN hN W cs) {t:Nat}:∀ (c1:List Cel) (c0 c2:List Cel),cs=c0++(c1++c2)→(∀ c ∈ c1,c.r.o.dst≠some t)→(stA (c1++c2) aN).val t=(stA c2 aN).val t
 | [],c0,c2,_,_=>rfl
 | c::c1,c0,c2,e,hw=>by
  have hp:=C.place c0 c (c1++c2) (by rw [e];rfl)
  obtain ⟨v,ds1,hs⟩:=hp.step.shape hp.fact.row.comp
  rw [← C.skip c1 (c0++[c]) c2 (by rw [e];simp) fun x hx=>hw x (List.mem_cons_of_mem _ hx),hs,(put_val _ _ _ _).2 (.inl (hw c List.mem_cons_self))]
  rfl
theorem Canon.same (C:Canon P call ops a0 h0 aN hN W cs):∀ (c1:List Cel) (c0 c2:List Cel),cs=c0++(c1++c2)→(stA (c1++c2) aN).n=(stA c2 aN).n∧(stA (c1++c2) aN).rd=(stA c2 aN).rd
 | [],c0,c2,_=>⟨rfl,rfl⟩
 | c::c1,c0,c2,e=>by
  have hp:=C.place c0 c (c1++c2) (by rw [e];rfl)
  obtain ⟨v,ds1,hs⟩:=hp.step.shape hp.fact.row.comp
  obtain ⟨i1,i2⟩:=C.same c1 (c0++[c]) c2 (by rw [e];simp)
  obtain ⟨_,j2,j3⟩:=AAct.put_ds (y5 c.a ds1) c.r.o.dst v
  rw [hs] at i1 i2
  exact ⟨i1.symm.trans j3 |>.symm,i2.symm.trans j2 |>.symm⟩
theorem Canon.anc (C:Canon P call ops a0 h0 aN hN W cs) {i j:Nat} (ha:Anc ops i j):∀ {c1 c2:List Cel} {c:Cel},cs=c1++c::c2→c.r.i=i→∃ c' ∈ c1,c'.r.i=j:=by
 induction ha with
 | one ho he hb =>
  intro c1 c2 c e hi
  have hp:=C.place c1 c c2 e
  have hg:=hp.fact.row.get
  rw [hi,ho] at hg;cases hg
  exact hp.lin _ he hb
 | more ho he hb _ ih =>
  intro c1 c2 c e hi
  have hp:=C.place c1 c c2 e
  have hg:=hp.fact.row.get
  rw [hi,ho] at hg;cases hg
  obtain ⟨c',h1,h2⟩:=hp.lin _ he hb
  obtain ⟨d1,d2,rfl⟩:=List.append_of_mem h1
  obtain ⟨c'',h3,h4⟩:=ih (c1:=d1) (c2:=d2++c::c2) (c:=c') (by rw [e];simp) h2
  exact ⟨c'',List.mem_append_left _ h3,h4⟩
theorem Canon.dst (C:Canon P call ops a0 h0 aN hN W cs) {c c':Cel} {t:Nat} (h1:c ∈ cs) (h2:c' ∈ cs) (d1:c.r.o.dst=some t) (d2:c'.r.o.dst=some t):c.r.i=c'.r.i :=
 C.w2 _ _ _ _ _ (C.row h1).get (C.row h2).get d1 d2
theorem Canon.cover (C:Canon P call ops a0 h0 aN hN W cs) {i:Nat} (hi:i<ops.size):∃ c ∈ cs,c.r.i=i:=by
 have:=(C.all.mem_iff (a:=i)).2 (List.mem_range.2 hi)
 obtain ⟨c,h1,h2⟩:=List.mem_map.1 this
 exact ⟨c,h1,h2⟩
theorem Canon.left (C:Canon P call ops a0 h0 aN hN W cs) {c1 c2:List Cel} {c:Cel} (e:cs=c1++c::c2) {t:Nat} (hd:c.r.o.dst=some t):aN.val t=(stA c2 aN).val t:=by
 have:=C.skip (t:=t) c2 (c1++[c]) [] (by rw [e];simp) fun x hx hx2 =>
  (C.uniq e).2 x hx (C.dst (by rw [e];simp [hx]) (by rw [e];simp) hx2 hd)
 rw [List.append_nil] at this
 exact this.symm
end
end Go.Dr

namespace Go.Dr
open Go.RowKit
variable {P:Program} {B:Nat} {w0:World} {call:u6} {ops:Array Oper} {W:Nat} {a0 aN:AAct} {h0 hN:AH} {cs:List Cel}
def p0w (P:Program) (h0:AH) (φ:Phi) (H:AH) (c:Cel):Prop :=
 ∃ mkv O,Shape mkv∧h0.next≤c.h.next∧c.h.next<H.next∧H.get c.h.next=some O∧φ c.h.next=none∧evC P c.r.c c.a c.h=.ok (.value (mkv c.h.next),c.h.push O) ∧
  ∀ H,evC P c.r.c c.a H=.ok (.value (mkv H.next),H.push O)
structure Pre (P:Program) (B:Nat) (w0:World) (ops:Array Oper) (a0 aN:AAct) (h0 hN:AH) (cs:List Cel) (φ0:Phi) (rd:Bool) (S:Nat→Prop) (c1 c2:List Cel) (φ:Phi) (s:AAct) (tm:Array Value) (ds:List Deferred) (w:World):Prop where
 split:cs=c1++c2
 sub:∀ i,S i→∃ c ∈ c1,c.r.i=i
 heavies:∀ c ∈ c1,c.r.k.isHeavy=true→S c.r.i
 closed:∀ i o e,S i→ops[i]? = some o→e ∈ o.after.toList→K7 e=true→S e.on
 valS:∀ t i,S i→S6 ops i=some t→s.val t=aN.val t
 valN:∀ t,(∀ i,S i→S6 ops i≠some t)→s.val t=a0.val t
 n:s.n=a0.n
 dsE:s.ds=(stA c2 aN).ds
 st:St P B w0 φ s (stH c2 hN) rd tm ds w
 rda:a0.rd=rd
 ext:Ext φ0 h0 φ (stH c2 hN)
 prom:∀ c ∈ c1,¬ S c.r.i→c.r.k=.alloc→j4 ops c.r.o c.a=.ok true→p0w P h0 φ (stH c2 hN) c
 apart:∀ c ∈ c1,∀ d ∈ c1,¬ S c.r.i→c.r.k=.alloc→j4 ops c.r.o c.a=.ok true→¬ S d.r.i→d.r.k=.alloc→j4 ops d.r.o d.a=.ok true→c.r.i≠d.r.i→c.h.next≠d.h.next
def f0X (c2:List Cel):Prop:=∀ c c3,c2=c::c3→c.r.k.isHeavy=true
theorem e0q (k:DKind):k.isHeavy=true∨k=.pure∨k=.read∨k=.alloc:=by
 cases k
 ·exact .inl rfl
 ·exact .inr (.inl rfl)
 ·exact .inr (.inr (.inl rfl))
 ·exact .inr (.inr (.inr rfl))
theorem i0y {r:DRow} {a a1:AAct} {h h1:AH} (hr:RowOk P ops r) (hk:r.k.isHeavy=false) (hs:StepOf P call ops r a h a1 h1) :
  a1.ds=a.ds∧((h1=h∧¬ (r.k=.alloc∧j4 ops r.o a=.ok true))∨(r.k=.alloc∧j4 ops r.o a=.ok true ∧
   ∃ mkv O,Shape mkv∧h1=h.push O∧evC P r.c a h=.ok (.value (mkv h.next),h.push O)∧∀ H,evC P r.c a H=.ok (.value (mkv H.next),H.push O))):=by
 rcases hs with ⟨hw,hs⟩ | ⟨hw,rfl,rfl⟩
 ·unfold D0 at hs
  rw [hr.comp] at hs
  simp only at hs
  split at hs
  ·rename_i n h2 he
   rcases e0q r.k with hh | hk2 | hk2 | hk2
   ·rw [hh] at hk;cases hk
   ·obtain ⟨v,rfl,rfl,_⟩:=j0O (d0h (hr.kind ▸ hk2)) he
    simp only [i7] at hs
    cases hs
    exact ⟨(AAct.put_ds _ _ _).1,.inl ⟨rfl,fun e=>by rw [hk2] at e;cases e.1⟩⟩
   ·obtain ⟨v,rfl,rfl⟩:=h0i (a06 (hr.kind ▸ hk2)) he
    simp only [i7] at hs
    cases hs
    exact ⟨(AAct.put_ds _ _ _).1,.inl ⟨rfl,fun e=>by rw [hk2] at e;cases e.1⟩⟩
   ·obtain ⟨mkv,O,e1,rfl,rfl,_,e5⟩:=i0x hr.comp (hr.kind ▸ hk2) he
    simp only [i7] at hs
    cases hs
    exact ⟨(AAct.put_ds _ _ _).1,.inr ⟨hk2,hw,mkv,O,e1,rfl,e5 _,e5⟩⟩
  ·cases hs
 ·exact ⟨(AAct.put_ds _ _ _).1,.inl ⟨rfl,fun e=>by rw [hw] at e;cases e.2⟩⟩
variable {φ0:Phi} {rd:Bool}
theorem j0t (C:Canon P call ops a0 h0 aN hN W cs) {S:Nat→Prop} {φ:Phi} {s:AAct} {tm:Array Value} {ds:List Deferred} {w:World} :
  ∀ (c2 c1:List Cel),Pre P B w0 ops a0 aN h0 hN cs φ0 rd S c1 c2 φ s tm ds w→∃ d1 d2,f0X d2∧Pre P B w0 ops a0 aN h0 hN cs φ0 rd S d1 d2 φ s tm ds w
 | [],c1,p=>⟨c1,[],fun c c3 e=>(by cases e),p⟩
 | c::c2,c1,p=>by
  cases hh:c.r.k.isHeavy with
  | true=>exact ⟨c1,c::c2,fun x y e=>(by cases e;exact hh),p⟩
  | false =>
   have hp:=C.place c1 c c2 p.split
   obtain ⟨hds,hheap⟩:=i0y hp.fact.row hh hp.step
   have hsplit:cs=(c1++[c])++c2:=by rw [p.split];simp
   have hnS:¬ S c.r.i:=fun hS=>by
    obtain ⟨x,hx,hxi⟩:=p.sub _ hS
    exact (C.uniq p.split).1 x hx hxi
   refine j0t C c2 (c1++[c]) ?_
   have base:∀ (st:St P B w0 φ s (stH c2 hN) rd tm ds w) (ext:Ext φ0 h0 φ (stH c2 hN)) (prom:∀ x ∈ c1++[c],¬ S x.r.i→x.r.k=.alloc→j4 ops x.r.o x.a=.ok true→p0w P h0 φ (stH c2 hN) x)
     (apart:∀ x ∈ c1,¬ S x.r.i→x.r.k=.alloc→j4 ops x.r.o x.a=.ok true→c.r.k=.alloc→j4 ops c.r.o c.a=.ok true→x.h.next≠c.h.next),
     Pre P B w0 ops a0 aN h0 hN cs φ0 rd S (c1++[c]) c2 φ s tm ds w:=fun st ext prom apart =>
    ⟨hsplit,fun i hi=>(let ⟨x,h1,h2⟩:=p.sub i hi;⟨x,List.mem_append_left _ h1,h2⟩),fun x hx hxh=>(by
     rcases List.mem_append.1 hx with hx | hx
     ·exact p.heavies x hx hxh
     ·obtain rfl:=List.mem_singleton.1 hx;rw [hh] at hxh;cases hxh),p.closed,p.valS,p.valN,p.n,(by rw [p.dsE,hds];rfl),st,p.rda,ext,prom,fun x hx y hy n1 k1 m1 n2 k2 m2 hne=>(by
     rcases List.mem_append.1 hx with hx1 | hx1
     ·rcases List.mem_append.1 hy with hy1 | hy1
      ·exact p.apart x hx1 y hy1 n1 k1 m1 n2 k2 m2 hne
      ·rw [List.mem_singleton.1 hy1] at k2 m2 ⊢
       exact apart x hx1 n1 k1 m1 k2 m2
     ·rcases List.mem_append.1 hy with hy1 | hy1
      ·rw [List.mem_singleton.1 hx1] at k1 m1 ⊢
       exact fun e=>apart y hy1 n2 k2 m2 k1 m1 e.symm
      ·exact absurd (by rw [List.mem_singleton.1 hx1,List.mem_singleton.1 hy1]) hne)⟩
   rcases hheap with ⟨e,hno⟩ | ⟨hk,hw,mkv,O,e1,e2,e3,e4⟩
   ·have es:stH (c::c2) hN=stH c2 hN:=e.symm
    refine base (es ▸ p.st) (es ▸ p.ext) (fun x hx h1 h2 h3=>?_) fun x hx n1 k1 m1 k2 m2=>absurd ⟨k2,m2⟩ hno
    rcases List.mem_append.1 hx with hx | hx
    ·exact es ▸ p.prom x hx h1 h2 h3
    ·obtain rfl:=List.mem_singleton.1 hx
     exact absurd ⟨h2,h3⟩ hno
   ·have hlow:h0.next≤c.h.next:=p.ext.next
    have hfr:φ c.h.next=none:=p.st.rel.fresh
    have X:Ext φ (stH (c::c2) hN) φ (stH c2 hN):=by
     rw [e2]
     exact ⟨.refl _,Nat.le_succ _,fun i hi e=>⟨e,by
      have hi':i≠c.h.next:=Nat.ne_of_lt hi
      rw [AH.get_push,if_neg hi'];rfl⟩⟩
    refine base ⟨p.st.act,p.st.defs,?_,p.st.glob,p.st.rd⟩ (p.ext.trans X) (fun x hx h1 h2 h3=>?_) fun x hx n1 k1 m1 k2 m2=>(by
     obtain ⟨_,_,_,_,q3,_⟩:=p.prom x hx n1 k1 m1
     exact Nat.ne_of_lt q3)
    ·rw [e2];exact p.st.rel.promise O
    ·rcases List.mem_append.1 hx with hx | hx
     ·obtain ⟨mkv',O',q1,q2,q3,q4,q5,q6⟩:=p.prom x hx h1 h2 h3
      obtain ⟨_,g⟩:=X.keep _ q3 q5
      exact ⟨mkv',O',q1,q2,Nat.lt_of_lt_of_le q3 X.next,g.trans q4,q5,q6⟩
     ·obtain rfl:=List.mem_singleton.1 hx
      refine ⟨mkv,O,e1,hlow,?_,?_,hfr,e3,e4⟩
      ·rw [e2];exact Nat.lt_succ_self _
      ·rw [e2,AH.get_push,if_pos rfl]
theorem d0Q (C:Canon P call ops a0 h0 aN hN W cs) {S:Nat→Prop} {φ:Phi} {s:AAct} {tm:Array Value} {ds:List Deferred} {w:World} {c1 c2:List Cel}
  (p:Pre P B w0 ops a0 aN h0 hN cs φ0 rd S c1 c2 φ s tm ds w) {e1 e2:List Cel} {c:Cel} (e:cs=e1++c::e2) (hn:¬ S c.r.i) (hready:∀ j,Anc ops c.r.i j→S j) (hcl:∀ i j,S i→Anc ops i j→S j) :
  ∀ t ∈ c.r.rd,s.val t=c.a.val t∧(c.r.k.isRead=true→c ∈ c1→s.val t=(stA c2 aN).val t):=by
 intro t ht
 have hp:=C.place e1 c e2 e
 have writer:∀ x ∈ cs,x.r.o.dst=some t→x7 W t=true:=fun x hx hd=>C.w1 _ _ _ (C.row hx).get hd
 cases hw:x7 W t with
 | false =>
  have nw:∀ x ∈ cs,x.r.o.dst≠some t:=fun x hx hd=>by rw [writer x hx hd] at hw;cases hw
  have h1:s.val t=a0.val t:=p.valN t fun i hi hd=>by
   obtain ⟨x,hx,rfl⟩:=p.sub i hi
   have hxs:x ∈ cs:=by rw [p.split];exact List.mem_append_left _ hx
   rw [(C.row hxs).dst] at hd
   exact nw x hxs hd
  have k1:=C.skip (t:=t) e1 [] (c::e2) e fun x hx=>nw x (by rw [e];exact List.mem_append_left _ hx)
  have k2:=C.skip (t:=t) c1 [] c2 p.split fun x hx=>nw x (by rw [p.split];exact List.mem_append_left _ hx)
  rw [← e,C.first.1] at k1
  rw [← p.split,C.first.1] at k2
  exact ⟨h1.trans k1,fun _ _=>h1.trans k2⟩
 | true =>
  rcases hp.fact.rd t ht hw with ⟨j,hj,hd⟩ | ⟨hnr,hnone⟩
  ·have hS:=hready j hj
   have h1:=p.valS t j hS hd
   obtain ⟨x,hx,hxi⟩:=C.anc hj e rfl
   have hxs:x ∈ cs:=by rw [e];exact List.mem_append_left _ hx
   have hxd:x.r.o.dst=some t:=by rw [← (C.row hxs).dst,hxi];exact hd
   obtain ⟨f1,f2,hf⟩:=List.append_of_mem hx
   have e':cs=f1++x::(f2++c::e2):=by rw [e,hf];simp
   have k1:=C.skip (t:=t) (c::e2) e1 [] (by rw [e];simp) fun y hy hyd=>by
    have:=(C.uniq e').2 y (List.mem_append_right _ hy)
    exact this (C.dst (by rw [e];exact List.mem_append_right _ hy) hxs hyd hxd)
   rw [List.append_nil] at k1
   refine ⟨h1.trans k1.symm,fun _ hc1=>h1.trans ?_⟩
   obtain ⟨g1,g2,hg⟩:=List.append_of_mem hc1
   have e3:cs=g1++c::(g2++c2):=by rw [p.split,hg];simp
   have k2:=C.skip (t:=t) c2 c1 [] (by rw [p.split];simp) fun y hy hyd=>by
    have hyx:=C.dst (by rw [p.split];exact List.mem_append_right _ hy) hxs hyd hxd
    obtain ⟨z,hz,hzi⟩:=C.anc hj e3 rfl
    have hy3:y ∈ g2++c2:=List.mem_append_right _ hy
    obtain ⟨q1,q2,hq⟩:=List.append_of_mem hz
    have e4:cs=q1++z::(q2++c::(g2++c2)):=by rw [e3,hq];simp
    exact (C.uniq e4).2 y (List.mem_append_right _ (List.mem_cons_of_mem _ hy3)) (by rw [hyx,hxi,hzi])
   rw [List.append_nil] at k2
   exact k2.symm
  ·have k1:=C.skip (t:=t) e1 [] (c::e2) e hnone
   rw [← e,C.first.1] at k1
   have h1:s.val t=a0.val t:=p.valN t fun i hi hd=>by
    obtain ⟨x,hx,rfl⟩:=p.sub i hi
    have hxs:x ∈ cs:=by rw [p.split];exact List.mem_append_left _ hx
    have hxd:x.r.o.dst=some t:=by rw [← (C.row hxs).dst];exact hd
    have hxs2:=hxs
    rw [e] at hxs2
    rcases List.mem_append.1 hxs2 with hx1 | hx1
    ·exact hnone x hx1 hxd
    ·rcases List.mem_cons.1 hx1 with rfl | hx1
     ·exact hn hi
     ·obtain ⟨f1,f2,hf⟩:=List.append_of_mem hx1
      have e':cs=(e1++c::f1)++x::f2:=by rw [e,hf];simp
      rcases (C.place _ _ _ e').fact.old t hxd hw c (by simp) ht with ⟨j,hj,hjd⟩ | h2 | h2
      ·obtain ⟨z,hz,hzi⟩:=C.anc hj e rfl
       have hzs:z ∈ cs:=by rw [e];exact List.mem_append_left _ hz
       exact hnone z hz (by rw [← (C.row hzs).dst,hzi];exact hjd)
      ·exact (C.uniq e').1 c (by simp) h2
      ·exact hn (hcl _ _ hi h2)
   exact ⟨h1.trans k1,fun hr=>by rw [hnr] at hr;cases hr⟩
end Go.Dr

namespace Go.Dr
open Go.RowKit
variable {P:Program} {B:Nat} {w0:World} {call:u6} {ops:Array Oper} {W:Nat} {a0 aN:AAct} {h0 hN:AH} {cs:List Cel} {φ0:Phi} {rd:Bool}
 {S:Nat→Prop} {φ:Phi} {s:AAct} {tm:Array Value} {ds:List Deferred} {w:World} {c1 c2:List Cel}
theorem d0U (C:Canon P call ops a0 h0 aN hN W cs) (p:Pre P B w0 ops a0 aN h0 hN cs φ0 rd S c1 c2 φ s tm ds w) {e1 e2:List Cel} {c:Cel} (e:cs=e1++c::e2) (hn:¬ S c.r.i) {v:AV} {da dsx:List ADef}
  (ha:stA e2 aN=(y5 c.a da).put c.r.o.dst v) {s1:AAct} (hs:s1=(y5 s dsx).put c.r.o.dst v) :
  (∀ t i,(S i∨i=c.r.i)→S6 ops i=some t→s1.val t=aN.val t)∧(∀ t,(∀ i,(S i∨i=c.r.i)→S6 ops i≠some t)→s1.val t=a0.val t)∧s1.n=a0.n:=by
 have hcs:c ∈ cs:=by rw [e];simp
 have hrow:=C.row hcs
 have hcn:c.a.n=a0.n:=by
  have:=(C.same e1 [] (c::e2) e).1
  rw [← e,C.first.1] at this
  exact this.symm
 have uniq:∀ i t,S6 ops i=some t→c.r.o.dst=some t→i=c.r.i:=by
  intro i t h1 h2
  unfold S6 at h1
  cases ho:ops[i]? with
  | none=>rw [ho] at h1;cases h1
  | some o =>
   rw [ho] at h1
   exact C.w2 _ _ _ _ _ ho hrow.get h1 h2
 have keep:∀ t,c.r.o.dst≠some t→s1.val t=s.val t:=fun t h=>by rw [hs,(put_val _ _ _ _).2 (.inl h)];rfl
 refine ⟨fun t i hi hd=>?_,fun t ht=>?_,by rw [hs];exact ((y5 s dsx).put_ds _ _).2.2.trans p.n⟩
 ·rcases hi with hi | rfl
  ·by_cases hcd:c.r.o.dst=some t
   ·rw [uniq i t hd hcd] at hi;exact absurd hi hn
   ·rw [keep t hcd];exact p.valS t i hi hd
  ·rw [hrow.dst] at hd
   rw [C.left e hd,ha,hs]
   by_cases ht:t<a0.n
   ·rw [(put_val _ _ _ _).1 hd (by show t<s.n;rw [p.n];exact ht),(put_val _ _ _ _).1 hd (by show t<c.a.n;rw [hcn];exact ht)]
   ·rw [(put_val _ _ _ _).2 (.inr (by show ¬ t<s.n;rw [p.n];exact ht)),(put_val _ _ _ _).2 (.inr (by show ¬ t<c.a.n;rw [hcn];exact ht))]
    show s.val t=c.a.val t
    have k1:=C.skip (t:=t) e1 [] (c::e2) e fun x hx hxd=>(C.uniq e).1 x hx (C.dst (by rw [e];exact List.mem_append_left _ hx) hcs hxd hd)
    rw [← e,C.first.1] at k1
    rw [p.valN t fun i hi hid=>hn (uniq i t hid hd ▸ hi)]
    exact k1
 ·rw [keep t (by rw [← hrow.dst];exact ht _ (.inr rfl))]
  exact p.valN t fun i hi=>ht i (.inl hi)
theorem Anc.inS {ops:Array Oper} {S:Nat→Prop} (hcl:∀ i o e,S i→ops[i]? = some o→e ∈ o.after.toList→K7 e=true→S e.on) {i j:Nat} (h:Anc ops i j):S i→S j:=by
 induction h with
 | one ho he hb=>exact fun hi=>hcl _ _ _ hi ho he hb
 | more ho he hb _ ih=>exact fun hi=>ih (hcl _ _ _ hi ho he hb)
theorem j06 (hC:R7 P B w0 call) (hY:M3 P B w0 call) (C:Canon P call ops a0 h0 aN hN W cs) {b:Frame} (p:Pre P B w0 ops a0 aN h0 hN cs φ0 b.roundOf.isSome S c1 c2 φ s tm ds w)
  (hh:f0X c2) {i:Nat} {o:Oper} (ho:ops[i]? = some o) (hn:¬ S i) (hready:∀ e ∈ o.after.toList,K7 e=true→S e.on) (rest:List Nat) (k:List Item) (fs:List Frame) :
  ∃ d1 d2 φ' s' tm' ds' w',Steps P (lone (mk b tm ds (.inRegion ops (i::rest)::k)) fs w) (lone (mk b tm' ds' (.inRegion ops rest::k)) fs w') ∧
   Pre P B w0 ops a0 aN h0 hN cs φ0 b.roundOf.isSome (fun j=>S j∨j=i) d1 d2 φ' s' tm' ds' w':=by
 have hi:i<ops.size:=(Array.getElem?_eq_some_iff.1 ho).1
 obtain ⟨c,hc,rfl⟩:=C.cover hi
 have hrow:=C.row hc
 have hgo:c.r.o=o:=by have:=hrow.get;rw [ho] at this;cases this;rfl
 subst hgo
 have hcl:=fun i j (hi:S i) (ha:Anc ops i j)=>Anc.inS p.closed ha hi
 have hanc:∀ j,Anc ops c.r.i j→S j:=by
  intro j ha
  cases ha with
  | one ho' he hb=>rw [ho] at ho';cases ho';exact hready _ he hb
  | more ho' he hb h2=>rw [ho] at ho';cases ho';exact hcl _ _ (hready _ he hb) h2
 have closed':∀ j o e,(S j∨j=c.r.i)→ops[j]? = some o→e ∈ o.after.toList→K7 e=true→(S e.on∨e.on=c.r.i):=by
  rintro j o e (hj | rfl) hjo he hb
  ·exact .inl (p.closed _ _ _ hj hjo he hb)
  ·rw [ho] at hjo;cases hjo;exact .inl (hready _ he hb)
 have guards:∀ {a a':AAct},(∀ t ∈ c.r.rd,a.val t=a'.val t)→j4 ops c.r.o a=j4 ops c.r.o a':=fun h=>f0A fun t ht=>h t (by rw [hrow.rd];exact List.mem_append_left _ ht)
 have evs:∀ {a a':AAct} {h:AH},(∀ t ∈ c.r.rd,a.val t=a'.val t)→evC P c.r.c a h=evC P c.r.c a' h:=fun h=>k0R fun t ht=>h t (by rw [hrow.rd];exact List.mem_append_right _ ht)
 have hc':=hc
 rw [p.split] at hc'
 rcases List.mem_append.1 hc' with hc1 | hc2
 ·
  obtain ⟨e1,e2,he⟩:=List.append_of_mem hc1
  have e:cs=e1++c::(e2++c2):=by rw [p.split,he];simp
  have hlight:c.r.k.isHeavy=false:=by
   cases hk:c.r.k.isHeavy with
   | false=>rfl
   | true=>exact absurd (p.heavies c hc1 hk) hn
  have hp:=C.place _ _ _ e
  have ra:=d0Q C p e hn hanc hcl
  have ra1:∀ t ∈ c.r.rd,s.val t=c.a.val t:=fun t ht=>(ra t ht).1
  have hcrd:c.a.rd=s.rd:=by
   have:=(C.same e1 [] _ e).2
   rw [← e,C.first.1] at this
   rw [p.st.rd,← p.rda];exact this.symm
  have fin:∀ v φ' tm' ds' w',stA (e2++c2) aN=(y5 c.a c.a.ds).put c.r.o.dst v→Steps P (lone (mk b tm ds (.inRegion ops (c.r.i::rest)::k)) fs w) (lone (mk b tm' ds' (.inRegion ops rest::k)) fs w') →
    St P B w0 φ' ((y5 s s.ds).put c.r.o.dst v) (stH c2 hN) b.roundOf.isSome tm' ds' w'→Ext φ0 h0 φ' (stH c2 hN) →
    (∀ x ∈ c1,¬ S x.r.i→x.r.i≠c.r.i→x.r.k=.alloc→j4 ops x.r.o x.a=.ok true→φ' x.h.next=none) →
    ∃ d1 d2 φ' s' tm' ds' w',Steps P (lone (mk b tm ds (.inRegion ops (c.r.i::rest)::k)) fs w) (lone (mk b tm' ds' (.inRegion ops rest::k)) fs w') ∧
     Pre P B w0 ops a0 aN h0 hN cs φ0 b.roundOf.isSome (fun j=>S j∨j=c.r.i) d1 d2 φ' s' tm' ds' w':=by
   intro v φ' tm' ds' w' hav hst st' ext' hpr
   obtain ⟨u1,u2,u3⟩:=d0U C p e hn (dsx:=s.ds) hav rfl
   refine ⟨c1,c2,φ',_,tm',ds',w',hst,⟨p.split,?_,fun x hx hxh=>.inl (p.heavies x hx hxh),closed',u1,u2,u3,?_,st',p.rda,ext',?_,?_⟩⟩
   ·rintro j (hj | rfl)
    ·exact p.sub j hj
    ·exact ⟨c,hc1,rfl⟩
   ·rw [((y5 s s.ds).put_ds _ _).1];exact p.dsE
   ·intro x hx hxn hxk hxw
    obtain ⟨mkv,O,q1,q2,q3,q4,q5,q6⟩:=p.prom x hx (fun e=>hxn (.inl e)) hxk hxw
    exact ⟨mkv,O,q1,q2,q3,q4,hpr x hx (fun e=>hxn (.inl e)) (fun e=>hxn (.inr e)) hxk hxw,q6⟩
   ·intro x hx y hy n1 k1 m1 n2 k2 m2 hne
    exact p.apart x hx y hy (fun e=>n1 (.inl e)) k1 m1 (fun e=>n2 (.inl e)) k2 m2 hne
  have byOper:∀ v,stA (e2++c2) aN=(y5 c.a c.a.ds).put c.r.o.dst v→D0 P call c.r.o s (stH c2 hN)=.ok ((y5 s s.ds).put c.r.o.dst v,stH c2 hN)→j4 ops c.r.o s=.ok true →
    ∃ d1 d2 φ' s' tm' ds' w',Steps P (lone (mk b tm ds (.inRegion ops (c.r.i::rest)::k)) fs w) (lone (mk b tm' ds' (.inRegion ops rest::k)) fs w') ∧
     Pre P B w0 ops a0 aN h0 hN cs φ0 b.roundOf.isSome (fun j=>S j∨j=c.r.i) d1 d2 φ' s' tm' ds' w':=by
   intro v hav hev hw
   obtain ⟨φ1,tm1,ds1,w1,st1,s1,e1⟩:=d0m hC hY hev p.st ho (H0 p.st.act hw) k fs (rest:=rest)
   refine fin v φ1 tm1 ds1 w1 hav st1 s1 (p.ext.trans e1) fun x hx hxn _ hxk hxw=>?_
   obtain ⟨mkv,O,q1,q2,q3,q4,q5,q6⟩:=p.prom x hx hxn hxk hxw
   exact (e1.keep _ q3 q5).1
  have byValue:∀ v,evC P c.r.c s (stH c2 hN)=.ok (.value v,stH c2 hN)→D0 P call c.r.o s (stH c2 hN)=.ok ((y5 s s.ds).put c.r.o.dst v,stH c2 hN):=by
   intro v hv
   unfold D0
   rw [hrow.comp]
   simp only [hv,i7]
   rfl
  rcases hp.step with ⟨hw,hst⟩ | ⟨hw,hst,_⟩
  ·have hws:j4 ops c.r.o s=.ok true:=(guards ra1).trans hw
   unfold D0 at hst
   rw [hrow.comp] at hst
   simp only at hst
   split at hst
   ·rename_i n h2 hev
    rcases e0q c.r.k with hk | hk | hk | hk
    ·rw [hk] at hlight;cases hlight
    ·
     obtain ⟨v,rfl,rfl,hall⟩:=j0O (d0h (hrow.kind ▸ hk)) hev
     simp only [i7,Except.ok.injEq,Prod.mk.injEq] at hst
     exact byOper v hst.1.symm (byValue v (by rw [evs ra1];exact hall _)) hws
    ·
     obtain ⟨v,rfl,rfl⟩:=h0i (a06 (hrow.kind ▸ hk)) hev
     simp only [i7,Except.ok.injEq,Prod.mk.injEq] at hst
     have hav:stA (e2++c2) aN=(y5 c.a c.a.ds).put c.r.o.dst v:=hst.1.symm
     have hrd:c.r.k.isRead=true:=by rw [hk];rfl
     have ra2:∀ t ∈ c.r.rd,s.val t=(stA c2 aN).val t:=fun t ht=>(ra t ht).2 hrd hc1
     have hreads:j0s P ops c1 (stA c2 aN) (stH c2 hN):=by
      cases c2 with
      | nil =>
       have e0:cs=c1:=by rw [p.split,List.append_nil]
       have:=C.reads
       rw [e0] at this
       exact this
      | cons x c3=>exact (C.place c1 x c3 p.split).again (hh x c3 rfl)
     have hag:g0z P ops c.r (stA c2 aN) (stH c2 hN):=by
      rcases hreads c hc1 hrd with h1 | ⟨x,hx,hxh,hxi⟩
      ·exact h1
      ·have hSx:=p.heavies x hx hxh
       rcases hxi with hxi | hxi
       ·rw [← hxi] at hSx;exact absurd hSx hn
       ·exact absurd (hcl _ _ hSx hxi) hn
     rcases hag with h1 | ⟨v2,h3,h1,h4,h5⟩
     ·rw [← guards ra2,hws] at h1;cases h1
     ·rw [← evs ra2] at h4
      obtain ⟨v3,e3,rfl⟩:=h0i (a06 (hrow.kind ▸ hk)) h4
      have hval:∀ d,c.r.o.dst=some d→v2=aN.val d:=fun d hd=>by
       rw [h5 d hd]
       have:=C.skip (t:=d) c2 c1 [] (by rw [p.split];simp) fun y hy hyd=>by
        have hyi:=C.dst (by rw [p.split];exact List.mem_append_right _ hy) hc hyd hd
        exact (C.uniq e).2 y (List.mem_append_right _ hy) hyi
       rw [List.append_nil] at this
       exact this
      have hcn:c.a.n=a0.n:=by
       have:=(C.same e1 [] _ e).1
       rw [← e,C.first.1] at this
       exact this.symm
      have hput:(y5 s s.ds).put c.r.o.dst v2=(y5 s s.ds).put c.r.o.dst v:=by
       cases hd:c.r.o.dst with
       | none=>rfl
       | some d =>
        by_cases hlt:d<a0.n
        ·have:v2=v:=by
          rw [hval d hd,C.left e hd,hav,(put_val _ _ _ _).1 hd (by show d<c.a.n;rw [hcn];exact hlt)]
         rw [this]
        ·have hb:Nat.blt d (y5 s s.ds).n=false:=by
          cases hb:Nat.blt d (y5 s s.ds).n with
          | false=>rfl
          | true =>
           have hb2:d<(y5 s s.ds).n:=Nat.blt_eq ▸ hb
           have hb3:(y5 s s.ds).n=a0.n:=p.n
           rw [hb3] at hb2;exact absurd hb2 hlt
         simp only [AAct.put,hb,cond_false]
      have hev2:=byValue v2 h4
      rw [hput] at hev2
      exact byOper v hav hev2 hws
    ·
     obtain ⟨mkv,O,q1,q2,q3,q4,q5,q6,q7⟩:=p.prom c hc1 hn hk hw
     have hev0:=q6
     rw [hev] at hev0
     simp only [Except.ok.injEq,Prod.mk.injEq] at hev0
     obtain ⟨rfl,rfl⟩:=hev0
     simp only [i7,Except.ok.injEq,Prod.mk.injEq] at hst
     have hevs:evC P c.r.c s (stH c2 hN)=.ok (.value (mkv (stH c2 hN).next),(stH c2 hN).push O):=by rw [evs ra1];exact q7 _
     obtain ⟨mkv2,O2,r1,r2,r3,r4,r5⟩:=i0x hrow.comp (hrow.kind ▸ hk) hevs
     have hO:O2=O:=by
      have h1:((stH c2 hN).push O).get (stH c2 hN).next=some O:=by rw [AH.get_push,if_pos rfl]
      rw [r3,AH.get_push,if_pos rfl] at h1
      cases h1;rfl
     subst hO
     have hF:=r4 _ _ p.st.glob p.st.act
     obtain ⟨v',w1,φ1,hrun,hcon,R1,X1⟩:=d0u (ds:=ds) hrow.comp hevs p.st.glob p.st.act p.st.rel
     obtain ⟨pl,hc3,R3⟩:=n07 q1 hF p.st.rel R1 X1 hcon q5 q3 q4
     have hnd:b.roundOf=none∨∀ cc,c.r.o.op≠.defer cc:=.inr fun cc ecc=>by
      obtain ⟨d,ed⟩:=c0f ecc hrow.comp hevs
      cases ed
     have hle:=Phi.le_set pl q5
     refine fin (mkv c.h.next) (φ.set c.h.next pl) (c0H tm c.r.o.dst v') ds w1 hst.1.symm (.one (go_value ho (H0 p.st.act hws) hnd hrun)) (p.st.put hle hc3 R3 _) ?_ ?_
     ·refine ⟨p.ext.le.trans hle,p.ext.next,fun j hj hjn=>?_⟩
      obtain ⟨k1,k2⟩:=p.ext.keep j hj hjn
      exact ⟨by rw [Phi.set_other _ _ (by omega)];exact k1,k2⟩
     ·intro x hx hxn hxi hxk hxw
      obtain ⟨_,_,_,_,_,_,x5,_⟩:=p.prom x hx hxn hxk hxw
      rw [Phi.set_other _ _ (p.apart x hx c hc1 hxn hxk hxw hn hk hw hxi)]
      exact x5
   ·cases hst
  ·have hws:j4 ops c.r.o s=.ok false:=(guards ra1).trans hw
   refine fin d8 φ (c0H tm c.r.o.dst undef) ds w hst (.one (go_unwanted ho (H0 p.st.act hws))) (p.st.put (.refl _) G9 p.st.rel _) p.ext fun x hx hxn _ hxk hxw=>?_
   obtain ⟨_,_,_,_,_,_,x5,_⟩:=p.prom x hx hxn hxk hxw
   exact x5
 ·
  cases c2 with
  | nil=>cases hc2
  | cons x c3 =>
   have hxh:=hh x c3 rfl
   have hcx:c=x:=by
    rcases List.mem_cons.1 hc2 with h1 | h1
    ·exact h1
    ·obtain ⟨f1,f2,hf⟩:=List.append_of_mem h1
     have e:cs=(c1++x::f1)++c::f2:=by rw [p.split,hf];simp
     have hS:=hanc _ ((C.place _ _ _ e).fact.hv x (by simp) hxh)
     obtain ⟨y,hy,hyi⟩:=p.sub _ hS
     exact absurd hyi ((C.uniq p.split).1 y hy)
   subst hcx
   have e:=p.split
   have hp:=C.place _ _ _ e
   have ra1:∀ t ∈ c.r.rd,s.val t=c.a.val t:=fun t ht=>(d0Q C p e hn hanc hcl t ht).1
   have hcrd:c.a.rd=s.rd:=by
    have:=(C.same c1 [] _ e).2
    rw [← e,C.first.1] at this
    rw [p.st.rd,← p.rda];exact this.symm
   have fin:∀ v da φ' tm' ds' w',stA c3 aN=(y5 c.a da).put c.r.o.dst v→Steps P (lone (mk b tm ds (.inRegion ops (c.r.i::rest)::k)) fs w) (lone (mk b tm' ds' (.inRegion ops rest::k)) fs w') →
     St P B w0 φ' ((y5 s da).put c.r.o.dst v) (stH c3 hN) b.roundOf.isSome tm' ds' w'→Ext φ c.h φ' (stH c3 hN) →
     ∃ d1 d2 φ' s' tm' ds' w',Steps P (lone (mk b tm ds (.inRegion ops (c.r.i::rest)::k)) fs w) (lone (mk b tm' ds' (.inRegion ops rest::k)) fs w') ∧
      Pre P B w0 ops a0 aN h0 hN cs φ0 b.roundOf.isSome (fun j=>S j∨j=c.r.i) d1 d2 φ' s' tm' ds' w':=by
    intro v da φ' tm' ds' w' hav hst st' ext'
    obtain ⟨u1,u2,u3⟩:=d0U C p e hn (dsx:=da) hav rfl
    have only:∀ x ∈ c1++[c],¬ (S x.r.i∨x.r.i=c.r.i)→x ∈ c1∧¬ S x.r.i:=by
     intro x hx hxn
     rcases List.mem_append.1 hx with h1 | h1
     ·exact ⟨h1,fun e=>hxn (.inl e)⟩
     ·rw [List.mem_singleton.1 h1] at hxn
      exact absurd (.inr rfl) hxn
    refine ⟨c1++[c],c3,φ',_,tm',ds',w',hst,⟨by rw [e];simp,?_,?_,closed',u1,u2,u3,?_,st',p.rda,p.ext.trans ext',?_,?_⟩⟩
    ·rintro j (hj | rfl)
     ·obtain ⟨y,h1,h2⟩:=p.sub j hj
      exact ⟨y,List.mem_append_left _ h1,h2⟩
     ·exact ⟨c,by simp,rfl⟩
    ·intro y hy hyh
     rcases List.mem_append.1 hy with h1 | h1
     ·exact .inl (p.heavies y h1 hyh)
     ·rw [List.mem_singleton.1 h1];exact .inr rfl
    ·rw [((y5 s da).put_ds _ _).1,hav,((y5 c.a da).put_ds _ _).1];rfl
    ·intro y hy hyn hyk hyw
     obtain ⟨h1,h2⟩:=only y hy hyn
     obtain ⟨mkv,O,q1,q2,q3,q4,q5,q6⟩:=p.prom y h1 h2 hyk hyw
     obtain ⟨k1,k2⟩:=ext'.keep _ q3 q5
     exact ⟨mkv,O,q1,q2,Nat.lt_of_lt_of_le q3 ext'.next,k2.trans q4,k1,q6⟩
    ·intro y hy z hz n1 k1 m1 n2 k2 m2 hne
     obtain ⟨y1,y2⟩:=only y hy n1
     obtain ⟨z1,z2⟩:=only z hz n2
     exact p.apart y y1 z z1 y2 k1 m1 z2 k2 m2 hne
   rcases hp.step with ⟨hw,hst⟩ | ⟨hw,hst,hhe⟩
   ·have hws:j4 ops c.r.o s=.ok true:=(guards ra1).trans hw
    obtain ⟨v,da,hav,hev⟩:=c0F hrow.comp (evs fun t ht=>(ra1 t ht).symm) p.dsE.symm hcrd hst
    obtain ⟨φ1,tm1,ds1,w1,st1,s1,x1⟩:=d0m hC hY hev p.st ho (H0 p.st.act hws) k fs (rest:=rest)
    exact fin v da φ1 tm1 ds1 w1 hav st1 s1 x1
   ·have hws:j4 ops c.r.o s=.ok false:=(guards ra1).trans hw
    have hsd:s.ds=c.a.ds:=p.dsE
    refine fin d8 c.a.ds φ (c0H tm c.r.o.dst undef) ds w hst (.one (go_unwanted ho (H0 p.st.act hws))) ?_ (by rw [hhe];exact .refl _ _)
    rw [hhe,← hsd]
    exact p.st.put (.refl _) G9 p.st.rel _
end Go.Dr

namespace Go.Dr
open Go.RowKit
variable {P:Program} {B:Nat} {w0:World} {call:u6} {ops:Array Oper} {W:Nat} {a0 aN:AAct} {h0 hN:AH} {cs:List Cel} {φ0:Phi}
theorem h0x (e:Edge):Region.binds .any e=K7 e:=by
 unfold Region.binds K7
 cases e.ground <;> rfl
theorem f04 (S:Nat→Prop):∀ l:List Cel,(∀ c ∈ l,S c.r.i)∨∃ e1 c e2,l=e1++c::e2∧(∀ x ∈ e1,S x.r.i)∧¬ S c.r.i
 | []=>.inl fun c hc=>(by cases hc)
 | c::l=>by
  by_cases h:S c.r.i
  ·rcases f04 S l with h1 | ⟨e1,c',e2,h1,h2,h3⟩
   ·exact .inl fun x hx=>by
     rcases List.mem_cons.1 hx with rfl | hx
     ·exact h
     ·exact h1 x hx
   ·refine .inr ⟨c::e1,c',e2,by rw [h1];rfl,fun x hx=>?_,h3⟩
    rcases List.mem_cons.1 hx with rfl | hx
    ·exact h
    ·exact h2 x hx
  ·exact .inr ⟨[],c,l,rfl,fun x hx=>(by cases hx),h⟩
theorem f05 (C:Canon P call ops a0 h0 aN hN W cs) {S:Nat→Prop} {φ:Phi} {s:AAct} {rd:Bool} {tm:Array Value} {ds:List Deferred} {w:World} {c1 c2:List Cel}
  (p:Pre P B w0 ops a0 aN h0 hN cs φ0 rd S c1 c2 φ s tm ds w) (hall:∀ c ∈ cs,S c.r.i):St P B w0 φ aN hN rd tm ds w∧Ext φ0 h0 φ hN:=by
 have hnil:c2=[]:=by
  cases c2 with
  | nil=>rfl
  | cons x c3 =>
   obtain ⟨y,hy,hyi⟩:=p.sub _ (hall x (by rw [p.split];simp))
   exact absurd hyi ((C.uniq p.split).1 y hy)
 subst hnil
 have e0:cs=c1:=by rw [p.split,List.append_nil]
 have hn:aN.n=a0.n∧aN.rd=a0.rd:=by
  have:=C.same c1 [] [] (by rw [← p.split];rfl)
  rw [← p.split,C.first.1] at this
  exact ⟨this.1.symm,this.2.symm⟩
 refine ⟨⟨⟨?_,fun t=>?_⟩,?_,p.st.rel,p.st.glob,?_⟩,p.ext⟩
 ·rw [p.st.act.size,p.n,hn.1]
 ·have hv:s.val t=aN.val t:=by
   by_cases h:∃ i,S i∧S6 ops i=some t
   ·obtain ⟨i,h1,h2⟩:=h
    exact p.valS t i h1 h2
   ·rw [p.valN t fun i hi hd=>h ⟨i,hi,hd⟩]
    have:=C.skip (t:=t) c1 [] [] (by rw [← p.split];rfl) fun x hx hd=>by
     have hxs:x ∈ cs:=by rw [e0];exact hx
     exact h ⟨x.r.i,hall x hxs,by rw [(C.row hxs).dst];exact hd⟩
    rw [← p.split,C.first.1] at this
    exact this
  rw [← hv];exact p.st.act.val t
 ·have hd:s.ds=aN.ds:=p.dsE
  rw [← hd];exact p.st.defs
 ·rw [hn.2];exact p.rda
theorem l0e (C:Canon P call ops a0 h0 aN hN W cs) {rd:Bool} {tm:Array Value} {ds:List Deferred} {w:World} (st:St P B w0 φ0 a0 h0 rd tm ds w) {S:Nat→Prop} (hS:∀ i,¬ S i) :
  Pre P B w0 ops a0 aN h0 hN cs φ0 rd S [] cs φ0 a0 tm ds w :=
 ⟨rfl,fun i hi=>absurd hi (hS i),fun c hc=>(by cases hc),fun i o e hi=>absurd hi (hS i),fun t i hi=>absurd hi (hS i),fun t _=>rfl,rfl,by rw [C.first.1],by rw [C.first.2];exact st,st.rd,by rw [C.first.2];exact .refl _ _,
  fun c hc=>(by cases hc),fun c hc=>(by cases hc)⟩
theorem j02 {listed:Array Bool} {i:Nat} (hi:i<listed.size) (hl:listed.getD i false=false):∀ {l:List Cel},(∃ c ∈ l,c.r.i=i) →
  (l.countP fun c=>!(listed.setIfInBounds i true).getD c.r.i false)<l.countP fun c=>!listed.getD c.r.i false:=by
 have hmono:∀ l:List Cel,(l.countP fun c=>!(listed.setIfInBounds i true).getD c.r.i false)≤l.countP fun c=>!listed.getD c.r.i false:=fun l=>by
  refine List.countP_mono_left fun c _ h=>?_
  simp only [Bool.not_eq_true',Array.getD_eq_getD_getElem?] at h ⊢
  by_cases hc:c.r.i=i
  ·rw [hc,Array.getElem?_setIfInBounds_self_of_lt hi] at h;cases h
  ·rw [Array.getElem?_setIfInBounds_ne (fun e=>hc e.symm)] at h;exact h
 rintro l ⟨c,hc,hci⟩
 obtain ⟨e1,e2,rfl⟩:=List.append_of_mem hc
 rw [List.countP_append,List.countP_append,List.countP_cons,List.countP_cons]
 have h1:=hmono e1
 have h2:=hmono e2
 have h3:(!(listed.setIfInBounds i true).getD c.r.i false)=false:=by
  rw [Array.getD_eq_getD_getElem?,hci,Array.getElem?_setIfInBounds_self_of_lt hi];rfl
 have h4:(!listed.getD c.r.i false)=true:=by rw [hci,hl];rfl
 rw [h3,h4]
 simp only [Bool.false_eq_true,if_false,if_true]
 omega
theorem X6 (hC:R7 P B w0 call) (hY:M3 P B w0 call):e0A P B w0 call:=by
 intro ops a0 h0 aN hN he φ0 b tm ds w st t k fs
 obtain ⟨W,cs,C⟩:=k0Z he
 have key:∀ (fuel t:Nat) (listed:Array Bool) (c1 c2:List Cel) (φ:Phi) (s:AAct) (tm:Array Value) (ds:List Deferred) (w:World),listed.size=ops.size →
   (cs.countP fun c=>!listed.getD c.r.i false)≤fuel →
   Pre P B w0 ops a0 aN h0 hN cs φ0 b.roundOf.isSome (fun j=>listed.getD j false=true) c1 c2 φ s tm ds w →
   ∃ φ' tm' ds' w',Steps P (lone (mk b tm ds (.inRegion ops (Region.linearise.go .any ops fuel t listed [])::k)) fs w) (lone (mk b tm' ds' k) fs w') ∧
    St P B w0 φ' aN hN b.roundOf.isSome tm' ds' w'∧Ext φ0 h0 φ' hN:=by
  intro fuel
  induction fuel with
  | zero =>
   intro t listed c1 c2 φ s tm ds w hsz hcount p
   have hall:∀ c ∈ cs,listed.getD c.r.i false=true:=by
    have:cs.countP (fun c=>!listed.getD c.r.i false)=0:=Nat.le_zero.1 hcount
    intro c hc
    have:=List.countP_eq_zero.1 this c hc
    simpa using this
   obtain ⟨f1,f2⟩:=f05 C p hall
   exact ⟨φ,tm,ds,w,.one go_regionEnd,f1,f2⟩
  | succ fuel ih =>
   intro t listed c1 c2 φ s tm ds w hsz hcount p
   simp only [Region.linearise.go]
   change ∃ φ' tm' ds' w',Steps P (lone (mk b tm ds (.inRegion ops (match (Region.ready .any ops listed)[t%(Region.ready .any ops listed).length]? with
    | some i=>Region.linearise.go .any ops fuel (t/(Region.ready .any ops listed).length) (listed.setIfInBounds i true) [i]
    | none=>[].reverse)::k)) fs w) (lone (mk b tm' ds' k) fs w')∧_
   cases hi:(Region.ready .any ops listed)[t%(Region.ready .any ops listed).length]? with
   | none =>
    have hnil:Region.ready .any ops listed=[]:=by
     cases hr:Region.ready .any ops listed with
     | nil=>rfl
     | cons x xs =>
      rw [hr] at hi
      have hlt:t%(x::xs).length<(x::xs).length:=Nat.mod_lt _ (by simp)
      simp at hi
      simp at hlt
      omega
    have hall:∀ c ∈ cs,listed.getD c.r.i false=true:=by
     rcases f04 (fun j=>listed.getD j false=true) cs with h1 | ⟨e1,c,e2,h1,h2,h3⟩
     ·exact h1
     ·exfalso
      have hp:=C.place _ _ _ h1
      have hrow:=hp.fact.row
      have hlt:c.r.i<ops.size:=(Array.getElem?_eq_some_iff.1 hrow.get).1
      have:c.r.i ∈ Region.ready .any ops listed:=by
       unfold Region.ready
       rw [List.mem_filter]
       refine ⟨List.mem_range.2 hlt,?_⟩
       rw [hrow.get]
       simp only [Option.map_some,Option.getD_some,Bool.and_eq_true]
       constructor
       ·simp only [Array.getD_eq_getD_getElem?] at h3 ⊢
        rw [Array.getElem?_eq_getElem (by rw [hsz];exact hlt)] at h3 ⊢
        simpa using h3
       ·rw [Array.all_eq_true']
        intro e he
        rw [h0x]
        cases hb:K7 e with
        | false=>rfl
        | true =>
         obtain ⟨x,hx,hxi⟩:=hp.lin e (Array.mem_toList_iff.2 he) hb
         have:=h2 x hx
         rw [hxi] at this
         rw [this];rfl
      rw [hnil] at this
      cases this
    obtain ⟨f1,f2⟩:=f05 C p hall
    exact ⟨φ,tm,ds,w,.one go_regionEnd,f1,f2⟩
   | some i =>
    simp only []
    rw [linearise_go_acc,List.reverse_singleton,List.singleton_append]
    have hmem:=List.mem_of_getElem? hi
    unfold Region.ready at hmem
    rw [List.mem_filter,List.mem_range] at hmem
    obtain ⟨hlt,hmem⟩:=hmem
    obtain ⟨o,ho⟩:∃ o,ops[i]? = some o:=⟨_,Array.getElem?_eq_getElem hlt⟩
    rw [ho] at hmem
    simp only [Option.map_some,Option.getD_some,Bool.and_eq_true] at hmem
    obtain ⟨hm1,hm2⟩:=hmem
    have hli:listed.getD i false=false:=by
     simp only [Array.getD_eq_getD_getElem?] at hm1 ⊢
     rw [Array.getElem?_eq_getElem (by rw [hsz];exact hlt)] at hm1 ⊢
     simpa using hm1
    obtain ⟨d1,d2,hd,p2⟩:=j0t C c2 c1 p
    obtain ⟨g1,g2,φ',s',tm',ds',w',hst,p3⟩:=j06 hC hY C p2 hd ho (by rw [hli];simp) (fun e he hb=>by
     rw [Array.all_eq_true'] at hm2
     have:=hm2 e (Array.mem_toList_iff.1 he)
     rw [h0x,hb] at this
     simpa using this) (Region.linearise.go .any ops fuel (t/(Region.ready .any ops listed).length) (listed.setIfInBounds i true) []) k fs
    have hS:(fun j=>listed.getD j false=true∨j=i)=(fun j=>(listed.setIfInBounds i true).getD j false=true):=by
     funext j
     apply propext
     simp only [Array.getD_eq_getD_getElem?]
     by_cases hj:j=i
     ·subst hj
      rw [Array.getElem?_setIfInBounds_self_of_lt (by rw [hsz];exact hlt)]
      simp
     ·rw [Array.getElem?_setIfInBounds_ne (fun e=>hj e.symm)]
      simp [hj]
    rw [hS] at p3
    have hcov:=C.cover hlt
    have hdec:=j02 (by rw [hsz];exact hlt) hli hcov
    obtain ⟨φ2,tm2,ds2,w2,st2,f1,f2⟩:=ih _ _ _ _ _ _ _ _ _ (by rw [Array.size_setIfInBounds];exact hsz) (by omega) p3
    exact ⟨φ2,tm2,ds2,w2,hst.trans st2,f1,f2⟩
 have hlen:(cs.countP fun c=>!(Array.replicate ops.size false).getD c.r.i false)≤ops.size:=by
  refine Nat.le_trans List.countP_le_length ?_
  have:=C.all.length_eq
  rw [List.length_map,List.length_range] at this
  omega
 exact key ops.size t (Array.replicate ops.size false) [] cs φ0 a0 tm ds w (by simp) hlen (l0e C st fun i h=>by
  rw [Array.getD_eq_getD_getElem?,Array.getElem?_replicate] at h
  split at h <;> cases h)
theorem i0G {S:FuncId→Option (List AV→AH→R (AV×AH))} {lf:Nat} (hM:P.follows .mixedOrders=true) (hN:∀ (f:Nat) fn,P.funcs[f]? = some fn→fn.body.isSome=true→fn.name≠"runtime.NumGoroutine")
  (hS:b0m P B w0 S) (n:Nat):R7 P B w0 (t6 P S lf n)∧M3 P B w0 (t6 P S lf n)∧j0w P B w0 (a0v S (t6 P S lf n)) :=
 g0c hM hN hS (fun _ hC hY=>X6 hC hY) n
theorem h0y {S:FuncId→Option (List AV→AH→R (AV×AH))} {lf n:Nat} (hM:P.follows .mixedOrders=true) (hN:∀ (f:Nat) fn,P.funcs[f]? = some fn→fn.body.isSome=true→fn.name≠"runtime.NumGoroutine")
  (hS:b0m P B w0 S) {f:FuncId} {args:List AV} {h h':AH} {v:AV} (he:t6 P S lf n (.fn f) args h=.ok (v,h')) {φ:Phi} {w:World} {args':List Value} (ha:ConL φ args args') (hG:GlobRel P φ) (hR:Rel B w0 φ h w) :
  Calls P f ⟨args'⟩ w fun | .returned v',w'=>∃ φ',Con φ' v v'∧Rel B w0 φ' h' w'∧Ext φ h φ' h' | _,_=>False:=by
 obtain ⟨_,hK⟩:=(i0G hM hN hS n).1 _ _ _ _ _ he φ w args' ha hG hR
 intro cs
 obtain ⟨v',w',fr,fn,hR',hst,e1,e2,e3,e4,e5,e6⟩:=hK cs
 exact ⟨.returned v',w',fr,hR',hst,e1,e2,e3,e4,fn,e5,e6⟩
end Go.Dr

namespace Go.Dr
open Go.RowKit
variable {P:Program}
def l0h (n:Nat) (ρ:Nat→Value:=fun _=>.pointer none):Phi:=⟨fun g=>if g<n then some ⟨g,0,0⟩ else none,ρ⟩
theorem p0E (W:World) (n:Nat) {ρ:Nat→Value}:Rel W.heap.size W (l0h n ρ) ⟨n,.leaf⟩ W:=by
 refine ⟨fun i p e=>?_,fun i p o _ e=>(by cases e),fun i p o _ e=>(by cases e),fun i j p q oi oj _ _ _ e=>(by cases e),.refl _ _,Nat.le_refl _⟩
 simp only [l0h] at e
 split at e
 ·assumption
 ·cases e
theorem n0w (P:Program) {ρ:Nat→Value}:GlobRel P (l0h P.globals.size ρ):=fun g hg=>⟨0,by simp only [l0h];rw [if_pos hg]⟩
def g0G:R (AV×AH)→Bool
 | .ok (.bool b,_)=>b
 | _=>false
theorem j03 {r:R (AV×AH)} (h:g0G r=true):∃ h',r=.ok (.bool true,h'):=by
 unfold g0G at h
 split at h
 ·cases h;exact ⟨_,rfl⟩
 ·cases h
theorem e0G {P:Program} (h:P.funcs.all (fun f=>f.name != "runtime.NumGoroutine")=true):∀ (f:Nat) fn,P.funcs[f]? = some fn→fn.body.isSome=true→fn.name≠"runtime.NumGoroutine":=by
 intro f fn hf _
 rw [Array.all_eq_true'] at h
 have:=h fn (Array.mem_of_getElem? hf)
 simpa using this
theorem f0D {w:World} {r:Reach} {base:Nat} {t:TypeId} {v:Value} (h:Cell.okWide P w r base t v):h0f v=true:=by
 cases v <;> first | rfl | (unfold Cell.okWide Cell.ok at h;split at h <;> first | contradiction | (split at h <;> first | contradiction | cases h))
end Go.Dr

namespace Go.Dr
variable {P:Program} {c c':u6}
def G5 (c c':u6):Prop:=∀ t args h r,c t args h=.ok r→c' t args h=.ok r
theorem Y1 (hc:G5 c c') {o:Oper} {a:AAct} {h:AH} {r:AAct×AH} (he:D0 P c o a h=.ok r):D0 P c' o a h=.ok r:=by
 unfold D0 at he ⊢
 split at he
 ·split at he
  ·split at he
   ·exact he
   ·exact he
   ·exact he
   ·split at he
    ·rename_i hcall;simp only [hc _ _ _ _ hcall];exact he
    ·cases he
   ·split at he
    ·rename_i hcall;simp only [hc _ _ _ _ hcall];exact he
    ·cases he
  ·cases he
 ·cases he
theorem a0J (hc:G5 c c') {ops:Array Oper}:∀ (l:List Oper) {a:AAct} {h:AH} {r:AAct×AH},Z0 P c ops l a h=.ok r→Z0 P c' ops l a h=.ok r
 | [],_,_,_,he=>he
 | o::l,a,h,r,he=>by
  simp only [Z0] at he ⊢
  split at he
  ·split at he
   ·rename_i hop;simp only [Y1 hc hop];exact a0J hc l he
   ·cases he
  ·exact a0J hc l he
  ·cases he
theorem Q0 (hc:G5 c c') {ops:Array Oper}:∀ (l:List DEnt) {a:AAct} {h:AH} {r:AAct×AH},D6 P c ops l a h=.ok r→D6 P c' ops l a h=.ok r
 | [],_,_,_,he=>he
 | .op o::l,a,h,r,he=>by
  simp only [D6] at he ⊢
  split at he
  ·split at he
   ·rename_i hop;simp only [Y1 hc hop];exact Q0 hc l he
   ·cases he
  ·exact Q0 hc l he
  ·cases he
 | .stage re::l,a,h,r,he=>by
  simp only [D6] at he ⊢
  cases hb:again P ops re a h with
  | true=>rw [hb] at he;exact Q0 hc l he
  | false=>rw [hb] at he;cases he
theorem Y2 (hc:G5 c c') {ops:Array Oper} {a:AAct} {h:AH} {r:AAct×AH} (he:W7 P c ops a h=.ok r):W7 P c' ops a h=.ok r:=by
 unfold W7 at he ⊢
 split at he
 ·exact Q0 hc _ he
 ·cases he
theorem b0n {b b':AAct→AH→R (AX×AAct×AH)} (hb:∀ a h r,b a h=.ok r→b' a h=.ok r):∀ {n n':Nat} {a:AAct} {h:AH} {r:AX×AAct×AH},n≤n'→P2 b n a h=.ok r→P2 b' n' a h=.ok r
 | 0,_,_,_,_,_,he=>by cases he
 | n+1,0,_,_,_,hn,_=>absurd hn (by omega)
 | n+1,n'+1,a,h,r,hn,he=>by
  simp only [P2] at he ⊢
  split at he
  ·rename_i hbody;simp only [hb _ _ _ hbody];exact b0n hb (by omega) he
  ·rename_i hnot
   have:=hb _ _ _ he
   rw [this]
   split
   ·rename_i e;cases e;exact absurd he (hnot _ _)
   ·rfl
theorem j09 (hc:G5 c c') {f:AV} {params:Array Tmp} {assign body:Code} {a:AAct} {h:AH} {r:AX×AAct×AH} (he:g03 c f params assign body a h=.ok r):g03 c' f params assign body a h=.ok r:=by
 unfold g03 at he ⊢
 split at he
 ·cases hb:a.rd with
  | true=>rw [hb] at he;cases he
  | false =>
   rw [hb] at he
   simp only [cond_false,j0] at he ⊢
   split at he
   ·rename_i hcall;simp only [hc _ _ _ _ hcall];exact he
   ·cases he
 ·cases he
theorem l4 (hc:G5 c c') {lf lf':Nat} (hl:lf≤lf'):∀ (k:Code) {a:AAct} {h:AH} {r:AX×AAct×AH},d9 P c lf k a h=.ok r→d9 P c' lf' k a h=.ok r
 | .skip,_,_,_,he=>he
 | .label _,_,_,_,he=>he
 | .exit _,_,_,_,he=>he
 | .ret,_,_,_,he=>he
 | .goto _,_,_,_,he=>he
 | .refuse _,_,_,_,he=>he
 | .region _ ops draw,a,h,r,he=>by
  simp only [d9] at he ⊢
  cases draw with
  | true =>
   simp only [cond_true] at he ⊢
   split at he
   ·rename_i hop;simp only [Y2 hc hop];exact he
   ·cases he
  | false =>
   simp only [cond_false] at he ⊢
   split at he
   ·rename_i hop;simp only [a0J hc _ hop];exact he
   ·cases he
 | .seq x y,a,h,r,he=>by
  simp only [d9] at he ⊢
  split at he
  ·rename_i hx;simp only [l4 hc hl x hx];exact l4 hc hl y he
  ·rename_i hnot
   have:=l4 hc hl x he
   rw [this]
   split
   ·rename_i e;cases e;exact absurd he (hnot _ _)
   ·rfl
 | .cond o x y,a,h,r,he=>by
  simp only [d9] at he ⊢
  split at he
  ·unfold d0K at he ⊢
   split at he
   ·exact l4 hc hl x he
   ·exact l4 hc hl y he
   ·cases he
  ·cases he
 | .block id k,a,h,r,he=>by
  simp only [d9] at he ⊢
  split at he
  ·rename_i hx;simp only [l4 hc hl k hx];exact he
  ·rename_i hnot
   have:=l4 hc hl k he
   rw [this]
   split
   ·rename_i e;cases e;exact absurd he (hnot _ _ _)
   ·rfl
 | .loop k,a,h,r,he=>by
  simp only [d9] at he ⊢
  exact b0n (fun a h r=>l4 hc hl k) hl he
 | .scope k,a,h,r,he=>by
  simp only [d9] at he ⊢
  split at he
  ·cases he
  ·rename_i hnot
   have:=l4 hc hl k he
   rw [this]
   split
   ·rename_i e;cases e;exact absurd he (hnot _ _ _)
   ·rfl
 | .rangeFunc f ps x y,a,h,r,he=>by
  simp only [d9] at he ⊢
  split at he
  ·exact j09 hc he
  ·cases he
theorem D4 (hc:G5 c c'):∀ (l:List ADef) {h h':AH},y4 c l h=.ok h'→y4 c' l h=.ok h'
 | [],_,_,he=>he
 | d::l,h,h',he=>by
  unfold y4 at he ⊢
  split at he
  ·split at he
   ·exact D4 hc l he
   ·cases he
  ·split at he
   ·split at he
    ·rename_i hcall;simp only [hc _ _ _ _ hcall];exact D4 hc l he
    ·cases he
   ·cases he
   ·cases he
theorem e0e (hc:G5 c c') {fn:Func} {x y:R (AX×AAct×AH)} (hx:∀ r,x=.ok r→y=.ok r) {r:AV×AH} (he:D1 P c fn x=.ok r):D1 P c' fn y=.ok r:=by
 unfold D1 at he
 split at he
 ·rename_i x a h
  rw [hx _ rfl]
  simp only [D1]
  split at he
  ·split at he
   ·rename_i hd;simp only [D4 hc _ hd];exact he
   ·cases he
  ·split at he
   ·rename_i hd;simp only [D4 hc _ hd];exact he
   ·cases he
  ·cases he
 ·cases he
theorem h0E (hc:G5 c c') {lf lf':Nat} (hl:lf≤lf') {l:Nat} {q:ALoop} {args:List AV} {h:AH} {r:AV×AH} (he:b0K P c lf l q args h=.ok r):b0K P c' lf' l q args h=.ok r:=by
 unfold b0K at he ⊢
 cases hb:Nat.beq args.length q.params.size with
 | false=>rw [hb] at he;cases he
 | true =>
  rw [hb] at he
  simp only [cond_true] at he ⊢
  split at he
  ·rename_i hx
   simp only [l4 hc hl _ hx]
   split at he
   ·split at he
    ·generalize hres:d9 P c lf q.body _ _=res at he
     unfold a0u at he
     split at he
     ·rw [l4 hc hl _ hres];exact he
     ·cases he
    ·cases he
   ·cases he
  ·cases he
  ·cases he
theorem c0k {S:FuncId→Option (List AV→AH→R (AV×AH))} (hc:G5 c c'):G5 (a0v S c) (a0v S c'):=by
 intro t args h r he
 unfold a0v at he ⊢
 split at he
 ·split at he
  ·cases he
  ·exact hc _ _ _ _ he
 ·exact hc _ _ _ _ he
theorem Y3 {S:FuncId→Option (List AV→AH→R (AV×AH))} {lf lf':Nat} (hl:lf≤lf'):∀ {n n':Nat},n≤n'→G5 (t6 P S lf n) (t6 P S lf' n')
 | 0,_,_=>fun t args h r he=>by cases t <;> cases he
 | n+1,0,hn=>absurd hn (by omega)
 | n+1,n'+1,hn=>fun t args h r he=>by
  have ih:=Y3 (S:=S) hl (n:=n) (n':=n') (by omega)
  cases t with
  | fn f =>
   unfold t6 at he ⊢
   split at he
   ·exact he
   ·split at he
    ·split at he
     ·rename_i fn _ _ k _
      cases hb:Nat.ble args.length fn.ntmps with
      | false=>rw [hb] at he;cases he
      | true =>
       rw [hb] at he
       simp only [cond_true] at he ⊢
       exact e0e (c0k ih) (fun r hr=>l4 ih hl _ hr) he
     ·cases he
    ·cases he
  | yield l =>
   unfold t6 at he ⊢
   split at he
   ·exact h0E ih hl he
   ·cases he
end Go.Dr

namespace Go.Dr
structure CRow where
 d:Option Nat
 g:Option (Nat×Bool)
 c:COp
 deriving Inhabited
inductive CEnt where
 | row (r:CRow)
 | stage (l:List CRow)
 deriving Inhabited
inductive CC where
 | skip
 | ops (l:List CEnt)
 | seq (x y:CC)
 | cond (c:CO) (x y:CC)
 | block (id:Nat) (c:CC)
 | loop (c:CC)
 | exit (id:Nat)
 | ret
 | go (n:Nat) (f:CO) (params:Array Tmp) (assign body:Code)
 deriving Inhabited
inductive CRes where
 | tmp (t:Nat)
 | one (p:Nat)
 | many (p n:Nat)
 deriving Inhabited
structure CF where
 n:Nat
 res:List CRes
 c:CC
 deriving Inhabited
section
variable (P:Program)
def COp.isDefer:COp→Bool
 | .defer _ _=>true
 | _=>false
def c0I (ops:Array Oper) (o:Oper):R (Option (Nat×Bool)) :=
 match o.guard with
 | none=>.ok none
 | some (j,w)=>match (ops[j]?).bind (·.dst) with
  | some d=>.ok (some (d,w))
  | none=>.error "guard"
def d0S (n:Nat):Option Tmp→Bool
 | some d=>Nat.blt d n
 | none=>true
def j0x:COp:=.extract (.c .nilp) 0
def a0E (o:Oper):COp:=match comp P o with | .ok c=>c | .error _=>j0x
def c0J (n:Nat) (rd:Bool) (ops:Array Oper) (o:Oper):R CRow :=
 match c0I ops o with
 | .ok g=>bif Bool.and (d0S n o.dst) (Bool.not (Bool.and rd (a0E P o).isDefer)) then .ok ⟨o.dst,g,a0E P o⟩ else .error "row"
 | .error e=>.error e
def c0K (n:Nat) (rd:Bool) (ops:Array Oper):List Oper→R (List CEnt)
 | []=>.ok []
 | o::l=>match c0J P n rd ops o with
  | .ok r=>match c0K n rd ops l with
   | .ok l=>.ok (.row r::l)
   | .error e=>.error e
  | .error e=>.error e
def b0S (ops:Array Oper):List DRow→R (List CRow)
 | []=>.ok []
 | r::l=>match c0I ops r.o with
  | .ok g=>match b0S ops l with
   | .ok l=>.ok (⟨r.o.dst,g,r.c⟩::l)
   | .error e=>.error e
  | .error e=>.error e
def U7 (n:Nat) (rd:Bool) (ops:Array Oper):List DEnt→R (List CEnt)
 | []=>.ok []
 | .op o::l=>match c0J P n rd ops o with
  | .ok r=>match U7 n rd ops l with
   | .ok l=>.ok (.row r::l)
   | .error e=>.error e
  | .error e=>.error e
 | .stage re::l=>match b0S ops re with
  | .ok re=>match U7 n rd ops l with
   | .ok l=>.ok (match re with | []=>l | re=>.stage re::l)
   | .error e=>.error e
  | .error e=>.error e
def S3 (n:Nat) (rd:Bool):Code→R CC
 | .skip=>.ok .skip
 | .label _=>.ok .skip
 | .region _ ops draw=>bif draw then (match m0X P ops with
   | .ok l=>match U7 P n rd ops l with | .ok l=>.ok (.ops l) | .error e=>.error e
   | .error e=>.error e)
  else match c0K P n rd ops ops.toList with | .ok l=>.ok (.ops l) | .error e=>.error e
 | .seq x y=>match S3 n rd x with
  | .ok a=>match S3 n rd y with | .ok b=>.ok (.seq a b) | .error e=>.error e
  | .error e=>.error e
 | .cond c x y=>match cO P c with
  | .ok c=>match S3 n rd x with
   | .ok a=>match S3 n rd y with | .ok b=>.ok (.cond c a b) | .error e=>.error e
   | .error e=>.error e
  | .error e=>.error e
 | .block id c=>match S3 n rd c with | .ok a=>.ok (.block id a) | .error e=>.error e
 | .loop c=>match S3 n rd c with | .ok a=>.ok (.loop a) | .error e=>.error e
 | .exit id=>.ok (.exit id)
 | .ret=>.ok .ret
 | .scope c=>S3 n rd c
 | .rangeFunc f params assign body=>match cO P f with
  | .ok f=>bif rd then .error "rangeFunc in a round" else .ok (.go n f params assign body)
  | .error e=>.error e
 | .goto _=>.error "goto"
 | .refuse why=>.error why
def S7:List ResultVar→R (List CRes)
 | []=>.ok []
 | .tmp t::l=>match S7 l with | .ok r=>.ok (.tmp t::r) | .error e=>.error e
 | .cell p t::l=>match S7 l with
  | .ok r=>match b0f P t,C8 P t with
   | .ok true,.ok n=>.ok (.many p n::r)
   | .ok false,_=>.ok (.one p::r)
   | _,_=>.error "results"
  | .error e=>.error e
def l9 (f:FuncId):R CF :=
 match P.funcs[f]? with
 | some fn=>match fn.body with
  | some c=>match S3 P fn.ntmps false c with
   | .ok cc=>match S7 P fn.results.toList with
    | .ok r=>.ok ⟨fn.ntmps,r,cc⟩
    | .error e=>.error e
   | .error e=>.error e
  | none=>.error "no body"
 | none=>.error "no function"
end
abbrev Sg:=Nat→AV
def upd (σ:Sg) (d:Option Nat) (v:AV):Sg :=
 match d with
 | some d=>fun i=>if i=d then v else σ i
 | none=>σ
theorem nr0 {α:Sort _} {a b:α} (h:a=b):a=b:=h
@[simp] theorem p0A (σ:Sg) (v:AV):upd σ none v=σ:=nr0 rfl
@[simp] theorem h0z (σ:Sg) (d:Nat) (v:AV) (i:Nat):upd σ (some d) v i=if i=d then v else σ i:=nr0 rfl
def CO.evS (σ:Sg):CO→AV
 | .t i=>σ i
 | .c v=>v
@[simp] theorem CO.evS_t (σ:Sg) (i:Nat):(CO.t i).evS σ=σ i:=nr0 rfl
@[simp] theorem CO.evS_c (σ:Sg) (v:AV):(CO.c v).evS σ=v:=nr0 rfl
def b0d (σ:Sg):List CO→List AV
 | []=>[]
 | x::l=>x.evS σ::b0d σ l
def W9 (σ:Sg):Option CO→Option AV
 | none=>none
 | some x=>some (x.evS σ)
@[simp] theorem p0B (σ:Sg):b0d σ []=[]:=nr0 rfl
@[simp] theorem o0W (σ:Sg) (x:CO) (l:List CO):b0d σ (x::l)=x.evS σ::b0d σ l:=nr0 rfl
@[simp] theorem o0X (σ:Sg):W9 σ none=none:=nr0 rfl
@[simp] theorem o0Y (σ:Sg) (x:CO):W9 σ (some x)=some (x.evS σ):=nr0 rfl
def b0i (σ:Sg) (cells:List AV):List (Nat×Nat×CO)→R (List AV)
 | []=>.ok cells
 | (off,size,x)::rest =>
  let l:=(x.evS σ).cells
  bif Nat.beq l.length size&&Nat.ble (off+l.length) cells.length then b0i σ (v6 cells off l) rest else .error "fill"
def c0L (z:List AV) (pl:List (Nat×Nat×CO)) (σ:Sg):R AV:=match b0i σ z pl with | .ok l=>.ok (.agg l) | .error e=>.error e
def I2 (len es:Nat) (z:List AV) (pl:List (Nat×Nat×CO)) (σ:Sg) (h:AH):RN :=
 match b0i σ z pl with
 | .ok l=>okV (.slice h.next 0 len len true es) (h.push (.cells l false))
 | .error e=>.error e
section
variable (P:Program)
def evS (c:COp) (s:Sg) (h:AH):RN :=
 match c with
 | .move x=>okV (x.evS s) h
 | .pick c x y=>d5 h (d0I (c.evS s) (x.evS s) (y.evS s))
 | .new z=>O3 z h
 | .box x=>O3 (x.evS s).cells h
 | .build z pl=>d5 h (c0L z pl s)
 | .buildSlice len es z pl=>I2 len es z pl s h
 | .load1 x=>Y9 (x.evS s) h
 | .loadN n x=>B4 n (x.evS s) h
 | .store n x y=>N5 n (x.evS s) (y.evS s) h
 | .nilCheck x=>B3 (x.evS s) h
 | .bin op t lit x y=>d5 h (m9 P op t lit (x.evS s) (y.evS s))
 | .un op x=>d5 h (i06 op (x.evS s))
 | .conv c x=>B6 c (x.evS s) h
 | .mkI t x=>okV (.iface t (x.evS s)) h
 | .mkF f first captured=>okV (.func (.func f) (b0d s first) (b0d s captured)) h
 | .mkM r=>c0d (W9 s r) h
 | .mkS es bytes z l c=>d05 es bytes z (l.evS s) (c.evS s) h
 | .sliceS x lo hi=>d5 h (b0E (x.evS s) (W9 s lo) (W9 s hi))
 | .sliceV es x lo hi mx=>d5 h (k8 es (x.evS s) (W9 s lo) (W9 s hi) (W9 s mx))
 | .sliceA n es x lo hi mx=>d5 h (b0F n es h (x.evS s) (W9 s lo) (W9 s hi) (W9 s mx))
 | .fieldAddr off x=>d5 h (L9 off (x.evS s))
 | .field1 off x=>d5 h (c0u (x.evS s) off)
 | .fieldN off n x=>d5 h (a0Y (x.evS s) off n)
 | .idxA len es x i=>d5 h (f0i len es (x.evS s) (i.evS s))
 | .idxV es x i=>d5 h (G1 es (x.evS s) (i.evS s))
 | .index1 len es x i=>d5 h (P6 true len es (x.evS s) (i.evS s))
 | .indexN len es x i=>d5 h (P6 false len es (x.evS s) (i.evS s))
 | .indexS x i=>d5 h (W5 (x.evS s) (i.evS s))
 | .lookup kt z ok x k=>d5 h (b0G P kt z ok h (x.evS s) (k.evS s))
 | .upd kt m k v=>Q9 (b0c P kt h (m.evS s) (k.evS s) (v.evS s))
 | .mapEntry kt z m k=>P0 P kt z h (m.evS s) (k.evS s)
 | .entryStore m t v=>Q9 (M7 h (m.evS s) (t.evS s) (v.evS s))
 | .rangeS x=>W6 h (x.evS s)
 | .rangeM x=>R0 h (x.evS s)
 | .next it b=>P1 h (it.evS s) b
 | .entry it=>d5 h (a0Z h (it.evS s))
 | .tassert x t ok=>d5 h (N0 P (x.evS s) t ok)
 | .extract x i=>d5 h (M0 (x.evS s) i)
 | .app es bytes x y=>M9 es bytes (x.evS s) (y.evS s) h
 | .appZ es bytes z x y=>Z9 es bytes z (x.evS s) (y.evS s) h
 | .lenK n=>okV (.int .i64 (.ofNat n)) h
 | .lenS x=>d5 h (d0H (x.evS s))
 | .lenV x=>d5 h (C9 (x.evS s))
 | .lenM x=>d5 h (f0k h (x.evS s))
 | .capV x=>d5 h (b0I (x.evS s))
 | .copy es d x=>a0a es (d.evS s) (x.evS s) h
 | .delete kt m k=>a0s P kt (m.evS s) (k.evS s) h
 | .clear es z x=>b00 es z (x.evS s) h
 | .mm isMax x l=>d5 h (a0b isMax (x.evS s) (b0d s l))
 | .callV f args=>a00 (f.evS s) (b0d s args) h
 | .callM r name args=>a0t P (r.evS s) name (b0d s args) h
 | .defer f args=>c03 (f.evS s) (b0d s args) h
end
theorem CO.ev_eq (a:AAct) (x:CO):x.ev a=x.evS a.val:=by cases x <;> rfl
theorem l0f (a:AAct):∀ l:List CO,evL a l=b0d a.val l
 | []=>rfl
 | x::l=>by rw [evL,b0d,l0f a l,CO.ev_eq]
theorem m0E (a:AAct) (x:Option CO):b0D a x=W9 a.val x:=by cases x <;> simp [b0D,W9,CO.ev_eq]
theorem j0y (a:AAct):∀ (l:List (Nat×Nat×CO)) (c:List AV),b0a a c l=b0i a.val c l
 | [],_=>rfl
 | (off,size,x)::rest,c=>by
  rw [b0a,b0i,CO.ev_eq]
  simp only [j0y a rest]
theorem i0H (P:Program) (c:COp) (a:AAct) (h:AH):evC P c a h=evS P c a.val h:=by
 cases c <;> simp only [evC,evS,CO.ev_eq,l0f,m0E,a01,c0L,E7,I2,j0y] <;> rfl
theorem AAct.put_val (a:AAct) (d:Option Tmp) (v:AV) (h:d0S a.n d=true):(a.put d v).val=upd a.val d v:=by
 cases d with
 | none=>rfl
 | some d =>
  have h':Nat.blt d a.n=true:=h
  funext i
  simp only [AAct.put,h',cond_true,AAct.val,PT.get_set,upd]
  by_cases e:i=d
  ·simp [e]
  ·simp [e]
theorem AAct.put_same (a:AAct) (d:Option Tmp) (v:AV):(a.put d v).n=a.n∧(a.put d v).ds=a.ds∧(a.put d v).rd=a.rd:=by
 cases d with
 | none=>exact ⟨rfl,rfl,rfl⟩
 | some d =>
  simp only [AAct.put]
  cases Nat.blt d a.n <;> exact ⟨rfl,rfl,rfl⟩
inductive WX where
 | normal
 | exit (id:Nat)
 | ret
 deriving Inhabited
def WX.ax:WX→AX
 | .normal=>.normal
 | .exit i=>.exit i
 | .ret=>.ret
abbrev C1:=WX→Sg→List ADef→AH→Prop
abbrev b0e:=FuncId→Option (List AV→AH→R (AV×AH))
section
variable (P:Program) (S:b0e)
def cl (N:Nat):u6:=t6 P S N N
def Ev (t:Tgt) (args:List AV) (h:AH) (K:AV→AH→Prop):Prop:=∃ N v h',cl P S N t args h=.ok (v,h')∧K v h'
def wpR (r:RN) (K:AV→AH→Prop) (D:ADef→AH→Prop):Prop :=
 match r with
 | .ok (n,h)=>match n with
  | .value v=>K v h
  | .skip=>K d8 h
  | .enter f args=>Ev P S (.fn f) args h K
  | .yield l args=>Ev P S (.yield l) args h K
  | .defer d=>D d h
 | .error _=>False
def wpG (v:AV) (w:Bool) (x y:Prop):Prop :=
 match v with
 | .bool b=>if b=w then x else y
 | _=>False
def b06 (v:AV) (w:Bool) (x y:Prop):Prop :=
 match v with
 | .bool b=>if b=w then x else y
 | .raw _=>False
 | _=>y
def G2:List CRow→Sg→AH→Prop
 | [],_,_=>True
 | r::l,σ,h =>
  (match r.g with
   | none=>∃ v h',evS P r.c σ h=.ok (.value v,h')∧∀ d,r.d=some d→I6 12 v (σ d)=true
   | some (t,w)=>b06 (σ t) w (∃ v h',evS P r.c σ h=.ok (.value v,h')∧∀ d,r.d=some d→I6 12 v (σ d)=true) True)∧G2 l σ h
def p4:List CEnt→C1→Sg→List ADef→AH→Prop
 | [],Q,σ,ds,h=>Q .normal σ ds h
 | .row r::l,Q,σ,ds,h=>match r.g with
  | none=>wpR P S (evS P r.c σ h) (fun v h=>p4 l Q (upd σ r.d v) ds h) (fun df h=>p4 l Q (upd σ r.d d8) (df::ds) h)
  | some (t,w)=>b06 (σ t) w (wpR P S (evS P r.c σ h) (fun v h=>p4 l Q (upd σ r.d v) ds h) (fun df h=>p4 l Q (upd σ r.d d8) (df::ds) h))
    (p4 l Q (upd σ r.d d8) ds h)
 | .stage re::l,Q,σ,ds,h=>G2 P re σ h∧p4 l Q σ ds h
def e0C (id:Nat) (Q:C1):C1:=fun x σ ds h=>match x with
 | .exit i=>if i=id then Q .normal σ ds h else Q (.exit i) σ ds h
 | x=>Q x σ ds h
abbrev Inv:=Nat→Sg→List ADef→AH→Prop
def b08 (I:Inv) (k:Nat) (Q:C1):C1:=fun x σ ds h=>match x with
 | .normal=>∃ k',k'<k∧I k' σ ds h
 | x=>Q x σ ds h
def p0C (t:PT AV) (i:Nat):AV:=match t.get i with | some v=>v | none=>d8
def Kgo (Q:C1) (σ:Sg) (ds:List ADef) (did:Nat):AV→AH→Prop:=fun _ h =>
 ∃ r,h.get (did+1)=some (.loop r)∧r.state≠.busy∧match r.pending with
  | none=>Q .normal σ (.collected did::ds) (h.set (did+1) (.loop { r with state:=.exhausted }))
  | some .ret=>Q .ret σ (.collected did::ds) (h.set (did+1) (.loop { r with state:=.exhausted }))
  | some (.exit id)=>Q (.exit id) σ (.collected did::ds) (h.set (did+1) (.loop { r with state:=.exhausted }))
  | some _=>False
def n04 (f:AV) (n:Nat) (params:Array Tmp) (assign body:Code) (Q:C1) (σ:Sg) (ds:List ADef) (h:AH):Prop :=
 match f with
 | .func (.func g) first captured=>∀ tmps:PT AV,(∀ i,p0C tmps i=σ i) →
   Ev P S (.fn g) (first++(.func (.yield (h.next+1)) [] []::captured))
    ((h.push (.deferred (some []))).push (.loop { state:=.ready,pending:=none,n:=n,tmps:=tmps,params,assign,body })) (Kgo Q σ ds h.next)
 | _=>False
def wpC:CC→C1→Sg→List ADef→AH→Prop
 | .skip,Q,σ,ds,h=>Q .normal σ ds h
 | .ops l,Q,σ,ds,h=>p4 P S l Q σ ds h
 | .seq x y,Q,σ,ds,h=>wpC x (fun r σ ds h=>match r with | .normal=>wpC y Q σ ds h | r=>Q r σ ds h) σ ds h
 | .cond c x y,Q,σ,ds,h=>wpG (c.evS σ) true (wpC x Q σ ds h) (wpC y Q σ ds h)
 | .block id c,Q,σ,ds,h=>wpC c (e0C id Q) σ ds h
 | .loop c,Q,σ,ds,h=>∃ (I:Inv) (k:Nat),I k σ ds h∧∀ k σ ds h,I k σ ds h→wpC c (b08 I k Q) σ ds h
 | .exit id,Q,σ,ds,h=>Q (.exit id) σ ds h
 | .ret,Q,σ,ds,h=>Q .ret σ ds h
 | .go n f params assign body,Q,σ,ds,h=>n04 P S (f.evS σ) n params assign body Q σ ds h
def m0F (y:CC) (Q:C1):C1:=fun r σ ds h=>match r with | .normal=>wpC P S y Q σ ds h | r=>Q r σ ds h
end
section
variable {P:Program} {S:b0e}
theorem I9 {N N':Nat} (h:N≤N'):G5 (cl P S N) (cl P S N'):=Y3 h h
theorem Ev.mono {t:Tgt} {args:List AV} {h:AH} {K K':AV→AH→Prop} (e:Ev P S t args h K) (hk:∀ v h',K v h'→K' v h'):Ev P S t args h K':=by
 obtain ⟨N,v,h',e,k⟩:=e
 exact ⟨N,v,h',e,hk _ _ k⟩
def gw (v:AV) (w:Bool):R Bool:=match v with
 | .bool b=>.ok (b == w)
 | .raw _=>.error "guard"
 | _=>.ok false
theorem S8 {ops:Array Oper} {o:Oper} {a:AAct} {g:Option (Nat×Bool)} (hg:c0I ops o=.ok g) :
  (g=none∧j4 ops o a=.ok true)∨∃ t w,g=some (t,w)∧j4 ops o a=gw (a.val t) w:=by
 unfold c0I at hg
 unfold j4
 split at hg
 ·rename_i e;cases hg;rw [e];exact .inl ⟨rfl,rfl⟩
 ·rename_i j w e
  rw [e]
  split at hg
  ·rename_i d e2
   cases hg
   simp only [e2]
   exact .inr ⟨d,w,rfl,rfl⟩
  ·cases hg
theorem a0F {v:AV} {w:Bool} {x y:Prop} (h:b06 v w x y):(∃ b,v=.bool b∧b=w∧x)∨(gw v w=.ok false∧y):=by
 cases v with
 | bool b =>
  simp only [b06] at h
  by_cases e:b=w
  ·rw [if_pos e] at h;exact .inl ⟨b,rfl,e,h⟩
  ·rw [if_neg e] at h;exact .inr ⟨by simp [gw,e],h⟩
 | raw=>exact h.elim
 | _=>exact .inr ⟨rfl,h⟩
theorem c0g {n:Nat} {rd:Bool} {ops:Array Oper} {o:Oper} {r:CRow} (h:c0J P n rd ops o=.ok r) :
  r.c=a0E P o∧c0I ops o=.ok r.g∧r.d=o.dst∧d0S n o.dst=true∧(rd=true→r.c.isDefer=false):=by
 unfold c0J at h
 split at h
 ·rename_i g hg
  cases hb:Bool.and (d0S n o.dst) (Bool.not (Bool.and rd (a0E P o).isDefer)) with
  | false=>rw [hb] at h;cases h
  | true =>
   rw [hb] at h
   cases h
   simp only [Bool.and_eq_true,Bool.not_eq_true'] at hb
   refine ⟨rfl,hg,rfl,hb.1,fun e=>?_⟩
   have:=hb.2
   rw [e] at this
   simpa using this
 ·cases h
theorem e0D {c:COp} {σ:Sg} {h h':AH} {d:ADef} (e:evS P c σ h=.ok (.defer d,h')):c.isDefer=true:=by
 have key:∀ (r:R AV) (h:AH),d5 h r=.ok (.defer d,h')→False:=by
  intro r h e;unfold d5 at e;split at e <;> cases e
 have key2:∀ (r:R AH),Q9 r=.ok (.defer d,h')→False:=by
  intro r e;unfold Q9 at e;split at e <;> cases e
 cases c <;> simp only [evS,okV,O3] at e <;> first
  | rfl
  | exact (key _ _ e).elim
  | exact (key2 _ e).elim
  | cases e
  | skip
 all_goals exfalso
 case buildSlice=>unfold I2 okV at e;split at e <;> cases e
 case load1=>unfold Y9 at e;split at e;exact key _ _ e;cases e
 case loadN=>unfold B4 okV at e;split at e;split at e <;> cases e;cases e
 case store =>
  unfold N5 at e
  split at e
  ·rw [cond_eq_ite] at e
   split at e
   ·exact key2 _ e
   ·cases e
  ·cases e
 case nilCheck=>unfold B3 okV at e;split at e;cases e;cases e;cases e;split at e <;> cases e;cases e
 case conv=>unfold B6 okV at e;simp only [j0] at e;repeat (first | cases e | split at e)
 case mkM=>unfold c0d okV at e;split at e <;> cases e
 case mkS=>unfold d05 okV at e;repeat (first | cases e | split at e)
 case mapEntry=>unfold P0 okV at e;repeat (first | cases e | split at e)
 case rangeS=>unfold W6 okV at e;split at e <;> cases e
 case rangeM=>unfold R0 okV at e;repeat (first | cases e | split at e)
 case next =>
  unfold P1 at e
  split at e
  ·split at e
   ·unfold f0j okV at e
    split at e
    ·rename_i s pos _
     cases hb:Nat.blt pos s.length <;> rw [hb] at e
     ·cases e
     ·simp only [cond_true,j0] at e;cases e
    ·cases e
   ·unfold g0r okV at e;repeat (first | cases e | split at e)
  ·cases e
 case app =>
  unfold M9 at e
  split at e
  ·unfold M8 okV at e
   simp only [j0,cond_eq_ite] at e
   repeat (first | cases e | split at e)
  ·cases e
 case appZ =>
  unfold Z9 at e
  split at e
  ·split at e
   ·unfold M8 okV at e
    simp only [j0,cond_eq_ite] at e
    repeat (first | cases e | split at e)
   ·cases e
  ·cases e
 case copy=>unfold a0a okV at e;repeat (first | cases e | split at e)
 case delete=>unfold a0s okV at e;repeat (first | cases e | split at e)
 case clear=>unfold b00 okV at e;repeat (first | cases e | split at e)
 case callV=>unfold a00 N4 at e;repeat (first | cases e | split at e)
 case callM=>unfold a0t N4 at e;repeat (first | cases e | split at e)
structure Keep (n:Nat) (rd:Bool) (a:AAct):Prop where
 n:a.n=n
 rd:a.rd=rd
theorem Keep.put {n:Nat} {rd:Bool} {a:AAct} (k:Keep n rd a) (d:Option Tmp) (v:AV):Keep n rd (a.put d v) :=
 ⟨(a.put_same d v).1.trans k.n,(a.put_same d v).2.2.trans k.rd⟩
theorem j0z {n:Nat} {rd:Bool} {o:Oper} {c:COp} {a:AAct} {h:AH} {K:AV→AH→Prop} {D:ADef→AH→Prop} (hc':c=a0E P o) (hk:Keep n rd a) (hd:d0S n o.dst=true)
  (hrd:rd=true→c.isDefer=false) (hw:wpR P S (evS P c a.val h) K D) :
  ∃ N a' h',D0 P (cl P S N) o a h=.ok (a',h')∧Keep n rd a' ∧
   ((∃ v,a'.val=upd a.val o.dst v∧a'.ds=a.ds∧K v h')∨(∃ df,a'.val=upd a.val o.dst d8∧a'.ds=df::a.ds∧D df h')):=by
 have hd':d0S a.n o.dst=true:=by rw [hk.n];exact hd
 have hval:∀ v,(a.put o.dst v).val=upd a.val o.dst v:=fun v=>a.put_val _ _ hd'
 have hds:∀ v,(a.put o.dst v).ds=a.ds:=fun v=>(a.put_same _ _).2.1
 have hc:comp P o=.ok c:=by
  unfold a0E at hc'
  split at hc'
  ·rename_i c1 e;rw [e,hc']
  ·subst hc';exact hw.elim
 unfold D0
 simp only [hc,i0H,i7]
 generalize hres:evS P c a.val h=res at hw
 unfold wpR at hw
 cases res with
 | error e=>exact hw.elim
 | ok p =>
  obtain ⟨m,h1⟩:=p
  cases m with
  | value v=>exact ⟨0,_,_,rfl,hk.put _ _,.inl ⟨v,hval v,hds v,hw⟩⟩
  | skip=>exact ⟨0,_,_,rfl,hk.put _ _,.inl ⟨_,hval _,hds _,hw⟩⟩
  | enter f args =>
   obtain ⟨N,v,h2,e,k⟩:=hw
   exact ⟨N,a.put o.dst v,h2,by simp only [e],hk.put _ _,.inl ⟨v,hval v,hds v,k⟩⟩
  | yield f args =>
   obtain ⟨N,v,h2,e,k⟩:=hw
   exact ⟨N,a.put o.dst v,h2,by simp only [e],hk.put _ _,.inl ⟨v,hval v,hds v,k⟩⟩
  | defer d =>
   have hr:a.rd=false:=by
    cases e:a.rd with
    | false=>rfl
    | true =>
     have:=hrd (hk.rd.symm.trans e)
     rw [e0D hres] at this
     cases this
   refine ⟨0,(⟨a.n,a.ts,d::a.ds,a.rd⟩:AAct).put o.dst d8,h1,by simp only [hr,cond_false],Keep.put (a:=⟨a.n,a.ts,d::a.ds,a.rd⟩) ⟨hk.n,hk.rd⟩ _ _,.inr ⟨d,?_,?_,hw⟩⟩
   ·exact AAct.put_val ⟨a.n,a.ts,d::a.ds,a.rd⟩ o.dst d8 hd'
   ·exact (AAct.put_same _ _ _).2.1
theorem g0F {n:Nat} {rd:Bool} {ops:Array Oper}:∀ (l:List Oper) (l':List CEnt),c0K P n rd ops l=.ok l'→∀ {Q:C1} {a:AAct} {h:AH},Keep n rd a→p4 P S l' Q a.val a.ds h →
  ∃ N a' h',Z0 P (cl P S N) ops l a h=.ok (a',h')∧Keep n rd a'∧Q .normal a'.val a'.ds h'
 | [],l',hc,Q,a,h,hk,hw=>by
  cases hc
  exact ⟨0,a,h,rfl,hk,hw⟩
 | o::l,l',hc,Q,a,h,hk,hw=>by
  simp only [c0K] at hc
  split at hc
  ·rename_i r hr
   split at hc
   ·rename_i l2 hl2
    cases hc
    obtain ⟨h1,h2,h3,h4,h5⟩:=c0g hr
    have goOn:wpR P S (evS P r.c a.val h) (fun v h=>p4 P S l2 Q (upd a.val r.d v) a.ds h) (fun df h=>p4 P S l2 Q (upd a.val r.d d8) (df::a.ds) h)→j4 ops o a=.ok true →
      ∃ N a' h',Z0 P (cl P S N) ops (o::l) a h=.ok (a',h')∧Keep n rd a'∧Q .normal a'.val a'.ds h':=by
     intro hw hwant
     rw [h3] at hw
     obtain ⟨N1,a1,g1,e1,k1,hcase⟩:=j0z h1 hk h4 h5 hw
     have:p4 P S l2 Q a1.val a1.ds g1:=by
      rcases hcase with ⟨v,b1,b2,b3⟩ | ⟨df,b1,b2,b3⟩
      ·rw [b1,b2];exact b3
      ·rw [b1,b2];exact b3
     obtain ⟨N2,a2,g2,e2,k2,q⟩:=g0F l l2 hl2 k1 this
     refine ⟨max N1 N2,a2,g2,?_,k2,q⟩
     simp only [Z0,hwant,Y1 (I9 (Nat.le_max_left N1 N2)) e1]
     exact a0J (I9 (Nat.le_max_right N1 N2)) _ e2
    rcases S8 (a:=a) h2 with ⟨g,hwant⟩ | ⟨t,w,g,hwant⟩
    ·simp only [p4,g] at hw
     exact goOn hw hwant
    ·simp only [p4,g] at hw
     rcases a0F hw with ⟨b,hb,hbw,hw⟩ | ⟨hno,hw⟩
     ·rw [hb] at hwant
      exact goOn hw (by rw [hwant];simp [gw,hbw])
     ·rw [h3] at hw
      have hv:=AAct.put_val a o.dst d8 (by rw [hk.n];exact h4)
      have hd:=(a.put_same o.dst d8).2.1
      obtain ⟨N2,a2,g2,e2,k2,q⟩:=g0F l l2 hl2 (hk.put o.dst d8) (by rw [hv,hd];exact hw)
      refine ⟨N2,a2,g2,?_,k2,q⟩
      simp only [Z0,hwant.trans hno]
      exact e2
   ·cases hc
  ·cases hc
theorem f06 {ops:Array Oper}:∀ (re:List DRow) (l:List CRow),b0S ops re=.ok l→∀ {a:AAct} {h:AH},G2 P l a.val h→again P ops re a h=true
 | [],l,hc,a,h,hw=>rfl
 | r::re,l,hc,a,h,hw=>by
  simp only [b0S] at hc
  split at hc
  ·rename_i g hg
   split at hc
   ·rename_i l2 hl2
    cases hc
    have ih:=f06 re l2 hl2 (a:=a) (h:=h)
    have key:(∃ v h',evS P r.c a.val h=.ok (.value v,h')∧∀ d,r.o.dst=some d→I6 12 v (a.val d)=true)→j4 ops r.o a=.ok true→G2 P l2 a.val h→again P ops (r::re) a h=true:=by
     rintro ⟨v,h',e,hd⟩ hwant hl
     simp only [again,hwant,i0H,e,ih hl,Bool.and_true]
     cases hdst:r.o.dst with
     | none=>rfl
     | some d=>exact hd d hdst
    simp only [G2] at hw
    rcases S8 (a:=a) hg with ⟨g',hwant⟩ | ⟨t,w,g',hwant⟩
    ·subst g'
     exact key hw.1 hwant hw.2
    ·subst g'
     obtain ⟨h1,h2⟩:=hw
     rcases a0F h1 with ⟨b,hb,hbw,h1⟩ | ⟨hno,_⟩
     ·rw [hb] at hwant
      exact key h1 (by rw [hwant];simp [gw,hbw]) h2
     ·simp only [again,hwant.trans hno]
      exact ih h2
   ·cases hc
  ·cases hc
theorem c0M {n:Nat} {rd:Bool} {ops:Array Oper}:∀ (l:List DEnt) (l':List CEnt),U7 P n rd ops l=.ok l'→∀ {Q:C1} {a:AAct} {h:AH},Keep n rd a→p4 P S l' Q a.val a.ds h →
  ∃ N a' h',D6 P (cl P S N) ops l a h=.ok (a',h')∧Keep n rd a'∧Q .normal a'.val a'.ds h'
 | [],l',hc,Q,a,h,hk,hw=>by
  cases hc
  exact ⟨0,a,h,rfl,hk,hw⟩
 | .stage re::l,l',hc,Q,a,h,hk,hw=>by
  simp only [U7] at hc
  split at hc
  ·rename_i re2 hre
   split at hc
   ·rename_i l2 hl2
    have hw':G2 P re2 a.val h∧p4 P S l2 Q a.val a.ds h:=by
     cases hc
     cases re2 with
     | nil=>exact ⟨trivial,hw⟩
     | cons=>exact hw
    obtain ⟨N,a',h',e,k,q⟩:=c0M l l2 hl2 hk hw'.2
    refine ⟨N,a',h',?_,k,q⟩
    simp only [D6,f06 re re2 hre hw'.1,cond_true]
    exact e
   ·cases hc
  ·cases hc
 | .op o::l,l',hc,Q,a,h,hk,hw=>by
  simp only [U7] at hc
  split at hc
  ·rename_i r hr
   split at hc
   ·rename_i l2 hl2
    cases hc
    obtain ⟨h1,h2,h3,h4,h5⟩:=c0g hr
    have goOn:wpR P S (evS P r.c a.val h) (fun v h=>p4 P S l2 Q (upd a.val r.d v) a.ds h) (fun df h=>p4 P S l2 Q (upd a.val r.d d8) (df::a.ds) h)→j4 ops o a=.ok true →
      ∃ N a' h',D6 P (cl P S N) ops (.op o::l) a h=.ok (a',h')∧Keep n rd a'∧Q .normal a'.val a'.ds h':=by
     intro hw hwant
     rw [h3] at hw
     obtain ⟨N1,a1,g1,e1,k1,hcase⟩:=j0z h1 hk h4 h5 hw
     have:p4 P S l2 Q a1.val a1.ds g1:=by
      rcases hcase with ⟨v,b1,b2,b3⟩ | ⟨df,b1,b2,b3⟩
      ·rw [b1,b2];exact b3
      ·rw [b1,b2];exact b3
     obtain ⟨N2,a2,g2,e2,k2,q⟩:=c0M l l2 hl2 k1 this
     refine ⟨max N1 N2,a2,g2,?_,k2,q⟩
     simp only [D6,hwant,Y1 (I9 (Nat.le_max_left N1 N2)) e1]
     exact Q0 (I9 (Nat.le_max_right N1 N2)) _ e2
    rcases S8 (a:=a) h2 with ⟨g,hwant⟩ | ⟨t,w,g,hwant⟩
    ·simp only [p4,g] at hw
     exact goOn hw hwant
    ·simp only [p4,g] at hw
     rcases a0F hw with ⟨b,hb,hbw,hw⟩ | ⟨hno,hw⟩
     ·rw [hb] at hwant
      exact goOn hw (by rw [hwant];simp [gw,hbw])
     ·rw [h3] at hw
      have hv:=AAct.put_val a o.dst d8 (by rw [hk.n];exact h4)
      have hd:=(a.put_same o.dst d8).2.1
      obtain ⟨N2,a2,g2,e2,k2,q⟩:=c0M l l2 hl2 (hk.put o.dst d8) (by rw [hv,hd];exact hw)
      refine ⟨N2,a2,g2,?_,k2,q⟩
      simp only [D6,hwant.trans hno]
      exact e2
   ·cases hc
  ·cases hc
theorem m0G {n:Nat} {rd:Bool} {c:Code} {cc:CC}
  (ih:∀ {Q:C1} {a:AAct} {h:AH},Keep n rd a→wpC P S cc Q a.val a.ds h→∃ N x a' h',d9 P (cl P S N) N c a h=.ok (x.ax,a',h')∧Keep n rd a'∧Q x a'.val a'.ds h')
  {I:Inv} {Q:C1} (hI:∀ k σ ds h,I k σ ds h→wpC P S cc (b08 I k Q) σ ds h):∀ (k:Nat) (a:AAct) (h:AH),Keep n rd a→I k a.val a.ds h →
  ∃ N x a' h',(∀ lf,N≤lf→P2 (d9 P (cl P S lf) lf c) lf a h=.ok (x.ax,a',h'))∧Keep n rd a'∧Q x a'.val a'.ds h':=by
 intro k
 induction k using Nat.strongRecOn with
 | _ k ihk =>
  intro a h hk hi
  obtain ⟨N,x,a1,h1,e,k1,q⟩:=ih hk (hI k _ _ _ hi)
  have hbody:∀ lf,N≤lf→d9 P (cl P S lf) lf c a h=.ok (x.ax,a1,h1):=fun lf hl=>l4 (I9 hl) hl _ e
  cases x with
  | normal =>
   obtain ⟨k',hlt,hi'⟩:=q
   obtain ⟨N2,x2,a2,h2,e2,k2,q2⟩:=ihk k' hlt a1 h1 k1 hi'
   refine ⟨max N N2+1,x2,a2,h2,fun lf hl=>?_,k2,q2⟩
   obtain ⟨m,rfl⟩:∃ m,lf=m+1:=⟨lf - 1,by omega⟩
   simp only [P2]
   rw [hbody (m+1) (by omega)]
   simp only [WX.ax]
   have:=e2 m (by omega)
   exact b0n (fun a h r hr=>l4 (I9 (Nat.le_succ m)) (Nat.le_succ m) _ hr) (Nat.le_refl m) this
  | exit id =>
   refine ⟨N+1,.exit id,a1,h1,fun lf hl=>?_,k1,q⟩
   obtain ⟨m,rfl⟩:∃ m,lf=m+1:=⟨lf - 1,by omega⟩
   simp only [P2]
   rw [hbody (m+1) (by omega)]
   rfl
  | ret =>
   refine ⟨N+1,.ret,a1,h1,fun lf hl=>?_,k1,q⟩
   obtain ⟨m,rfl⟩:∃ m,lf=m+1:=⟨lf - 1,by omega⟩
   simp only [P2]
   rw [hbody (m+1) (by omega)]
   rfl
theorem X8 {n:Nat} {rd:Bool}:∀ (c:Code) (cc:CC),S3 P n rd c=.ok cc→∀ {Q:C1} {a:AAct} {h:AH},Keep n rd a→wpC P S cc Q a.val a.ds h →
  ∃ N x a' h',d9 P (cl P S N) N c a h=.ok (x.ax,a',h')∧Keep n rd a'∧Q x a'.val a'.ds h'
 | .skip,cc,hc,Q,a,h,hk,hw=>by cases hc;exact ⟨0,.normal,a,h,rfl,hk,hw⟩
 | .label _,cc,hc,Q,a,h,hk,hw=>by cases hc;exact ⟨0,.normal,a,h,rfl,hk,hw⟩
 | .region _ ops draw,cc,hc,Q,a,h,hk,hw=>by
  simp only [S3] at hc
  cases draw with
  | true =>
   simp only [cond_true] at hc
   split at hc
   ·rename_i l hl
    split at hc
    ·rename_i l2 hl2
     cases hc
     obtain ⟨N,a',h',e,k,q⟩:=c0M l l2 hl2 hk hw
     exact ⟨N,.normal,a',h',by simp only [d9,cond_true,W7,hl,e,WX.ax],k,q⟩
    ·cases hc
   ·cases hc
  | false =>
   simp only [cond_false] at hc
   split at hc
   ·rename_i l hl
    cases hc
    obtain ⟨N,a',h',e,k,q⟩:=g0F _ l hl hk hw
    exact ⟨N,.normal,a',h',by simp only [d9,cond_false,e,WX.ax],k,q⟩
   ·cases hc
 | .seq x y,cc,hc,Q,a,h,hk,hw=>by
  simp only [S3] at hc
  split at hc
  ·rename_i c1 hx
   split at hc
   ·rename_i c2 hy
    cases hc
    simp only [wpC] at hw
    obtain ⟨N1,x1,a1,h1,e1,k1,q1⟩:=X8 x c1 hx hk hw
    cases x1 with
    | normal =>
     obtain ⟨N2,x2,a2,h2,e2,k2,q2⟩:=X8 y c2 hy k1 q1
     refine ⟨max N1 N2,x2,a2,h2,?_,k2,q2⟩
     simp only [d9]
     rw [l4 (I9 (Nat.le_max_left N1 N2)) (Nat.le_max_left N1 N2) _ e1]
     simp only [WX.ax]
     exact l4 (I9 (Nat.le_max_right N1 N2)) (Nat.le_max_right N1 N2) _ e2
    | exit id=>exact ⟨N1,.exit id,a1,h1,by simp only [d9,e1,WX.ax],k1,q1⟩
    | ret=>exact ⟨N1,.ret,a1,h1,by simp only [d9,e1,WX.ax],k1,q1⟩
   ·cases hc
  ·cases hc
 | .cond c x y,cc,hc,Q,a,h,hk,hw=>by
  simp only [S3] at hc
  split at hc
  ·rename_i c1 hc1
   split at hc
   ·rename_i c2 hx
    split at hc
    ·rename_i c3 hy
     cases hc
     simp only [wpC,wpG] at hw
     split at hw
     ·rename_i b hb
      cases b with
      | true =>
       simp only [if_pos] at hw
       obtain ⟨N,x1,a1,h1,e1,k1,q1⟩:=X8 x c2 hx hk hw
       exact ⟨N,x1,a1,h1,by simp only [d9,hc1,CO.ev_eq,hb,d0K];exact e1,k1,q1⟩
      | false =>
       simp only [Bool.false_eq_true,if_false] at hw
       obtain ⟨N,x1,a1,h1,e1,k1,q1⟩:=X8 y c3 hy hk hw
       exact ⟨N,x1,a1,h1,by simp only [d9,hc1,CO.ev_eq,hb,d0K];exact e1,k1,q1⟩
     ·exact hw.elim
    ·cases hc
   ·cases hc
  ·cases hc
 | .block id c,cc,hc,Q,a,h,hk,hw=>by
  simp only [S3] at hc
  split at hc
  ·rename_i c1 hc1
   cases hc
   obtain ⟨N,x1,a1,h1,e1,k1,q1⟩:=X8 c c1 hc1 hk hw
   cases x1 with
   | normal=>exact ⟨N,.normal,a1,h1,by simp only [d9,e1,WX.ax],k1,q1⟩
   | ret=>exact ⟨N,.ret,a1,h1,by simp only [d9,e1,WX.ax],k1,q1⟩
   | exit i =>
    simp only [e0C] at q1
    by_cases hi:i=id
    ·rw [if_pos hi] at q1
     refine ⟨N,.normal,a1,h1,?_,k1,q1⟩
     simp only [d9,e1,WX.ax,PT.beqT hi,cond_true]
    ·rw [if_neg hi] at q1
     refine ⟨N,.exit i,a1,h1,?_,k1,q1⟩
     simp only [d9,e1,WX.ax,PT.beqF hi,cond_false]
  ·cases hc
 | .loop c,cc,hc,Q,a,h,hk,hw=>by
  simp only [S3] at hc
  split at hc
  ·rename_i c1 hc1
   cases hc
   obtain ⟨I,k,hi,hI⟩:=hw
   obtain ⟨N,x,a',h',e,k',q⟩:=m0G (fun hk hw=>X8 c c1 hc1 hk hw) hI k a h hk hi
   exact ⟨N,x,a',h',by simp only [d9];exact e N (Nat.le_refl _),k',q⟩
  ·cases hc
 | .exit id,cc,hc,Q,a,h,hk,hw=>by cases hc;exact ⟨0,.exit id,a,h,rfl,hk,hw⟩
 | .ret,cc,hc,Q,a,h,hk,hw=>by cases hc;exact ⟨0,.ret,a,h,rfl,hk,hw⟩
 | .scope c,cc,hc,Q,a,h,hk,hw=>by
  obtain ⟨N,x,a',h',e,k,q⟩:=X8 c cc hc hk hw
  exact ⟨N,x,a',h',by cases x <;> simp only [d9,e,WX.ax],k,q⟩
 | .rangeFunc f params assign body,cc,hc,Q,a,h,hk,hw=>by
  simp only [S3] at hc
  split at hc
  ·rename_i f1 hf
   cases rd with
   | true=>cases hc
   | false =>
    cases hc
    simp only [wpC,n04] at hw
    split at hw
    ·rename_i g first captured hfe
     obtain ⟨N,v,h',e,r,hr,hst,hp⟩:=hw a.ts (fun i=>rfl)
     rw [← hk.n] at e
     have hev:∀ res,(match r.pending with
       | none=>(.ok (.normal,⟨a.n,a.ts,.collected h.next::a.ds,a.rd⟩,h'.set (h.next+1) (.loop { r with state:=.exhausted })):R (AX×AAct×AH))
       | some .ret=>.ok (.ret,⟨a.n,a.ts,.collected h.next::a.ds,a.rd⟩,h'.set (h.next+1) (.loop { r with state:=.exhausted }))
       | some (.exit id)=>.ok (.exit id,⟨a.n,a.ts,.collected h.next::a.ds,a.rd⟩,h'.set (h.next+1) (.loop { r with state:=.exhausted }))
       | some _=>.error "rangeFunc: jump")=res→d9 P (cl P S N) N (.rangeFunc f params assign body) a h=res:=by
      intro res hres
      simp only [d9,hf,CO.ev_eq,hfe,g03,hk.rd,cond_false,j0,e,hr]
      rw [← hres]
      cases hst':r.state with
      | busy=>exact absurd hst' hst
      | ready=>rw [hk.rd];rfl
      | done=>rw [hk.rd];rfl
      | exhausted=>rw [hk.rd];rfl
     split at hp
     ·rename_i hpe;exact ⟨N,.normal,⟨a.n,a.ts,.collected h.next::a.ds,a.rd⟩,h'.set (h.next+1) (.loop { r with state:=.exhausted }),hev _ (by rw [hpe];rfl),⟨hk.n,hk.rd⟩,hp⟩
     ·rename_i hpe;exact ⟨N,.ret,⟨a.n,a.ts,.collected h.next::a.ds,a.rd⟩,h'.set (h.next+1) (.loop { r with state:=.exhausted }),hev _ (by rw [hpe];rfl),⟨hk.n,hk.rd⟩,hp⟩
     ·rename_i id hpe;exact ⟨N,.exit id,⟨a.n,a.ts,.collected h.next::a.ds,a.rd⟩,h'.set (h.next+1) (.loop { r with state:=.exhausted }),hev _ (by rw [hpe];rfl),⟨hk.n,hk.rd⟩,hp⟩
     ·exact hp.elim
    ·exact hw.elim
  ·cases hc
 | .goto _,cc,hc,Q,a,h,hk,hw=>by cases hc
 | .refuse _,cc,hc,Q,a,h,hk,hw=>by cases hc
def a0g (h:AH) (σ:Sg):List CRes→R (List AV)
 | []=>.ok []
 | .tmp t::l=>match a0g h σ l with | .ok r=>.ok (σ t::r) | .error e=>.error e
 | .one p::l=>match σ p with
  | .ptr id off=>match load1 h id off with
   | .ok v=>match a0g h σ l with | .ok r=>.ok (v::r) | .error e=>.error e
   | .error e=>.error e
  | _=>.error "results"
 | .many p n::l=>match σ p with
  | .ptr id off=>match loadN h id off n with
   | .ok v=>match a0g h σ l with | .ok r=>.ok (.agg v::r) | .error e=>.error e
   | .error e=>.error e
  | _=>.error "results"
theorem e0E {h:AH} {a:AAct}:∀ (l:List ResultVar) (l':List CRes),S7 P l=.ok l'→∀ r,a0g h a.val l'=.ok r→z7 P h a l=.ok r
 | [],l',hc,r,hr=>by cases hc;exact hr
 | .tmp t::l,l',hc,r,hr=>by
  simp only [S7] at hc
  split at hc
  ·rename_i l2 hl2
   cases hc
   simp only [a0g] at hr
   split at hr
   ·rename_i r2 hr2;cases hr;simp only [z7,e0E l l2 hl2 r2 hr2]
   ·cases hr
  ·cases hc
 | .cell p t::l,l',hc,r,hr=>by
  simp only [S7] at hc
  split at hc
  ·rename_i l2 hl2
   split at hc
   ·rename_i n h1 h2
    cases hc
    simp only [a0g] at hr
    split at hr
    ·rename_i id off hp
     split at hr
     ·rename_i v hv
      split at hr
      ·rename_i r2 hr2;cases hr;simp only [z7,hp,h1,h2,hv,e0E l l2 hl2 r2 hr2]
      ·cases hr
     ·cases hr
    ·cases hr
   ·rename_i h1
    cases hc
    simp only [a0g] at hr
    split at hr
    ·rename_i id off hp
     split at hr
     ·rename_i v hv
      split at hr
      ·rename_i r2 hr2;cases hr;simp only [z7,hp,h1,hv,e0E l l2 hl2 r2 hr2]
      ·cases hr
     ·cases hr
    ·cases hr
   ·cases hc
  ·cases hc
variable (P S) in
def d0n:List ADef→AH→(AH→Prop)→Prop
 | [],h,K=>K h
 | .collected id::l,h,K=>h.get id=some (.deferred (some []))∧d0n l (h.set id (.deferred none)) K
 | .call fn captured args::l,h,K=>∃ f args' h1,N4 fn captured args h=.ok (.enter f args',h1)∧S f=none∧Ev P S (.fn f) args' h1 fun _ h2=>d0n l h2 K
theorem d0o:∀ (ds:List ADef) (h:AH) (K:AH→Prop),d0n P S ds h K→∃ N h',y4 (a0v S (cl P S N)) ds h=.ok h'∧K h'
 | [],h,K,hk=>⟨0,h,rfl,hk⟩
 | .collected id::l,h,K,hk=>by
  obtain ⟨N,h',e,k⟩:=d0o l _ K hk.2
  exact ⟨N,h',by simp only [y4,hk.1,e],k⟩
 | .call fn captured args::l,h,K,hk=>by
  obtain ⟨f,args',h1,e1,hS,N1,v,h2,e2,hk⟩:=hk
  obtain ⟨N2,h',e3,k⟩:=d0o l h2 K hk
  refine ⟨max N1 N2,h',?_,k⟩
  have e4:a0v S (cl P S (max N1 N2)) (.fn f) args' h1=.ok (v,h2):=by
   simp only [a0v,hS,I9 (Nat.le_max_left N1 N2) _ _ _ _ e2]
  simp only [y4,e1,e4]
  exact D4 (c0k (I9 (Nat.le_max_right N1 N2))) _ e3
variable (P S) in
def n05 (res:List CRes) (K:AV→AH→Prop):C1:=fun x σ ds h=>match x with
 | .exit _=>False
 | _=>d0n P S ds h fun h=>∃ l,a0g h σ res=.ok l∧K (O4 l) h
def e0F (args:List AV):Sg:=fun i=>match args[i]? with | some v=>v | none=>d8
theorem l0g {f:FuncId} {cf:CF} (h:l9 P f=.ok cf):∃ fn c,P.funcs[f]? = some fn∧fn.body=some c∧fn.ntmps=cf.n∧S3 P cf.n false c=.ok cf.c∧S7 P fn.results.toList=.ok cf.res:=by
 unfold l9 at h
 split at h
 ·rename_i fn hf
  split at h
  ·rename_i c hb
   split at h
   ·rename_i cc hcc
    split at h
    ·rename_i r hr
     cases h
     exact ⟨fn,c,hf,hb,rfl,hcc,hr⟩
    ·cases h
   ·cases h
  ·cases h
 ·cases h
theorem m6 {f:FuncId} {cf:CF} {args:List AV} {h:AH} {K:AV→AH→Prop} (hc:l9 P f=.ok cf) (hS:S f=none) (hn:Nat.ble args.length cf.n=true)
  (hw:wpC P S cf.c (n05 P S cf.res K) (e0F args) [] h):Ev P S (.fn f) args h K:=by
 obtain ⟨fn,c,hf,hb,hnt,hcc,hr⟩:=l0g hc
 have hval:(⟨cf.n,laid args 0 .leaf,[],false⟩:AAct).val=e0F args:=by
  funext i
  simp only [AAct.val,c0Q,Nat.zero_le,true_and,Nat.zero_add,Nat.sub_zero,e0F]
  by_cases hi:i<args.length
  ·rw [if_pos hi];rfl
  ·rw [if_neg hi,List.getElem?_eq_none (by omega)];rfl
 obtain ⟨N,x,a',h',e,k,q⟩:=X8 c cf.c hcc (a:=⟨cf.n,laid args 0 .leaf,[],false⟩) ⟨rfl,rfl⟩ (by rw [hval];exact hw)
 have main:∀ (hx:x.ax=.normal∨x.ax=.ret),d0n P S a'.ds h' (fun h=>∃ l,a0g h a'.val cf.res=.ok l∧K (O4 l) h)→Ev P S (.fn f) args h K:=by
  intro hx hd
  obtain ⟨N2,h2,e2,l,hl,hk⟩:=d0o _ _ _ hd
  refine ⟨max N N2+1,O4 l,h2,?_,hk⟩
  have hle:N≤max N N2+1:=Nat.le_trans (Nat.le_max_left N N2) (Nat.le_succ _)
  have hcall:G5 (cl P S N) (t6 P S (max N N2+1) (max N N2)):=Y3 hle (Nat.le_max_left N N2)
  have hcall2:G5 (cl P S N2) (t6 P S (max N N2+1) (max N N2)):=Y3 (Nat.le_trans (Nat.le_max_right N N2) (Nat.le_succ _)) (Nat.le_max_right N N2)
  unfold cl t6
  simp only [hS,hf,hb,hnt,hn,cond_true]
  rw [l4 hcall hle c e]
  unfold D1
  rcases hx with hx | hx <;> simp only [hx,D4 (c0k hcall2) _ e2,e0E _ _ hr l hl]
 cases x with
 | normal=>exact main (.inl rfl) q
 | ret=>exact main (.inr rfl) q
 | exit id=>exact q.elim
def p0D (l:Nat) (K:AV→AH→Prop):C1:=fun x _ ds h=>ds=[]∧∃ r,h.get l=some (.loop r)∧match x with
 | .normal=>K (.bool true) (h.set l (.loop { r with state:=.ready,pending:=none }))
 | .ret=>K (.bool false) (h.set l (.loop { r with state:=.done,pending:=some .ret }))
 | .exit id=>K (.bool false) (h.set l (.loop { r with state:=.done,pending:=some (.exit id) }))
variable (P S) in
def r0b (l:Nat) (cb:CC) (K:AV→AH→Prop):C1:=fun x σ ds h=>match x with
 | .normal=>∃ q,h.get l=some (.loop q)∧q.state=.ready∧wpC P S cb (p0D l K) σ ds (h.set l (.loop { q with state:=.busy }))
 | _=>False
end
end Go.Dr

namespace Go.Dr
theorem nr {α:Sort _} {a b:α} (h:a=b):a=b:=h
section
variable {P:Program} {S:b0e} {Q:C1} {σ:Sg} {ds:List ADef} {h:AH}
@[simp] theorem l05:wpC P S .skip Q σ ds h=Q .normal σ ds h:=nr rfl
@[simp] theorem j0L (l:List CEnt):wpC P S (.ops l) Q σ ds h=p4 P S l Q σ ds h:=nr rfl
@[simp] theorem h0d (x y:CC):wpC P S (.seq x y) Q σ ds h=wpC P S x (m0F P S y Q) σ ds h:=nr rfl
@[simp] theorem k0H (id:Nat) (c:CC):wpC P S (.block id c) Q σ ds h=wpC P S c (e0C id Q) σ ds h:=nr rfl
@[simp] theorem l06 (id:Nat):wpC P S (.exit id) Q σ ds h=Q (.exit id) σ ds h:=nr rfl
@[simp] theorem q0u:wpC P S .ret Q σ ds h=Q .ret σ ds h:=nr rfl
variable (P S) in
def wpB (v:AV) (x y:CC) (Q:C1) (σ:Sg) (ds:List ADef) (h:AH):Prop:=wpG v true (wpC P S x Q σ ds h) (wpC P S y Q σ ds h)
@[simp] theorem l07 (c:CO) (x y:CC):wpC P S (.cond c x y) Q σ ds h=wpB P S (c.evS σ) x y Q σ ds h:=nr rfl
@[simp] theorem l08 (x y:CC):wpB P S (.bool true) x y Q σ ds h=wpC P S x Q σ ds h:=nr rfl
@[simp] theorem k0I (x y:CC):wpB P S (.bool false) x y Q σ ds h=wpC P S y Q σ ds h:=nr rfl
@[simp] theorem d09 (y:CC):m0F P S y Q .normal σ ds h=wpC P S y Q σ ds h:=nr rfl
@[simp] theorem k0J (y:CC) (i:Nat):m0F P S y Q (.exit i) σ ds h=Q (.exit i) σ ds h:=nr rfl
@[simp] theorem p0X (y:CC):m0F P S y Q .ret σ ds h=Q .ret σ ds h:=nr rfl
@[simp] theorem n0M (id:Nat):e0C id Q .normal σ ds h=Q .normal σ ds h:=nr rfl
@[simp] theorem k0K (id i:Nat):e0C id Q (.exit i) σ ds h=if i=id then Q .normal σ ds h else Q (.exit i) σ ds h:=nr rfl
@[simp] theorem p0Y (id:Nat):e0C id Q .ret σ ds h=Q .ret σ ds h:=nr rfl
theorem I0 (I:Inv) (k:Nat):b08 I k Q .normal σ ds h=∃ k',k'<k∧I k' σ ds h:=nr rfl
@[simp] theorem j0j (I:Inv) (k i:Nat):b08 I k Q (.exit i) σ ds h=Q (.exit i) σ ds h:=nr rfl
@[simp] theorem p0d (I:Inv) (k:Nat):b08 I k Q .ret σ ds h=Q .ret σ ds h:=nr rfl
theorem f0u {c:CC} (I:Inv) (k:Nat) (h0:I k σ ds h) (hI:∀ k σ ds h,I k σ ds h→wpC P S c (b08 I k Q) σ ds h):wpC P S (.loop c) Q σ ds h:=⟨I,k,h0,hI⟩
theorem i0k {r:RN} {K K':AV→AH→Prop} {D D':ADef→AH→Prop} (hw:wpR P S r K D) (hk:∀ v h,K v h→K' v h) (hd:∀ d h,D d h→D' d h):wpR P S r K' D':=by
 unfold wpR at hw ⊢
 split at hw
 ·split at hw
  ·exact hk _ _ hw
  ·exact hk _ _ hw
  ·exact hw.mono hk
  ·exact hw.mono hk
  ·exact hd _ _ hw
 ·exact hw
theorem l09 {v:AV} {w:Bool} {x y x' y':Prop} (hw:wpG v w x y) (hx:x→x') (hy:y→y'):wpG v w x' y':=by
 unfold wpG at hw ⊢
 split at hw
 ·split at hw
  ·rename_i e;rw [if_pos e];exact hx hw
  ·rename_i e;rw [if_neg e];exact hy hw
 ·exact hw
theorem k0L {v:AV} {w:Bool} {x y x' y':Prop} (hw:b06 v w x y) (hx:x→x') (hy:y→y'):b06 v w x' y':=by
 unfold b06 at hw ⊢
 split at hw
 ·split at hw
  ·rename_i e;rw [if_pos e];exact hx hw
  ·rename_i e;rw [if_neg e];exact hy hw
 ·exact hw
 ·exact hy hw
theorem K8 {Q Q':C1} (hq:∀ σ ds h,Q .normal σ ds h→Q' .normal σ ds h):∀ (l:List CEnt) {σ:Sg} {ds:List ADef} {h:AH},p4 P S l Q σ ds h→p4 P S l Q' σ ds h
 | [],_,_,_,hw=>hq _ _ _ hw
 | .stage re::l,_,_,_,hw=>⟨hw.1,K8 hq l hw.2⟩
 | .row r::l,σ,ds,h,hw=>by
  simp only [p4] at hw ⊢
  cases hg:r.g with
  | none=>rw [hg] at hw;exact i0k hw (fun v h=>K8 hq l) (fun d h=>K8 hq l)
  | some p=>rw [hg] at hw;exact k0L hw (fun hw=>i0k hw (fun v h=>K8 hq l) (fun d h=>K8 hq l)) (K8 hq l)
theorem c0z:∀ {c:CC} {Q Q':C1} {σ:Sg} {ds:List ADef} {h:AH},wpC P S c Q σ ds h→(∀ x σ ds h,Q x σ ds h→Q' x σ ds h)→wpC P S c Q' σ ds h
 | .skip,_,_,_,_,_,hw,hq=>hq _ _ _ _ hw
 | .ops l,_,_,_,_,_,hw,hq=>K8 (fun _ _ _=>hq _ _ _ _) l hw
 | .seq x y,Q,Q',_,_,_,hw,hq=>c0z (c:=x) hw fun r σ ds h k=>by
  cases r with
  | normal=>exact c0z (c:=y) k hq
  | exit i=>exact hq _ _ _ _ k
  | ret=>exact hq _ _ _ _ k
 | .cond c x y,_,_,_,_,_,hw,hq=>l09 hw (fun k=>c0z (c:=x) k hq) (fun k=>c0z (c:=y) k hq)
 | .block id c,Q,Q',_,_,_,hw,hq=>c0z (c:=c) hw fun r σ ds h k=>by
  cases r with
  | normal=>exact hq _ _ _ _ k
  | ret=>exact hq _ _ _ _ k
  | exit i =>
   simp only [e0C] at k ⊢
   by_cases hi:i=id
   ·rw [if_pos hi] at k ⊢;exact hq _ _ _ _ k
   ·rw [if_neg hi] at k ⊢;exact hq _ _ _ _ k
 | .loop c,Q,Q',_,_,_,⟨I,k,h0,hI⟩,hq=>⟨I,k,h0,fun k σ ds h hi=>c0z (c:=c) (hI k σ ds h hi) fun r σ ds h q=>by
  cases r with
  | normal=>exact q
  | exit i=>exact hq _ _ _ _ q
  | ret=>exact hq _ _ _ _ q⟩
 | .exit id,_,_,_,_,_,hw,hq=>hq _ _ _ _ hw
 | .ret,_,_,_,_,_,hw,hq=>hq _ _ _ _ hw
 | .go n f params assign body,Q,Q',σ,ds,h,hw,hq=>by
  simp only [wpC,n04] at hw ⊢
  split at hw
  ·intro tmps ht
   refine (hw tmps ht).mono fun v h'=>?_
   rintro ⟨r,h1,h2,h3⟩
   refine ⟨r,h1,h2,?_⟩
   split at h3
   ·exact hq _ _ _ _ h3
   ·exact hq _ _ _ _ h3
   ·exact hq _ _ _ _ h3
   ·exact h3
  ·exact hw
variable (P S) in
def wpN (r:RN) (d:Option Nat) (l:List CEnt) (Q:C1) (σ:Sg) (ds:List ADef):Prop :=
 wpR P S r (fun v h=>p4 P S l Q (upd σ d v) ds h) (fun df h=>p4 P S l Q (upd σ d d8) (df::ds) h)
variable (P S) in
def k0M (v:AV) (w:Bool) (c:COp) (d:Option Nat) (l:List CEnt) (Q:C1) (σ:Sg) (ds:List ADef) (h:AH):Prop :=
 b06 v w (wpN P S (evS P c σ h) d l Q σ ds) (p4 P S l Q (upd σ d d8) ds h)
variable (P S) in
def m0a (d:Option Nat) (l:List CEnt) (Q:C1) (σ:Sg) (ds:List ADef) (v:AV) (h:AH):Prop:=p4 P S l Q (upd σ d v) ds h
@[simp] theorem g0u:p4 P S [] Q σ ds h=Q .normal σ ds h:=nr rfl
@[simp] theorem g0v (d:Option Nat) (c:COp) (l:List CEnt):p4 P S (.row ⟨d,none,c⟩::l) Q σ ds h=wpN P S (evS P c σ h) d l Q σ ds:=nr rfl
@[simp] theorem n0N (d:Option Nat) (t:Nat) (w:Bool) (c:COp) (l:List CEnt):p4 P S (.row ⟨d,some (t,w),c⟩::l) Q σ ds h=k0M P S (σ t) w c d l Q σ ds h:=nr rfl
@[simp] theorem n0O (re:List CRow) (l:List CEnt):p4 P S (.stage re::l) Q σ ds h=(G2 P re σ h∧p4 P S l Q σ ds h):=nr rfl
@[simp] theorem p0e (d:Option Nat) (l:List CEnt) (v:AV):wpN P S (.ok (.value v,h)) d l Q σ ds=p4 P S l Q (upd σ d v) ds h:=nr rfl
@[simp] theorem m07 (d:Option Nat) (l:List CEnt) (v:AV):wpN P S (okV v h) d l Q σ ds=p4 P S l Q (upd σ d v) ds h:=nr rfl
@[simp] theorem i0l (d:Option Nat) (l:List CEnt) (v:AV):wpN P S (d5 h (.ok v)) d l Q σ ds=p4 P S l Q (upd σ d v) ds h:=nr rfl
@[simp] theorem p0Z (d:Option Nat) (l:List CEnt):wpN P S (Q9 (.ok h)) d l Q σ ds=p4 P S l Q (upd σ d d8) ds h:=nr rfl
@[simp] theorem p0f (d:Option Nat) (l:List CEnt) (f:FuncId) (args:List AV):wpN P S (.ok (.enter f args,h)) d l Q σ ds=Ev P S (.fn f) args h (m0a P S d l Q σ ds):=nr rfl
@[simp] theorem p0g (d:Option Nat) (l:List CEnt) (f:Nat) (args:List AV):wpN P S (.ok (.yield f args,h)) d l Q σ ds=Ev P S (.yield f) args h (m0a P S d l Q σ ds):=nr rfl
@[simp] theorem p0h (d:Option Nat) (l:List CEnt) (v:AV):m0a P S d l Q σ ds v h=p4 P S l Q (upd σ d v) ds h:=nr rfl
@[simp] theorem q0v (c:COp) (d:Option Nat) (l:List CEnt):k0M P S (.bool true) true c d l Q σ ds h=wpN P S (evS P c σ h) d l Q σ ds:=nr rfl
@[simp] theorem q0w (c:COp) (d:Option Nat) (l:List CEnt):k0M P S (.bool false) false c d l Q σ ds h=wpN P S (evS P c σ h) d l Q σ ds:=nr rfl
@[simp] theorem q0x (c:COp) (d:Option Nat) (l:List CEnt):k0M P S (.bool true) false c d l Q σ ds h=p4 P S l Q (upd σ d d8) ds h:=nr rfl
@[simp] theorem q0y (w:Bool) (c:COp) (d:Option Nat) (l:List CEnt):k0M P S d8 w c d l Q σ ds h=p4 P S l Q (upd σ d d8) ds h:=nr rfl
@[simp] theorem q0z (c:COp) (d:Option Nat) (l:List CEnt):k0M P S (.bool false) true c d l Q σ ds h=p4 P S l Q (upd σ d d8) ds h:=nr rfl
variable (P S) in
def j0k (r:R (List AV)) (K:AV→AH→Prop) (h:AH):Prop :=
 match r with
 | .ok l=>K (O4 l) h
 | .error _=>False
@[simp] theorem q0A (l:List AV) (K:AV→AH→Prop):j0k (.ok l) K h=K (O4 l) h:=nr rfl
theorem h0e (r:R (List AV)) (K:AV→AH→Prop):(∃ l,r=.ok l∧K (O4 l) h)=j0k r K h:=by
 cases r with
 | error e=>simp [j0k]
 | ok l=>simp [j0k]
@[simp] theorem n0P (res:List CRes) (K:AV→AH→Prop):n05 P S res K .normal σ [] h=j0k (a0g h σ res) K h:=h0e _ _
@[simp] theorem p00 (res:List CRes) (K:AV→AH→Prop):n05 P S res K .ret σ [] h=j0k (a0g h σ res) K h:=h0e _ _
@[simp] theorem p01:a0g h σ []=.ok []:=nr rfl
@[simp] theorem p02 (t:Nat) (l:List CRes):a0g h σ (.tmp t::l)=match a0g h σ l with | .ok r=>.ok (σ t::r) | .error e=>.error e:=nr rfl
@[simp] theorem p0i (v:AV):O4 [v]=v:=nr rfl
@[simp] theorem p0j:O4 []=.tuple []:=nr rfl
@[simp] theorem p0k (v u:AV) (l:List AV):O4 (v::u::l)=.tuple (v::u::l):=nr rfl
@[simp] theorem m0b (x:_):evS P (.move x) σ h=okV (x.evS σ) h:=nr rfl
@[simp] theorem p03 (c:_) (x:_) (y:_):evS P (.pick c x y) σ h=d5 h (d0I (c.evS σ) (x.evS σ) (y.evS σ)):=nr rfl
@[simp] theorem q0B (z:_):evS P (.new z) σ h=O3 z h:=nr rfl
@[simp] theorem q0C (x:_):evS P (.box x) σ h=O3 (x.evS σ).cells h:=nr rfl
@[simp] theorem p0l (z:_) (pl:_):evS P (.build z pl) σ h=d5 h (c0L z pl σ):=nr rfl
@[simp] theorem m0c (len:_) (es:_) (z:_) (pl:_):evS P (.buildSlice len es z pl) σ h=I2 len es z pl σ h:=nr rfl
@[simp] theorem p0m (x:_):evS P (.load1 x) σ h=Y9 (x.evS σ) h:=nr rfl
@[simp] theorem p0n (n:_) (x:_):evS P (.loadN n x) σ h=B4 n (x.evS σ) h:=nr rfl
@[simp] theorem p0o (n:_) (x:_) (y:_):evS P (.store n x y) σ h=N5 n (x.evS σ) (y.evS σ) h:=nr rfl
@[simp] theorem m08 (x:_):evS P (.nilCheck x) σ h=B3 (x.evS σ) h:=nr rfl
@[simp] theorem j0M (op:_) (t:_) (lit:_) (x:_) (y:_):evS P (.bin op t lit x y) σ h=d5 h (m9 P op t lit (x.evS σ) (y.evS σ)):=nr rfl
@[simp] theorem q04 (op:_) (x:_):evS P (.un op x) σ h=d5 h (i06 op (x.evS σ)):=nr rfl
@[simp] theorem p04 (c:_) (x:_):evS P (.conv c x) σ h=B6 c (x.evS σ) h:=nr rfl
@[simp] theorem q0D (t:_) (x:_):evS P (.mkI t x) σ h=okV (.iface t (x.evS σ)) h:=nr rfl
@[simp] theorem q0E (f:_) (first:_) (captured:_):evS P (.mkF f first captured) σ h=okV (.func (.func f) (b0d σ first) (b0d σ captured)) h:=nr rfl
@[simp] theorem q0F (r:_):evS P (.mkM r) σ h=c0d (W9 σ r) h:=nr rfl
@[simp] theorem q0G (es:_) (bytes:_) (z:_) (l:_) (c:_):evS P (.mkS es bytes z l c) σ h=d05 es bytes z (l.evS σ) (c.evS σ) h:=nr rfl
@[simp] theorem o0A (x:_) (lo:_) (hi:_):evS P (.sliceS x lo hi) σ h=d5 h (b0E (x.evS σ) (W9 σ lo) (W9 σ hi)):=nr rfl
@[simp] theorem o0B (es:_) (x:_) (lo:_) (hi:_) (mx:_):evS P (.sliceV es x lo hi mx) σ h=d5 h (k8 es (x.evS σ) (W9 σ lo) (W9 σ hi) (W9 σ mx)):=nr rfl
@[simp] theorem o0C (n:_) (es:_) (x:_) (lo:_) (hi:_) (mx:_):evS P (.sliceA n es x lo hi mx) σ h=d5 h (b0F n es h (x.evS σ) (W9 σ lo) (W9 σ hi) (W9 σ mx)):=nr rfl
@[simp] theorem m0u (off:_) (x:_):evS P (.fieldAddr off x) σ h=d5 h (L9 off (x.evS σ)):=nr rfl
@[simp] theorem o0D (off:_) (x:_):evS P (.field1 off x) σ h=d5 h (c0u (x.evS σ) off):=nr rfl
@[simp] theorem o0E (off:_) (n:_) (x:_):evS P (.fieldN off n x) σ h=d5 h (a0Y (x.evS σ) off n):=nr rfl
@[simp] theorem p05 (len:_) (es:_) (x:_) (i:_):evS P (.idxA len es x i) σ h=d5 h (f0i len es (x.evS σ) (i.evS σ)):=nr rfl
@[simp] theorem p06 (es:_) (x:_) (i:_):evS P (.idxV es x i) σ h=d5 h (G1 es (x.evS σ) (i.evS σ)):=nr rfl
@[simp] theorem o0F (len:_) (es:_) (x:_) (i:_):evS P (.index1 len es x i) σ h=d5 h (P6 true len es (x.evS σ) (i.evS σ)):=nr rfl
@[simp] theorem o0G (len:_) (es:_) (x:_) (i:_):evS P (.indexN len es x i) σ h=d5 h (P6 false len es (x.evS σ) (i.evS σ)):=nr rfl
@[simp] theorem o0H (x:_) (i:_):evS P (.indexS x i) σ h=d5 h (W5 (x.evS σ) (i.evS σ)):=nr rfl
@[simp] theorem o0I (kt:_) (z:_) (ok:_) (x:_) (k:_):evS P (.lookup kt z ok x k) σ h=d5 h (b0G P kt z ok h (x.evS σ) (k.evS σ)):=nr rfl
@[simp] theorem q0H (kt:_) (m:_) (k:_) (v:_):evS P (.upd kt m k v) σ h=Q9 (b0c P kt h (m.evS σ) (k.evS σ) (v.evS σ)):=nr rfl
@[simp] theorem m09 (kt:_) (z:_) (m:_) (k:_):evS P (.mapEntry kt z m k) σ h=P0 P kt z h (m.evS σ) (k.evS σ):=nr rfl
@[simp] theorem m0d (m:_) (t:_) (v:_):evS P (.entryStore m t v) σ h=Q9 (M7 h (m.evS σ) (t.evS σ) (v.evS σ)):=nr rfl
@[simp] theorem o0J (x:_):evS P (.rangeS x) σ h=W6 h (x.evS σ):=nr rfl
@[simp] theorem o0K (x:_):evS P (.rangeM x) σ h=R0 h (x.evS σ):=nr rfl
@[simp] theorem p07 (it:_) (b:_):evS P (.next it b) σ h=P1 h (it.evS σ) b:=nr rfl
@[simp] theorem p0p (it:_):evS P (.entry it) σ h=d5 h (a0Z h (it.evS σ)):=nr rfl
@[simp] theorem n0Q (x:_) (t:_) (ok:_):evS P (.tassert x t ok) σ h=d5 h (N0 P (x.evS σ) t ok):=nr rfl
@[simp] theorem n0R (x:_) (i:_):evS P (.extract x i) σ h=d5 h (M0 (x.evS σ) i):=nr rfl
@[simp] theorem q0I (es:_) (bytes:_) (x:_) (y:_):evS P (.app es bytes x y) σ h=M9 es bytes (x.evS σ) (y.evS σ) h:=nr rfl
@[simp] theorem p08 (es:_) (bytes:_) (z:_) (x:_) (y:_):evS P (.appZ es bytes z x y) σ h=Z9 es bytes z (x.evS σ) (y.evS σ) h:=nr rfl
@[simp] theorem p09 (n:_):evS P (.lenK n) σ h=okV (.int .i64 (.ofNat n)) h:=nr rfl
@[simp] theorem q0a (x:_):evS P (.lenS x) σ h=d5 h (d0H (x.evS σ)):=nr rfl
@[simp] theorem q0b (x:_):evS P (.lenV x) σ h=d5 h (C9 (x.evS σ)):=nr rfl
@[simp] theorem q0c (x:_):evS P (.lenM x) σ h=d5 h (f0k h (x.evS σ)):=nr rfl
@[simp] theorem q0d (x:_):evS P (.capV x) σ h=d5 h (b0I (x.evS σ)):=nr rfl
@[simp] theorem q0e (es:_) (d:_) (x:_):evS P (.copy es d x) σ h=a0a es (d.evS σ) (x.evS σ) h:=nr rfl
@[simp] theorem p0q (es:Nat) (z:List AV) (x:_):evS P (.clear es z x) σ h=b00 es z (x.evS σ) h:=nr rfl
@[simp] theorem o0L (kt:_) (m:_) (k:_):evS P (.delete kt m k) σ h=a0s P kt (m.evS σ) (k.evS σ) h:=nr rfl
@[simp] theorem q05 (isMax:_) (x:_) (l:_):evS P (.mm isMax x l) σ h=d5 h (a0b isMax (x.evS σ) (b0d σ l)):=nr rfl
@[simp] theorem p0r (f:_) (args:_):evS P (.callV f args) σ h=a00 (f.evS σ) (b0d σ args) h:=nr rfl
@[simp] theorem p0s (r:_) (name:_) (args:_):evS P (.callM r name args) σ h=a0t P (r.evS σ) name (b0d σ args) h:=nr rfl
@[simp] theorem p0t (f:_) (args:_):evS P (.defer f args) σ h=c03 (f.evS σ) (b0d σ args) h:=nr rfl
@[simp] theorem n0S (a b:AV):d0I (.bool true) a b=.ok a:=nr rfl
@[simp] theorem n0a (a b:AV):d0I (.bool false) a b=.ok b:=nr rfl
@[simp] theorem m0e (a:AV) (l:List AV):M0 (.tuple (a::l)) 0=.ok a:=nr rfl
@[simp] theorem m0v (a b:AV) (l:List AV):M0 (.tuple (a::b::l)) 1=.ok b:=nr rfl
@[simp] theorem m0w (a b c:AV) (l:List AV):M0 (.tuple (a::b::c::l)) 2=.ok c:=nr rfl
@[simp] theorem k0W (a b c d:AV) (l:List AV):M0 (.tuple (a::b::c::d::l)) 3=.ok d:=nr rfl
@[simp] theorem k0X (off id o:Nat):L9 off (.ptr id o)=.ok (.ptr id (o+off)):=nr rfl
@[simp] theorem q0f (z:List AV):O3 z h=okV (.ptr h.next 0) (h.push (.cells z false)):=nr rfl
@[simp] theorem n0T (id off:Nat):Y9 (.ptr id off) h=d5 h (load1 h id off):=nr rfl
@[simp] theorem m0f (id off:Nat):B3 (.ptr id off) h=okV (.ptr id off) h:=nr rfl
@[simp] theorem m0g (id:Nat):B3 (.map id) h=okV (.map id) h:=nr rfl
@[simp] theorem n0U:C9 .nils=.ok (.int .i64 0):=nr rfl
@[simp] theorem n0b (id off n cap:Nat) (x:Bool) (es:Nat):C9 (.slice id off n cap x es)=.ok (.int .i64 (n:Int)):=nr rfl
@[simp] theorem o0M (s:List UInt8):d0H (.str s)=.ok (.int .i64 (s.length:Int)):=nr rfl
@[simp] theorem T7 (es id off len cap:Nat) (x:Bool) (k:IntKind) (i:Int) (hi:0≤i∧i<len) :
  G1 es (.slice id off len cap x es) (.int k i)=.ok (.ptr id (off+i.toNat*es)):=by simp [G1,hi]
@[simp] theorem n0c (t:TypeId) (lit:Bool) (k:IntKind) (a b:Int):m9 P .add t lit (.int k a) (.int k b)=.ok (.int k (s6 k (a+b))):=by simp [m9,G3,b0b]
@[simp] theorem q0J (t:TypeId) (lit:Bool) (k:IntKind) (a b:Int):m9 P .sub t lit (.int k a) (.int k b)=.ok (.int k (s6 k (a - b))):=by simp [m9,G3,b0b]
theorem o0N (t:TypeId) (lit:Bool) (k:IntKind) (a b:Int):m9 P .or t lit (.int k a) (.int k b)=.ok (.int k (s6 k (BitVec.ofInt k.bits a ||| BitVec.ofInt k.bits b).toNat)):=by simp [m9,G3,b0b]
@[simp] theorem q0K (t:TypeId) (lit:Bool) (k:IntKind) (a b:Int):m9 P .eql t lit (.int k a) (.int k b)=.ok (.bool (decide (a=b))):=by
 simp only [m9,G3,b0b,d04]
 by_cases h:a=b <;> simp [h]
@[simp] theorem q0L (t:TypeId) (lit:Bool) (k:IntKind) (a b:Int):m9 P .neq t lit (.int k a) (.int k b)=.ok (.bool (decide (¬ a=b))):=by
 simp only [m9,G3,b0b,d04]
 by_cases h:a=b <;> simp [h]
@[simp] theorem n0d (t:TypeId) (lit:Bool) (k:IntKind) (a b:Int):m9 P .lss t lit (.int k a) (.int k b)=.ok (.bool (decide (a<b))):=by simp [m9,G3,b0b,d04]
@[simp] theorem q0M (t:TypeId) (lit:Bool) (k:IntKind) (a b:Int):m9 P .leq t lit (.int k a) (.int k b)=.ok (.bool (decide (a≤b))):=by simp [m9,G3,b0b,d04]
@[simp] theorem q0N (t:TypeId) (lit:Bool) (k:IntKind) (a b:Int):m9 P .gtr t lit (.int k a) (.int k b)=.ok (.bool (decide (b<a))):=by simp [m9,G3,b0b,d04]
@[simp] theorem q0O (t:TypeId) (lit:Bool) (k:IntKind) (a b:Int):m9 P .geq t lit (.int k a) (.int k b)=.ok (.bool (decide (b≤a))):=by simp [m9,G3,b0b,d04]
theorem q0P (t:TypeId) (lit:Bool) (k k':IntKind) (a b:Int) (hb:0≤b):m9 P .shl t lit (.int k a) (.int k' b)=.ok (.int k (s6 k (a*2 ^ min b.toNat k.bits))):=by
 have:¬ b<0:=by omega
 simp [m9,G3,c0Z,this]
theorem n0e (t:TypeId) (lit:Bool) (k k':IntKind) (a b:Int) (hb:0≤b):m9 P .shr t lit (.int k a) (.int k' b)=.ok (.int k (a.fdiv (2 ^ min b.toNat k.bits))):=by
 have:¬ b<0:=by omega
 simp [m9,G3,c0Z,this]
@[simp] theorem p0u (t:TypeId) (lit:Bool) (a b:Int):m9 P .or t lit (.int .u8 a) (.int .u8 b)=.ok (.int .u8 (s6 .u8 (BitVec.ofInt 8 a ||| BitVec.ofInt 8 b).toNat)):=o0N t lit .u8 a b
@[simp] theorem n0V (t:TypeId) (lit:Bool) (k':IntKind) (a b:Int) (hb:0≤b):m9 P .shr t lit (.int .u64 a) (.int k' b)=.ok (.int .u64 (a.fdiv (2 ^ min b.toNat 64))):=n0e t lit .u64 k' a b hb
@[simp] theorem q06 (b:Bool):i06 .not (.bool b)=.ok (.bool !b):=nr rfl
@[simp] theorem q07 (k:IntKind) (n:Int):i06 .neg (.int k n)=.ok (.int k (s6 k (0 - n))):=nr rfl
@[simp] theorem q0g (k k':IntKind) (n:Int):B6 (.int k) (.int k' n) h=okV (.int k (s6 k n)) h:=nr rfl
@[simp] theorem q08 (k k':IntKind) (a b:Int):a0b false (.int k a) [.int k' b]=.ok (.int k (min a b)):=by
 simp only [a0b,mm2]
 congr 2
 by_cases h:b<a
 ·rw [if_pos h,Int.min_def,if_neg (by omega)]
 ·rw [if_neg h,Int.min_def,if_pos (by omega)]
@[simp] theorem o0O (f:FuncId) (first captured args:List AV):a00 (.func (.func f) first captured) args h=.ok (.enter f ((first++args)++captured),h):=nr rfl
@[simp] theorem m0x (l:Nat) (args:List AV):a00 (.func (.yield l) [] []) args h=.ok (.yield l args,h):=nr rfl
theorem wrap_i64 {n:Int} (h1:-9223372036854775808≤n) (h2:n<9223372036854775808):s6 .i64 n=n:=by rw [R6];exact IntWalk.i64_in n ⟨h1,by omega⟩
theorem m0h {n:Int} (h1:0≤n) (h2:n<18446744073709551616):s6 .u64 n=n:=by rw [R6];exact IntWalk.u64_in n ⟨h1,by omega⟩
theorem c9 {o:AObj} {i:Nat} (hi:i≠h.next):(h.push o).get i=h.get i:=by rw [AH.get_push,if_neg hi]
@[simp] theorem a7 (o:AObj):(h.push o).get h.next=some o:=by rw [AH.get_push,if_pos rfl]
theorem b8 {o:AObj} {i j:Nat} (hi:i≠j):(h.set j o).get i=h.get i:=by rw [AH.get_set,if_neg hi]
@[simp] theorem l6 (o:AObj) (j:Nat):(h.set j o).get j=some o:=by rw [AH.get_set,if_pos rfl]
theorem d0b {i j:Nat} (hi:i≠j):(h.kill j).get i=h.get i:=by rw [AH.get_kill,if_neg hi]
structure Fr (h h':AH):Prop where
 next:h.next≤h'.next
 get:∀ i,i<h.next→h'.get i=h.get i
theorem Fr.refl (h:AH):Fr h h:=⟨Nat.le_refl _,fun _ _=>rfl⟩
theorem Fr.trans {h1 h2 h3:AH} (a:Fr h1 h2) (b:Fr h2 h3):Fr h1 h3 :=
 ⟨Nat.le_trans a.next b.next,fun i hi=>(b.get i (Nat.lt_of_lt_of_le hi a.next)).trans (a.get i hi)⟩
theorem Fr.push {h1:AH} (a:Fr h1 h) (o:AObj):Fr h1 (h.push o) :=
 ⟨Nat.le_succ_of_le a.next,fun i hi=>by rw [c9 (by have:=a.next;omega)];exact a.get i hi⟩
def Sl (h:AH) (es n:Nat) (v:AV) (l:List AV):Prop :=
 l.length=n*es∧((v=.nils∧n=0)∨∃ id off cap x vs ro,v=.slice id off n cap x es∧id<h.next∧n≤cap∧h.get id=some (.cells vs ro)∧off+n*es≤vs.length∧(vs.drop off).take (n*es)=l)
theorem Sl.nil (es:Nat):Sl h es 0 .nils []:=⟨by simp,.inl ⟨rfl,rfl⟩⟩
theorem Sl.fr {h h':AH} {es n:Nat} {v:AV} {l:List AV} (s:Sl h es n v l) (f:Fr h h'):Sl h' es n v l:=by
 refine ⟨s.1,?_⟩
 rcases s.2 with e | ⟨id,off,cap,x,vs,ro,e1,e2,e6,e3,e4,e5⟩
 ·exact .inl e
 ·exact .inr ⟨id,off,cap,x,vs,ro,e1,Nat.lt_of_lt_of_le e2 f.next,e6,by rw [f.get id e2];exact e3,e4,e5⟩
theorem Sl.len {es n:Nat} {v:AV} {l:List AV} (s:Sl h es n v l):C9 v=.ok (.int .i64 (n:Int)):=by
 rcases s.2 with ⟨rfl,rfl⟩ | ⟨id,off,cap,x,vs,ro,rfl,_⟩ <;> rfl
theorem Sl.get {es n:Nat} {v:AV} {l:List AV} (s:Sl h es n v l) {k:IntKind} {i:Int} {j:Nat} (hi:i=j) (hj:j<n) :
  ∃ id o,G1 es v (.int k i)=.ok (.ptr id o)∧(∀ c,c<es→load1 h id (o+c)=ofO "load: out of the known cells" l[j*es+c]?)∧loadN h id o es=.ok ((l.drop (j*es)).take es):=by
 subst hi
 rcases s.2 with ⟨rfl,rfl⟩ | ⟨id,off,cap,x,vs,ro,rfl,e2,e6,e3,e4,rfl⟩
 ·omega
 ·have hle:j*es+es≤n*es:=by
   have:=Nat.mul_le_mul_right es (show j+1≤n from hj)
   rw [Nat.add_mul,Nat.one_mul] at this
   exact this
  refine ⟨id,off+j*es,by rw [T7 _ _ _ _ _ _ _ _ ⟨by omega,by omega⟩,Int.toNat_natCast],fun c hc=>?_,?_⟩
  ·rw [List.getElem?_take,if_pos (by omega),List.getElem?_drop]
   unfold load1
   rw [e3]
   simp only []
   rw [show off+j*es+c=off+(j*es+c) from by omega]
   cases vs[off+(j*es+c)]? <;> rfl
  ·have hb:Nat.ble (off+j*es+es) vs.length=true:=Nat.ble_eq_true_of_le (by omega)
   simp only [loadN,e3,hb,cond_true]
   congr 1
   rw [List.drop_take,List.drop_drop,List.take_take,Nat.min_eq_left (by omega)]
theorem Sl.get1 {n:Nat} {v:AV} {l:List AV} (s:Sl h 1 n v l) {k:IntKind} {i:Int} {j:Nat} (hi:i=j) (hj:j<n) {x:AV} (hx:l[j]? = some x) :
  ∃ id o,G1 1 v (.int k i)=.ok (.ptr id o)∧load1 h id o=.ok x∧∀ h',Fr h h'→load1 h' id o=.ok x:=by
 have key:∀ g:AH,Sl g 1 n v l→∃ id o,G1 1 v (.int k i)=.ok (.ptr id o)∧load1 g id o=.ok x:=by
  intro g s
  obtain ⟨id,o,e1,e2,_⟩:=s.get (k:=k) hi hj
  refine ⟨id,o,e1,?_⟩
  have:=e2 0 (by omega)
  rw [Nat.add_zero,Nat.mul_one,Nat.add_zero,hx] at this
  exact this
 obtain ⟨id,o,e1,e2⟩:=key h s
 refine ⟨id,o,e1,e2,fun h' f=>?_⟩
 obtain ⟨id',o',e3,e4⟩:=key h' (s.fr f)
 rw [e1] at e3
 cases e3
 exact e4
theorem Sl.cells {es n:Nat} {v:AV} {l:List AV} (s:Sl h es n v l):F3 h es v=.ok (n,l):=by
 obtain ⟨hl,s⟩:=s
 rcases s with ⟨rfl,rfl⟩ | ⟨id,off,cap,x,vs,ro,rfl,e2,e6,e3,e4,rfl⟩
 ·have:l=[]:=by simpa using hl
  subst this;rfl
 ·have hb:Nat.ble (off+n*es) vs.length=true:=Nat.ble_eq_true_of_le e4
  simp [F3,loadN,e3,hb]
theorem Sl.slice {es n:Nat} {v:AV} {l:List AV} (s:Sl h es n v l) {lo hi:Option AV} {a b:Nat}
  (hlo:lo=none∧a=0∨∃ k,lo=some (.int k (a:Int))) (hhi:hi=none∧b=n∨∃ k,hi=some (.int k (b:Int))) (hab:a≤b) (hbn:b≤n) :
  ∃ v',k8 es v lo hi none=.ok v'∧Sl h es (b - a) v' ((l.drop (a*es)).take ((b - a)*es)):=by
 obtain ⟨hl,s⟩:=s
 have h1:a*es≤b*es:=Nat.mul_le_mul_right es hab
 have h2:b*es≤n*es:=Nat.mul_le_mul_right es hbn
 have hlen:((l.drop (a*es)).take ((b - a)*es)).length=(b - a)*es:=by
  rw [List.length_take,List.length_drop,hl,Nat.sub_mul];omega
 rcases s with ⟨rfl,rfl⟩ | ⟨id,off,cap,x,vs,ro,rfl,e2,e6,e3,e4,rfl⟩
 ·obtain rfl:b=0:=by omega
  obtain rfl:a=0:=by omega
  refine ⟨.nils,?_,hlen,.inl ⟨rfl,rfl⟩⟩
  rcases hlo with ⟨rfl,_⟩ | ⟨k,rfl⟩ <;> rcases hhi with ⟨rfl,_⟩ | ⟨k',rfl⟩ <;> simp [k8,C5,A0,B7]
 ·have hm:A0 none cap cap=.ok cap:=rfl
  have hb:A0 hi n cap=.ok b:=by
   rcases hhi with ⟨rfl,rfl⟩ | ⟨k,rfl⟩
   ·rfl
   ·simp only [A0,B7]
    rw [if_pos ⟨by omega,by omega⟩,Int.toNat_natCast]
  have ha:A0 lo 0 b=.ok a:=by
   rcases hlo with ⟨rfl,rfl⟩ | ⟨k,rfl⟩
   ·rfl
   ·simp only [A0,B7]
    rw [if_pos ⟨by omega,by omega⟩,Int.toNat_natCast]
  refine ⟨.slice id (off+a*es) (b - a) (cap - a) x es,?_,hlen,.inr ⟨id,off+a*es,cap - a,x,vs,ro,rfl,e2,by omega,e3,?_,?_⟩⟩
  ·simp [k8,C5,hm,hb,ha]
  ·rw [Nat.sub_mul];omega
  ·rw [List.drop_take,List.drop_drop,List.take_take,Nat.sub_mul,Nat.min_eq_left (by omega)]
def s7:AV→Option Nat
 | .slice id _ _ _ _ _=>some id
 | _=>none
def Own (B:Nat) (h:AH) (es n:Nat) (v:AV) (l:List AV):Prop :=
 l.length=n*es∧((v=.nils∧n=0)∨∃ id off x vs,v=.slice id off n n x es∧B≤id∧id<h.next∧h.get id=some (.cells vs false)∧off+n*es≤vs.length∧(vs.drop off).take (n*es)=l)
theorem Own.sl {B es n:Nat} {v:AV} {l:List AV} (s:Own B h es n v l):Sl h es n v l:=by
 refine ⟨s.1,?_⟩
 rcases s.2 with e | ⟨id,off,x,vs,e1,e2,e3,e4,e5,e6⟩
 ·exact .inl e
 ·exact .inr ⟨id,off,n,x,vs,false,e1,e3,Nat.le_refl _,e4,e5,e6⟩
theorem Own.nil (B es:Nat):Own B h es 0 .nils []:=⟨by simp,.inl ⟨rfl,rfl⟩⟩
theorem Own.fr {B es n:Nat} {h':AH} {v:AV} {l:List AV} (s:Own B h es n v l) (f:Fr h h'):Own B h' es n v l:=by
 refine ⟨s.1,?_⟩
 rcases s.2 with e | ⟨id,off,x,vs,e1,e2,e3,e4,e5,e6⟩
 ·exact .inl e
 ·exact .inr ⟨id,off,x,vs,e1,e2,Nat.lt_of_lt_of_le e3 f.next,by rw [f.get id e3];exact e4,e5,e6⟩
theorem Own.fresh {B es n:Nat} {l:List AV} (x:Bool) (hB:B≤h.next) (hl:l.length=n*es):Own B (h.push (.cells l false)) es n (.slice h.next 0 n n x es) l :=
 ⟨hl,.inr ⟨h.next,0,x,l,rfl,hB,Nat.lt_succ_self _,a7 _,by omega,by rw [List.drop_zero,List.take_of_length_le (by omega)]⟩⟩
structure FrB (B:Nat) (h h':AH):Prop where
 next:h.next≤h'.next
 get:∀ i,i<B→h'.get i=h.get i
theorem FrB.refl (B:Nat) (h:AH):FrB B h h:=⟨Nat.le_refl _,fun _ _=>rfl⟩
theorem FrB.trans {B:Nat} {h1 h2 h3:AH} (a:FrB B h1 h2) (b:FrB B h2 h3):FrB B h1 h3:=⟨Nat.le_trans a.next b.next,fun i hi=>(b.get i hi).trans (a.get i hi)⟩
theorem Fr.b {B:Nat} {h h':AH} (f:Fr h h') (hB:B≤h.next):FrB B h h':=⟨f.next,fun i hi=>f.get i (Nat.lt_of_lt_of_le hi hB)⟩
theorem Own.append {B es n m bytes:Nat} {v x:AV} {l r:List AV} (s:Own B h es n v l) (t:Sl h es m x r) (hB:B≤h.next) (hs:b9 r=true) (h1:(n+m)*bytes≤2 ^ 40) (h2:n+m≤2 ^ 40) :
  ∃ v' h',M9 es bytes v x h=okV v' h'∧Own B h' es (n+m) v' (l++r)∧FrB B h h'∧(∀ i,i<h.next→s7 v≠some i→h'.get i=h.get i)∧(∀ i,s7 v'=some i→s7 v=some i∨h.next≤i):=by
 have hr:=t.1
 have hlr:(l++r).length=(n+m)*es:=by rw [List.length_append,s.1,hr,Nat.add_mul]
 unfold M9
 rw [t.cells]
 simp only []
 by_cases hm:m=0
 ·subst hm
  have hr0:r=[]:=by simpa using hr
  subst hr0
  refine ⟨v,h,?_,by simpa using s,.refl _ _,fun _ _ _=>rfl,fun i hi=>.inl hi⟩
  rcases s.2 with ⟨rfl,rfl⟩ | ⟨id,off,x',vs,rfl,e2,e3,e4,e5,e6⟩
  ·simp [M8]
  ·have hb:Nat.ble n n=true:=Nat.ble_eq_true_of_le (Nat.le_refl n)
   simp [M8,j0,B5,hb]
 ·rcases s.2 with ⟨rfl,rfl⟩ | ⟨id,off,x',vs,rfl,e2,e3,e4,e5,e6⟩
  ·have hl0:l=[]:=by simpa using s.1
   subst hl0
   refine ⟨.slice h.next 0 m m false es,h.push (.cells r false),?_,?_,(Fr.push (.refl h) _).b hB,fun i hi _=>c9 (by omega),fun i hi=>by cases hi;exact .inr (Nat.le_refl _)⟩
   ·simp only [M8]
    rw [if_neg hm,if_pos ⟨by simpa using h1,by simpa using h2⟩]
   ·rw [Nat.zero_add]
    exact Own.fresh false hB (by simpa using hr)
  ·have hnb:Nat.ble (n+m) n=false:=by
    cases e:Nat.ble (n+m) n with
    | false=>rfl
    | true=>have:=Nat.le_of_ble_eq_true e;omega
   have hld:loadN h id off (n*es)=.ok l:=by
    have hb:Nat.ble (off+n*es) vs.length=true:=Nat.ble_eq_true_of_le e5
    simp [loadN,e4,hb,e6]
   cases x' with
   | true =>
    refine ⟨.slice h.next 0 (n+m) (n+m) false es,h.push (.cells (l++r) false),?_,?_,(Fr.push (.refl h) _).b hB,fun i hi _=>c9 (by omega),fun i hi=>by cases hi;exact .inr (Nat.le_refl _)⟩
    ·simp only [M8,j0,hnb,cond_false,hld,hs,if_true]
     rw [if_neg (by simp),if_pos ⟨h1,h2⟩]
    ·exact Own.fresh false hB hlr
   | false =>
    refine ⟨.slice h.next 0 (n+m) (n+m) false es,(h.kill id).push (.cells (l++r) false),?_,?_,?_,fun i hi hne=>?_,fun i hi=>by cases hi;exact .inr (Nat.le_refl _)⟩
    ·simp only [M8,j0,hnb,cond_false,hld,hs,if_true,e4]
     rw [if_neg (by simp),if_pos ⟨h1,h2⟩]
    ·exact Own.fresh (h:=h.kill id) false hB hlr
    ·exact ⟨by simp,fun i hi=>by rw [c9 (by simp;omega),d0b (by omega)]⟩
    ·rw [c9 (by simp;omega),d0b (by intro e;apply hne;rw [e];rfl)]
def wpA (r:RN) (u:AV):Prop :=
 match r with
 | .ok (.value v,_)=>I6 12 v u=true
 | _=>False
theorem i0m:G2 P [] σ h=True:=nr rfl
theorem m0i (r:RN) (d:Nat):(∃ v h',r=.ok (.value v,h')∧∀ e,some d=some e→I6 12 v (σ e)=true)=wpA r (σ d):=by
 apply propext
 constructor
 ·rintro ⟨v,h',rfl,e⟩
  exact e d rfl
 ·intro e
  unfold wpA at e
  split at e
  ·rename_i v h'
   exact ⟨v,h',rfl,fun d' hd=>by cases hd;exact e⟩
  ·exact e.elim
theorem i0n (d:Nat) (c:COp) (l:List CRow):G2 P (⟨some d,none,c⟩::l) σ h=(wpA (evS P c σ h) (σ d)∧G2 P l σ h):=by
 simp only [G2,m0i]
theorem f0Q (d t:Nat) (w:Bool) (c:COp) (l:List CRow):G2 P (⟨some d,some (t,w),c⟩::l) σ h=(b06 (σ t) w (wpA (evS P c σ h) (σ d)) True∧G2 P l σ h):=by
 simp only [G2,m0i]
theorem m0j (v u:AV):wpA (d5 h (.ok v)) u=(I6 12 v u=true):=nr rfl
theorem n0f (v u:AV):wpA (okV v h) u=(I6 12 v u=true):=nr rfl
theorem o0P (x y:Prop):b06 (.bool true) true x y=x:=nr rfl
theorem o0Q (x y:Prop):b06 (.bool false) false x y=x:=nr rfl
theorem o0R (x y:Prop):b06 (.bool true) false x y=y:=nr rfl
theorem o0S (x y:Prop):b06 (.bool false) true x y=y:=nr rfl
theorem o0T (w:Bool) (x y:Prop):b06 d8 w x y=y:=nr rfl
attribute [simp]  o0T i0m i0n f0Q m0j n0f o0P o0Q o0R o0S
@[simp] theorem j0l (id off n cap:Nat) (x:Bool) (es:Nat):I6 12 (.slice id off n cap x es) (.slice id off n cap x es)=true:=by
 have hb:∀ n,Nat.beq n n=true:=Nat.beq_refl
 simp only [I6,hb,Bool.and_self,beq_self_eq_true]
@[simp] theorem k0N:I6 12 .nils .nils=true:=nr rfl
@[simp] theorem q0h (id off:Nat):I6 12 (.ptr id off) (.ptr id off)=true:=by
 have hb:∀ n,Nat.beq n n=true:=Nat.beq_refl
 simp only [I6,hb,Bool.and_true]
@[simp] theorem q0i (s:List UInt8):I6 12 (.str s) (.str s)=true:=by simp [I6]
theorem Ev.eq {t:Tgt} {args:List AV} {X:AV} {h0:AH} (e:Ev P S t args h fun v h'=>v=X∧h'=h0) (K:AV→AH→Prop):Ev P S t args h K=K X h0:=by
 apply propext
 obtain ⟨N,v,h',e,rfl,rfl⟩:=e
 constructor
 ·rintro ⟨M,u,g,f,k⟩
  have h1:=I9 (Nat.le_max_left N M) _ _ _ _ e
  have h2:=I9 (Nat.le_max_right N M) _ _ _ _ f
  rw [h1] at h2
  cases h2
  exact k
 ·intro k
  exact ⟨N,v,h',e,k⟩
theorem E8 {b0 b1 tc ti tn n:Nat} {T:TypeId} {lit:Bool} {lim:CO} {body:CC} (hd:Nat.beq tc ti=false) (J:Nat→Sg→List ADef→AH→Prop) (hn:(n:Int)≤9223372036854775807)
  (h0:σ ti=.int .i64 0) (hJ:J 0 σ ds h)
  (hl:∀ j σ ds h,J j σ ds h→lim.evS σ=.int .i64 (n:Int))
  (hb:∀ j σ ds h,j<n→σ ti=.int .i64 (j:Int)→J j σ ds h →
   wpC P S body (e0C b1 fun x σ' ds' h'=>match x with
    | .normal=>σ' ti=.int .i64 (j:Int)∧J (j+1) (upd (upd σ' (some tn) (.int .i64 ((j:Int)+1))) (some ti) (.int .i64 ((j:Int)+1))) ds' h'
    | x=>Q x σ' ds' h') (upd σ (some tc) (.bool true)) ds h)
  (he:∀ σ ds h,J n σ ds h→Q (.exit b0) (upd σ (some tc) (.bool false)) ds h) :
  wpC P S (.loop (.seq (.ops [.row ⟨some tc,none,.bin .lss T lit (.t ti) lim⟩]) (.seq (.cond (.t tc) .skip (.exit b0))
   (.seq (.block b1 body) (.ops [.row ⟨some tn,none,.bin .add T true (.t ti) (.c (.int .i64 1))⟩,.row ⟨some ti,none,.move (.t tn)⟩]))))) Q σ ds h:=by
 refine f0u (fun k σ ds h=>∃ j,k+j=n∧σ ti=.int .i64 (j:Int)∧J j σ ds h) n ⟨0,by omega,by simpa using h0,hJ⟩ ?_
 rintro k σ ds h ⟨j,hk,hti,hJ⟩
 have hlim:=hl _ _ _ _ hJ
 simp only [h0d,j0L,g0v,j0M,CO.evS_t,hti,hlim,n0d,i0l,g0u,d09,l07,h0z,if_true]
 by_cases hj:j<n
 ·have:((j:Int)<(n:Int)):=by omega
  simp only [this,decide_true,l08,l05,d09,h0d,k0H]
  refine c0z (hb j σ ds h hj hti hJ) ?_
  intro x σ' ds' h' hx
  have key:(σ' ti=.int .i64 (j:Int)∧J (j+1) (upd (upd σ' (some tn) (.int .i64 ((j:Int)+1))) (some ti) (.int .i64 ((j:Int)+1))) ds' h') →
    wpC P S (.ops [.row ⟨some tn,none,.bin .add T true (.t ti) (.c (.int .i64 1))⟩,.row ⟨some ti,none,.move (.t tn)⟩]) (b08 (fun k σ ds h=>∃ j,k+j=n∧σ ti=.int .i64 (j:Int)∧J j σ ds h) k Q) σ' ds' h':=by
   rintro ⟨h1,h2⟩
   simp only [j0L,g0v,j0M,m0b,CO.evS_t,CO.evS_c,h1,n0c,i0l,m07,g0u,h0z,if_true,wrap_i64 (show (-9223372036854775808:Int)≤(j:Int)+1 by omega) (show (j:Int)+1<9223372036854775808 by omega),I0]
   exact ⟨k - 1,by omega,j+1,by omega,by simp,h2⟩
  cases x with
  | normal=>exact key hx
  | ret=>exact hx
  | exit i =>
   simp only [k0K] at hx ⊢
   by_cases hi:i=b1
   ·rw [if_pos hi] at hx ⊢;exact key hx
   ·rw [if_neg hi] at hx ⊢;exact hx
 ·have hjn:j=n:=by omega
  subst hjn
  have:¬ ((j:Int)<(j:Int)):=by omega
  simp only [this,decide_false,k0I,l06,k0J,j0j]
  exact he _ _ _ hJ
end
end Go.Dr

namespace Go.Dr
def be:Nat→Nat→List Nat
 | 0,_=>[]
 | k+1,n=>be k (n/256)++[n%256]
@[simp] theorem k0G:∀ k n,(be k n).length=k
 | 0,_=>rfl
 | k+1,n=>by rw [be,List.length_append,k0G];rfl
def by8 (l:List Nat):List AV:=l.map fun (x:Nat)=>.int .u8 (x:Int)
@[simp] theorem o0z (l:List Nat):(by8 l).length=l.length:=by simp [by8]
theorem m06 (l:List Nat) (i:Nat):(by8 l)[i]? = (l[i]?).map fun (x:Nat)=>.int .u8 (x:Int):=by simp [by8]
end Go.Dr

namespace Go.Dr
section
variable {P:Program} {S:b0e} {Q:C1} {σ:Sg} {ds:List ADef} {h:AH}
attribute [simp]  IntKind.bits
@[simp] theorem AV.cells_agg (l:List AV):(AV.agg l).cells=l:=nr rfl
@[simp] theorem AV.cells_int (k:IntKind) (n:Int):(AV.int k n).cells=[.int k n]:=nr rfl
@[simp] theorem AV.cells_nils:AV.nils.cells=[.nils]:=nr rfl
@[simp] theorem AV.cells_slice (id off n cap:Nat) (x:Bool) (es:Nat):(AV.slice id off n cap x es).cells=[.slice id off n cap x es]:=nr rfl
@[simp] theorem AV.cells_bool (b:Bool):(AV.bool b).cells=[.bool b]:=nr rfl
@[simp] theorem AV.cells_str (s:List UInt8):(AV.str s).cells=[.str s]:=nr rfl
@[simp] theorem AV.scalar_int (k:IntKind) (n:Int):(AV.int k n).scalar=true:=nr rfl
@[simp] theorem AV.scalar_nils:AV.nils.scalar=true:=nr rfl
@[simp] theorem AV.scalar_slice (id off n cap:Nat) (x:Bool) (es:Nat):(AV.slice id off n cap x es).scalar=true:=nr rfl
@[simp] theorem AV.scalar_bool (b:Bool):(AV.bool b).scalar=true:=nr rfl
@[simp] theorem AV.scalar_str (s:List UInt8):(AV.str s).scalar=true:=nr rfl
@[simp] theorem AV.scalar_ptr (id off:Nat):(AV.ptr id off).scalar=true:=nr rfl
@[simp] theorem m0s:b9 []=true:=nr rfl
@[simp] theorem l0t (v:AV) (l:List AV):b9 (v::l)=(v.scalar&&b9 l):=nr rfl
@[simp] theorem p0I {α:Type} (why:String) (a:α):ofO why (some a)=.ok a:=nr rfl
theorem d6 {id off:Nat} {vs:List AV} {ro:Bool} (hg:h.get id=some (.cells vs ro)):load1 h id off=ofO "load: out of the known cells" vs[off]?:=by
 unfold load1
 rw [hg]
 simp only []
 cases vs[off]? <;> rfl
@[simp] theorem o0c (off:Nat) (vs:List AV) (ro:Bool):load1 (h.push (.cells vs ro)) h.next off=ofO "load: out of the known cells" vs[off]?:=d6 (a7 _)
theorem G6 {id n:Nat} {vs:List AV} {ro:Bool} (hg:h.get id=some (.cells vs ro)) (hl:vs.length=n):loadN h id 0 n=.ok vs:=by
 unfold loadN
 rw [hg]
 have:Nat.ble (0+n) vs.length=true:=Nat.ble_eq_true_of_le (by omega)
 simp only [this,cond_true,List.drop_zero]
 rw [List.take_of_length_le (by omega)]
@[simp] theorem n0z (n id off:Nat):B4 n (.ptr id off) h=match loadN h id off n with | .ok l=>okV (.agg l) h | .error e=>.error e:=nr rfl
theorem PT.one_set {α:Type} (v w:Option α):∀ (f n:Nat),n<f→(PT.one v f n).set w n=PT.one w f n:=by
 intro f
 induction f with
 | zero=>intro n h;omega
 | succ f ih =>
  intro n h
  rw [PT.one_succ,PT.one_succ]
  by_cases h0:n=0
  ·rw [if_pos h0,if_pos h0,PT.set_node,if_pos h0]
  ·rw [if_neg h0,if_neg h0]
   by_cases h1:n%2=1
   ·rw [if_pos h1,if_pos h1,PT.set_node,if_neg h0,if_pos h1,ih _ (by omega)]
   ·rw [if_neg h1,if_neg h1,PT.set_node,if_neg h0,if_neg h1,ih _ (by omega)]
theorem PT.set_set {α:Type} (v w:Option α):∀ (t:PT α) (n:Nat),(t.set v n).set w n=t.set w n:=by
 intro t
 induction t with
 | leaf=>intro n;exact PT.one_set v w (n+1) n (by omega)
 | node l u r ihl ihr =>
  intro n
  rw [PT.set_node,PT.set_node]
  by_cases h0:n=0
  ·rw [if_pos h0,if_pos h0,PT.set_node,if_pos h0]
  ·rw [if_neg h0,if_neg h0]
   by_cases h1:n%2=1
   ·rw [if_pos h1,if_pos h1,PT.set_node,if_neg h0,if_pos h1,ihl]
   ·rw [if_neg h1,if_neg h1,PT.set_node,if_neg h0,if_neg h1,ihr]
@[simp] theorem AH.set_push (o o':AObj):(h.push o).set h.next o'=h.push o':=by
 simp only [AH.push,AH.set,PT.set_set]
@[simp] theorem AH.set_set (i:Nat) (o o':AObj):(h.set i o).set i o'=h.set i o':=by
 simp only [AH.set,PT.set_set]
theorem e0U {id off:Nat} {vs:List AV} {v:AV} (hg:h.get id=some (.cells vs false)) (hl:off<vs.length) (hs:v.scalar=true) :
  B5 h id off [v]=.ok (h.set id (.cells (v6 vs off [v]) false)):=by
 have:Nat.ble (off+1) vs.length=true:=Nat.ble_eq_true_of_le hl
 simp [B5,hg,this,hs]
theorem i0R {id:Nat} {vs:List AV} {v:AV} {l:List AV} (hg:h.get id=some (.cells vs false)) (hl:vs.length=(v::l).length) (hs:b9 (v::l)=true) :
  B5 h id 0 (v::l)=.ok (h.set id (.cells (v::l) false)):=by
 have h1:Nat.ble (0+(v::l).length) vs.length=true:=Nat.ble_eq_true_of_le (by omega)
 have h2:v6 vs 0 (v::l)=v::l:=by
  simp only [v6,List.take_zero,List.nil_append,Nat.zero_add,← hl,List.drop_length,List.append_nil]
 simp only [B5,hg,h1,hs,Bool.and_self,cond_true,h2]
@[simp] theorem n0A (id off:Nat) (v:AV) (hv:v.cells=[v]):N5 1 (.ptr id off) v h=Q9 (B5 h id off [v]):=by
 simp only [N5,hv,List.length_singleton,Nat.beq_refl,cond_true]
theorem Y6 (n id off:Nat) (l:List AV) (hl:l.length=n):N5 n (.ptr id off) (.agg l) h=Q9 (B5 h id off l):=by
 subst hl
 simp only [N5,AV.cells_agg,Nat.beq_refl,cond_true]
theorem h0L (v:AV):∀ n,a0p [v] n=List.replicate n v
 | 0=>rfl
 | n+1=>by rw [a0p,h0L v n];rfl
@[simp] theorem q0U (a:AV) (l:List AV):e0F (a::l) 0=a:=nr rfl
@[simp] theorem q0V (a b:AV) (l:List AV):e0F (a::b::l) 1=b:=nr rfl
@[simp] theorem q0W (a b c:AV) (l:List AV):e0F (a::b::c::l) 2=c:=nr rfl
@[simp] theorem q0X (a b c d:AV) (l:List AV):e0F (a::b::c::d::l) 3=d:=nr rfl
@[simp] theorem q0Y (a b c d e:AV) (l:List AV):e0F (a::b::c::d::e::l) 4=e:=nr rfl
theorem k0f (c:List AV):b0i σ c []=.ok c:=nr rfl
theorem i0S (c:List AV) (off size:Nat) (x:CO) (rest:List (Nat×Nat×CO)):b0i σ c ((off,size,x)::rest) =
  if (x.evS σ).cells.length=size∧off+(x.evS σ).cells.length≤c.length then b0i σ (v6 c off (x.evS σ).cells) rest else .error "fill":=by
 rw [b0i]
 by_cases h:(x.evS σ).cells.length=size∧off+(x.evS σ).cells.length≤c.length
 ·rw [if_pos h]
  have h1:Nat.beq (x.evS σ).cells.length size=true:=PT.beqT h.1
  have h2:Nat.ble (off+(x.evS σ).cells.length) c.length=true:=Nat.ble_eq_true_of_le h.2
  simp only [h1,h2,Bool.and_self,cond_true]
 ·rw [if_neg h]
  have:(Nat.beq (x.evS σ).cells.length size&&Nat.ble (off+(x.evS σ).cells.length) c.length)=false:=by
   rw [Bool.eq_false_iff]
   intro e
   rw [Bool.and_eq_true] at e
   exact h ⟨Nat.eq_of_beq_eq_true e.1,Nat.le_of_ble_eq_true e.2⟩
  simp only [this,cond_false]
theorem k0g (z:List AV) (pl:List (Nat×Nat×CO)):c0L z pl σ=match b0i σ z pl with | .ok l=>.ok (.agg l) | .error e=>.error e:=nr rfl
theorem e0V (len es:Nat) (z:List AV) (pl:List (Nat×Nat×CO)):I2 len es z pl σ h=match b0i σ z pl with
 | .ok l=>okV (.slice h.next 0 len len true es) (h.push (.cells l false))
 | .error e=>.error e:=nr rfl
theorem L5 (vs:List AV) (off:Nat) (l:List AV):v6 vs off l=vs.take off++(l++vs.drop (off+l.length)):=nr rfl
attribute [simp]  k0f i0S k0g e0V
@[simp] theorem o0d (K:AH→Prop):d0n P S [] h K=K h:=nr rfl
theorem Sl.oneCell {es n:Nat} {v:AV} {l:List AV} (s:Sl h es n v l):v.cells=[v]∧v.scalar=true:=by
 rcases s.2 with ⟨rfl,_⟩ | ⟨id,off,cap,x,vs,ro,rfl,_⟩ <;> exact ⟨rfl,rfl⟩
theorem Own.ne {B es n j:Nat} {v:AV} {l:List AV} (s:Own B h es n v l) (hj:j<B):s7 v≠some j:=by
 rcases s.2 with ⟨rfl,_⟩ | ⟨id,off,x,vs,rfl,e2,_⟩
 ·intro e;cases e
 ·intro e;cases e;omega
theorem Sl.same {es n:Nat} {v:AV} {l:List AV} (s:Sl h es n v l):I6 12 v v=true:=by
 rcases s.2 with ⟨rfl,_⟩ | ⟨id,off,cap,x,vs,ro,rfl,_⟩
 ·exact k0N
 ·exact j0l _ _ _ _ _ _
theorem e0W (vs:List AV) (k:Nat) (x:AV) (hk:k<vs.length):v6 vs k [x]=vs.set k x:=by
 rw [v6,List.length_singleton,List.set_eq_take_append_cons_drop,if_pos hk]
 rfl
end
end Go.Dr

namespace Go.Dr
abbrev RL (α:Type):=R (List α)
def L4 {α β:Type} (f:α→RL β):List α→RL β
 | []=>.ok []
 | x::l=>match f x with
  | .ok r=>match L4 f l with
   | .ok s=>.ok (r++s)
   | .error e=>.error e
  | .error e=>.error e
abbrev A3:=Tgt→List AV→AH→RL (AV×AH)
def c0N (h:AH) (it:AV):RL (AV×AH) :=
 match it with
 | .ptr id 0=>match h.get id with
  | some (.miter m since seen last)=>match m with
   | none=>.ok [(.tuple [.bool false],h)]
   | some m=>match h.get m with
    | some (.map es clock) =>
     if !seen.isEmpty&&!es.isEmpty&&es.all (fun e=>Nat.ble last e.born) then .error "next: all gone" else
     match es.filter (fun e=>!seen.contains e.born) with
     | []=>.ok [(.tuple [.bool false],h)]
     | l=>if l.all (fun e=>Nat.blt e.born since) then .ok (l.map fun e=>(.tuple [.bool true,e.key,e.val],h.set id (.miter (some m) since (seen++[e.born]) clock))) else .error "next: a new entry"
    | _=>.error "next"
  | _=>.error "next"
 | _=>.error "next"
def e0L (call:A3):u6:=fun t args h=>match call t args h with
 | .ok [x]=>.ok x
 | .ok _=>.error "several ends"
 | .error e=>.error e
def b07 (a:AAct) (d:Option Tmp) (x:AV×AH):AAct×AH:=(d0F x.1 fun v=>a.put d v,x.2)
section
variable (P:Program)
def e0m (o:Oper) (it:CO) (a:AAct) (h:AH):RL (AAct×AH) :=
 match c0N h (it.ev a) with
 | .ok l=>.ok (l.map (b07 a o.dst))
 | .error e=>.error e
def i0K (call:A3) (o:Oper) (a:AAct) (r:RN):RL (AAct×AH) :=
 match r with
 | .ok (r,h)=>match r with
  | .value v=>.ok [b07 a o.dst (v,h)]
  | .skip=>.ok [(a.put o.dst d8,h)]
  | .defer d=>bif a.rd then .error "defer in a round" else .ok [((⟨a.n,a.ts,d::a.ds,a.rd⟩:AAct).put o.dst d8,h)]
  | .enter f args=>match call (.fn f) args h with
   | .ok l=>.ok (l.map (b07 a o.dst))
   | .error e=>.error e
  | .yield f args=>match call (.yield f) args h with
   | .ok l=>.ok (l.map (b07 a o.dst))
   | .error e=>.error e
 | .error e=>.error (o.pos++": "++e)
def e0M:Op→Option Operand
 | .next x false=>some x
 | _=>none
def P4 (call:A3) (o:Oper) (a:AAct) (h:AH):RL (AAct×AH) :=
 match e0M o.op with
 | some x=>match cO P x with
  | .ok c=>e0m o c a h
  | .error e=>.error (o.pos++": read: "++e)
 | none=>match comp P o with
  | .ok c=>i0K call o a (evC P c a h)
  | .error e=>.error (o.pos++": read: "++e)
def J6 (call:A3) (ops:Array Oper):List Oper→AAct→AH→RL (AAct×AH)
 | [],a,h=>.ok [(a,h)]
 | o::l,a,h =>
  match j4 ops o a with
  | .ok true=>match P4 P call o a h with
   | .ok r=>L4 (fun x=>J6 call ops l x.1 x.2) r
   | .error e=>.error e
  | .ok false=>J6 call ops l (a.put o.dst d8) h
  | .error e=>.error e
abbrev XD:=RL (AX×AAct×AH)
def J0 (body:AAct→AH→XD):Nat→AAct→AH→XD
 | 0,_,_=>.error "fuel"
 | n+1,a,h=>match body a h with
  | .ok r=>L4 (fun x=>match x.1 with | .normal=>J0 body n x.2.1 x.2.2 | _=>.ok [x]) r
  | .error e=>.error e
def b09 (did:Nat) (a:AAct) (h:AH):R (AX×AAct×AH) :=
 match h.get (did+1) with
 | some (.loop r)=>match r.state with
  | .busy=>.error "rangeFunc: busy"
  | _=>match r.pending with
   | none=>.ok (.normal,⟨a.n,a.ts,.collected did::a.ds,a.rd⟩,h.set (did+1) (.loop { r with state:=.exhausted }))
   | some .ret=>.ok (.ret,⟨a.n,a.ts,.collected did::a.ds,a.rd⟩,h.set (did+1) (.loop { r with state:=.exhausted }))
   | some (.exit id)=>.ok (.exit id,⟨a.n,a.ts,.collected did::a.ds,a.rd⟩,h.set (did+1) (.loop { r with state:=.exhausted }))
   | some _=>.error "rangeFunc: jump"
 | _=>.error "rangeFunc"
def f0F {α:Type}:R α→RL α
 | .ok x=>.ok [x]
 | .error e=>.error e
def c0O (call:A3) (f:AV) (params:Array Tmp) (assign body:Code) (a:AAct) (h:AH):XD :=
 match f with
 | .func (.func g) first captured=>bif a.rd then .error "rangeFunc in a round" else
  K6 h.next fun did =>
  match call (.fn g) (first++(.func (.yield (did+1)) [] []::captured))
    ((h.push (.deferred (some []))).push (.loop { state:=.ready,pending:=none,n:=a.n,tmps:=a.ts,params,assign,body })) with
  | .ok l=>L4 (fun x=>f0F (b09 did a x.2)) l
  | .error e=>.error e
 | _=>.error "rangeFunc: of what"
def d4 (call:A3) (lf:Nat):Code→AAct→AH→XD
 | .region _ ops draw,a,h=>match draw with
  | true=>match W7 P (e0L call) ops a h with
   | .ok (a,h)=>.ok [(.normal,a,h)]
   | .error e=>.error e
  | false=>match J6 P call ops ops.toList a h with
   | .ok l=>.ok (l.map fun x=>(.normal,x.1,x.2))
   | .error e=>.error e
 | .seq x y,a,h=>match d4 call lf x a h with
  | .ok l=>L4 (fun x=>match x.1 with | .normal=>d4 call lf y x.2.1 x.2.2 | _=>.ok [x]) l
  | .error e=>.error e
 | .cond c x y,a,h=>match cO P c with
  | .ok c=>match c.ev a with
   | .bool true=>d4 call lf x a h
   | .bool false=>d4 call lf y a h
   | _=>.error "cond"
  | .error e=>.error e
 | .block id c,a,h=>match d4 call lf c a h with
  | .ok l=>.ok (l.map fun x=>match x.1 with | .exit i=>bif Nat.beq i id then (.normal,x.2.1,x.2.2) else x | _=>x)
  | .error e=>.error e
 | .loop c,a,h=>J0 (d4 call lf c) lf a h
 | .scope c,a,h=>match d4 call lf c a h with
  | .ok l=>.ok l
  | .error e=>.error e
 | .rangeFunc f params assign body,a,h=>match cO P f with
  | .ok f=>c0O call (f.ev a) params assign body a h
  | .error e=>.error e
 | c,a,h=>f0F (d9 P (e0L call) lf c a h)
def p7 (call:A3):List ADef→AH→RL AH
 | [],h=>.ok [h]
 | d::l,h=>match d with
  | .collected id=>match h.get id with
   | some (.deferred (some []))=>p7 call l (h.set id (.deferred none))
   | _=>.error "collected"
  | .call fn captured args=>match N4 fn captured args h with
   | .ok (.enter f args,h)=>match call (.fn f) args h with
    | .ok r=>L4 (fun x=>p7 call l x.2) r
    | .error e=>.error e
   | .ok _=>.error "defer"
   | .error e=>.error e
def a0G (call:A3) (fn:Func) (x:AX×AAct×AH):RL (AV×AH) :=
 match x.1 with
 | .normal | .ret=>match p7 call x.2.1.ds x.2.2 with
  | .ok l=>L4 (fun h=>match z7 P h x.2.1 fn.results.toList with
   | .ok l=>.ok [(O4 l,h)]
   | .error e=>.error (fn.name++": "++e)) l
  | .error e=>.error (fn.name++": "++e)
 | _=>.error "left by a jump"
def P5 (call:A3) (fn:Func) (r:XD):RL (AV×AH) :=
 match r with
 | .ok l=>L4 (a0G P call fn) l
 | .error e=>.error (fn.name++"/"++e)
def a0H (call:A3) (lf:Nat) (l:Nat) (r:ALoop) (x:AX×AAct×AH):RL (AV×AH) :=
 match x.1 with
 | .normal=>match x.2.2.get l with
  | some (.loop q)=>match q.state with
   | .ready=>match d4 P call lf r.body x.2.1 (x.2.2.set l (.loop { q with state:=.busy })) with
    | .ok s=>L4 (fun y=>f0F (a0u l (.ok y))) s
    | .error e=>.error e
   | _=>.error "yield: state"
  | _=>.error "yield: loop"
 | _=>.error "yield: assign"
def Y0 (call:A3) (lf:Nat) (l:Nat) (r:ALoop) (args:List AV) (h:AH):RL (AV×AH) :=
 bif Nat.beq args.length r.params.size then
  match d4 P call lf r.assign (F6 r.params.toList args ⟨r.n,r.tmps,[],true⟩) h with
  | .ok s=>L4 (a0H P call lf l r) s
  | .error e=>.error e
 else .error "yield: arguments"
end
def m0I (x y:AEntry):Bool:=Bool.and (I6 12 x.key y.key) (Bool.and (I6 12 x.val y.val) (Nat.beq x.born y.born))
def m0J {α:Type} (f:α→α→Bool):List α→List α→Bool
 | [],[]=>true
 | x::l,y::m=>Bool.and (f x y) (m0J f l m)
 | _,_=>false
def n08:Option (List ADef)→Option (List ADef)→Bool
 | none,none=>true
 | some [],some []=>true
 | _,_=>false
def q0R:Option Nat→Option Nat→Bool
 | none,none=>true
 | some x,some y=>Nat.beq x y
 | _,_=>false
def p0F:AObj→AObj→Bool
 | .cells l r,.cells m s=>Bool.and (r == s) (m0J (I6 12) l m)
 | .map l c,.map m d=>Bool.and (Nat.beq c d) (m0J m0I l m)
 | .deferred a,.deferred b=>n08 a b
 | .siter s p,.siter t q=>Bool.and (Nat.beq p q) (decide (s=t))
 | .miter m a b c,.miter n x y z=>Bool.and (q0R m n) (Bool.and (Nat.beq a x) (Bool.and (m0J Nat.beq b y) (Nat.beq c z)))
 | _,_=>false
def l0l:Option AObj→Option AObj→Bool
 | none,none=>true
 | some x,some y=>p0F x y
 | _,_=>false
def j0A (h k:AH):Nat→Bool
 | 0=>true
 | n+1=>Bool.and (l0l (h.get n) (k.get n)) (j0A h k n)
def g0J (k:AH):Nat→Nat→AH→AH
 | 0,_,h=>h
 | n+1,i,h=>bif l0l (h.get i) (k.get i) then g0J k n (i+1) h else g0J k n (i+1) (h.kill i)
def p0G (base:Nat) (x y:AV×AH):Option (AV×AH) :=
 bif Bool.and (I6 12 x.1 y.1) (Bool.and (Nat.beq x.2.next y.2.next) (j0A x.2 y.2 base)) then some (x.1,g0J y.2 (x.2.next - base) base x.2) else none
def j0B (base:Nat) (x:AV×AH):List (AV×AH)→Option (AV×AH)
 | []=>some x
 | y::l=>match p0G base x y with
  | some z=>j0B base z l
  | none=>none
def q0S (base:Nat) (r:RL (AV×AH)):RL (AV×AH) :=
 match r with
 | .ok (x::y::l)=>match j0B base x (y::l) with
  | some z=>.ok [z]
  | none=>.ok (x::y::l)
 | r=>r
def J7 (S:FuncId→Option (List AV→AH→R (AV×AH))) (call:A3):A3:=fun t args h =>
 match t with
 | .fn f=>match S f with
  | some _=>.error "a deferred call of a summary"
  | none=>call (.fn f) args h
 | .yield l=>call (.yield l) args h
end Go.Dr
