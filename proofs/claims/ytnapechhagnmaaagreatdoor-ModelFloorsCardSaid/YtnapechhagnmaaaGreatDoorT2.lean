/-
  Texts joined.
-/
import Derived.Test.YtnapechhagnmaaaGreatDoorT1
import Derived.RangeFuncIn
import Derived.Orders
import Derived.ProofKit

namespace Go.Dr
open Go.RowKit
variable {P:Program} {B:Nat} {w0 w:World} {φ:Phi} {h h':AH}
theorem g0W {o:Oper} {c:COp} {a:AAct} {tm:Array Value} {ds:List Deferred} {n:AN} (hc:comp P o=.ok c) (hr:evC P c a h=.ok (n,h')) (hG:GlobRel P φ) (hA:ActRel φ a tm) (hR:Rel B w0 φ h w) :
  OpSound P B w0 φ h (execOp (Act.eval ⟨tm,ds⟩) o) w n h':=by
 have con:=fun {x:Operand} {c:CO} (hx:cO P x=.ok c)=>G1 (ds:=ds) hx hG hA
 have conO:=fun {x:Option Operand} {c:Option CO} (hx:cOO P x=.ok c)=>r0J (ds:=ds) hG hA hx
 unfold comp at hc
 split at hc
 ·rename_i x ho
  obtain ⟨ca,ha,hc⟩:=q9 hc
  cases hc;cases hr
  exact ⟨_,w,φ,by simp only [execOp,ho];rfl,con ha,hR,.refl _ _⟩
 ·rename_i x ho
  obtain ⟨ca,ha,hc⟩:=q9 hc
  cases hc;cases hr
  exact ⟨_,w,φ,by simp only [execOp,ho];rfl,con ha,hR,.refl _ _⟩
 ·rename_i q x y ho
  obtain ⟨cq,cx,cy,hq,hx,hy,hc⟩:=g0C hc
  cases hc
  simp only [evC] at hr
  obtain ⟨v,h1,rfl,rfl⟩:=e0p hr
  have hqc:=con hq
  unfold h0b at h1
  split at h1
  ·rename_i hb;cases h1
   rw [hb] at hqc
   generalize hv:Act.eval ⟨tm,ds⟩ q=qv at hqc
   cases hqc
   exact ⟨_,w,φ,by simp only [execOp,ho,hv];rfl,con hx,hR,.refl _ _⟩
  ·rename_i hb;cases h1
   rw [hb] at hqc
   generalize hv:Act.eval ⟨tm,ds⟩ q=qv at hqc
   cases hqc
   exact ⟨_,w,φ,by simp only [execOp,ho,hv];rfl,con hy,hR,.refl _ _⟩
  ·cases h1
 ·rename_i e ho
  split at hc
  ·rename_i z hz;cases hc;cases hr
   obtain ⟨z',hz1,hz2⟩:=V2 (P:=P) (w:=w) hz
   refine .val (s:=Instr.alloc e true (.tuple #[])) (n0y (e:=e) (v':=z') hR (hz2 φ).cells ?_) (by simp only [execOp,ho])
   simp only [Instr.alloc,Sem.run_bind,hz1,Result.andThen_ok,newVar,newRow,run_newObj,Sem.run_pure]
   rfl
  ·cases hc
 ·rename_i e x ho
  obtain ⟨ca,ha,hc⟩:=q9 hc
  cases hc;cases hr
  refine .val (s:=Instr.box e (Act.eval ⟨tm,ds⟩ x)) (n0y (e:=e) (v':=Act.eval ⟨tm,ds⟩ x) hR (con ha).cells ?_) (by simp only [execOp,ho])
  simp only [Instr.box,Sem.run_bind,Result.andThen_ok,newVar,newRow,run_newObj,Sem.run_pure]
  rfl
 ·rename_i t parts ho
  have hex:execOp (Act.eval ⟨tm,ds⟩) o=(do pure (.value (← Instr.build t (parts.map fun (i,x)=>(i,Act.eval ⟨tm,ds⟩ x))))):=by simp only [execOp,ho]
  split at hc
  ·rename_i fields z ht hz
   split at hc
   ·rename_i pl hpl
    split at hc
    ·rename_i l hl;cases hc
     exact o9 hR hr (fun v hv=>q0O hG hA ht hz hpl hl hv) hex
    ·cases hc
   ·cases hc
  ·rename_i k e z ht hz
   split at hc
   ·rename_i size hs
    split at hc
    ·rename_i l hl;cases hc
     exact o9 hR hr (fun v hv=>p0s hG hA ht hz hs hl hv) hex
    ·cases hc
   ·cases hc
  ·cases hc
 ·rename_i t len parts ho
  split at hc
  ·rename_i e ht
   split at hc
   ·rename_i es z hs hz
    split at hc
    ·cases hc
    ·rename_i hne
     split at hc
     ·rename_i l hl;cases hc
      exact B3 (j0E (ds:=ds) hG hA hR ht hz hs (fun e=>hne (.inl e)) (fun e=>hne (.inr (.inl e))) (Decidable.byContradiction fun e=>hne (.inr (.inr e))) hl hr) (by simp only [execOp,ho])
     ·cases hc
   ·cases hc
  ·cases hc
 ·rename_i t x ho
  obtain ⟨ca,ha,hc⟩:=q9 hc
  split at hc
  ·rename_i hagg
   split at hc
   ·rename_i k hk;cases hc
    exact B3 (o0g hagg hk hR (con ha) hr) (by simp only [execOp,ho])
   ·cases hc
  ·rename_i hagg;cases hc
   exact B3 (o0f hagg hR (con ha) hr) (by simp only [execOp,ho])
  ·cases hc
 ·rename_i t x y ho
  obtain ⟨ca,cb,ha,hb,hc⟩:=O8 hc
  split at hc
  ·rename_i k hk;cases hc
   have:=o0h (B:=B) (w0:=w0) hk hR (con ha) (con hb) hr
   simpa only [execOp,ho] using this
  ·cases hc
 ·rename_i x ho
  obtain ⟨ca,ha,hc⟩:=q9 hc
  cases hc
  exact j0T ho hR (con ha) hr
 ·rename_i op t x y yt ho
  obtain ⟨ca,cb,ha,hb,hc⟩:=O8 hc
  cases hc
  exact o9 hR hr (fun v hv=>r0h hv (con ha) (con hb)) (by simp only [execOp,ho])
 ·rename_i op t x ho
  obtain ⟨ca,ha,hc⟩:=q9 hc
  cases hc
  exact o9 hR hr (fun v hv=>s0I hv (con ha)) (by simp only [execOp,ho])
 ·rename_i s d x ho
  obtain ⟨ca,ha,hc⟩:=q9 hc
  have hex:execOp (Act.eval ⟨tm,ds⟩) o=(do pure (.value (← convert s d (Act.eval ⟨tm,ds⟩ x)))):=by simp only [execOp,ho]
  split at hc
  ·rename_i sd k hs hd;cases hc
   exact B3 (m0d hs hd hr (con ha) hR) hex
  ·rename_i sd hs hd
   split at hc
   ·rename_i e hse
    split at hc
    ·rename_i he;cases hc
     exact B3 (k0V hse he hd hr (con ha) hR) hex
    ·cases hc
   ·rename_i hss;cases hc
    exact B3 (h0y hss hd (.inl rfl) hr (con ha) hR) hex
   ·rename_i k hss;cases hc
    exact B3 (h0y hss hd (.inr ⟨k,rfl⟩) hr (con ha) hR) hex
   ·cases hc
  ·rename_i e hs hd
   split at hc
   ·rename_i he;cases hc
    exact B3 (j0F hs hd he hr (con ha) hR) hex
   ·rename_i he;cases hc
    exact B3 (j0G hs hd he hr (con ha) hR) hex
   ·cases hc
  ·cases hc
 ·rename_i t x ho
  obtain ⟨ca,ha,hc⟩:=q9 hc
  split at hc
  ·cases hc
  ·rename_i td hne ht;cases hc;cases hr
   refine .pure hR (s:=Instr.makeInterface t (Act.eval ⟨tm,ds⟩ x)) ⟨_,?_,.iface (con ha)⟩ (by simp only [execOp,ho])
   simp only [Instr.makeInterface,Sem.run_bind,h9 ht,Result.andThen_ok]
   cases td <;> first | (exact absurd rfl (hne _)) | rfl
  ·cases hc
 ·rename_i fn first captured ho
  split at hc
  ·rename_i f
   split at hc
   ·rename_i l1 l2 h1 h2;cases hc;cases hr
    refine .pure hR (s:=Instr.makeFunc (.func f) (first.map (Act.eval ⟨tm,ds⟩)) (captured.map (Act.eval ⟨tm,ds⟩))) ⟨.func (.func f) ⟨first.toList.map (Act.eval ⟨tm,ds⟩)⟩ ⟨captured.toList.map (Act.eval ⟨tm,ds⟩)⟩,?_,.func (c0p hG hA h1) (c0p hG hA h2)⟩ (by simp only [execOp,ho])
    rcases first with ⟨first⟩;rcases captured with ⟨captured⟩
    simp [Instr.makeFunc]
   ·cases hc
  ·cases hc
 ·rename_i t r ho
  split at hc
  ·rename_i kt et r' ht hr';cases hc
   have hrr:=conO hr'
   simp only [evC] at hr
   generalize d06 a r'=ro at hr hrr
   have key:∀ n,e03 ro h=.ok (n,h')→n=.value (.map h.next)∧h'=h.push (.map [] 0)∧(Instr.makeMap t (r.map (Act.eval ⟨tm,ds⟩))).run P w=.ok (.map (some w.heap.size)) (w.alloc (.map #[] 0)):=by
    intro n hn
    generalize r.map (Act.eval ⟨tm,ds⟩)=rv at hrr
    unfold e03 at hn
    cases hrr with
    | none =>
     cases hn
     exact ⟨rfl,rfl,by simp [Instr.makeMap]⟩
    | some hcv =>
     split at hn
     ·rename_i e;cases e
     ·rename_i e;cases hn;cases e
      cases hcv
      refine ⟨rfl,rfl,?_⟩
      simp [Instr.makeMap,h9 ht,asInt,asIntOf]
     ·cases hn
   obtain ⟨rfl,rfl,hrun⟩:=key _ hr
   refine .val (s:=Instr.makeMap t (r.map (Act.eval ⟨tm,ds⟩))) ⟨_,_,_,hrun,?_,hR.push (room:=0) (o:=.map [] 0) (O:=.map #[] 0) ⟨[],Y2 _ _,.nil⟩,Ext.push hR _ _⟩ (by simp only [execOp,ho])
   exact .map (p:=⟨w.heap.size,0,0⟩) (Phi.set_same _ _ _)
  ·cases hc
 ·rename_i t l k ho
  obtain ⟨ca,cb,ha,hb,hc⟩:=O8 hc
  split at hc
  ·rename_i e ht
   split at hc
   ·rename_i es bytes z hs hby hz
    split at hc
    ·cases hc
    ·rename_i hne;cases hc
     exact B3 (q0N ht hs hby hz (fun e=>hne (.inl e)) (Decidable.byContradiction fun e=>hne (.inr e)) hr (con ha) (con hb) hR) (by simp only [execOp,ho])
   ·cases hc
  ·cases hc
 ·rename_i t x lo hi mx ho
  obtain ⟨ca,ha,hc⟩:=q9 hc
  have hex:execOp (Act.eval ⟨tm,ds⟩) o=(do pure (.value (← Instr.sliceAt t (Act.eval ⟨tm,ds⟩ x) (lo.map (Act.eval ⟨tm,ds⟩)) (hi.map (Act.eval ⟨tm,ds⟩)) (mx.map (Act.eval ⟨tm,ds⟩))))):=by simp only [execOp,ho]
  split at hc
  ·rename_i lo' hi' mx' hlo hhi hmx
   split at hc
   ·rename_i ht
    split at hc
    ·cases hc
     have hm:=conO hmx
     simp only [d06] at hm
     generalize hmv:mx.map (Act.eval ⟨tm,ds⟩)=mv at hm
     cases hm
     rw [hmv] at hex
     exact o9 hR hr (fun v hv=>l04 ht hv (con ha) (conO hlo) (conO hhi)) hex
    ·cases hc
   ·rename_i e ht
    split at hc
    ·rename_i es hs;cases hc
     exact o9 hR hr (fun v hv=>l05 ht hs hv (con ha) (conO hlo) (conO hhi) (conO hmx)) hex
    ·cases hc
   ·rename_i k e ht
    split at hc
    ·rename_i es hs
     split at hc
     ·cases hc
     ·cases hc
      exact o9 hR hr (fun v hv=>l06 ht hs hv (con ha) hR (conO hlo) (conO hhi) (conO hmx)) hex
    ·cases hc
   ·cases hc
  ·cases hc
 ·rename_i s x f ho
  obtain ⟨ca,ha,hc⟩:=q9 hc
  split at hc
  ·rename_i fields ht
   split at hc
   ·rename_i fd hf
    split at hc
    ·cases hc
    ·rename_i k hk0 hk;cases hc
     exact o9 hR hr (fun v hv=>i0I ht hf hk (fun e=>hk0 (by rw [e])) hv (con ha)) (by simp only [execOp,ho])
    ·cases hc
   ·cases hc
  ·cases hc
 ·rename_i t x f ho
  obtain ⟨ca,ha,hc⟩:=q9 hc
  split at hc
  ·rename_i fields ht
   split at hc
   ·rename_i fd hf
    split at hc
    ·rename_i k hagg hk;cases hc
     exact o9 hR hr (fun v hv=>p0w ht hf hagg hk hv (con ha)) (by simp only [execOp,ho])
    ·rename_i hagg;cases hc
     exact o9 hR hr (fun v hv=>p0v ht hf hagg hv (con ha)) (by simp only [execOp,ho])
    ·cases hc
   ·cases hc
  ·cases hc
 ·rename_i t x i ho
  obtain ⟨ca,cb,ha,hb,hc⟩:=O8 hc
  split at hc
  ·rename_i k e ht
   split at hc
   ·rename_i es hs;cases hc
    exact o9 hR hr (fun v hv=>p0t ht hs hv (con ha) (con hb)) (by simp only [execOp,ho])
   ·cases hc
  ·rename_i e ht
   split at hc
   ·rename_i es hs;cases hc
    exact o9 hR hr (fun v hv=>p0u ht hs hv (con ha) (con hb)) (by simp only [execOp,ho])
   ·cases hc
  ·cases hc
 ·rename_i t x i ho
  obtain ⟨ca,cb,ha,hb,hc⟩:=O8 hc
  split at hc
  ·rename_i k e ht
   split at hc
   ·rename_i es hagg hs;cases hc
    exact o9 hR hr (fun v hv=>m0b ht hagg hs hv (con ha) (con hb)) (by simp only [execOp,ho])
   ·rename_i es hagg hs;cases hc
    exact o9 hR hr (fun v hv=>m0a ht hagg hs hv (con ha) (con hb)) (by simp only [execOp,ho])
   ·cases hc
  ·rename_i ht;cases hc
   exact o9 hR hr (fun v hv=>m0c ht hv (con ha) (con hb)) (by simp only [execOp,ho])
  ·cases hc
 ·rename_i t x k ok ho
  obtain ⟨ca,cb,ha,hb,hc⟩:=O8 hc
  split at hc
  ·rename_i kt et ht
   split at hc
   ·rename_i z hz;cases hc
    exact o9 hR hr (fun v hv=>m0u ht hz hR (con ha) (con hb) hv) (by simp only [execOp,ho])
   ·cases hc
  ·cases hc
 ·rename_i t m k v ho
  obtain ⟨cm,ck,cv,hm,hk,hv,hc⟩:=g0C hc
  split at hc
  ·rename_i kt et ht;cases hc
   exact d0s hr (fun h1=>m0w ht hR (con hm) (con hk) (con hv) h1) (by simp only [execOp,ho])
  ·cases hc
 ·rename_i t m k v ho
  obtain ⟨cm,ck,cv,hm,hk,hv,hc⟩:=g0C hc
  split at hc
  ·rename_i kt et ht;cases hc
   exact d0s hr (fun h1=>m0w ht hR (con hm) (con hk) (con hv) h1) (by simp only [execOp,ho])
  ·cases hc
 ·rename_i t m k ho
  obtain ⟨ca,cb,ha,hb,hc⟩:=O8 hc
  split at hc
  ·rename_i kt et ht
   split at hc
   ·rename_i z hz;cases hc
    exact B3 (j0N ht hz hR (con ha) (con hb) hr) (by simp only [execOp,ho])
   ·cases hc
  ·cases hc
 ·rename_i t m s v ho
  obtain ⟨cm,cs,cv,hm,hs,hv,hc⟩:=g0C hc
  cases hc
  exact d0s hr (fun h1=>h0Q (t:=t) hR (con hm) (con hs) (con hv) h1) (by simp only [execOp,ho])
 ·rename_i t x ho
  obtain ⟨ca,ha,hc⟩:=q9 hc
  split at hc
  ·rename_i ht;cases hc
   exact B3 (l0F ht hR (con ha) hr) (by simp only [execOp,ho])
  ·rename_i kt et ht;cases hc
   exact B3 (l0G ht hR (con ha) hr) (by simp only [execOp,ho])
  ·cases hc
 ·rename_i it s ho
  obtain ⟨ca,ha,hc⟩:=q9 hc
  cases hc
  exact B3 (o00 (ty:=o.type) hR (con ha) hr) (by simp only [execOp,ho])
 ·rename_i it ho
  obtain ⟨ca,ha,hc⟩:=q9 hc
  cases hc
  exact o9 hR hr (fun v hv=>n0F hR (con ha) hv) (by simp only [execOp,ho])
 ·rename_i x xt t ok ho
  obtain ⟨ca,ha,hc⟩:=q9 hc
  cases hc
  exact o9 hR hr (fun v hv=>h0U (xt:=xt) (con ha) hv) (by simp only [execOp,ho])
 ·rename_i x i ho
  obtain ⟨ca,ha,hc⟩:=q9 hc
  cases hc
  refine o9 (s:=Instr.extract (Act.eval ⟨tm,ds⟩ x) i) hR hr (fun v hv=>?_) (by simp only [execOp,ho])
  have hx:=con ha
  unfold Y9 at hv
  split at hv
  ·rename_i l hl
   rw [hl] at hx
   generalize hxv:Act.eval ⟨tm,ds⟩ x=xv at hx
   cases hx with
   | tuple hx =>
    rename_i l2
    unfold ofO at hv
    split at hv
    ·rename_i y hy;cases hv
     obtain ⟨z,h1,h2⟩:=hx.get _ _ hy
     refine ⟨z,?_,h2⟩
     have:(⟨l2⟩:Array Value)[i]? = some z:=by simpa using h1
     simp only [Instr.extract,this]
     rfl
    ·cases hv
  ·cases hv
 ·rename_i call ho
  exact m09 ho hc hr hG hA hR
 ·rename_i call ho
  split at hc
  ·rename_i f hcal
   obtain ⟨g,hg,hc⟩:=q9 hc
   split at hc
   ·rename_i l hl;cases hc
    have hf:=con hg
    have ha:=c0p (ds:=ds) hG hA hl
    simp only [evC] at hr
    unfold g0m at hr
    split at hr
    ·rename_i fn first captured hfv
     split at hr
     ·cases hr
      rw [hfv] at hf
      generalize hv:Act.eval ⟨tm,ds⟩ f=fv at hf
      cases hf with
      | func h1 h2 =>
       refine ⟨rfl,_,.call h2 (h1.append ha),?_⟩
       have hargs:call.args.map (Act.eval ⟨tm,ds⟩)=⟨call.args.toList.map (Act.eval ⟨tm,ds⟩)⟩:=by apply Array.ext';simp
       simp only [execOp,ho,resolve,hcal,hv,Deferred.ofValue,Sem.run_bind,Sem.run_pure,Result.andThen_ok,hargs]
       simp
     ·cases hr
    ·cases hr
   ·cases hc
  ·cases hc
 ·cases hc
end Go.Dr

namespace Go.Dr
open Go.RowKit
variable {P:Program} {B:Nat} {w0 w w':World} {φ:Phi} {h h':AH}
def mk (b:Frame) (tm:Array Value) (ds:List Deferred) (todo:List Item):Frame :=
 { fn:=b.fn,tmps:=tm,todo,defers:=ds,mode:=.run,kind:=b.kind,roundOf:=b.roundOf }
theorem o0o (b:Frame) (tm:Array Value) (ds:List Deferred) (todo:List Item):(mk b tm ds todo).eval=Act.eval ⟨tm,ds⟩:=by
 funext x;cases x <;> rfl
def f0R (tm:Array Value) (d:Option Tmp) (v:Value):Array Value :=
 match d with
 | some d=>tm.setIfInBounds d v
 | none=>tm
theorem ActRel.put {a:AAct} {tm:Array Value} {v:AV} {v':Value} (hA:ActRel φ a tm) (d:Option Tmp) (hv:Con φ v v'):ActRel φ (a.put d v) (f0R tm d v'):=by
 cases d with
 | none=>exact hA
 | some d =>
  unfold AAct.put f0R
  simp only
  cases hb:Nat.blt d a.n with
  | false =>
   have hd:¬ d<a.n:=fun e=>by
    have e2:Nat.blt d a.n=true:=Nat.blt_eq.symm ▸ e
    rw [e2] at hb;cases hb
   simp only [cond_false]
   have:tm.setIfInBounds d v'=tm:=by
    apply Array.ext
    ·simp
    ·intro i h1 h2
     rw [Array.getElem_setIfInBounds]
     split
     ·rename_i e;subst e;exact absurd (by rw [← hA.size];exact h2) hd
     ·rfl
   rw [this];exact hA
  | true =>
   simp only [cond_true]
   have hd:d<a.n:=Nat.blt_eq ▸ hb
   refine ⟨by simp only [Array.size_setIfInBounds];exact hA.size,fun i=>?_⟩
   simp only [AAct.val,PT.get_set]
   by_cases hi:i=d
   ·subst hi
    rw [if_pos rfl]
    simp only [Array.getD_eq_getD_getElem?,Array.getElem?_setIfInBounds_self_of_lt (by rw [hA.size];exact hd),Option.getD_some]
    exact hv
   ·rw [if_neg hi]
    have:=hA.val i
    simp only [AAct.val] at this
    simp only [Array.getD_eq_getD_getElem?,Array.getElem?_setIfInBounds_ne (fun e=>hi e.symm)] at this ⊢
    exact this
inductive DefsR (φ:Phi):List ADef→List Deferred→Prop
 | nil:DefsR φ [] []
 | cons {d:ADef} {d':Deferred} {l:List ADef} {l':List Deferred} (h:DefR φ d d') (t:DefsR φ l l'):DefsR φ (d::l) (d'::l')
theorem DefsR.mono {φ ψ:Phi} (hle:φ.le ψ) {l:List ADef} {l':List Deferred} (h:DefsR φ l l'):DefsR ψ l l':=by
 induction h with
 | nil=>exact .nil
 | cons h _ ih=>exact .cons (h.mono hle) ih
structure St (P:Program) (B:Nat) (w0:World) (φ:Phi) (a:AAct) (h:AH) (rd:Bool) (tm:Array Value) (ds:List Deferred) (w:World):Prop where
 act:ActRel φ a tm
 defs:DefsR φ a.ds ds
 rel:Rel B w0 φ h w
 glob:GlobRel P φ
 rd:a.rd=rd
theorem AAct.put_ds (a:AAct) (d:Option Tmp) (v:AV):(a.put d v).ds=a.ds∧(a.put d v).rd=a.rd∧(a.put d v).n=a.n:=by
 unfold AAct.put;split
 ·cases Nat.blt _ _ <;> exact ⟨rfl,rfl,rfl⟩
 ·exact ⟨rfl,rfl,rfl⟩
theorem St.put {a:AAct} {rd:Bool} {tm:Array Value} {ds:List Deferred} (s:St P B w0 φ a h rd tm ds w) {φ':Phi} {v:AV} {v':Value} (hle:φ.le φ') (hv:Con φ' v v') (hR:Rel B w0 φ' h' w') (d:Option Tmp) :
  St P B w0 φ' (a.put d v) h' rd (f0R tm d v') ds w' :=
 ⟨(s.act.mono hle).put d hv,by rw [(a.put_ds d v).1];exact s.defs.mono hle,hR,s.glob.mono hle,by rw [(a.put_ds d v).2.1];exact s.rd⟩
def CallsK (P:Program) (kind:CallKind) (f:FuncId) (args:Array Value) (w:World) (R:Value→World→Prop):Prop :=
 ∀ cs,∃ v w' fr fn,R v w'∧Steps P (lone (Frame.enter P f args kind) cs w) (lone fr cs w') ∧
  fr.fn=f∧fr.mode=.returning∧fr.defers=[]∧fr.kind=kind∧P.funcs[fr.fn]? = some fn∧(results fn fr.tmps).run P w'=.ok v w'
def a0Y (P:Program) (B:Nat) (w0:World) (call:E0):Prop :=
 ∀ f args h v h',call (.fn f) args h=.ok (v,h')→∀ φ w args',ConL φ args args'→GlobRel P φ→Rel B w0 φ h w →
  (∀ w,(callFunc f ⟨args'⟩).run P w=.ok (.enter f ⟨args'⟩) w) ∧
  CallsK P .normal f ⟨args'⟩ w (fun v' w'=>∃ φ',Con φ' v v'∧Rel B w0 φ' h' w'∧Ext φ h φ' h')
def o0p (P:Program) (B:Nat) (w0:World) (call:E0):Prop :=
 ∀ f args h v h',call (.fn f) args h=.ok (v,h')→∀ φ w args',ConL φ args args'→GlobRel P φ→Rel B w0 φ h w →
  (∀ w,(callFunc f ⟨args'⟩).run P w=.ok (.enter f ⟨args'⟩) w) ∧
  CallsK P .deferred f ⟨args'⟩ w (fun v' w'=>∃ φ',Con φ' v v'∧Rel B w0 φ' h' w'∧Ext φ h φ' h')
def Z0 (P:Program) (B:Nat) (w0:World) (call:E0):Prop :=
 ∀ l args h v h',call (.yield l) args h=.ok (v,h')→∀ φ w p args',φ l=some p→ConL φ args args'→GlobRel P φ→Rel B w0 φ h w →
  ∃ fn tmps assign body,(Instr.yield p.blk ⟨args'⟩).run P w=.ok (.round p.blk fn tmps assign body) w ∧
   ∀ c cs,∃ v' φ' w',Steps P (lone (Frame.round p.blk fn tmps assign body .normal) (c::cs) w) (lone (c.finish v') cs w')∧Con φ' v v'∧Rel B w0 φ' h' w'∧Ext φ h φ' h'
section moves
variable {b:Frame} {tm:Array Value} {ds:List Deferred} {k:List Item} {cs:List Frame} {ops:Array Oper}
theorem go_skip:step P (lone (mk b tm ds (.code .skip::k)) cs w)=.next (lone (mk b tm ds k) cs w):=step_lone_go (by simp [stepG,stepG.exec,mk])
theorem go_label {l:Nat}:step P (lone (mk b tm ds (.code (.label l)::k)) cs w)=.next (lone (mk b tm ds k) cs w):=step_lone_go (by simp [stepG,stepG.exec,mk])
theorem go_inBlock {id:Nat}:step P (lone (mk b tm ds (.inBlock id::k)) cs w)=.next (lone (mk b tm ds k) cs w):=step_lone_go (by simp [stepG,stepG.exec,mk])
theorem go_inScope {c:Code}:step P (lone (mk b tm ds (.inScope c::k)) cs w)=.next (lone (mk b tm ds k) cs w):=step_lone_go (by simp [stepG,stepG.exec,mk])
theorem go_seq {x y:Code}:step P (lone (mk b tm ds (.code (.seq x y)::k)) cs w)=.next (lone (mk b tm ds (.code x::.code y::k)) cs w):=step_lone_go (by simp [stepG,stepG.exec,mk])
theorem go_cond {c:Operand} {x y:Code} {t:Bool} (hc:Act.eval ⟨tm,ds⟩ c=.bool t) :
  step P (lone (mk b tm ds (.code (.cond c x y)::k)) cs w)=.next (lone (mk b tm ds (.code (if t then x else y)::k)) cs w) :=
 step_lone_go (by
  have:=congrFun (o0o b tm ds (.code (.cond c x y)::k)) c
  simp only [mk] at this
  simp [stepG,stepG.exec,mk,this,hc])
theorem go_block {id:Nat} {c:Code}:step P (lone (mk b tm ds (.code (.block id c)::k)) cs w)=.next (lone (mk b tm ds (.code c::.inBlock id::k)) cs w):=step_lone_go (by simp [stepG,stepG.exec,mk])
theorem go_scope {c:Code}:step P (lone (mk b tm ds (.code (.scope c)::k)) cs w)=.next (lone (mk b tm ds (.code c::.inScope c::k)) cs w):=step_lone_go (by simp [stepG,stepG.exec,mk])
theorem go_loop {c:Code}:step P (lone (mk b tm ds (.code (.loop c)::k)) cs w)=.next (lone (mk b tm ds (.code c::.inLoop c::k)) cs w):=step_lone_go (by simp [stepG,stepG.exec,mk])
theorem go_inLoop {c:Code}:step P (lone (mk b tm ds (.inLoop c::k)) cs w)=.next (lone (mk b tm ds (.code c::.inLoop c::k)) cs w):=step_lone_go (by simp [stepG,stepG.exec,mk])
theorem go_exit {id:Nat} {k':List Item} (hk:exitTo id k=some k'):step P (lone (mk b tm ds (.code (.exit id)::k)) cs w)=.next (lone (mk b tm ds k') cs w):=step_lone_go (by simp [stepG,stepG.exec,mk,hk])
theorem go_region {id:Nat}:step P (lone (mk b tm ds (.code (.region id ops false)::k)) cs w)=.next (lone (mk b tm ds (.inRegion ops (List.range ops.size)::k)) cs w):=step_lone_go (by simp [stepG,stepG.exec,mk])
theorem go_region_draw {id:Nat}:step P (lone (mk b tm ds (.code (.region id ops true)::k)) cs w) =
  .next (lone (mk b tm ds (.inRegion ops (Region.schedule (P.follows .mixedOrders) ops (w.tape w.drawn (.order b.fn id)))::k)) cs w.drew):=step_lone_go (by simp [stepG,stepG.exec,mk,choose,Sem.run,Question.forced,Question.cut])
theorem go_regionEnd:step P (lone (mk b tm ds (.inRegion ops []::k)) cs w)=.next (lone (mk b tm ds k) cs w):=step_lone_go (by simp [stepG,stepG.exec,mk])
theorem go_ret (hb:b.roundOf=none):step P (lone (mk b tm ds (.code .ret::k)) cs w)=.next (lone { mk b tm ds (.code .ret::k) with mode:=.returning } cs w):=step_lone_go (by simp [stepG,stepG.exec,mk,hb])
theorem go_end (hb:b.roundOf=none):step P (lone (mk b tm ds []) cs w)=.next (lone { mk b tm ds [] with mode:=.returning } cs w):=step_lone_go (by simp [stepG,stepG.exec,mk,hb])
theorem Y3 {i:Nat} {rest:List Nat} {o:Oper} (ho:ops[i]? = some o) (v:Value) :
  (mk b tm ds (.inRegion ops (i::rest)::k)).finish v=mk b (f0R tm o.dst v) ds (.inRegion ops rest::k):=by
 cases hd:o.dst <;> simp [Frame.finish,mk,f0R,ho,hd]
theorem go_unwanted {i:Nat} {rest:List Nat} {o:Oper} (ho:ops[i]? = some o) (hw:Region.wanted o (yielded ops tm)=false) :
  step P (lone (mk b tm ds (.inRegion ops (i::rest)::k)) cs w)=.next (lone (mk b (f0R tm o.dst undef) ds (.inRegion ops rest::k)) cs w):=by
 rw [← Y3 ho]
 exact step_lone_go (by simp only [mk];simp [stepG,stepG.exec,ho,hw])
theorem b0C {i:Nat} {rest:List Nat} {o:Oper} (ho:ops[i]? = some o) (hw:Region.wanted o (yielded ops tm)=true) (hd:b.roundOf=none∨∀ c,o.op≠.defer c) :
  stepG P true { frame:=mk b tm ds (.inRegion ops (i::rest)::k),callers:=cs,status:=.running,dying:=none } w =
   stepG.apply P true (mk b tm ds (.inRegion ops (i::rest)::k)) cs none (execOp (Act.eval ⟨tm,ds⟩) o) w:=by
 have he:=o0o b tm ds (.inRegion ops (i::rest)::k)
 simp only [mk] at he
 simp only [stepG,stepG.exec,mk,ho,hw,Option.map_some,Option.getD_some,if_true,stepG.oper,Frame.oper?,he]
 split
 ·rename_i l c h1 h2
  rcases hd with hd | hd
  ·rw [hd] at h1;cases h1
  ·exact absurd h2 (hd c)
 ·rfl
variable {i:Nat} {rest:List Nat} {o:Oper} (ho:ops[i]? = some o) (hw:Region.wanted o (yielded ops tm)=true)
include ho hw
theorem go_value {v:Value} (hd:b.roundOf=none∨∀ c,o.op≠.defer c) (hr:(execOp (Act.eval ⟨tm,ds⟩) o).run P w=.ok (.value v) w') :
  step P (lone (mk b tm ds (.inRegion ops (i::rest)::k)) cs w)=.next (lone (mk b (f0R tm o.dst v) ds (.inRegion ops rest::k)) cs w'):=by
 rw [← Y3 ho]
 exact step_lone_go (by rw [b0C ho hw hd];simp [stepG.apply,hr])
theorem go_opskip (hd:b.roundOf=none∨∀ c,o.op≠.defer c) (hr:(execOp (Act.eval ⟨tm,ds⟩) o).run P w=.ok .skip w') :
  step P (lone (mk b tm ds (.inRegion ops (i::rest)::k)) cs w)=.next (lone (mk b (f0R tm o.dst undef) ds (.inRegion ops rest::k)) cs w'):=by
 rw [← Y3 ho]
 exact step_lone_go (by rw [b0C ho hw hd];simp [stepG.apply,hr])
theorem go_enter {f:FuncId} {args:Array Value} (hd:b.roundOf=none∨∀ c,o.op≠.defer c) (hr:(execOp (Act.eval ⟨tm,ds⟩) o).run P w=.ok (.enter f args) w') :
  step P (lone (mk b tm ds (.inRegion ops (i::rest)::k)) cs w)=.next (lone (Frame.enter P f args .normal) (mk b tm ds (.inRegion ops (i::rest)::k)::cs) w') :=
 step_lone_go (by rw [b0C ho hw hd];simp [stepG.apply,hr,mk])
theorem go_round {l:Nat} {f:FuncId} {tmps:Array Value} {assign body:Code} (hd:b.roundOf=none∨∀ c,o.op≠.defer c) (hr:(execOp (Act.eval ⟨tm,ds⟩) o).run P w=.ok (.round l f tmps assign body) w') :
  step P (lone (mk b tm ds (.inRegion ops (i::rest)::k)) cs w)=.next (lone (Frame.round l f tmps assign body .normal) (mk b tm ds (.inRegion ops (i::rest)::k)::cs) w') :=
 step_lone_go (by rw [b0C ho hw hd];simp [stepG.apply,hr,mk])
theorem go_defer {d:Deferred} (hb:b.roundOf=none) (hr:(execOp (Act.eval ⟨tm,ds⟩) o).run P w=.ok (.defer d) w') :
  step P (lone (mk b tm ds (.inRegion ops (i::rest)::k)) cs w)=.next (lone (mk b (f0R tm o.dst undef) (d::ds) (.inRegion ops rest::k)) cs w'):=by
 rw [← Y3 ho]
 exact step_lone_go (by rw [b0C ho hw (.inl hb)];simp [stepG.apply,hr,mk])
end moves
theorem go_leave {fr c:Frame} {cs:List Frame} {v:Value} {fn:Func} (hm:fr.mode=.returning) (hd:fr.defers=[]) (hk:fr.kind=.normal)
  (hf:P.funcs[fr.fn]? = some fn) (hr:(results fn fr.tmps).run P w=.ok v w):step P (lone fr (c::cs) w)=.next (lone (c.finish v) cs w) :=
 step_lone_go (by simp [stepG,unwind,doReturn,hm,hd,hk,hf,hr])
theorem e08 {o:Oper} {c:COp} {call:Call} {a:AAct} {n:AN} (ho:o.op=.defer call) (hc:comp P o=.ok c) (hr:evC P c a h=.ok (n,h')):∃ d,n=.defer d:=by
 unfold comp at hc
 rw [ho] at hc
 simp only at hc
 split at hc
 ·obtain ⟨g,hg,hc⟩:=q9 hc
  split at hc
  ·cases hc
   simp only [evC] at hr
   unfold g0m at hr
   split at hr
   ·split at hr
    ·cases hr;exact ⟨_,rfl⟩
    ·cases hr
   ·cases hr
  ·cases hc
 ·cases hc
theorem T4:Con φ n8 undef:=.tuple .nil
theorem T5 {ops:Array Oper} {o:Oper} {a:AAct} {tm:Array Value} {b:Bool} (hA:ActRel φ a tm) (hw:s6 ops o a=.ok b):Region.wanted o (yielded ops tm)=b:=by
 unfold s6 at hw
 unfold Region.wanted
 split at hw
 ·rename_i hg;cases hw;rw [hg]
 ·rename_i j want hg
  rw [hg]
  simp only [yielded]
  split at hw
  ·rename_i d hd
   rw [hd]
   have hv:=hA.val d
   simp only [Option.bind_some]
   rw [Array.getD_eq_getD_getElem?] at hv
   generalize a.val d=av at hv hw
   split at hw
   ·rename_i x;cases hw
    cases he:tm[d]? with
    | none=>rw [he] at hv;cases hv
    | some v =>
     rw [he] at hv
     simp only [Option.getD_some] at hv
     cases hv
     simp
   ·cases hw
   ·rename_i x h1 h2;cases hw
    cases he:tm[d]? with
    | none=>rfl
    | some v =>
     rw [he] at hv
     simp only [Option.getD_some] at hv
     split
     ·rename_i y hy
      cases hy
      cases hv
      ·exact absurd rfl (h1 _)
      ·exact absurd rfl (h2 _)
     ·rfl
  ·rename_i hd;cases hw
   rw [hd];rfl
theorem g0K {call:E0} (hC:a0Y P B w0 call) (hY:Z0 P B w0 call) {o:Oper} {a a':AAct} (he:M9 P call o a h=.ok (a',h'))
  {b:Frame} {tm:Array Value} {ds:List Deferred} (s:St P B w0 φ a h b.roundOf.isSome tm ds w) {ops:Array Oper} {i:Nat} {rest:List Nat} (ho:ops[i]? = some o)
  (hw:Region.wanted o (yielded ops tm)=true) (k:List Item) (cs:List Frame) :
  ∃ φ' tm' ds' w',Steps P (lone (mk b tm ds (.inRegion ops (i::rest)::k)) cs w) (lone (mk b tm' ds' (.inRegion ops rest::k)) cs w') ∧
   St P B w0 φ' a' h' b.roundOf.isSome tm' ds' w'∧Ext φ h φ' h':=by
 unfold M9 at he
 split at he
 ·rename_i c hc
  split at he
  ·rename_i n h1 hr
   have hs:=g0W (ds:=ds) hc hr s.glob s.act s.rel
   have hd:(∀ d,n≠.defer d)→b.roundOf=none∨∀ c,o.op≠.defer c:=fun hn=>.inr fun call e=>by
    obtain ⟨d,e⟩:=e08 e hc hr
    exact hn d e
   split at he
   ·rename_i v
    rw [p6] at he;cases he
    obtain ⟨v',w',φ',h2,h3,h4,h5⟩:=hs
    exact ⟨φ',_,ds,w',.one (go_value ho hw (hd (by simp)) h2),s.put h5.le h3 h4 _,h5⟩
   ·cases he
    obtain ⟨w',h2,h4,h5⟩:=hs
    exact ⟨φ,_,ds,w',.one (go_opskip ho hw (hd (by simp)) h2),s.put (.refl _) T4 h4 _,h5⟩
   ·rename_i d
    cases hrd:a.rd with
    | true=>rw [hrd] at he;cases he
    | false =>
     rw [hrd] at he;cases he
     obtain ⟨rfl,d',hd',h2⟩:=hs
     have hb:b.roundOf=none:=by have:=s.rd;rw [hrd] at this;cases hb:b.roundOf with
      | none=>rfl
      | some l=>rw [hb] at this;cases this
     refine ⟨φ,_,_,w,.one (go_defer ho hw hb h2),?_,.refl _ _⟩
     have s2:St P B w0 φ (⟨a.n,a.ts,d::a.ds,false⟩:AAct) h' b.roundOf.isSome tm (d'::ds) w:=⟨⟨s.act.size,s.act.val⟩,.cons hd' s.defs,s.rel,s.glob,by rw [hb];rfl⟩
     exact s2.put (.refl _) T4 s.rel _
   ·rename_i f args
    obtain ⟨rfl,args',hargs,h2⟩:=hs
    split at he
    ·rename_i v h3 hcall
     rw [p6] at he;cases he
     obtain ⟨hen,hK⟩:=hC _ _ _ _ _ hcall φ w args' hargs s.glob s.rel
     obtain ⟨v',w',fr,fn,⟨φ',c1,c2,c3⟩,hst,e1,e2,e3,e4,e5,e6⟩:=hK (mk b tm ds (.inRegion ops (i::rest)::k)::cs)
     rw [hen] at h2
     refine ⟨φ',_,ds,w',.head (go_enter ho hw (hd (by simp)) h2) (hst.trans (.one ?_)),s.put c3.le c1 c2 _,c3⟩
     rw [← Y3 ho]
     exact go_leave e2 e3 e4 e5 e6
    ·cases he
   ·rename_i f args
    obtain ⟨rfl,p,args',hp,hargs,h2⟩:=hs
    split at he
    ·rename_i v h3 hcall
     rw [p6] at he;cases he
     obtain ⟨fn,tmps,assign,body,hy,hK⟩:=hY _ _ _ _ _ hcall φ w p args' hp hargs s.glob s.rel
     obtain ⟨v',φ',w',hst,c1,c2,c3⟩:=hK (mk b tm ds (.inRegion ops (i::rest)::k)) cs
     rw [hy] at h2
     refine ⟨φ',_,ds,w',.head (go_round ho hw (hd (by simp)) h2) ?_,s.put c3.le c1 c2 _,c3⟩
     rw [← Y3 ho]
     exact hst
    ·cases he
  ·cases he
 ·cases he
end Go.Dr

namespace Go.Dr
open Go.RowKit
variable {P:Program} {B:Nat} {w0 w w':World} {φ:Phi} {h h':AH}
theorem i0k {call:E0} (hC:a0Y P B w0 call) (hY:Z0 P B w0 call) {ops:Array Oper} {b:Frame} (k:List Item) (cs:List Frame) :
  ∀ (l:List Oper) (is:List Nat) (a a':AAct) (h h':AH) (φ:Phi) (tm:Array Value) (ds:List Deferred) (w:World),is.map (ops[·]?)=l.map some→c0m P call ops l a h=.ok (a',h') →
   St P B w0 φ a h b.roundOf.isSome tm ds w→∃ φ' tm' ds' w',Steps P (lone (mk b tm ds (.inRegion ops is::k)) cs w) (lone (mk b tm' ds' k) cs w') ∧
    St P B w0 φ' a' h' b.roundOf.isSome tm' ds' w'∧Ext φ h φ' h'
 | [],is,a,a',h,h',φ,tm,ds,w,hl,he,s=>by
  have:is=[]:=by simpa using hl
  subst this
  cases he
  exact ⟨φ,tm,ds,w,.one go_regionEnd,s,.refl _ _⟩
 | o::l,is,a,a',h,h',φ,tm,ds,w,hl,he,s=>by
  cases is with
  | nil=>simp at hl
  | cons i rest =>
   simp only [List.map_cons,List.cons.injEq] at hl
   obtain ⟨ho,hl⟩:=hl
   simp only [c0m] at he
   split at he
   ·rename_i hw
    split at he
    ·rename_i a1 h1 h2
     obtain ⟨φ1,tm1,ds1,w1,st1,s1,e1⟩:=g0K hC hY h2 s ho (T5 s.act hw) k cs (rest:=rest)
     obtain ⟨φ2,tm2,ds2,w2,st2,s2,e2⟩:=i0k hC hY k cs l rest _ _ _ _ _ _ _ _ hl he s1
     exact ⟨φ2,tm2,ds2,w2,st1.trans st2,s2,e1.trans e2⟩
    ·cases he
   ·rename_i hw
    have s1:=s.put (.refl _) T4 s.rel o.dst
    obtain ⟨φ2,tm2,ds2,w2,st2,s2,e2⟩:=i0k hC hY k cs l rest _ _ _ _ _ _ _ _ hl he s1
    exact ⟨φ2,tm2,ds2,w2,.head (go_unwanted ho (T5 s.act hw)) st2,s2,e2⟩
   ·cases he
def i0l (P:Program) (B:Nat) (w0:World) (call:E0):Prop :=
 ∀ ops a h a' h',b0V P call ops a h=.ok (a',h')→∀ φ b tm ds w,St P B w0 φ a h (Option.isSome (Frame.roundOf b)) tm ds w→∀ t k cs,
  ∃ φ' tm' ds' w',Steps P (lone (mk b tm ds (.inRegion ops (Region.linearise .any ops t)::k)) cs w) (lone (mk b tm' ds' k) cs w') ∧
   St P B w0 φ' a' h' b.roundOf.isSome tm' ds' w'∧Ext φ h φ' h'
def Arr (P:Program) (m:Machine) (b:Frame) (k:List Item) (cs:List Frame) (tm:Array Value) (ds:List Deferred) (w:World):AX→Prop
 | .normal=>Steps P m (lone (mk b tm ds k) cs w)
 | .exit id=>∃ k1,exitTo id k1=exitTo id k∧Steps P m (lone (mk b tm ds (.code (.exit id)::k1)) cs w)
 | .ret=>∃ k1,Steps P m (lone (mk b tm ds (.code .ret::k1)) cs w)
 | .goto _=>False
section
variable {m m1:Machine} {b:Frame} {k:List Item} {cs:List Frame} {tm:Array Value} {ds:List Deferred} {x:AX}
theorem Arr.of_steps (st:Steps P m m1) (r:Arr P m1 b k cs tm ds w x):Arr P m b k cs tm ds w x:=by
 cases x with
 | normal=>exact st.trans r
 | exit id=>obtain ⟨k1,e,s⟩:=r;exact ⟨k1,e,st.trans s⟩
 | ret=>obtain ⟨k1,s⟩:=r;exact ⟨k1,st.trans s⟩
 | goto l=>exact r
theorem Arr.pass {it:Item} (hx:∀ id,x=.exit id→exitTo id (it::k)=exitTo id k) (hn:x≠.normal) (r:Arr P m b (it::k) cs tm ds w x):Arr P m b k cs tm ds w x:=by
 cases x with
 | normal=>exact absurd rfl hn
 | exit id=>obtain ⟨k1,e,s⟩:=r;exact ⟨k1,e.trans (hx id rfl),s⟩
 | ret=>exact r
 | goto l=>exact r
end
def k0I (P:Program) (B:Nat) (w0:World) (f:AAct→AH→R (AX×AAct×AH)) (it:Item):Prop :=
 ∀ a h x a' h',f a h=.ok (x,a',h')→∀ φ b tm ds w,St P B w0 φ a h (Option.isSome (Frame.roundOf b)) tm ds w→∀ k cs,
  ∃ φ' tm' ds' w',Arr P (lone (mk b tm ds (it::k)) cs w) b k cs tm' ds' w' x∧St P B w0 φ' a' h' b.roundOf.isSome tm' ds' w'∧Ext φ h φ' h'
theorem j02 {f:AAct→AH→R (AX×AAct×AH)} {c:Code} (hf:k0I P B w0 f (.code c)):∀ n a h x a' h',a0w f n a h=.ok (x,a',h') →
  ∀ φ b tm ds w,St P B w0 φ a h (Option.isSome (Frame.roundOf b)) tm ds w→∀ k cs,
  ∃ φ' tm' ds' w',Arr P (lone (mk b tm ds (.code c::.inLoop c::k)) cs w) b k cs tm' ds' w' x∧St P B w0 φ' a' h' b.roundOf.isSome tm' ds' w'∧Ext φ h φ' h'
 | 0=>fun a h x a' h' he=>by cases he
 | n+1=>fun a h x a' h' he φ b tm ds w s k cs=>by
  simp only [a0w] at he
  split at he
  ·rename_i a1 h1 hb
   obtain ⟨φ1,tm1,ds1,w1,r1,s1,e1⟩:=hf _ _ _ _ _ hb φ b tm ds w s (.inLoop c::k) cs
   obtain ⟨φ2,tm2,ds2,w2,r2,s2,e2⟩:=j02 hf n _ _ _ _ _ he φ1 b tm1 ds1 w1 s1 k cs
   exact ⟨φ2,tm2,ds2,w2,.of_steps (Steps.trans r1 (.one go_inLoop)) r2,s2,e1.trans e2⟩
  ·rename_i hn
   obtain ⟨φ1,tm1,ds1,w1,r1,s1,e1⟩:=hf _ _ _ _ _ he φ b tm ds w s (.inLoop c::k) cs
   refine ⟨φ1,tm1,ds1,w1,.pass (fun id _=>rfl) (fun e=>?_) r1,s1,e1⟩
   subst e
   exact hn _ _ he
theorem Rel.putObj {φ:Phi} (r:Rel B w0 φ h w) {i:Nat} {p:Pl} {o o':AObj} {O:Obj} (hi:φ i=some p) (hg:h.get i=some o) (hw:o.writable=true) (hw':o'.writable=true)
  (ho:ObjRel φ (w.putObj p.blk O) p o'):Rel B w0 φ (h.set i o') (w.putObj p.blk O):=by
 have hB:=r.own _ _ _ hi hg hw
 refine r.write hi hg hw hw' ⟨rfl,rfl,rfl,by simp [World.putObj],fun k hk=>World.putObj_heap_other (by omega)⟩ (fun k hk=>World.putObj_heap_other hk) ho
theorem ObjRel.loop_get {p:Pl} {r:ALoop} (ho:ObjRel φ w p (.loop r)):∃ r',w.heap[p.blk]? = some (.loop r')∧LoopRel φ r r':=ho
theorem Rel.putLoop {φ:Phi} (R:Rel B w0 φ h w) {i:Nat} {p:Pl} {r:ALoop} {r':Loop} (hi:φ i=some p) (hg:h.get i=some (.loop r)) (hr:LoopRel φ r r') (st:LoopState) (pd:Option Code) :
  Rel B w0 φ (h.set i (.loop { r with state:=st,pending:=pd })) (w.putObj p.blk (.loop { r' with state:=st,pending:=pd })):=by
 obtain ⟨r1,h1,h2⟩:=(R.obj _ _ _ hi hg).loop_get
 exact R.putObj hi hg rfl rfl ⟨_,World.putObj_heap_same (Array.getElem?_eq_some_iff.1 h1).1,{ hr with state:=rfl,pending:=rfl }⟩
theorem go_endLoop {b:Frame} {tm:Array Value} {ds:List Deferred} {k:List Item} {cs:List Frame} {l:Nat} {r:Loop} (hl:w.heap[l]? = some (.loop r)) (hb:r.state≠.busy) :
  step P (lone (mk b tm ds (.endRangeFunc l::k)) cs w)=.next (lone (mk b tm ds ((r.pending.map Item.code).toList++k)) cs (w.putObj l (.loop { r with state:=.exhausted }))) :=
 stepR_endRangeFunc (a:=⟨tm,ds⟩) (run_endLoop hl hb)
theorem go_rangeFunc {b:Frame} {tm:Array Value} {ds:List Deferred} {k:List Item} {cs:List Frame} {f:Operand} {params:Array Tmp} {assign body:Code} {g:FuncId} {first captured:Array Value}
  (hb:b.roundOf=none) (hf:Act.eval ⟨tm,ds⟩ f=.func (.func g) first captured) {w2:World}
  (hw2:w2=(w.alloc (.deferred (some []))).alloc (.loop { state:=.ready,pending:=none,fn:=b.fn,tmps:=tm,params,assign,body,defers:=w.heap.size }))
  (hc:(callFunc g (first++#[.func (.yield (w.heap.size+1)) #[] #[]]++captured)).run P w2=.ok (.enter g (first++#[.func (.yield (w.heap.size+1)) #[] #[]]++captured)) w2) :
  step P (lone (mk b tm ds (.code (.rangeFunc f params assign body)::k)) cs w) =
   .next (lone (Frame.enter P g (first++#[.func (.yield (w.heap.size+1)) #[] #[]]++captured) .normal)
    (mk b tm ({ target:=.collected w.heap.size,args:=#[] }::ds) (.inRangeFunc (w.heap.size+1)::k)::cs) w2):=by
 refine stepR_rangeFunc (a:=⟨tm,ds⟩) (d:={ target:=.fn (.func g) captured,args:=first++#[.func (.yield (w.heap.size+1)) #[] #[]] }) (w₁:=w2) (w₁':=w2)
  (mark:=[{ target:=.collected w.heap.size,args:=#[] }]) (l:=w.heap.size+1) ?_ ?_ ?_
 ·rw [hb,run_enterLoop_outer,hw2]
 ·simp only [resolve,hf,Deferred.ofValue,Sem.run_pure]
  simp [Act.eval]
 ·simp only [invoke]
  exact hc
theorem r05 {call:E0} (hC:a0Y P B w0 call) {f:Operand} {c:CO} {params:Array Tmp} {assign body:Code} (hf:cO P f=.ok c) :
  k0I P B w0 (fun a h=>k09 call (c.ev a) params assign body a h) (.code (.rangeFunc f params assign body)):=by
 intro a h x a' h' he φ b tm ds w s k cs
 have hv:=G1 (ds:=ds) hf s.glob s.act
 simp only [k09] at he
 split at he
 ·rename_i g first captured hfv
  cases hrd:a.rd with
  | true=>rw [hrd] at he;cases he
  | false =>
   rw [hrd] at he
   simp only [cond_false,o8] at he
   have hb:b.roundOf=none:=by have:=s.rd;rw [hrd] at this;cases hb:b.roundOf with
    | none=>rfl
    | some l=>rw [hb] at this;cases this
   rw [hfv] at hv
   generalize hev:Act.eval ⟨tm,ds⟩ f=fv at hv
   cases hv with
   | @func _ _ _ first' captured' h1 h2 =>
    have R1:=s.rel.push (room:=0) (o:=.deferred (some [])) (O:=.deferred (some [])) (Y2 _ _)
    have X1:=Ext.push s.rel (.deferred (some [])) ⟨w.heap.size,0,0⟩
    generalize hφ1:φ.set h.next ⟨w.heap.size,0,0⟩=φ1 at R1 X1
    have g1:φ1 h.next=some ⟨w.heap.size,0,0⟩:=by rw [← hφ1];exact Phi.set_same _ _ _
    generalize hL:({ state:=.ready,pending:=none,n:=a.n,tmps:=a.ts,params,assign,body }:ALoop)=L at he
    generalize hL':({ state:=.ready,pending:=none,fn:=b.fn,tmps:=tm,params,assign,body,defers:=w.heap.size }:Loop)=L'
    have hLR:∀ ψ:Phi,φ.le ψ→LoopRel ψ L L':=fun ψ hle=>by
     subst hL hL'
     exact ⟨rfl,rfl,rfl,rfl,rfl,s.act.size,fun i=>(s.act.val i).mono hle⟩
    have R2:=R1.push (room:=0) (o:=.loop L) (O:=.loop L') ⟨L',Y2 _ _,hLR _ (X1.le.trans (Phi.le_set _ R1.fresh))⟩
    have X2:=Ext.push R1 (.loop L) ⟨(w.alloc (.deferred (some []))).heap.size,0,0⟩
    rw [World.size_alloc] at R2 X2
    rw [AH.next_push] at R2 X2
    generalize hφ2:φ1.set (h.next+1) ⟨w.heap.size+1,0,0⟩=φ2 at R2 X2
    have g2:φ2 (h.next+1)=some ⟨w.heap.size+1,0,0⟩:=by rw [← hφ2];exact Phi.set_same _ _ _
    have X:=X1.trans X2
    split at he
    ·rename_i rv h3 hcall
     have hargs:ConL φ2 (first++(.func (.yield (h.next+1)) [] []::captured)) (first'++(.func (.yield (w.heap.size+1)) #[] #[]::captured')) :=
      (h1.mono X.le).append (.cons (.yield g2) (h2.mono X.le))
     obtain ⟨hen,hK⟩:=hC _ _ _ _ _ hcall φ2 _ _ hargs (s.glob.mono X.le) R2
     have e:(⟨first'++(.func (.yield (w.heap.size+1)) #[] #[]::captured')⟩:Array Value)=⟨first'⟩++#[.func (.yield (w.heap.size+1)) #[] #[]]++⟨captured'⟩:=by simp
     rw [e] at hK hen
     obtain ⟨v',w3,fr,fn,⟨φ3,c1,R3,X3⟩,hst,e1,e2,e3,e4,e5,e6⟩:=hK (mk b tm ({ target:=.collected w.heap.size,args:=#[] }::ds) (.inRangeFunc (w.heap.size+1)::k)::cs)
     have s0:=go_rangeFunc (P:=P) (k:=k) (cs:=cs) (params:=params) (assign:=assign) (body:=body) hb hev rfl (by rw [hL'];exact hen _)
     rw [hL'] at s0
     have s1:=Steps.head s0 (hst.trans (.one (go_leave e2 e3 e4 e5 e6)))
     rw [show (mk b tm ({ target:=.collected w.heap.size,args:=#[] }::ds) (.inRangeFunc (w.heap.size+1)::k)).finish v'=mk b tm ({ target:=.collected w.heap.size,args:=#[] }::ds) (.endRangeFunc (w.heap.size+1)::k) from rfl] at s1
     split at he
     ·rename_i r hg
      have hp3:φ3 (h.next+1)=some ⟨w.heap.size+1,0,0⟩:=X3.le _ _ g2
      obtain ⟨r',hr1,hr2⟩:=(R3.obj _ _ _ hp3 hg).loop_get
      have key:r.state≠.busy→∀ x,(∀ (b:Frame) tm ds w,Steps P (lone (mk b tm ds ((r.pending.map Item.code).toList++k)) cs w) (lone (mk b tm ds ((r.pending.map Item.code).toList++k)) cs w)→Arr P (lone (mk b tm ds ((r.pending.map Item.code).toList++k)) cs w) b k cs tm ds w x) →
        ∃ φ' tm' ds' w',Arr P (lone (mk b tm ds (.code (.rangeFunc f params assign body)::k)) cs w) b k cs tm' ds' w' x ∧
         St P B w0 φ' ⟨a.n,a.ts,.collected h.next::a.ds,false⟩ (h3.set (h.next+1) (.loop { r with state:=.exhausted })) b.roundOf.isSome tm' ds' w' ∧
         Ext φ h φ' (h3.set (h.next+1) (.loop { r with state:=.exhausted })):=by
       intro hbusy x hx
       have s2:=go_endLoop (P:=P) (b:=b) (tm:=tm) (ds:={ target:=.collected w.heap.size,args:=#[] }::ds) (k:=k) (cs:=cs) hr1 (by rw [hr2.state];exact hbusy)
       rw [hr2.pending] at s2
       refine ⟨φ3,tm,_,_,.of_steps (s1.trans (.one s2)) (hx b tm _ _ (.refl _ _)),⟨?_,?_,R3.putLoop hp3 hg hr2 .exhausted r.pending,(s.glob.mono X.le).mono X3.le,by rw [hb];rfl⟩,(X.trans X3).trans (.write hp3 _)⟩
       ·exact ⟨s.act.size,fun i=>((s.act.val i).mono X.le).mono X3.le⟩
       ·exact .cons (.collected (X3.le _ _ (X2.le _ _ g1))) ((s.defs.mono X.le).mono X3.le)
      split at he
      ·cases he
      ·rename_i hbusy
       split at he
       ·rename_i hpd;cases he
        exact key hbusy .normal (fun b tm ds w st=>by rw [hpd] at st ⊢;exact st)
       ·rename_i hpd;cases he
        exact key hbusy .ret (fun b tm ds w st=>by rw [hpd] at st ⊢;exact ⟨k,st⟩)
       ·rename_i id hpd;cases he
        exact key hbusy (.exit id) (fun b tm ds w st=>by rw [hpd] at st ⊢;exact ⟨k,rfl,st⟩)
       ·cases he
     ·cases he
    ·cases he
 ·cases he
end Go.Dr

namespace Go.Dr
open Go.RowKit
variable {P:Program} {B:Nat} {w0 w w':World} {φ:Phi} {h h':AH}
theorem B9 {call:E0} {lf:Nat} (hM:P.follows .mixedOrders=true) (hC:a0Y P B w0 call) (hY:Z0 P B w0 call) (hD:i0l P B w0 call) :
  ∀ c:Code,k0I P B w0 (n9 P call lf c) (.code c)
 | .skip=>fun a h x a' h' he φ b tm ds w s k cs=>by cases he;exact ⟨φ,tm,ds,w,.one go_skip,s,.refl _ _⟩
 | .label _=>fun a h x a' h' he φ b tm ds w s k cs=>by cases he;exact ⟨φ,tm,ds,w,.one go_label,s,.refl _ _⟩
 | .exit id=>fun a h x a' h' he φ b tm ds w s k cs=>by cases he;exact ⟨φ,tm,ds,w,⟨k,rfl,.refl _ _⟩,s,.refl _ _⟩
 | .ret=>fun a h x a' h' he φ b tm ds w s k cs=>by cases he;exact ⟨φ,tm,ds,w,⟨k,.refl _ _⟩,s,.refl _ _⟩
 | .goto _=>fun a h x a' h' he=>by cases he
 | .refuse _=>fun a h x a' h' he=>by cases he
 | .region id ops draw=>fun a h x a' h' he φ b tm ds w s k cs=>by
  simp only [n9] at he
  cases draw with
  | true =>
   simp only [cond_true] at he
   split at he
   ·rename_i a1 h1 h2
    cases he
    obtain ⟨φ1,tm1,ds1,w1,st1,s1,e1⟩:=hD _ _ _ _ _ h2 φ b tm ds w.drew ⟨s.act,s.defs,s.rel.drew,s.glob,s.rd⟩ (w.tape w.drawn (.order b.fn id)) k cs
    refine ⟨φ1,tm1,ds1,w1,.head go_region_draw ?_,s1,e1⟩
    rw [hM]
    exact st1
   ·cases he
  | false =>
   simp only [cond_false] at he
   split at he
   ·rename_i a1 h1 h2
    cases he
    have hl:(List.range ops.size).map (ops[·]?)=ops.toList.map some:=by
     apply List.ext_getElem
     ·simp
     ·intro i h1 h2
      simp at h1
      simp [h1]
    obtain ⟨φ1,tm1,ds1,w1,st1,s1,e1⟩:=i0k hC hY k cs _ _ _ _ _ _ _ _ _ _ hl h2 s
    exact ⟨φ1,tm1,ds1,w1,.head go_region st1,s1,e1⟩
   ·cases he
 | .seq x y=>fun a h x' a' h' he φ b tm ds w s k cs=>by
  simp only [n9] at he
  split at he
  ·rename_i a1 h1 hx
   obtain ⟨φ1,tm1,ds1,w1,r1,s1,e1⟩:=B9 hM hC hY hD x _ _ _ _ _ hx φ b tm ds w s (.code y::k) cs
   obtain ⟨φ2,tm2,ds2,w2,r2,s2,e2⟩:=B9 hM hC hY hD y _ _ _ _ _ he φ1 b tm1 ds1 w1 s1 k cs
   exact ⟨φ2,tm2,ds2,w2,.of_steps (.head go_seq r1) r2,s2,e1.trans e2⟩
  ·rename_i hn
   obtain ⟨φ1,tm1,ds1,w1,r1,s1,e1⟩:=B9 hM hC hY hD x _ _ _ _ _ he φ b tm ds w s (.code y::k) cs
   refine ⟨φ1,tm1,ds1,w1,.pass (fun id _=>rfl) (fun e=>?_) (.of_steps (.one go_seq) r1),s1,e1⟩
   subst e
   exact hn _ _ he
 | .cond c x y=>fun a h x' a' h' he φ b tm ds w s k cs=>by
  simp only [n9] at he
  split at he
  ·rename_i cc hc
   have hv:=G1 (ds:=ds) hc s.glob s.act
   unfold h0d at he
   split at he
   ·rename_i hb
    rw [hb] at hv
    generalize hev:Act.eval ⟨tm,ds⟩ c=v at hv
    cases hv
    obtain ⟨φ1,tm1,ds1,w1,r1,s1,e1⟩:=B9 hM hC hY hD x _ _ _ _ _ he φ b tm ds w s k cs
    exact ⟨φ1,tm1,ds1,w1,.of_steps (.one (go_cond hev)) r1,s1,e1⟩
   ·rename_i hb
    rw [hb] at hv
    generalize hev:Act.eval ⟨tm,ds⟩ c=v at hv
    cases hv
    obtain ⟨φ1,tm1,ds1,w1,r1,s1,e1⟩:=B9 hM hC hY hD y _ _ _ _ _ he φ b tm ds w s k cs
    exact ⟨φ1,tm1,ds1,w1,.of_steps (.one (go_cond hev)) r1,s1,e1⟩
   ·cases he
  ·cases he
 | .block id c=>fun a h x' a' h' he φ b tm ds w s k cs=>by
  simp only [n9] at he
  split at he
  ·rename_i i a1 h1 hx
   obtain ⟨φ1,tm1,ds1,w1,⟨k1,hk1,r1⟩,s1,e1⟩:=B9 hM hC hY hD c _ _ _ _ _ hx φ b tm ds w s (.inBlock id::k) cs
   cases hb:Nat.beq i id with
   | true =>
    rw [hb] at he
    cases he
    have:i=id:=Nat.eq_of_beq_eq_true hb
    subst this
    exact ⟨φ1,tm1,ds1,w1,.head go_block (r1.trans (.one (go_exit (by rw [hk1];simp [exitTo])))),s1,e1⟩
   | false =>
    rw [hb] at he
    cases he
    have hne:id≠i:=fun e=>by subst e;rw [Nat.beq_refl] at hb;cases hb
    exact ⟨φ1,tm1,ds1,w1,⟨k1,by rw [hk1];simp [exitTo,hne],.head go_block r1⟩,s1,e1⟩
  ·rename_i hn
   obtain ⟨φ1,tm1,ds1,w1,r1,s1,e1⟩:=B9 hM hC hY hD c _ _ _ _ _ he φ b tm ds w s (.inBlock id::k) cs
   cases x' with
   | normal=>exact ⟨φ1,tm1,ds1,w1,.head go_block (Steps.trans r1 (.one go_inBlock)),s1,e1⟩
   | exit i=>exact absurd he (hn _ _ _)
   | ret=>exact ⟨φ1,tm1,ds1,w1,.of_steps (.one go_block) (.pass (fun id e=>by cases e) (by simp) r1),s1,e1⟩
   | goto l=>exact r1.elim
 | .loop c=>fun a h x' a' h' he φ b tm ds w s k cs=>by
  simp only [n9] at he
  obtain ⟨φ1,tm1,ds1,w1,r1,s1,e1⟩:=j02 (B9 hM hC hY hD c) lf _ _ _ _ _ he φ b tm ds w s k cs
  exact ⟨φ1,tm1,ds1,w1,.of_steps (.one go_loop) r1,s1,e1⟩
 | .scope c=>fun a h x' a' h' he φ b tm ds w s k cs=>by
  simp only [n9] at he
  split at he
  ·cases he
  ·rename_i hn
   obtain ⟨φ1,tm1,ds1,w1,r1,s1,e1⟩:=B9 hM hC hY hD c _ _ _ _ _ he φ b tm ds w s (.inScope c::k) cs
   cases x' with
   | normal=>exact ⟨φ1,tm1,ds1,w1,.head go_scope (Steps.trans r1 (.one go_inScope)),s1,e1⟩
   | exit i=>exact ⟨φ1,tm1,ds1,w1,.of_steps (.one go_scope) (.pass (fun id _=>rfl) (by simp) r1),s1,e1⟩
   | ret=>exact ⟨φ1,tm1,ds1,w1,.of_steps (.one go_scope) (.pass (fun id _=>rfl) (by simp) r1),s1,e1⟩
   | goto l=>exact r1.elim
 | .rangeFunc f params assign body=>fun a h x' a' h' he=>by
  simp only [n9] at he
  split at he
  ·rename_i cc hc
   exact r05 hC hc _ _ _ _ _ he
  ·cases he
def m0N (tm:Array Value):ResultVar→Sem Value
 | .tmp t=>pure (tm.getD t undef)
 | .cell a t=>do loadVar t (← asAddr (tm.getD a undef))
theorem c0o {a:AAct} {tm:Array Value} (hA:ActRel φ a tm) (hR:Rel B w0 φ h w):∀ {l:List ResultVar} {vs:List AV},I8 P h a l=.ok vs →
  ∃ vs',(l.mapM (m0N tm)).run P w=.ok vs' w∧ConL φ vs vs'
 | [],vs,he=>by cases he;exact ⟨[],by simp,.nil⟩
 | .tmp t::l,vs,he=>by
  simp only [I8] at he
  split at he
  ·rename_i r hr;cases he
   obtain ⟨vs',h1,h2⟩:=c0o hA hR hr
   refine ⟨_::vs',?_,.cons (hA.val t) h2⟩
   simp only [List.mapM_cons,Sem.run_bind,h1,m0N,Sem.run_pure,Result.andThen_ok]
  ·cases he
 | .cell p t::l,vs,he=>by
  simp only [I8] at he
  split at he
  ·rename_i id off hv
   have hc:=hA.val p
   rw [hv] at hc
   generalize hev:tm.getD p undef=v at hc
   cases hc with
   | @ptr _ _ q hp =>
    split at he
    ·rename_i n hagg hs
     split at he
     ·rename_i v r hl hr;cases he
      obtain ⟨vs',h1,h2⟩:=c0o hA hR hr
      obtain ⟨c,c1,c2,c3⟩:=c0T hl hR hp
      refine ⟨.agg ⟨c⟩::vs',?_,.cons (.agg c3) h2⟩
      have:(m0N tm (.cell p t)).run P w=.ok (.agg ⟨c⟩) w:=by
       simp only [m0N,hev,Sem.run_bind,Sem.run_pure,Result.andThen_ok,asAddr,loadVar,c0S hagg,if_true,D7 hs,K6 c1 c2]
      simp only [List.mapM_cons,Sem.run_bind,this,Result.andThen_ok,h1,Sem.run_pure]
     ·cases he
    ·rename_i hagg
     split at he
     ·rename_i v r hl hr;cases he
      obtain ⟨vs',h1,h2⟩:=c0o hA hR hr
      obtain ⟨c,c1,c2⟩:=m02 hl hR hp
      refine ⟨c::vs',?_,.cons c2 h2⟩
      have:(m0N tm (.cell p t)).run P w=.ok c w:=by
       simp only [m0N,hev,Sem.run_bind,Sem.run_pure,Result.andThen_ok,asAddr,loadVar,c0S hagg,Bool.false_eq_true,if_false,e0o c1]
      simp only [List.mapM_cons,Sem.run_bind,this,Result.andThen_ok,h1,Sem.run_pure]
     ·cases he
    ·cases he
  ·cases he
theorem h0N {fn:Func} {a:AAct} {tm:Array Value} {vs:List AV} (hA:ActRel φ a tm) (hR:Rel B w0 φ h w) (he:I8 P h a fn.results.toList=.ok vs) :
  ∃ v',(results fn tm).run P w=.ok v' w∧Con φ (a0n vs) v':=by
 obtain ⟨vs',h1,h2⟩:=c0o hA hR he
 have hm:(fn.results.mapM (m0N tm)).run P w=.ok ⟨vs'⟩ w:=by
  rw [Array.mapM_eq_mapM_toList,Sem.run_map,h1];rfl
 have hres:(results fn tm).run P w=((fn.results.mapM (m0N tm)).run P w).andThen fun vs w'=>.ok (if h:vs.size=1 then vs[0] else .tuple vs) w':=by
  unfold results
  rw [Sem.run_bind]
  rfl
 rw [hres,hm,Result.andThen_ok]
 refine ⟨_,rfl,?_⟩
 cases h2 with
 | nil=>exact .tuple .nil
 | cons c t =>
  cases t with
  | nil=>exact c
  | cons c' t'=>exact .tuple (.cons c (.cons c' t'))
def lv (b:Frame) (tm:Array Value) (ds:List Deferred) (todo:List Item):Frame:={ mk b tm ds todo with mode:=.returning }
theorem go_collected {b:Frame} {tm:Array Value} {ds:List Deferred} {todo:List Item} {cs:List Frame} {r:Nat} {args:Array Value} (hg:w.heap[r]? = some (.deferred (some []))) :
  step P (lone (lv b tm ({ target:=.collected r,args }::ds) todo) cs w)=.next (lone (lv b tm ds todo) cs (w.putObj r (.deferred none))) :=
 step_lone_go (by simp [stepG,unwind,lv,mk,Sem.runT_eq,run_takeDeferred hg])
theorem go_deferred {b:Frame} {tm:Array Value} {ds:List Deferred} {todo:List Item} {cs:List Frame} {f:FuncId} {captured args:Array Value}
  (hc:(callFunc f (args++captured)).run P w=.ok (.enter f (args++captured)) w) :
  step P (lone (lv b tm ({ target:=.fn (.func f) captured,args }::ds) todo) cs w) =
   .next (lone (Frame.enter P f (args++captured) .deferred) (lv b tm ds todo::cs) w) :=
 step_lone_go (by simp [stepG,unwind,callDeferred,lv,mk,Sem.runT_eq,invoke,hc])
theorem go_leaveDeferred {fr c:Frame} {cs:List Frame} {v:Value} {fn:Func} (hm:fr.mode=.returning) (hd:fr.defers=[]) (hk:fr.kind=.deferred) (hcm:c.mode=.returning)
  (hf:P.funcs[fr.fn]? = some fn) (hr:(results fn fr.tmps).run P w=.ok v w):step P (lone fr (c::cs) w)=.next (lone c cs w) :=
 step_lone_go (by simp [stepG,unwind,doReturn,hm,hd,hk,hf,hr,hcm])
theorem d0o {call:E0} (hC:o0p P B w0 call) {b:Frame} {tm:Array Value} {todo:List Item} {cs:List Frame} :
  ∀ (l:List ADef) (h h':AH) (φ:Phi) (ds:List Deferred) (w:World),H9 call l h=.ok h'→DefsR φ l ds→Rel B w0 φ h w→GlobRel P φ →
   ∃ φ' w',Steps P (lone (lv b tm ds todo) cs w) (lone (lv b tm [] todo) cs w')∧Rel B w0 φ' h' w'∧Ext φ h φ' h'
 | [],h,h',φ,ds,w,he,hd,hR,hG=>by
  cases he;cases hd
  exact ⟨φ,w,.refl _ _,hR,.refl _ _⟩
 | d::l,h,h',φ,ds,w,he,hd,hR,hG=>by
  cases hd with
  | @cons _ d' _ ds hd1 hd2 =>
   simp only [H9] at he
   cases hd1 with
   | @collected id p hp =>
    simp only at he
    split at he
    ·rename_i hg
     have ho:w.heap[p.blk]? = some (.deferred (some [])):=hR.obj _ _ _ hp hg
     have R1:=hR.putObj (O:=.deferred none) (o':=.deferred none) hp hg rfl rfl (World.putObj_heap_same (Array.getElem?_eq_some_iff.1 ho).1)
     obtain ⟨φ2,w2,st,R2,X2⟩:=d0o hC (b:=b) (tm:=tm) (todo:=todo) (cs:=cs) l _ _ _ _ _ he hd2 R1 hG
     exact ⟨φ2,w2,.head (go_collected ho) st,R2,(Ext.write hp _).trans X2⟩
    ·cases he
   | @call f c a c' a' hc ha =>
    simp only [a0f] at he
    split at he
    ·rename_i v h2 hcall
     obtain ⟨hen,hK⟩:=hC _ _ _ _ _ hcall φ w _ (ha.append hc) hG hR
     have e:(⟨a'++c'⟩:Array Value)=⟨a'⟩++⟨c'⟩:=by simp
     rw [e] at hK hen
     obtain ⟨v',w3,fr,fn,⟨φ3,c1,R3,X3⟩,hst,e1,e2,e3,e4,e5,e6⟩:=hK (lv b tm ds todo::cs)
     obtain ⟨φ2,w2,st,R2,X2⟩:=d0o hC (b:=b) (tm:=tm) (todo:=todo) (cs:=cs) l _ _ _ _ _ he (hd2.mono X3.le) R3 (hG.mono X3.le)
     exact ⟨φ2,w2,.head (go_deferred (hen _)) (hst.trans (.head (go_leaveDeferred e2 e3 e4 rfl e5 e6) st)),R2,X3.trans X2⟩
    ·cases he
end Go.Dr

namespace Go.Dr
open Go.RowKit
variable {P:Program} {B:Nat} {w0 w w':World} {φ:Phi} {h h':AH}
theorem g0a:∀ (l:List AV) (i:Nat) (t:PT AV) (j:Nat),(laid l i t).get j=if i≤j∧j<i+l.length then l[j - i]? else t.get j
 | [],i,t,j=>by rw [if_neg (by simp only [List.length_nil];omega)];rfl
 | v::l,i,t,j=>by
  rw [laid,g0a l (i+1) _ j,PT.get_set,List.length_cons]
  by_cases hj:j=i
  ·subst hj
   rw [if_neg (by omega),if_pos rfl,if_pos (by omega),Nat.sub_self];rfl
  ·by_cases h1:i+1≤j∧j<i+1+l.length
   ·rw [if_pos h1,if_pos (by omega),show j - i=(j - (i+1))+1 from by omega];rfl
   ·rw [if_neg h1,if_neg hj,if_neg (by omega)]
theorem k0c {args:List AV} {args':List Value} {n:Nat} {ds:List ADef} {rd:Bool} (ha:ConL φ args args') (hn:args.length≤n) :
  ActRel φ ⟨n,laid args 0 .leaf,ds,rd⟩ ((⟨args'⟩:Array Value)++Array.replicate (n - (⟨args'⟩:Array Value).size) undef):=by
 have hl:=ha.length
 refine ⟨by simp only [Array.size_append,Array.size_replicate];simp;omega,fun i=>?_⟩
 simp only [AAct.val,g0a,Nat.zero_le,true_and,Nat.zero_add,Nat.sub_zero]
 rw [Array.getD_eq_getD_getElem?]
 by_cases hi:i<args.length
 ·rw [if_pos hi]
  have:i<(⟨args'⟩:Array Value).size:=by simp;omega
  rw [Array.getElem?_append_left this]
  obtain ⟨y,hy,hc⟩:=ha.get i args[i] (List.getElem?_eq_getElem hi)
  rw [List.getElem?_eq_getElem hi]
  simp only [List.getElem?_toArray,hy,Option.getD_some]
  exact hc
 ·rw [if_neg hi]
  have e:(PT.leaf:PT AV).get i=none:=rfl
  rw [e]
  rw [Array.getElem?_append_right (by simp;omega),Array.getElem?_replicate]
  have:(if i - (⟨args'⟩:Array Value).size<n - (⟨args'⟩:Array Value).size then some undef else none).getD undef=undef:=by split <;> rfl
  rw [this]
  exact T4
theorem c04:∀ (ts:List Tmp) (vs:List AV) (vs':List Value) (a:AAct) (tm:Array Value),ActRel φ a tm→ConL φ vs vs' →
  ActRel φ (Q9 ts vs a) ((ts.zip vs').foldl (fun tm (t,v)=>tm.setIfInBounds t v) tm)∧(Q9 ts vs a).ds=a.ds∧(Q9 ts vs a).rd=a.rd
 | [],vs,vs',a,tm,hA,hc=>⟨hA,rfl,rfl⟩
 | t::ts,[],vs',a,tm,hA,hc=>by cases hc;exact ⟨hA,rfl,rfl⟩
 | t::ts,v::vs,vs',a,tm,hA,hc=>by
  cases hc with
  | @cons _ v' _ vs' h1 h2 =>
   obtain ⟨i1,i2,i3⟩:=c04 ts vs vs' _ _ (hA.put (some t) h1) h2
   obtain ⟨j1,j2,_⟩:=a.put_ds (some t) v
   exact ⟨i1,by rw [Q9,i2,j1],by rw [Q9,i3,j2]⟩
def c0a (P:Program) (B:Nat) (w0:World) (S:FuncId→Option (List AV→AH→R (AV×AH))):Prop :=
 ∀ f g,S f=some g→∀ args h v h',g args h=.ok (v,h')→∀ φ w args',ConL φ args args'→GlobRel P φ→Rel B w0 φ h w →
  (∀ w,(callFunc f ⟨args'⟩).run P w=.ok (.enter f ⟨args'⟩) w) ∧
  CallsK P .normal f ⟨args'⟩ w (fun v' w'=>∃ φ',Con φ' v v'∧Rel B w0 φ' h' w'∧Ext φ h φ' h')
theorem f0h:c0a P B w0 (fun _=>none):=fun _ _ e=>by cases e
section
variable {S:FuncId→Option (List AV→AH→R (AV×AH))} {lf:Nat}
theorem P5 {f:FuncId} {fn:Func} {args:Array Value} (hN:∀ (f:Nat) fn,P.funcs[f]? = some fn→fn.body.isSome=true→fn.name≠"runtime.NumGoroutine")
  (hf:P.funcs[f]? = some fn) (hb:fn.body.isSome=true) (w:World):(callFunc f args).run P w=.ok (.enter f args) w:=by
 have hn:=hN f fn hf hb
 have hb':fn.body≠none:=by intro h;rw [h] at hb;cases hb
 simp [callFunc,hf,hn,hb']
theorem v0y {call dcall:E0} {kind:CallKind} (hF:o0p P B w0 dcall) (hM:P.follows .mixedOrders=true)
  (hC:a0Y P B w0 call) (hY:Z0 P B w0 call) (hD:i0l P B w0 call) {f:FuncId} {fn:Func} {c:Code} {args:List AV} {v:AV} (hf:P.funcs[f]? = some fn) (hb:fn.body=some c)
  (hn:args.length≤fn.ntmps) (he:N0 P dcall fn (n9 P call lf c ⟨fn.ntmps,laid args 0 .leaf,[],false⟩ h)=.ok (v,h')) {args':List Value} (ha:ConL φ args args') (hG:GlobRel P φ) (hR:Rel B w0 φ h w) :
  CallsK P kind f ⟨args'⟩ w (fun v' w'=>∃ φ',Con φ' v v'∧Rel B w0 φ' h' w'∧Ext φ h φ' h'):=by
 intro cs
 unfold N0 at he
 split at he
 ·rename_i x a1 h1 hcode
  have s0:St P B w0 φ ⟨fn.ntmps,laid args 0 .leaf,[],false⟩ h (Option.isSome (Frame.roundOf { (default:Frame) with fn:=f,kind:=kind,roundOf:=none })) _ [] w :=
   ⟨k0c ha hn,.nil,hR,hG,rfl⟩
  obtain ⟨φ1,tm1,ds1,w1,r1,s1,e1⟩:=B9 hM hC hY hD c _ _ _ _ _ hcode φ _ _ _ w s0 [] cs
  have henter:Frame.enter P f ⟨args'⟩ kind=mk { (default:Frame) with fn:=f,kind:=kind,roundOf:=none } ((⟨args'⟩:Array Value)++Array.replicate (fn.ntmps - (⟨args'⟩:Array Value).size) undef) [] [.code c]:=by
   simp [Frame.enter,mk,hf,hb]
  rw [← henter] at r1
  have key:∀ (v:AV) (h':AH),(∃ todo,Steps P (lone (Frame.enter P f ⟨args'⟩ kind) cs w) (lone (lv { (default:Frame) with fn:=f,kind:=kind,roundOf:=none } tm1 ds1 todo) cs w1)) →
    (match H9 dcall a1.ds h1 with
     | .ok h=>match I8 P h a1 fn.results.toList with
      | .ok l=>(.ok (a0n l,h):R (AV×AH))
      | .error e=>.error (fn.name++": "++e)
     | .error e=>.error (fn.name++": "++e))=.ok (v,h') →
    ∃ v' w' fr fn',(∃ φ',Con φ' v v'∧Rel B w0 φ' h' w'∧Ext φ h φ' h')∧Steps P (lone (Frame.enter P f ⟨args'⟩ kind) cs w) (lone fr cs w') ∧
     fr.fn=f∧fr.mode=.returning∧fr.defers=[]∧fr.kind=kind∧P.funcs[fr.fn]? = some fn'∧(results fn' fr.tmps).run P w'=.ok v' w':=by
   rintro v h' ⟨todo,hst⟩ he
   split at he
   ·rename_i h2 hrd
    obtain ⟨φ2,w2,st,R2,X2⟩:=d0o hF (b:={ (default:Frame) with fn:=f,kind:=kind,roundOf:=none }) (tm:=tm1) (todo:=todo) (cs:=cs) _ _ _ _ _ _ hrd s1.defs s1.rel s1.glob
    split at he
    ·rename_i l hl
     cases he
     obtain ⟨v',hv1,hv2⟩:=h0N (s1.act.mono X2.le) R2 hl
     exact ⟨v',w2,_,fn,⟨φ2,hv2,R2,e1.trans X2⟩,hst.trans st,rfl,rfl,rfl,rfl,hf,hv1⟩
    ·cases he
   ·cases he
  split at he
  ·exact key _ _ ⟨_,Steps.trans r1 (.one (go_end rfl))⟩ he
  ·obtain ⟨k1,r1⟩:=r1
   exact key _ _ ⟨_,Steps.trans r1 (.one (go_ret rfl))⟩ he
  ·cases he
 ·cases he
theorem k0d (params:Array Tmp) (args:List Value) (tm:Array Value) :
  (params.zip ⟨args⟩).foldl (fun tmps (t,a)=>tmps.setIfInBounds t a) tm=(params.toList.zip args).foldl (fun tm (t,v)=>tm.setIfInBounds t v) tm:=by
 rw [← Array.foldl_toList,Array.toList_zip]
theorem q0J {call:E0} (hM:P.follows .mixedOrders=true) (hC:a0Y P B w0 call) (hY:Z0 P B w0 call) (hD:i0l P B w0 call) {l:Nat} {r:ALoop} {args:List AV} {v:AV}
  (hg:h.get l=some (.loop r)) (he:e0d P call lf l r args h=.ok (v,h')) {p:Pl} {args':List Value} (hp:φ l=some p) (ha:ConL φ args args') (hG:GlobRel P φ) (hR:Rel B w0 φ h w) :
  ∃ fn tmps assign body,(Instr.yield p.blk ⟨args'⟩).run P w=.ok (.round p.blk fn tmps assign body) w ∧
   ∀ c cs,∃ v' φ' w',Steps P (lone (Frame.round p.blk fn tmps assign body .normal) (c::cs) w) (lone (c.finish v') cs w')∧Con φ' v v'∧Rel B w0 φ' h' w'∧Ext φ h φ' h':=by
 obtain ⟨r',hr1,hr2⟩:=(hR.obj _ _ _ hp hg).loop_get
 unfold e0d at he
 cases hlen:Nat.beq args.length r.params.size with
 | false=>rw [hlen] at he;cases he
 | true =>
  rw [hlen] at he
  simp only [cond_true] at he
  have hlen:=Nat.eq_of_beq_eq_true hlen
  have hsz:(⟨args'⟩:Array Value).size=r'.params.size:=by rw [hr2.params,← hlen,ha.length];rfl
  refine ⟨_,_,_,_,run_yield hr1 hsz,fun c cs=>?_⟩
  rw [k0d,hr2.params,hr2.assign,hr2.body]
  have hA0:ActRel φ ⟨r.n,r.tmps,[],true⟩ r'.tmps:=⟨hr2.size,fun i=>hr2.tmps i⟩
  obtain ⟨hA1,hds,hrd⟩:=c04 r.params.toList args args' _ _ hA0 ha
  generalize hb:({ (default:Frame) with fn:=r'.fn,kind:=.normal,roundOf:=some p.blk }:Frame)=b
  have s0:St P B w0 φ (Q9 r.params.toList args ⟨r.n,r.tmps,[],true⟩) h b.roundOf.isSome _ [] w:=⟨hA1,by rw [hds];exact .nil,hR,hG,by rw [hrd];subst hb;rfl⟩
  generalize (List.foldl (fun tm (x:Tmp×Value)=>tm.setIfInBounds x.fst x.snd) r'.tmps (r.params.toList.zip args'))=tm0 at *
  have hround:Frame.round p.blk r'.fn tm0 r.assign r.body .normal=mk b tm0 [] (.code r.assign::[.beginRound,.code r.body]):=by subst hb;rfl
  split at he
  ·rename_i a1 h1 hassign
   obtain ⟨φ1,tm1,ds1,w1,r1,s1,e1⟩:=B9 hM hC hY hD _ _ _ _ _ _ hassign φ b tm0 [] w s0 [.beginRound,.code r.body] (c::cs)
   rw [← hround] at r1
   have hp1:=e1.le _ _ hp
   split at he
   ·rename_i q hg1
    obtain ⟨q',hq1,hq2⟩:=(s1.rel.obj _ _ _ hp1 hg1).loop_get
    split at he
    ·rename_i hst
     have hbr:b.roundOf=some p.blk:=by subst hb;rfl
     have hbk:b.kind=.normal:=by subst hb;rfl
     have st2:step P (lone (mk b tm1 ds1 [.beginRound,.code r.body]) (c::cs) w1)=.next (lone (mk b tm1 ds1 [.code r.body]) (c::cs) (w1.putObj p.blk (.loop { q' with state:=.busy }))) :=
      stepR_beginRound (a:=⟨tm1,ds1⟩) hbr (run_beginRound hq1 (by rw [hq2.state];exact hst))
     have hpe:q'.pending=q.pending:=hq2.pending
     have R2:Rel B w0 φ1 (h1.set l (.loop { q with state:=.busy })) (w1.putObj p.blk (.loop { q' with state:=.busy })):=by
      have:=s1.rel.putLoop hp1 hg1 hq2 .busy q.pending
      rw [show ({ q' with state:=.busy,pending:=q.pending }:Loop)={ q' with state:=.busy } from by rw [← hpe]] at this
      exact this
     have X2:Ext φ1 h1 φ1 (h1.set l (.loop { q with state:=.busy })):=.write hp1 _
     have s2:St P B w0 φ1 a1 (h1.set l (.loop { q with state:=.busy })) b.roundOf.isSome tm1 ds1 (w1.putObj p.blk (.loop { q' with state:=.busy })):=⟨s1.act,s1.defs,R2,s1.glob,s1.rd⟩
     have st3:=Steps.trans r1 (.one st2)
     generalize hres:n9 P call lf r.body a1 (h1.set l (.loop { q with state:=.busy }))=res at he
     unfold c0P at he
     split at he
     ·rename_i x a2 h2
      split at he
      ·split at he
       ·rename_i z hg2
        obtain ⟨φ3,tm3,ds3,w3,r3,s3,e3⟩:=B9 hM hC hY hD _ _ _ _ _ _ hres φ1 b tm1 ds1 _ s2 [] (c::cs)
        have hp3:=e3.le _ _ hp1
        obtain ⟨z',hz1,hz2⟩:=(s3.rel.obj _ _ _ hp3 hg2).loop_get
        have X:=e1.trans (X2.trans e3)
        split at he
        ·cases he
         refine ⟨.bool true,φ3,_,st3.trans (Steps.trans r3 (.one (stepR_round_end (a:=⟨tm3,ds3⟩) hbr hbk (run_endRound none hz1)))),.bool true,s3.rel.putLoop hp3 hg2 hz2 .ready none,X.trans (.write hp3 _)⟩
        ·cases he
         obtain ⟨k1,r3⟩:=r3
         refine ⟨.bool false,φ3,_,st3.trans (Steps.trans r3 (.one (stepR_round_ret (a:=⟨tm3,ds3⟩) hbr hbk (run_endRound (some .ret) hz1)))),.bool false,s3.rel.putLoop hp3 hg2 hz2 .done (some .ret),X.trans (.write hp3 _)⟩
        ·rename_i id;cases he
         obtain ⟨k1,hk1,r3⟩:=r3
         refine ⟨.bool false,φ3,_,st3.trans (Steps.trans r3 (.one (stepR_round_exit (a:=⟨tm3,ds3⟩) hbr hbk (by rw [hk1];rfl) (run_endRound (some (.exit id)) hz1)))),.bool false,s3.rel.putLoop hp3 hg2 hz2 .done (some (.exit id)),X.trans (.write hp3 _)⟩
        ·cases he
       ·cases he
      ·cases he
     ·cases he
    ·cases he
   ·cases he
  ·cases he
  ·cases he
theorem k0e (hM:P.follows .mixedOrders=true) (hN:∀ (f:Nat) fn,P.funcs[f]? = some fn→fn.body.isSome=true→fn.name≠"runtime.NumGoroutine") (hS:c0a P B w0 S)
  (hD:∀ call,a0Y P B w0 call→Z0 P B w0 call→i0l P B w0 call):∀ n,a0Y P B w0 (A3 P S lf n)∧Z0 P B w0 (A3 P S lf n)∧o0p P B w0 (b0a S (A3 P S lf n))
 | 0=>⟨fun f args h v h' e=>(by cases e),fun l args h v h' e=>(by cases e),fun f args h v h' e=>(by unfold b0a at e;simp only at e;split at e <;> cases e)⟩
 | n+1=>by
  obtain ⟨hC,hY,hF⟩:=k0e hM hN hS hD n
  have hDr:=hD _ hC hY
  have body:∀ (kind:CallKind) (f:FuncId) args h v h',S f=none→A3 P S lf (n+1) (.fn f) args h=.ok (v,h')→∀ φ w args',ConL φ args args'→GlobRel P φ→Rel B w0 φ h w →
    (∀ w,(callFunc f ⟨args'⟩).run P w=.ok (.enter f ⟨args'⟩) w)∧CallsK P kind f ⟨args'⟩ w (fun v' w'=>∃ φ',Con φ' v v'∧Rel B w0 φ' h' w'∧Ext φ h φ' h'):=by
   intro kind f args h v h' hs e φ w args' ha hG hR
   unfold A3 at e
   rw [hs] at e
   simp only at e
   split at e
   ·rename_i fn hf
    split at e
    ·rename_i c hb
     cases hle:Nat.ble args.length fn.ntmps with
     | false=>rw [hle] at e;cases e
     | true =>
      rw [hle] at e
      simp only [cond_true] at e
      exact ⟨fun w=>P5 hN hf (by rw [hb];rfl) w,v0y hF hM hC hY hDr hf hb (Nat.le_of_ble_eq_true hle) e ha hG hR⟩
    ·cases e
   ·cases e
  refine ⟨fun f args h v h' e φ w args' ha hG hR=>?_,fun l args h v h' e φ w p args' hp ha hG hR=>?_,fun f args h v h' e φ w args' ha hG hR=>?_⟩
  ·cases hs:S f with
   | some g =>
    unfold A3 at e
    rw [hs] at e
    exact hS _ _ hs _ _ _ _ e _ _ _ ha hG hR
   | none=>exact body _ _ _ _ _ _ hs e _ _ _ ha hG hR
  ·unfold A3 at e
   split at e
   ·rename_i r hg
    exact q0J hM hC hY hDr hg e hp ha hG hR
   ·cases e
  ·unfold b0a at e
   simp only at e
   split at e
   ·cases e
   ·rename_i hs
    exact body _ _ _ _ _ _ hs e _ _ _ ha hG hR
end
end Go.Dr

namespace Go.Dr
open Go.RowKit
variable {P:Program} {B:Nat} {w0 w w':World} {φ φ':Phi} {h h':AH}
theorem Phi.le.same (hle:φ.le φ') {i:Nat} {p q:Pl} (h:φ i=some p) (h':φ' i=some q):φ i=some q:=by
 have:=hle _ _ h;rw [this] at h';cases h';exact h
mutual
theorem Con.back (hle:φ.le φ'):∀ {x:AV} {y y':Value},Con φ x y'→Con φ' x y→Con φ x y
 | _,_,_,.bool b,h=>by cases h;exact .bool _
 | _,_,_,.int k n,h=>by cases h;exact .int _ _
 | _,_,_,.str s,h=>by cases h;exact .str _
 | _,_,_,.nilp,h=>by cases h;exact .nilp
 | _,_,_,.ptr h1,h=>by cases h with | ptr h2=>exact .ptr (hle.same h1 h2)
 | _,_,_,.nils,h=>by cases h;exact .nils
 | _,_,_,.slice h1 _ _ _ _,h=>by cases h with | slice h2 a b c d=>exact .slice (hle.same h1 h2) a b c d
 | _,_,_,.nilm,h=>by cases h;exact .nilm
 | _,_,_,.map h1,h=>by cases h with | map h2=>exact .map (hle.same h1 h2)
 | _,_,_,.nilf,h=>by cases h;exact .nilf
 | _,_,_,.func ha hb,h=>by cases h with | func h1 h2=>exact .func (ha.back hle h1) (hb.back hle h2)
 | _,_,_,.yield h1,h=>by cases h with | yield h2=>exact .yield (hle.same h1 h2)
 | _,_,_,.nili,h=>by cases h;exact .nili
 | _,_,_,.iface h1,h=>by cases h with | iface h2=>exact .iface (h1.back hle h2)
 | _,_,_,.agg h1,h=>by cases h with | agg h2=>exact .agg (h1.back hle h2)
 | _,_,_,.tuple h1,h=>by cases h with | tuple h2=>exact .tuple (h1.back hle h2)
 | _,_,_,.raw h1 e1,h=>by cases h with | raw h2 e2=>exact .raw h2 (by rw [← hle.raw];exact e2)
theorem ConL.back (hle:φ.le φ'):∀ {x:List AV} {y y':List Value},ConL φ x y'→ConL φ' x y→ConL φ x y
 | _,_,_,.nil,h=>by cases h;exact .nil
 | _,_,_,.cons h1 h2,h=>by cases h with | cons h3 h4=>exact .cons (h1.back hle h3) (h2.back hle h4)
end
theorem ConE.back (hle:φ.le φ'):∀ {x:List AEntry} {y y':List MapEntry},ConE φ x y'→ConE φ' x y→ConE φ x y
 | _,_,_,.nil,h=>by cases h;exact .nil
 | _,_,_,.cons h1 h2 h3 h4,h=>by
  cases h with | cons g1 g2 g3 g4=>exact .cons (h1.back hle g1) (h2.back hle g2) g3 (ConE.back hle h4 g4)
theorem ObjRel.back (hle:φ.le φ') {p:Pl} {o:AObj} (h:ObjRel φ w p o) (h':ObjRel φ' w' p o):ObjRel φ w' p o:=by
 cases o with
 | cells vs ro =>
  obtain ⟨c,e,lo,hi,h1,h2,h3,h4,h5⟩:=h
  obtain ⟨c',e',lo',hi',g1,g2,g3,g4,g5⟩:=h'
  refine ⟨c',e',lo',hi',g1,g2,g3,fun i x hx=>?_,g5⟩
  obtain ⟨y,_,hy⟩:=h4 i x hx
  obtain ⟨z,hz,hc⟩:=g4 i x hx
  exact ⟨z,hz,hy.back hle hc⟩
 | map l clock =>
  obtain ⟨es,h1,h2⟩:=h
  obtain ⟨es',g1,g2⟩:=h'
  exact ⟨es',g1,h2.back hle g2⟩
 | loop r =>
  obtain ⟨r1,h1,h2⟩:=h
  obtain ⟨r2,g1,g2⟩:=h'
  exact ⟨r2,g1,{ g2 with tmps:=fun i=>(h2.tmps i).back hle (g2.tmps i) }⟩
 | deferred ds =>
  cases ds with
  | none=>exact h'
  | some l=>cases l <;> exact h'
 | siter s pos=>exact h'
 | miter m since seen stepped =>
  obtain ⟨h0,m1,h1,h2⟩:=h
  obtain ⟨g0,m2,g1,g2⟩:=h'
  refine ⟨g0,m2,g1,?_⟩
  cases m with
  | none=>exact g2
  | some id =>
   obtain ⟨q,hq,hm⟩:=h2
   obtain ⟨q',hq',hm'⟩:=g2
   exact ⟨q',hle.same hq hq',hm'⟩
def Fresh (φ:Phi) (o:AObj):Prop:=o=.map [] 0∨∃ l vs,o=.cells l false∧ConL φ l vs
theorem Fresh.back (hle:φ.le φ') {p:Pl} {o:AObj} (hf:Fresh φ o) (h':ObjRel φ' w' p o):ObjRel φ w' p o:=by
 rcases hf with rfl | ⟨l,vs,rfl,hl⟩
 ·obtain ⟨es',g1,g2⟩:=h'
  cases g2
  exact ⟨_,g1,.nil⟩
 ·obtain ⟨c',e',lo',hi',g1,g2,g3,g4,g5⟩:=h'
  refine ⟨c',e',lo',hi',g1,g2,g3,fun i x hx=>?_,g5⟩
  obtain ⟨y,_,hy⟩:=hl.get i x hx
  obtain ⟨z,hz,hc⟩:=g4 i x hx
  exact ⟨z,hz,hy.back hle hc⟩
def Shape (mkv:Nat→AV):Prop:=(mkv=fun i=>.ptr i 0)∨(mkv=fun i=>.map i)∨∃ len cap x es,mkv=fun i=>.slice i 0 len cap x es
theorem Shape.laid {mkv:Nat→AV} (hs:Shape mkv) {i:Nat} {v:Value} (h:Con φ (mkv i) v):∃ p,φ i=some p:=by
 rcases hs with rfl | rfl | ⟨len,cap,x,es,rfl⟩
 ·cases h with | ptr h=>exact ⟨_,h⟩
 ·cases h with | map h=>exact ⟨_,h⟩
 ·cases h with | slice h _ _ _ _=>exact ⟨_,h⟩
theorem Shape.move {mkv:Nat→AV} (hs:Shape mkv) {i j:Nat} {v:Value} {p:Pl} (h:Con φ (mkv i) v) (hi:φ i=some p) {ψ:Phi} (hj:ψ j=some p):Con ψ (mkv j) v:=by
 rcases hs with rfl | rfl | ⟨len,cap,x,es,rfl⟩
 ·cases h with | ptr h=>rw [hi] at h;cases h;exact .ptr hj
 ·cases h with | map h=>rw [hi] at h;cases h;exact .map hj
 ·cases h with | slice h a b c d=>rw [hi] at h;cases h;exact .slice hj a b c d
theorem t0N {mkv:Nat→AV} {O:AObj} {v':Value} {id:Nat} (hs:Shape mkv) (hf:Fresh φ O) (R:Rel B w0 φ h w) (R':Rel B w0 φ' (h.push O) w') (X:Ext φ h φ' (h.push O)) (hv:Con φ' (mkv h.next) v')
  (hid:φ id=none) (hlt:id<h.next) (hget:h.get id=some O):∃ p,Con (φ.set id p) (mkv id) v'∧Rel B w0 (φ.set id p) h w':=by
 obtain ⟨p,hp⟩:=hs.laid hv
 have hgn:(h.push O).get h.next=some O:=by rw [AH.get_push,if_pos rfl]
 have hO:ObjRel φ w' p O:=hf.back X.le (R'.obj _ _ _ hp hgn)
 have hold:∀ j q oj,φ j=some q→h.get j=some oj→φ' j=some q∧(h.push O).get j=some oj∧j≠h.next:=by
  intro j q oj e1 e2
  have hj:=R.lt _ _ e1
  exact ⟨X.le _ _ e1,by rw [AH.get_push,if_neg (Nat.ne_of_lt hj)];exact e2,Nat.ne_of_lt hj⟩
 have Rw:Rel B w0 φ h w':=by
  refine ⟨R.lt,fun i q o e e'=>?_,R.own,R.inj,R'.below,R.base⟩
  obtain ⟨a,b,_⟩:=hold i q o e e'
  exact (R.obj _ _ _ e e').back X.le (R'.obj _ _ _ a b)
 refine ⟨p,hs.move hv hp (Phi.set_same _ _ _),Rw.lay hlt hid hget (hO.mono (Phi.le_set _ hid)) (fun hw=>R'.own _ _ _ hp hgn hw) fun j q oj e1 e2 hw=>?_⟩
 obtain ⟨a,b,c⟩:=hold j q oj e1 e2
 exact R'.inj _ _ _ _ _ _ c a hp b hgn hw.symm
end Go.Dr

namespace Go.Dr
open Go.RowKit
variable {P:Program} {B:Nat} {w0 w w':World} {φ φ':Phi} {h h':AH} {a a':AAct}
theorem CO.ev_congr {x:CO} (hx:∀ t ∈ x.reads,a.val t=a'.val t):x.ev a=x.ev a':=by
 cases x with
 | t i=>exact hx i (by simp [CO.reads])
 | c v=>rfl
theorem e0M:∀ {l:List CO},(∀ t ∈ h0c l,a.val t=a'.val t)→evL a l=evL a' l
 | [],_=>rfl
 | x::l,hx=>by
  simp only [h0c,List.mem_append] at hx
  rw [evL,evL,CO.ev_congr fun t ht=>hx t (.inl ht),e0M fun t ht=>hx t (.inr ht)]
theorem a0z {x:Option CO} (hx:∀ t ∈ f0t x,a.val t=a'.val t):d06 a x=d06 a' x:=by
 cases x with
 | none=>rfl
 | some x=>simp only [d06];rw [CO.ev_congr hx]
theorem h0P:∀ {pl:List (Nat×Nat×CO)} {z:List AV},(∀ t ∈ k07 pl,a.val t=a'.val t)→d0z a z pl=d0z a' z pl
 | [],_,_=>rfl
 | (o,s,x)::pl,z,hx=>by
  simp only [k07,List.mem_append] at hx
  simp only [d0z]
  rw [CO.ev_congr fun t ht=>hx t (.inl ht)]
  simp only [h0P (pl:=pl) fun t ht=>hx t (.inr ht)]
theorem p03 {c:COp} (hx:∀ t ∈ c.reads,a.val t=a'.val t):evC P c a h=evC P c a' h:=by
 cases c <;> simp only [COp.reads,List.mem_append] at hx <;> simp only [evC,d0l,Q2] <;>
  first
   | rfl
   | rw [CO.ev_congr hx]
   | rw [a0z hx]
   | rw [h0P hx]
   | rw [CO.ev_congr fun t ht=>hx t (.inl ht),CO.ev_congr fun t ht=>hx t (.inr ht)]
   | rw [CO.ev_congr fun t ht=>hx t (.inl ht),e0M fun t ht=>hx t (.inr ht)]
   | rw [e0M fun t ht=>hx t (.inl ht),e0M fun t ht=>hx t (.inr ht)]
   | rw [CO.ev_congr fun t ht=>hx t (.inl ht),CO.ev_congr fun t ht=>hx t (.inr (.inl ht)),CO.ev_congr fun t ht=>hx t (.inr (.inr ht))]
   | rw [CO.ev_congr fun t ht=>hx t (.inl ht),a0z fun t ht=>hx t (.inr (.inl ht)),a0z fun t ht=>hx t (.inr (.inr ht))]
   | rw [CO.ev_congr fun t ht=>hx t (.inl ht),a0z fun t ht=>hx t (.inr (.inl ht)),a0z fun t ht=>hx t (.inr (.inr (.inl ht))),a0z fun t ht=>hx t (.inr (.inr (.inr ht)))]
theorem o0i {r:R AV} {n:AN} (hr:m9 h r=.ok (n,h')):∃ v,n=.value v∧h'=h∧∀ H,m9 H r=.ok (.value v,H):=by
 obtain ⟨v,h1,h2,h3⟩:=e0p hr
 exact ⟨v,h2,h3,fun H=>by rw [h1];rfl⟩
theorem a0l {v:AV} {n:AN} (hr:okV v h=.ok (n,h')):∃ v',n=.value v'∧h'=h∧∀ H,okV v H=.ok (.value v',H):=by
 cases hr;exact ⟨_,rfl,rfl,fun _=>rfl⟩
theorem j0U {x:AV} {n:AN} (hr:L1 x h=.ok (n,h')):∃ v',n=.value v'∧h'=h∧∀ H,L1 x H=.ok (.value v',H):=by
 unfold L1 at hr ⊢
 split at hr
 ·exact a0l hr
 ·exact a0l hr
 ·exact a0l hr
 ·split at hr
  ·exact a0l hr
  ·exact a0l hr
  ·cases hr
 ·cases hr
theorem o0O {c:COp} {n:AN} (hk:c.kind=.pure) (hr:evC P c a h=.ok (n,h')):∃ v,n=.value v∧h'=h∧∀ H,evC P c a H=.ok (.value v,H):=by
 cases c <;> simp only [COp.kind] at hk <;> simp only [evC] at hr ⊢ <;>
  first
   | exact o0i hr
   | exact a0l hr
   | exact j0U hr
   | (cases hk;done)
   | skip
 rename_i cv x
 cases cv <;> simp only [J7] at hr ⊢ <;> first | (cases hk;done) | skip
 ·split at hr
  ·exact a0l hr
  ·cases hr
 ·split at hr
  ·exact a0l hr
  ·exact a0l hr
  ·cases hr
theorem j0p {r:R AV} {n:AN} (hr:m9 h r=.ok (n,h')):∃ v,n=.value v∧h'=h:=by
 obtain ⟨v,_,h2,h3⟩:=e0p hr
 exact ⟨v,h2,h3⟩
theorem j0q {v:AV} {n:AN} (hr:okV v h=.ok (n,h')):∃ v',n=.value v'∧h'=h:=by
 cases hr;exact ⟨_,rfl,rfl⟩
theorem l0s {c:COp} {n:AN} (hk:c.kind=.read) (hr:evC P c a h=.ok (n,h')):∃ v,n=.value v∧h'=h:=by
 cases c <;> simp only [COp.kind] at hk <;> simp only [evC] at hr ⊢ <;>
  first
   | exact j0p hr
   | (cases hk;done)
   | skip
 ·rename_i x
  unfold c0l at hr
  split at hr
  ·exact j0p hr
  ·cases hr
 ·unfold A5 at hr
  split at hr
  ·split at hr
   ·exact j0q hr
   ·cases hr
  ·cases hr
 ·rename_i cv x
  cases cv <;> simp only [J7] at hr ⊢ <;> first | (cases hk;done) | skip
  split at hr
  ·exact j0q hr
  ·split at hr
   ·split at hr
    ·split at hr
     ·exact j0q hr
     ·cases hr
    ·cases hr
   ·cases hr
  ·cases hr
theorem j0V {o:Oper} {c:COp} (hk:b0o o c=.alloc):c.kind=.alloc∧b0w o.op=true:=by
 unfold b0o at hk
 split at hk
 ·rename_i e
  cases hb:b0w o.op with
  | true=>exact ⟨e,rfl⟩
  | false=>rw [hb] at hk;cases hk
 ·rename_i hn;exact absurd hk hn
theorem g0E {o:Oper} {c:COp} (hk:b0o o c=.pure):c.kind=.pure:=by
 unfold b0o at hk
 split at hk
 ·cases hb:b0w o.op <;> rw [hb] at hk <;> cases hk
 ·exact hk
theorem d0t {o:Oper} {c:COp} (hk:b0o o c=.read):c.kind=.read:=by
 unfold b0o at hk
 split at hk
 ·cases hb:b0w o.op <;> rw [hb] at hk <;> cases hk
 ·exact hk
def r0M (P:Program) (c:COp) (a:AAct) (h:AH) (n:AN) (h':AH):Prop :=
 ∃ mkv O,Shape mkv∧n=.value (mkv h.next)∧h'=h.push O∧(∀ φ tm,GlobRel P φ→ActRel φ a tm→Fresh φ O)∧∀ H,evC P c a H=.ok (.value (mkv H.next),H.push O)
theorem n0b {o:Oper} {c:COp} {n:AN} (hc:comp P o=.ok c) (hk:b0o o c=.alloc) (hr:evC P c a h=.ok (n,h')) :
  r0M P c a h n h':=by
 obtain ⟨hk,ho⟩:=j0V hk
 unfold b0w at ho
 split at ho
 ·rename_i e hop
  simp only [comp,hop] at hc
  split at hc
  ·rename_i z hz;cases hc
   simp only [evC,B7] at hr ⊢
   cases hr
   obtain ⟨z',_,hz2⟩:=V2 (P:=P) (w:=default) hz
   exact ⟨_,_,.inl rfl,rfl,rfl,fun φ tm hG hA=>.inr ⟨_,_,rfl,(hz2 φ).cells⟩,fun H=>rfl⟩
  ·cases hc
 ·rename_i e x hop
  simp only [comp,hop] at hc
  obtain ⟨ca,ha,hc⟩:=q9 hc
  cases hc
  simp only [evC,B7] at hr ⊢
  cases hr
  exact ⟨_,_,.inl rfl,rfl,rfl,fun φ tm hG hA=>.inr ⟨_,_,rfl,(G1 (ds:=[]) ha hG hA).cells⟩,fun H=>rfl⟩
 ·rename_i t len parts hop
  simp only [comp,hop] at hc
  split at hc
  ·rename_i e ht
   split at hc
   ·rename_i es z hs hz
    split at hc
    ·cases hc
    ·rename_i hne
     split at hc
     ·rename_i l hl;cases hc
      simp only [evC,Q2] at hr ⊢
      split at hr
      ·rename_i q hq;cases hr
       obtain ⟨z',hz1,hz2⟩:=V2 (P:=P) (w:=default) hz
       refine ⟨fun i=>.slice i 0 len len true es,_,.inr (.inr ⟨_,_,_,_,rfl⟩),rfl,rfl,fun φ tm hG hA=>?_,fun H=>by simp only [evC,Q2];rw [hq];rfl⟩
       have hcz:=c0G (φ:=φ) (hz2 φ).cells (Decidable.byContradiction fun e=>hne (.inr (.inr e))) (by have:=fun e=>hne (.inr (.inl e));omega) len
       obtain ⟨l',g1,g2⟩:=d0R (ds:=[]) hG hA hl hq hcz
       exact .inr ⟨_,_,rfl,g2⟩
      ·cases hr
     ·cases hc
   ·cases hc
  ·cases hc
 ·rename_i t r hop
  simp only [comp,hop] at hc
  split at hc
  ·rename_i r' ht hr';cases hc
   simp only [evC] at hr
   unfold e03 at hr
   split at hr
   ·rename_i hv;cases hr;exact ⟨_,_,.inr (.inl rfl),rfl,rfl,fun _ _ _ _=>.inl rfl,fun H=>by simp only [evC,e03,hv];rfl⟩
   ·rename_i hv;cases hr;exact ⟨_,_,.inr (.inl rfl),rfl,rfl,fun _ _ _ _=>.inl rfl,fun H=>by simp only [evC,e03,hv];rfl⟩
   ·cases hr
  ·cases hc
 ·rename_i t l k hop
  simp only [comp,hop] at hc
  obtain ⟨ca,cb,ha,hb,hc⟩:=O8 hc
  split at hc
  ·rename_i e ht
   split at hc
   ·rename_i es bytes z hs hby hz
    split at hc
    ·cases hc
    ·rename_i hne;cases hc
     simp only [evC] at hr
     unfold d05 at hr
     split at hr
     ·rename_i hv1 hv2
      split at hr
      ·rename_i hcond;cases hr
       obtain ⟨z',hz1,hz2⟩:=V2 (P:=P) (w:=default) hz
       have hcz:=fun φ n=>c0G (φ:=φ) (hz2 φ).cells (Decidable.byContradiction fun e=>hne (.inr e)) (by have:=fun e=>hne (.inl e);omega) n
       exact ⟨fun i=>.slice i 0 _ _ true es,_,.inr (.inr ⟨_,_,_,_,rfl⟩),rfl,rfl,fun φ _ _ _=>.inr ⟨_,_,rfl,hcz φ _⟩,fun H=>by simp only [evC,d05,hv1,hv2];rw [if_pos hcond];rfl⟩
      ·cases hr
     ·cases hr
   ·cases hc
  ·cases hc
 ·rename_i s d x hop
  simp only [comp,hop] at hc
  obtain ⟨ca,ha,hc⟩:=q9 hc
  have key:∀ cv,c=.conv cv ca→r0M P c a h n h':=by
   rintro cv rfl
   cases cv with
   | bytes =>
    simp only [evC,J7] at hr
    split at hr
    ·rename_i hv;cases hr
     exact ⟨fun i=>.slice i 0 _ _ false 1,_,.inr (.inr ⟨_,_,_,_,rfl⟩),rfl,rfl,fun _ _ _ _=>.inr ⟨_,_,rfl,Y6 _⟩,fun H=>by simp only [evC,J7,hv];rfl⟩
    ·cases hr
   | runes =>
    simp only [evC,J7] at hr
    split at hr
    ·rename_i hv
     split at hr
     ·rename_i hle
      simp only [o8] at hr
      cases hr
      refine ⟨fun i=>.slice i 0 _ _ false 1,_,.inr (.inr ⟨_,_,_,_,rfl⟩),rfl,rfl,fun φ _ _ _=>?_,fun H=>by simp only [evC,J7,hv,if_pos hle,o8];rfl⟩
      obtain ⟨vs,_,e2⟩:=d0U (φ:=φ) _ _ _ #[]
      exact .inr ⟨_,_,rfl,e2⟩
     ·cases hr
    ·cases hr
   | int k=>cases hk
   | str=>cases hk
   | strB=>cases hk
  split at hc
  ·cases hc;exact key _ rfl
  ·split at hc
   ·split at hc
    ·cases hc;exact key _ rfl
    ·cases hc
   ·cases hc;exact key _ rfl
   ·cases hc;exact key _ rfl
   ·cases hc
  ·split at hc
   ·cases hc;exact key _ rfl
   ·cases hc;exact key _ rfl
   ·cases hc
  ·cases hc
 ·cases ho
end Go.Dr

namespace Go.Dr
open Go.RowKit
variable {P:Program} {call:E0} {ops:Array Oper} {W:Nat}
theorem g0A (m i:Nat):G9 m i=m.testBit i:=by
 unfold G9 Nat.testBit
 have e:Nat.land (Nat.shiftRight m i) 1=(m >>> i)%2:=Nat.and_one_is_mod _
 have e2:(1 &&& m >>> i)=(m >>> i)%2:=by rw [Nat.and_comm];exact Nat.and_one_is_mod _
 rw [e,e2]
 rcases Nat.mod_two_eq_zero_or_one (m >>> i) with h | h <;> rw [h] <;> rfl
theorem e0K (i:Nat):G9 0 i=false:=by rw [g0A];simp
theorem L8 (a b i:Nat):G9 (Nat.lor a b) i=(G9 a i||G9 b i):=by
 rw [g0A,g0A,g0A];exact Nat.testBit_or a b i
theorem b03 (i j:Nat):G9 (j0O i) j=true↔i=j:=by
 rw [g0A]
 have:j0O i=2 ^ i:=by show 1 <<< i=_;rw [Nat.one_shiftLeft]
 rw [this,Nat.testBit_two_pow];simp
theorem m0Z {a b i:Nat} (hs:p0E a b=true) (hi:G9 a i=true):G9 b i=true:=by
 have:=Nat.eq_of_beq_eq_true hs
 rw [← this,L8,hi];rfl
theorem k0x {d:Option Tmp} {t:Nat}:G9 (r0b d) t=true↔d=some t:=by
 cases d with
 | none=>simp [r0b,e0K]
 | some d=>simp only [r0b,b03,Option.some.injEq]
inductive Anc (ops:Array Oper):Nat→Nat→Prop
 | one {i:Nat} {o:Oper} {e:Edge} (ho:ops[i]? = some o) (he:e ∈ o.after.toList) (hb:X9 e=true):Anc ops i e.on
 | more {i k:Nat} {o:Oper} {e:Edge} (ho:ops[i]? = some o) (he:e ∈ o.after.toList) (hb:X9 e=true) (h:Anc ops e.on k):Anc ops i k
def b0e (ops:Array Oper) (j:Nat):Option Tmp:=(ops[j]?).bind (·.dst)
structure RowOk (P:Program) (ops:Array Oper) (r:DRow):Prop where
 get:ops[r.i]? = some r.o
 comp:comp P r.o=.ok r.c
 kind:r.k=b0o r.o r.c
 af:r.af=b0x r.o.after.toList
 rd:r.rd=d0m ops r.o++r.c.reads
theorem RowOk.dst {r:DRow} (h:RowOk P ops r):b0e ops r.i=r.o.dst:=by simp [b0e,h.get]
theorem g0B:∀ {l:List Edge} {e:Edge},e ∈ l→X9 e=true→G9 (b0x l) e.on=true
 | x::l,e,he,hb=>by
  simp only [b0x]
  rcases List.mem_cons.1 he with rfl | he
  ·rw [hb,cond_true,L8,(b03 _ _).2 rfl];rfl
  ·have:=g0B he hb
   cases X9 x
   ·exact this
   ·rw [cond_true,L8,this,Bool.or_true]
structure Cel where
 r:DRow
 a:AAct
 h:AH
structure InvSt (ops:Array Oper) (W:Nat) (pre:List Cel) (st:DSt):Prop where
 done:∀ i,G9 st.done i=true→∃ c ∈ pre,c.r.i=i
 hv:∀ c ∈ pre,c.r.k.isHeavy=true→G9 st.hv c.r.i=true
 wr:∀ c ∈ pre,∀ d,c.r.o.dst=some d→G9 st.wr d=true
 tbl:∀ i x y,st.tbl.get i=some (x,y)→(∀ j,G9 x j=true→j=i∨Anc ops i j)∧(∀ t,G9 y t=true→∃ j,(j=i∨Anc ops i j)∧b0e ops j=some t)
 rs:∀ c ∈ pre,c.r.k.isRead=true→c.r ∈ st.rs∨∃ c2 ∈ pre,c2.r.k.isHeavy=true∧(c.r.i=c2.r.i∨Anc ops c2.r.i c.r.i)
 old:∀ c ∈ pre,∀ t ∈ c.r.rd,G9 W t=true→(∃ j,Anc ops c.r.i j∧b0e ops j=some t)∨(t,c.r.i) ∈ st.old
theorem m00 {t:PT (Nat×Nat)} (ht:∀ i x y,t.get i=some (x,y)→(∀ j,G9 x j=true→j=i∨Anc ops i j)∧(∀ s,G9 y s=true→∃ j,(j=i∨Anc ops i j)∧b0e ops j=some s))
  {i:Nat} {o:Oper} (ho:ops[i]? = some o):∀ {l:List Edge},(∀ e ∈ l,e ∈ o.after.toList) →
   (∀ j,G9 (g0n t l).1 j=true→Anc ops i j)∧(∀ s,G9 (g0n t l).2 s=true→∃ j,Anc ops i j∧b0e ops j=some s)
 | [],_=>by simp [g0n,e0K]
 | e::l,hl=>by
  obtain ⟨i1,i2⟩:=m00 ht ho (l:=l) fun x hx=>hl x (List.mem_cons_of_mem _ hx)
  simp only [g0n]
  cases hb:X9 e with
  | false=>exact ⟨i1,i2⟩
  | true =>
   simp only [cond_true]
   split
   ·rename_i x' y' hg
    obtain ⟨t1,t2⟩:=ht _ _ _ hg
    have hmem:=hl e (List.mem_cons_self)
    have up:∀ {j},j=e.on∨Anc ops e.on j→Anc ops i j:=by
     rintro j (rfl | hj)
     ·exact .one ho hmem hb
     ·exact .more ho hmem hb hj
    refine ⟨fun j hj=>?_,fun s hs=>?_⟩
    ·simp only [L8,Bool.or_eq_true] at hj
     rcases hj with hj | hj
     ·exact i1 _ hj
     ·exact up (t1 _ hj)
    ·simp only [L8,Bool.or_eq_true] at hs
     rcases hs with hs | hs
     ·exact i2 _ hs
     ·obtain ⟨j,hj,hd⟩:=t2 _ hs
      exact ⟨j,up hj,hd⟩
   ·exact ⟨i1,i2⟩
theorem j0l {D wr:Nat}:∀ {l:List Nat},e0E W D wr l=true→∀ t ∈ l,G9 W t=true→G9 D t=true∨G9 wr t=false
 | x::l,h,t,ht,hw=>by
  simp only [e0E] at h
  rcases List.mem_cons.1 ht with rfl | ht
  ·rw [hw] at h
   simp only [cond_true,Bool.and_eq_true,Bool.or_eq_true,Bool.not_eq_true'] at h
   exact h.1
  ·refine j0l (l:=l) ?_ t ht hw
   cases hx:G9 W x
   ·rw [hx] at h;exact h
   ·rw [hx] at h
    simp only [cond_true,Bool.and_eq_true] at h
    exact h.2
theorem m01 {D i:Nat}:∀ {l:List Nat},∀ t ∈ l,G9 W t=true→G9 D t=true∨(t,i) ∈ e0c W D i l
 | x::l,t,ht,hw=>by
  simp only [e0c]
  rcases List.mem_cons.1 ht with rfl | ht
  ·cases hd:G9 D t
   ·right;rw [hw];exact List.mem_cons_self
   ·exact .inl rfl
  ·rcases m01 (D:=D) (i:=i) t ht hw with h | h
   ·exact .inl h
   ·right
    cases (Bool.and (G9 W x) (Bool.not (G9 D x)))
    ·exact h
    ·exact List.mem_cons_of_mem _ h
theorem r0C {d x i:Nat} (l:List (Nat×Nat)):m0A d x i l=true→∀ j,(d,j) ∈ l→j=i∨G9 x j=true:=by
 induction l with
 | nil=>intro _ j hj;cases hj
 | cons q l ih =>
  intro h j hj
  obtain ⟨t,k⟩:=q
  simp only [m0A] at h
  rcases List.mem_cons.1 hj with e | hj
  ·cases e
   rw [Nat.beq_refl] at h
   simp only [cond_true,Bool.and_eq_true,Bool.or_eq_true] at h
   rcases h.1 with h | h
   ·exact .inl (Nat.eq_of_beq_eq_true h)
   ·exact .inr h
  ·refine ih ?_ j hj
   cases hx:Nat.beq t d
   ·rw [hx] at h;exact h
   ·rw [hx] at h
    simp only [cond_true,Bool.and_eq_true] at h
    exact h.2
theorem p0X {x:Nat} (l:List DRow):∀ r ∈ l,G9 x r.i=true∨r ∈ i07 x l:=by
 induction l with
 | nil=>intro r hr;cases hr
 | cons y l ih =>
  intro r hr
  simp only [i07]
  rcases List.mem_cons.1 hr with rfl | hr
  ·cases G9 x r.i
   ·right;exact List.mem_cons_self
   ·exact .inl rfl
  ·rcases ih r hr with h | h
   ·exact .inl h
   ·right
    cases G9 x y.i
    ·exact List.mem_cons_of_mem _ h
    ·exact h
structure Fact (P:Program) (ops:Array Oper) (W:Nat) (pre:List Cel) (r:DRow):Prop where
 row:RowOk P ops r
 hv:∀ c ∈ pre,c.r.k.isHeavy=true→Anc ops r.i c.r.i
 rd:∀ t ∈ r.rd,G9 W t=true→(∃ j,Anc ops r.i j∧b0e ops j=some t)∨(r.k.isRead=false∧∀ c ∈ pre,c.r.o.dst≠some t)
 old:∀ d,r.o.dst=some d→G9 W d=true→∀ c ∈ pre,d ∈ c.r.rd→(∃ j,Anc ops c.r.i j∧b0e ops j=some d)∨c.r.i=r.i∨Anc ops r.i c.r.i
theorem u0A {pre:List Cel} {st st':DSt} {r:DRow} (I:InvSt ops W pre st) (hr:RowOk P ops r) (hp:st.put W r=.ok st') (a:AAct) (h:AH) :
  Fact P ops W pre r∧InvSt ops W (pre++[⟨r,a,h⟩]) st':=by
 unfold DSt.put at hp
 simp only [o8] at hp
 obtain ⟨A1,A2⟩:=m00 I.tbl hr.get (l:=r.o.after.toList) fun e he=>he
 generalize (g0n st.tbl r.o.after.toList).1=x at *
 generalize (g0n st.tbl r.o.after.toList).2=y at *
 cases hc:(p0E st.hv x&&(e0E W y st.wr r.rd&&(q09 r.o.dst x r.i (e0c W y r.i r.rd++st.old)&&(!r.k.isRead||r0a (e0c W y r.i r.rd))))) with
 | false=>rw [hc] at hp;cases hp
 | true =>
  rw [hc] at hp
  cases hp
  simp only [Bool.and_eq_true] at hc
  obtain ⟨c1,c2,c3,c4⟩:=hc
  have X:∀ j,G9 (x.lor (j0O r.i)) j=true→j=r.i∨Anc ops r.i j:=by
   intro j hj
   rw [L8,Bool.or_eq_true,b03] at hj
   rcases hj with hj | hj
   ·exact .inr (A1 _ hj)
   ·exact .inl hj.symm
  have rdd:∀ t ∈ r.rd,G9 W t=true→(∃ j,Anc ops r.i j∧b0e ops j=some t)∨(t,r.i) ∈ e0c W y r.i r.rd:=fun t ht hw=>by
   rcases m01 (D:=y) (i:=r.i) t ht hw with h1 | h1
   ·exact .inl (A2 _ h1)
   ·exact .inr h1
  refine ⟨⟨hr,fun c hc hh=>A1 _ (m0Z c1 (I.hv c hc hh)),fun t ht hw=>?_,fun d hd hw c hc ht=>?_⟩,⟨fun i hi=>?_,fun c hc hh=>?_,fun c hc d hd=>?_,fun i x' y' hg=>?_,fun c hc hh=>?_,fun c hc t ht hw=>?_⟩⟩
  ·rcases rdd t ht hw with h1 | h1
   ·exact .inl h1
   ·rcases j0l c2 t ht hw with h2 | h2
    ·exact .inl (A2 _ h2)
    ·refine .inr ⟨?_,fun c hc e=>?_⟩
     ·cases hk:r.k.isRead with
      | false=>rfl
      | true =>
       rw [hk] at c4
       simp only [Bool.not_true,Bool.false_or] at c4
       generalize e0c W y r.i r.rd=ol at h1 c4
       cases ol with
       | nil=>cases h1
       | cons _ _=>cases c4
     ·rw [I.wr c hc t e] at h2;cases h2
  ·rcases I.old c hc d ht hw with h1 | h1
   ·exact .inl h1
   ·rw [hd] at c3
    rcases r0C _ c3 _ (List.mem_append_right _ h1) with h2 | h2
    ·exact .inr (.inl h2)
    ·exact .inr (.inr (A1 _ h2))
  ·simp only [L8,Bool.or_eq_true,b03] at hi
   rcases hi with hi | hi
   ·obtain ⟨c,h1,h2⟩:=I.done i hi
    exact ⟨c,List.mem_append_left _ h1,h2⟩
   ·exact ⟨_,List.mem_append_right _ (List.mem_singleton.2 rfl),hi⟩
  ·rcases List.mem_append.1 hc with hc | hc
   ·have:=I.hv c hc hh
    simp only
    cases r.k.isHeavy
    ·exact this
    ·rw [cond_true,L8,this];rfl
   ·obtain rfl:=List.mem_singleton.1 hc
    simp only at hh ⊢
    rw [hh,cond_true,L8,(b03 _ _).2 rfl,Bool.or_true]
  ·rcases List.mem_append.1 hc with hc | hc
   ·simp only [L8];rw [I.wr c hc d hd];rfl
   ·obtain rfl:=List.mem_singleton.1 hc
    simp only [L8];rw [(k0x).2 hd,Bool.or_true]
  ·rw [PT.get_set] at hg
   by_cases hi:i=r.i
   ·subst hi
    rw [if_pos rfl] at hg
    cases hg
    refine ⟨X,fun t ht=>?_⟩
    rw [L8,Bool.or_eq_true] at ht
    rcases ht with ht | ht
    ·obtain ⟨j,hj,hd⟩:=A2 _ ht
     exact ⟨j,.inr hj,hd⟩
    ·exact ⟨r.i,.inl rfl,by rw [hr.dst];exact k0x.1 ht⟩
   ·rw [if_neg hi] at hg
    exact I.tbl _ _ _ hg
  ·rcases List.mem_append.1 hc with hc | hc
   ·have lift:(∃ c2 ∈ pre,c2.r.k.isHeavy=true∧(c.r.i=c2.r.i∨Anc ops c2.r.i c.r.i))→∃ c2 ∈ pre++[(⟨r,a,h⟩:Cel)],c2.r.k.isHeavy=true∧(c.r.i=c2.r.i∨Anc ops c2.r.i c.r.i) :=
     fun ⟨c2,h1,h2⟩=>⟨c2,List.mem_append_left _ h1,h2⟩
    rcases I.rs c hc hh with h1 | h1
    ·simp only
     cases hrd:r.k.isRead with
     | true=>exact .inl (List.mem_cons_of_mem _ h1)
     | false =>
      cases hhv:r.k.isHeavy with
      | false=>exact .inl h1
      | true =>
       simp only [cond_false,cond_true]
       rcases p0X (x:=x.lor (j0O r.i)) _ c.r h1 with h2 | h2
       ·exact .inr ⟨_,List.mem_append_right _ (List.mem_singleton.2 rfl),hhv,X _ h2⟩
       ·exact .inl h2
    ·exact .inr (lift h1)
   ·obtain rfl:=List.mem_singleton.1 hc
    simp only at hh ⊢
    rw [hh]
    exact .inl List.mem_cons_self
  ·rcases List.mem_append.1 hc with hc | hc
   ·rcases I.old c hc t ht hw with h1 | h1
    ·exact .inl h1
    ·exact .inr (List.mem_append_right _ h1)
   ·obtain rfl:=List.mem_singleton.1 hc
    rcases rdd t ht hw with h1 | h1
    ·exact .inl h1
    ·exact .inr (List.mem_append_left _ h1)
end Go.Dr

namespace Go.Dr
open Go.RowKit
variable {P:Program} {call:E0} {ops:Array Oper} {W:Nat}
theorem q0c {f:AV→AV→Bool} (hf:∀ x y,f x y=true→x=y):∀ (l m:List AV),eqL f l m=true→l=m
 | [],[],_=>rfl
 | [],_::_,h=>by cases h
 | _::_,[],h=>by cases h
 | x::l,y::m,h=>by
  simp only [eqL,Bool.and_eq_true] at h
  rw [hf _ _ h.1,q0c hf l m h.2]
theorem e0r:∀ (d:Nat) (x y:AV),R8 d x y=true→x=y
 | 0,_,_,h=>by cases h
 | d+1,x,y,h=>by
  have ih:=fun x y=>e0r d x y
  have ihl:=fun l m=>q0c ih l m
  unfold R8 at h
  split at h <;> try (simp only [Bool.and_eq_true,beq_iff_eq,decide_eq_true_eq] at h)
  ·rw [h]
  ·rw [h.1,h.2]
  ·rw [h]
  ·rfl
  ·rw [Nat.eq_of_beq_eq_true h.1,Nat.eq_of_beq_eq_true h.2]
  ·rfl
  ·obtain ⟨h1,h2,h3,h4,h5,h6⟩:=h
   rw [Nat.eq_of_beq_eq_true h1,Nat.eq_of_beq_eq_true h2,Nat.eq_of_beq_eq_true h3,Nat.eq_of_beq_eq_true h4,h5,Nat.eq_of_beq_eq_true h6]
  ·rfl
  ·rw [Nat.eq_of_beq_eq_true h]
  ·rfl
  ·split at h
   ·simp only [Bool.and_eq_true] at h
    rw [Nat.eq_of_beq_eq_true h.1,ihl _ _ h.2.1,ihl _ _ h.2.2]
   ·simp only [Bool.and_eq_true] at h
    rw [Nat.eq_of_beq_eq_true h.1,ihl _ _ h.2.1,ihl _ _ h.2.2]
   ·cases h
  ·rfl
  ·rw [Nat.eq_of_beq_eq_true h.1,ih _ _ h.2]
  ·rw [ihl _ _ h]
  ·rw [ihl _ _ h]
  ·rw [Nat.eq_of_beq_eq_true h]
  ·cases h
def k0E (P:Program) (ops:Array Oper) (r:DRow) (a:AAct) (h:AH):Prop :=
 s6 ops r.o a=.ok false∨∃ v h2,s6 ops r.o a=.ok true∧evC P r.c a h=.ok (.value v,h2)∧∀ d,r.o.dst=some d→v=a.val d
theorem f0K {a:AAct} {h:AH}:∀ (l:List DRow),again P ops l a h=true→∀ r ∈ l,k0E P ops r a h
 | [],_,r,hr=>by cases hr
 | x::l,hh,r,hr=>by
  unfold again at hh
  split at hh
  ·rename_i hw
   split at hh
   ·rename_i v h2 he
    simp only [Bool.and_eq_true] at hh
    rcases List.mem_cons.1 hr with rfl | hr
    ·refine .inr ⟨v,h2,hw,he,fun d hd=>?_⟩
     have:=hh.1
     rw [hd] at this
     exact e0r _ _ _ this
    ·exact f0K l hh.2 r hr
   ·cases hh
  ·rename_i hw
   rcases List.mem_cons.1 hr with rfl | hr
   ·exact .inl hw
   ·exact f0K l hh r hr
  ·cases hh
theorem f0L {hv:Bool} {done:Nat}:∀ {l l':List DRow} {r:DRow},b0y hv done l=some (r,l')→r.k.isHeavy=hv∧p0E r.af done=true∧l.Perm (r::l')
 | [],_,_,h=>by cases h
 | x::l,l',r,h=>by
  simp only [b0y] at h
  cases hc:(Bool.and (x.k.isHeavy == hv) (p0E x.af done)) with
  | true =>
   rw [hc] at h;cases h
   simp only [Bool.and_eq_true,beq_iff_eq] at hc
   exact ⟨hc.1,hc.2,.refl _⟩
  | false =>
   rw [hc] at h
   simp only [cond_false] at h
   split at h
   ·rename_i y l2 hy
    cases h
    obtain ⟨h1,h2,h3⟩:=f0L hy
    exact ⟨h1,h2,(h3.cons x).trans (.swap _ _ _)⟩
   ·cases h
def StepOf (P:Program) (call:E0) (ops:Array Oper) (r:DRow) (a:AAct) (h:AH) (a1:AAct) (h1:AH):Prop :=
 (s6 ops r.o a=.ok true∧M9 P call r.o a h=.ok (a1,h1))∨(s6 ops r.o a=.ok false∧a1=a.put r.o.dst n8∧h1=h)
inductive Trace (P:Program) (call:E0) (ops:Array Oper) (W:Nat):DSt→List DRow→AAct→AH→List Cel→AAct→AH→Prop
 | nil {st:DSt} {a:AAct} {h:AH} (ha:again P ops st.rs a h=true):Trace P call ops W st [] a h [] a h
 | cons {st st':DSt} {rem rem':List DRow} {r:DRow} {a a1 aN:AAct} {h h1 hN:AH} {cs:List Cel} {hv:Bool} (hf:b0y hv st.done rem=some (r,rem')) (ha:hv=true→again P ops st.rs a h=true)
   (hp:st.put W r=.ok st') (hs:StepOf P call ops r a h a1 h1) (t:Trace P call ops W st' rem' a1 h1 cs aN hN):Trace P call ops W st rem a h (⟨r,a,h⟩::cs) aN hN
theorem j0W {o:Oper} {l:List DEnt} {a aN:AAct} {h hN:AH} (he:O4 P call ops (.op o::l) a h=.ok (aN,hN)) :
  ∃ a1 h1,((s6 ops o a=.ok true∧M9 P call o a h=.ok (a1,h1))∨(s6 ops o a=.ok false∧a1=a.put o.dst n8∧h1=h))∧O4 P call ops l a1 h1=.ok (aN,hN):=by
 simp only [O4] at he
 split at he
 ·rename_i hw
  split at he
  ·rename_i a1 h1 h2
   exact ⟨a1,h1,.inl ⟨hw,h2⟩,he⟩
  ·cases he
 ·rename_i hw
  exact ⟨_,_,.inr ⟨hw,rfl,rfl⟩,he⟩
 ·cases he
theorem f0M {re:List DRow} {l:List DEnt} {a aN:AAct} {h hN:AH} (he:O4 P call ops (.stage re::l) a h=.ok (aN,hN)) :
  again P ops re a h=true∧O4 P call ops l a h=.ok (aN,hN):=by
 simp only [O4] at he
 cases hb:again P ops re a h with
 | true=>rw [hb] at he;exact ⟨rfl,he⟩
 | false=>rw [hb] at he;cases he
theorem i0a:∀ (n:Nat) (st:DSt) (rem:List DRow) (ents:List DEnt) (a:AAct) (h:AH) (aN:AAct) (hN:AH),k0t W n st rem=.ok ents→O4 P call ops ents a h=.ok (aN,hN) →
  ∃ cs,Trace P call ops W st rem a h cs aN hN
 | n,st,[],ents,a,h,aN,hN,hs,he=>by
  have:ents=[.stage st.rs]:=by cases n <;> (simp only [k0t] at hs;cases hs;rfl)
  subst this
  obtain ⟨h1,h2⟩:=f0M he
  cases h2
  exact ⟨[],.nil h1⟩
 | 0,st,_::_,ents,a,h,aN,hN,hs,he=>by cases hs
 | n+1,st,x::rem,ents,a,h,aN,hN,hs,he=>by
  simp only [k0t] at hs
  split at hs
  ·rename_i r rem' hf
   split at hs
   ·rename_i st' hp
    split at hs
    ·rename_i l hl;cases hs
     obtain ⟨a1,h1,hst,he⟩:=j0W he
     obtain ⟨cs,t⟩:=i0a n _ _ _ _ _ _ _ hl he
     exact ⟨_,.cons hf (fun e=>by cases e) hp hst t⟩
    ·cases hs
   ·cases hs
  ·split at hs
   ·rename_i r rem' hf
    split at hs
    ·rename_i st' hp
     split at hs
     ·rename_i l hl;cases hs
      obtain ⟨ha,he⟩:=f0M he
      obtain ⟨a1,h1,hst,he⟩:=j0W he
      obtain ⟨cs,t⟩:=i0a n _ _ _ _ _ _ _ hl he
      exact ⟨_,.cons hf (fun _=>ha) hp hst t⟩
     ·cases hs
    ·cases hs
   ·cases hs
theorem j0X:∀ (l:List Oper) (i:Nat) (rows:List DRow),k08 P ops l i=.ok rows→(∀ j o,l[j]? = some o→ops[i+j]? = some o)→(∀ r ∈ rows,RowOk P ops r)∧rows.map (·.i)=List.range' i l.length
 | [],i,rows,h,_=>by cases h;exact ⟨fun r hr=>(by cases hr),rfl⟩
 | o::l,i,rows,h,ho=>by
  simp only [k08] at h
  split at h
  ·rename_i c hc
   split at h
   ·rename_i r hr;cases h
    obtain ⟨i1,i2⟩:=j0X l (i+1) r hr fun j o' hj=>by
     have:=ho (j+1) o' (by simpa using hj)
     rw [show i+1+j=i+(j+1) from by omega];exact this
    have h0:ops[i]? = some o:=ho 0 o rfl
    refine ⟨fun x hx=>?_,by simp only [List.map_cons,i2,List.length_cons,List.range'_succ]⟩
    rcases List.mem_cons.1 hx with rfl | hx
    ·exact ⟨h0,hc,rfl,rfl,rfl⟩
    ·exact i1 x hx
   ·cases h
  ·cases h
theorem h0m:∀ (l:List Oper) (W:Nat),g0o l=.ok W→(∀ (i:Nat) o d,l[i]? = some o→o.dst=some d→G9 W d=true) ∧
  (∀ (i j:Nat) o o' d,l[i]? = some o→l[j]? = some o'→o.dst=some d→o'.dst=some d→i=j)∧(∀ d,G9 W d=true→∃ (i:Nat) (o:Oper),l[i]? = some o∧o.dst=some d)
 | [],W,h=>by cases h;exact ⟨fun i o d e=>(by simp at e),fun i j o o' d e=>(by simp at e),fun d h=>(by rw [e0K] at h;cases h)⟩
 | o::l,W,h=>by
  simp only [g0o] at h
  split at h
  ·rename_i W' hW
   obtain ⟨i1,i2,i3⟩:=h0m l W' hW
   split at h
   ·rename_i d hd
    cases hb:G9 W' d with
    | true=>rw [hb] at h;cases h
    | false =>
     rw [hb] at h;cases h
     refine ⟨fun i o1 d1 h1 h2=>?_,fun i j o1 o2 d1 h1 h2 h3 h4=>?_,fun d1 h1=>?_⟩
     ·rw [L8]
      cases i with
      | zero=>cases h1;rw [hd] at h2;cases h2;rw [(b03 _ _).2 rfl,Bool.or_true]
      | succ i=>rw [i1 i o1 d1 (by simpa using h1) h2];rfl
     ·cases i with
      | zero =>
       cases h1;rw [hd] at h3;cases h3
       cases j with
       | zero=>rfl
       | succ j=>rw [i1 j o2 d (by simpa using h2) h4] at hb;cases hb
      | succ i =>
       cases j with
       | zero=>cases h2;rw [hd] at h4;cases h4;rw [i1 i o1 d (by simpa using h1) h3] at hb;cases hb
       | succ j=>rw [i2 i j o1 o2 d1 (by simpa using h1) (by simpa using h2) h3 h4]
     ·rw [L8,Bool.or_eq_true,b03] at h1
      rcases h1 with h1 | h1
      ·obtain ⟨i,o1,h2,h3⟩:=i3 d1 h1
       exact ⟨i+1,o1,by simpa using h2,h3⟩
      ·subst h1;exact ⟨0,o,rfl,hd⟩
   ·rename_i hd;cases h
    refine ⟨fun i o1 d1 h1 h2=>?_,fun i j o1 o2 d1 h1 h2 h3 h4=>?_,fun d1 h1=>?_⟩
    ·cases i with
     | zero=>cases h1;rw [hd] at h2;cases h2
     | succ i=>exact i1 i o1 d1 (by simpa using h1) h2
    ·cases i with
     | zero=>cases h1;rw [hd] at h3;cases h3
     | succ i =>
      cases j with
      | zero=>cases h2;rw [hd] at h4;cases h4
      | succ j=>rw [i2 i j o1 o2 d1 (by simpa using h1) (by simpa using h2) h3 h4]
    ·obtain ⟨i,o1,h2,h3⟩:=i3 d1 h1
     exact ⟨i+1,o1,by simpa using h2,h3⟩
  ·cases h
def stA (cs:List Cel) (aN:AAct):AAct:=match cs with | []=>aN | c::_=>c.a
def stH (cs:List Cel) (hN:AH):AH:=match cs with | []=>hN | c::_=>c.h
theorem Trace.start {st:DSt} {rem:List DRow} {a aN:AAct} {h hN:AH} {cs:List Cel} (t:Trace P call ops W st rem a h cs aN hN):stA cs aN=a∧stH cs hN=h:=by
 cases t <;> exact ⟨rfl,rfl⟩
def o0k (P:Program) (ops:Array Oper) (pre:List Cel) (a:AAct) (h:AH):Prop :=
 ∀ c ∈ pre,c.r.k.isRead=true→k0E P ops c.r a h∨∃ c2 ∈ pre,c2.r.k.isHeavy=true∧(c.r.i=c2.r.i∨Anc ops c2.r.i c.r.i)
structure Place (P:Program) (call:E0) (ops:Array Oper) (W:Nat) (pre:List Cel) (c:Cel) (a1:AAct) (h1:AH):Prop where
 fact:Fact P ops W pre c.r
 lin:∀ e ∈ c.r.o.after.toList,X9 e=true→∃ c' ∈ pre,c'.r.i=e.on
 step:StepOf P call ops c.r c.a c.h a1 h1
 again:c.r.k.isHeavy=true→o0k P ops pre c.a c.h
theorem Trace.places {st:DSt} {rem:List DRow} {a aN:AAct} {h hN:AH} {cs:List Cel} (t:Trace P call ops W st rem a h cs aN hN) :
  ∀ pre,InvSt ops W pre st→(∀ r ∈ rem,RowOk P ops r) →
   (∀ c1 c c2,cs=c1++c::c2→Place P call ops W (pre++c1) c (stA c2 aN) (stH c2 hN))∧o0k P ops (pre++cs) aN hN∧(cs.map (·.r)).Perm rem:=by
 induction t with
 | nil ha =>
  intro pre I hr
  refine ⟨fun c1 c c2 e=>(by cases c1 <;> cases e),fun c hc hh=>?_,.refl _⟩
  rw [List.append_nil] at hc ⊢
  rcases I.rs c hc hh with h1 | h1
  ·exact .inl (f0K _ ha _ h1)
  ·exact .inr h1
 | @cons st st' rem rem' r a a1 aN h h1 hN cs hv hf ha hp hs t ih =>
  intro pre I hr
  obtain ⟨f1,f2,f3⟩:=f0L hf
  have hrow:=hr r (f3.mem_iff.2 List.mem_cons_self)
  obtain ⟨F,I'⟩:=u0A I hrow hp a h
  obtain ⟨i1,i2,i3⟩:=ih (pre++[⟨r,a,h⟩]) I' fun x hx=>hr x (f3.mem_iff.2 (List.mem_cons_of_mem _ hx))
  refine ⟨fun c1 c c2 e=>?_,by simpa using i2,(i3.cons r).trans f3.symm⟩
  cases c1 with
  | nil =>
   cases e
   rw [List.append_nil]
   refine ⟨F,fun e he hb=>I.done _ ?_,?_,fun hh c hc hrd=>?_⟩
   ·refine m0Z f2 ?_
    rw [hrow.af]
    exact g0B he hb
   ·rw [t.start.1,t.start.2];exact hs
   ·rcases I.rs c hc hrd with h1 | h1
    ·exact .inl (f0K _ (ha (f1.symm.trans hh)) _ h1)
    ·exact .inr h1
  | cons x c1 =>
   cases e
   have:=i1 c1 c c2 rfl
   simpa using this
theorem w0I:InvSt ops W [] ⟨0,0,0,0,.leaf,[],[]⟩ :=
 ⟨fun i h=>(by rw [e0K] at h;cases h),fun c hc=>(by cases hc),fun c hc=>(by cases hc),fun i x y h=>(by cases h),fun c hc=>(by cases hc),fun c hc=>(by cases hc)⟩
structure Canon (P:Program) (call:E0) (ops:Array Oper) (a0:AAct) (h0:AH) (aN:AAct) (hN:AH) (W:Nat) (cs:List Cel):Prop where
 first:stA cs aN=a0∧stH cs hN=h0
 place:∀ c1 c c2,cs=c1++c::c2→Place P call ops W c1 c (stA c2 aN) (stH c2 hN)
 reads:o0k P ops cs aN hN
 all:(cs.map (·.r.i)).Perm (List.range ops.size)
 w1:∀ (i:Nat) o d,ops[i]? = some o→o.dst=some d→G9 W d=true
 w2:∀ (i j:Nat) o o' d,ops[i]? = some o→ops[j]? = some o'→o.dst=some d→o'.dst=some d→i=j
theorem q0d {a0 aN:AAct} {h0 hN:AH} (he:b0V P call ops a0 h0=.ok (aN,hN)):∃ W cs,Canon P call ops a0 h0 aN hN W cs:=by
 unfold b0V at he
 split at he
 ·rename_i l hl
  unfold s0B at hl
  split at hl
  ·rename_i W rows hW hrows
   obtain ⟨r1,r2⟩:=j0X _ _ _ hrows fun j o hj=>by rw [Nat.zero_add,← Array.getElem?_toList];exact hj
   obtain ⟨cs,t⟩:=i0a _ _ _ _ _ _ _ _ hl he
   obtain ⟨t1,t2,t3⟩:=t.places [] w0I r1
   obtain ⟨w1,w2,_⟩:=h0m _ _ hW
   refine ⟨W,cs,t.start,fun c1 c c2 e=>by simpa using t1 c1 c c2 e,by simpa using t2,?_,fun i o d h1=>w1 i o d (by rw [Array.getElem?_toList];exact h1),fun i j o o' d h1 h2=>w2 i j o o' d (by rw [Array.getElem?_toList];exact h1) (by rw [Array.getElem?_toList];exact h2)⟩
   have:=t3.map (·.i)
   rw [List.map_map] at this
   refine this.trans ?_
   rw [r2,List.range_eq_range']
   exact .refl _
  ·cases hl
  ·cases hl
 ·cases he
end Go.Dr

namespace Go.Dr
open Go.RowKit
variable {P:Program} {call:E0} {ops:Array Oper} {W:Nat}
theorem j0u {o:Oper} {a a':AAct} (hr:∀ t ∈ d0m ops o,a.val t=a'.val t):s6 ops o a=s6 ops o a':=by
 unfold s6
 unfold d0m at hr
 split
 ·rfl
 ·rename_i j want hg
  rw [hg] at hr
  simp only at hr
  split
  ·rename_i d hd
   rw [hd] at hr
   rw [hr d (by simp)]
  ·rfl
def I1 (a:AAct) (ds:List ADef):AAct:=⟨a.n,a.ts,ds,a.rd⟩
theorem f0N {o:Oper} {c:COp} {a a' a1:AAct} {h h1:AH} (hc:comp P o=.ok c) (hv:evC P c a h=evC P c a' h) (hds:a.ds=a'.ds) (hrd:a.rd=a'.rd)
  (he:M9 P call o a h=.ok (a1,h1)):∃ v ds1,a1=(I1 a ds1).put o.dst v∧M9 P call o a' h=.ok ((I1 a' ds1).put o.dst v,h1):=by
 unfold M9 at he ⊢
 rw [hc] at he ⊢
 simp only at he ⊢
 rw [← hv]
 split at he
 ·rename_i n h2 hr
  split at he
  ·rename_i v;rw [p6] at he ⊢;cases he
   exact ⟨v,a.ds,rfl,by rw [hds];rfl⟩
  ·cases he
   exact ⟨n8,a.ds,rfl,by rw [hds];rfl⟩
  ·rename_i d
   cases hb:a.rd with
   | true=>rw [hb] at he;cases he
   | false =>
    rw [hb] at he;cases he
    refine ⟨n8,d::a.ds,by rw [← hb];rfl,?_⟩
    rw [hds,← hrd,hb,I1,← hrd,hb];rfl
  ·split at he
   ·rename_i v h3 hcall;rw [p6] at he;cases he
    refine ⟨v,a.ds,rfl,?_⟩
    simp only [p6]
    rw [hds];rfl
   ·cases he
  ·split at he
   ·rename_i v h3 hcall;rw [p6] at he;cases he
    refine ⟨v,a.ds,rfl,?_⟩
    simp only [p6]
    rw [hds];rfl
   ·cases he
 ·cases he
theorem put_val (a:AAct) (o:Option Tmp) (v:AV) (t:Nat):(o=some t→t<a.n→(a.put o v).val t=v)∧((o≠some t∨¬ t<a.n)→(a.put o v).val t=a.val t):=by
 cases o with
 | none=>exact ⟨fun e=>(by cases e),fun _=>rfl⟩
 | some d =>
  unfold AAct.put
  simp only
  cases hb:Nat.blt d a.n with
  | false =>
   have hd:¬ d<a.n:=fun e=>by
    have e2:Nat.blt d a.n=true:=Nat.blt_eq.symm ▸ e
    rw [e2] at hb;cases hb
   exact ⟨fun e h=>by cases e;exact absurd h hd,fun _=>rfl⟩
  | true =>
   have hd:d<a.n:=Nat.blt_eq ▸ hb
   refine ⟨fun e _=>by cases e;simp only [cond_true,AAct.val,PT.get_set,if_true],fun e=>?_⟩
   simp only [cond_true,AAct.val,PT.get_set]
   rw [if_neg]
   rintro rfl
   rcases e with e | e
   ·exact e rfl
   ·exact e hd
theorem StepOf.shape {r:DRow} {a a1:AAct} {h h1:AH} (hc:comp P r.o=.ok r.c) (s:StepOf P call ops r a h a1 h1):∃ v ds1,a1=(I1 a ds1).put r.o.dst v:=by
 rcases s with ⟨_,s⟩ | ⟨_,s,_⟩
 ·obtain ⟨v,ds1,h1,_⟩:=f0N hc rfl rfl rfl s
  exact ⟨v,ds1,h1⟩
 ·exact ⟨n8,a.ds,s⟩
section
variable {a0 aN:AAct} {h0 hN:AH} {cs:List Cel}
theorem Canon.row (C:Canon P call ops a0 h0 aN hN W cs) {c:Cel} (hc:c ∈ cs):RowOk P ops c.r:=by
 obtain ⟨c1,c2,e⟩:=List.append_of_mem hc
 exact (C.place c1 c c2 e).fact.row
theorem Canon.uniq (C:Canon P call ops a0 h0 aN hN W cs) {c1 c2:List Cel} {c:Cel} (e:cs=c1++c::c2):(∀ c' ∈ c1,c'.r.i≠c.r.i)∧(∀ c' ∈ c2,c'.r.i≠c.r.i):=by
 have hn:(cs.map (·.r.i)).Nodup:=C.all.nodup_iff.2 List.nodup_range
 rw [e,List.map_append,List.map_cons,List.nodup_append,List.nodup_cons] at hn
 obtain ⟨_,⟨h2,_⟩,h3⟩:=hn
 exact ⟨fun c' hc' ee=>h3 _ (List.mem_map.2 ⟨c',hc',rfl⟩) _ List.mem_cons_self ee,fun c' hc' ee=>h2 (List.mem_map.2 ⟨c',hc',ee⟩)⟩
theorem Canon.skip (C:Canon P call ops a0 h0 aN hN W cs) {t:Nat}:∀ (c1:List Cel) (c0 c2:List Cel),cs=c0++(c1++c2)→(∀ c ∈ c1,c.r.o.dst≠some t)→(stA (c1++c2) aN).val t=(stA c2 aN).val t
 | [],c0,c2,_,_=>rfl
 | c::c1,c0,c2,e,hw=>by
  have hp:=C.place c0 c (c1++c2) (by rw [e];rfl)
  obtain ⟨v,ds1,hs⟩:=hp.step.shape hp.fact.row.comp
  rw [← C.skip c1 (c0++[c]) c2 (by rw [e];simp) fun x hx=>hw x (List.mem_cons_of_mem _ hx),hs,(put_val _ _ _ _).2 (.inl (hw c List.mem_cons_self))]
  rfl
theorem Canon.same (C:Canon P call ops a0 h0 aN hN W cs):∀ (c1:List Cel) (c0 c2:List Cel),cs=c0++(c1++c2)→(stA (c1++c2) aN).n=(stA c2 aN).n∧(stA (c1++c2) aN).rd=(stA c2 aN).rd
 | [],c0,c2,_=>⟨rfl,rfl⟩
 | c::c1,c0,c2,e=>by
  have hp:=C.place c0 c (c1++c2) (by rw [e];rfl)
  obtain ⟨v,ds1,hs⟩:=hp.step.shape hp.fact.row.comp
  obtain ⟨i1,i2⟩:=C.same c1 (c0++[c]) c2 (by rw [e];simp)
  obtain ⟨_,j2,j3⟩:=AAct.put_ds (I1 c.a ds1) c.r.o.dst v
  rw [hs] at i1 i2
  exact ⟨i1.symm.trans j3 |>.symm,i2.symm.trans j2 |>.symm⟩
theorem Canon.anc (C:Canon P call ops a0 h0 aN hN W cs) {i j:Nat} (ha:Anc ops i j):∀ {c1 c2:List Cel} {c:Cel},cs=c1++c::c2→c.r.i=i→∃ c' ∈ c1,c'.r.i=j:=by
 induction ha with
 | one ho he hb =>
  intro c1 c2 c e hi
  have hp:=C.place c1 c c2 e
  have hg:=hp.fact.row.get
  rw [hi,ho] at hg;cases hg
  exact hp.lin _ he hb
 | more ho he hb _ ih =>
  intro c1 c2 c e hi
  have hp:=C.place c1 c c2 e
  have hg:=hp.fact.row.get
  rw [hi,ho] at hg;cases hg
  obtain ⟨c',h1,h2⟩:=hp.lin _ he hb
  obtain ⟨d1,d2,rfl⟩:=List.append_of_mem h1
  obtain ⟨c'',h3,h4⟩:=ih (c1:=d1) (c2:=d2++c::c2) (c:=c') (by rw [e];simp) h2
  exact ⟨c'',List.mem_append_left _ h3,h4⟩
theorem Canon.dst (C:Canon P call ops a0 h0 aN hN W cs) {c c':Cel} {t:Nat} (h1:c ∈ cs) (h2:c' ∈ cs) (d1:c.r.o.dst=some t) (d2:c'.r.o.dst=some t):c.r.i=c'.r.i :=
 C.w2 _ _ _ _ _ (C.row h1).get (C.row h2).get d1 d2
theorem Canon.cover (C:Canon P call ops a0 h0 aN hN W cs) {i:Nat} (hi:i<ops.size):∃ c ∈ cs,c.r.i=i:=by
 have:=(C.all.mem_iff (a:=i)).2 (List.mem_range.2 hi)
 obtain ⟨c,h1,h2⟩:=List.mem_map.1 this
 exact ⟨c,h1,h2⟩
theorem Canon.left (C:Canon P call ops a0 h0 aN hN W cs) {c1 c2:List Cel} {c:Cel} (e:cs=c1++c::c2) {t:Nat} (hd:c.r.o.dst=some t):aN.val t=(stA c2 aN).val t:=by
 have:=C.skip (t:=t) c2 (c1++[c]) [] (by rw [e];simp) fun x hx hx2 =>
  (C.uniq e).2 x hx (C.dst (by rw [e];simp [hx]) (by rw [e];simp) hx2 hd)
 rw [List.append_nil] at this
 exact this.symm
end
end Go.Dr

namespace Go.Dr
open Go.RowKit
variable {P:Program} {B:Nat} {w0:World} {call:E0} {ops:Array Oper} {W:Nat} {a0 aN:AAct} {h0 hN:AH} {cs:List Cel}
def v0c (P:Program) (h0:AH) (φ:Phi) (H:AH) (c:Cel):Prop :=
 ∃ mkv O,Shape mkv∧h0.next≤c.h.next∧c.h.next<H.next∧H.get c.h.next=some O∧φ c.h.next=none∧evC P c.r.c c.a c.h=.ok (.value (mkv c.h.next),c.h.push O) ∧
  ∀ H,evC P c.r.c c.a H=.ok (.value (mkv H.next),H.push O)
structure Pre (P:Program) (B:Nat) (w0:World) (ops:Array Oper) (a0 aN:AAct) (h0 hN:AH) (cs:List Cel) (φ0:Phi) (rd:Bool) (S:Nat→Prop) (c1 c2:List Cel) (φ:Phi) (s:AAct) (tm:Array Value) (ds:List Deferred) (w:World):Prop where
 split:cs=c1++c2
 sub:∀ i,S i→∃ c ∈ c1,c.r.i=i
 heavies:∀ c ∈ c1,c.r.k.isHeavy=true→S c.r.i
 closed:∀ i o e,S i→ops[i]? = some o→e ∈ o.after.toList→X9 e=true→S e.on
 valS:∀ t i,S i→b0e ops i=some t→s.val t=aN.val t
 valN:∀ t,(∀ i,S i→b0e ops i≠some t)→s.val t=a0.val t
 n:s.n=a0.n
 dsE:s.ds=(stA c2 aN).ds
 st:St P B w0 φ s (stH c2 hN) rd tm ds w
 rda:a0.rd=rd
 ext:Ext φ0 h0 φ (stH c2 hN)
 prom:∀ c ∈ c1,¬ S c.r.i→c.r.k=.alloc→s6 ops c.r.o c.a=.ok true→v0c P h0 φ (stH c2 hN) c
 apart:∀ c ∈ c1,∀ d ∈ c1,¬ S c.r.i→c.r.k=.alloc→s6 ops c.r.o c.a=.ok true→¬ S d.r.i→d.r.k=.alloc→s6 ops d.r.o d.a=.ok true→c.r.i≠d.r.i→c.h.next≠d.h.next
def j0Z (c2:List Cel):Prop:=∀ c c3,c2=c::c3→c.r.k.isHeavy=true
theorem i0c (k:DKind):k.isHeavy=true∨k=.pure∨k=.read∨k=.alloc:=by
 cases k
 ·exact .inl rfl
 ·exact .inr (.inl rfl)
 ·exact .inr (.inr (.inl rfl))
 ·exact .inr (.inr (.inr rfl))
theorem n0c {r:DRow} {a a1:AAct} {h h1:AH} (hr:RowOk P ops r) (hk:r.k.isHeavy=false) (hs:StepOf P call ops r a h a1 h1) :
  a1.ds=a.ds∧((h1=h∧¬ (r.k=.alloc∧s6 ops r.o a=.ok true))∨(r.k=.alloc∧s6 ops r.o a=.ok true ∧
   ∃ mkv O,Shape mkv∧h1=h.push O∧evC P r.c a h=.ok (.value (mkv h.next),h.push O)∧∀ H,evC P r.c a H=.ok (.value (mkv H.next),H.push O))):=by
 rcases hs with ⟨hw,hs⟩ | ⟨hw,rfl,rfl⟩
 ·unfold M9 at hs
  rw [hr.comp] at hs
  simp only at hs
  split at hs
  ·rename_i n h2 he
   rcases i0c r.k with hh | hk2 | hk2 | hk2
   ·rw [hh] at hk;cases hk
   ·obtain ⟨v,rfl,rfl,_⟩:=o0O (g0E (hr.kind ▸ hk2)) he
    simp only [p6] at hs
    cases hs
    exact ⟨(AAct.put_ds _ _ _).1,.inl ⟨rfl,fun e=>by rw [hk2] at e;cases e.1⟩⟩
   ·obtain ⟨v,rfl,rfl⟩:=l0s (d0t (hr.kind ▸ hk2)) he
    simp only [p6] at hs
    cases hs
    exact ⟨(AAct.put_ds _ _ _).1,.inl ⟨rfl,fun e=>by rw [hk2] at e;cases e.1⟩⟩
   ·obtain ⟨mkv,O,e1,rfl,rfl,_,e5⟩:=n0b hr.comp (hr.kind ▸ hk2) he
    simp only [p6] at hs
    cases hs
    exact ⟨(AAct.put_ds _ _ _).1,.inr ⟨hk2,hw,mkv,O,e1,rfl,e5 _,e5⟩⟩
  ·cases hs
 ·exact ⟨(AAct.put_ds _ _ _).1,.inl ⟨rfl,fun e=>by rw [hw] at e;cases e.2⟩⟩
variable {φ0:Phi} {rd:Bool}
theorem o0l (C:Canon P call ops a0 h0 aN hN W cs) {S:Nat→Prop} {φ:Phi} {s:AAct} {tm:Array Value} {ds:List Deferred} {w:World} :
  ∀ (c2 c1:List Cel),Pre P B w0 ops a0 aN h0 hN cs φ0 rd S c1 c2 φ s tm ds w→∃ d1 d2,j0Z d2∧Pre P B w0 ops a0 aN h0 hN cs φ0 rd S d1 d2 φ s tm ds w
 | [],c1,p=>⟨c1,[],fun c c3 e=>(by cases e),p⟩
 | c::c2,c1,p=>by
  cases hh:c.r.k.isHeavy with
  | true=>exact ⟨c1,c::c2,fun x y e=>(by cases e;exact hh),p⟩
  | false =>
   have hp:=C.place c1 c c2 p.split
   obtain ⟨hds,hheap⟩:=n0c hp.fact.row hh hp.step
   have hsplit:cs=(c1++[c])++c2:=by rw [p.split];simp
   have hnS:¬ S c.r.i:=fun hS=>by
    obtain ⟨x,hx,hxi⟩:=p.sub _ hS
    exact (C.uniq p.split).1 x hx hxi
   refine o0l C c2 (c1++[c]) ?_
   have base:∀ (st:St P B w0 φ s (stH c2 hN) rd tm ds w) (ext:Ext φ0 h0 φ (stH c2 hN)) (prom:∀ x ∈ c1++[c],¬ S x.r.i→x.r.k=.alloc→s6 ops x.r.o x.a=.ok true→v0c P h0 φ (stH c2 hN) x)
     (apart:∀ x ∈ c1,¬ S x.r.i→x.r.k=.alloc→s6 ops x.r.o x.a=.ok true→c.r.k=.alloc→s6 ops c.r.o c.a=.ok true→x.h.next≠c.h.next),
     Pre P B w0 ops a0 aN h0 hN cs φ0 rd S (c1++[c]) c2 φ s tm ds w:=fun st ext prom apart =>
    ⟨hsplit,fun i hi=>(let ⟨x,h1,h2⟩:=p.sub i hi;⟨x,List.mem_append_left _ h1,h2⟩),fun x hx hxh=>(by
     rcases List.mem_append.1 hx with hx | hx
     ·exact p.heavies x hx hxh
     ·obtain rfl:=List.mem_singleton.1 hx;rw [hh] at hxh;cases hxh),p.closed,p.valS,p.valN,p.n,(by rw [p.dsE,hds];rfl),st,p.rda,ext,prom,fun x hx y hy n1 k1 m1 n2 k2 m2 hne=>(by
     rcases List.mem_append.1 hx with hx1 | hx1
     ·rcases List.mem_append.1 hy with hy1 | hy1
      ·exact p.apart x hx1 y hy1 n1 k1 m1 n2 k2 m2 hne
      ·rw [List.mem_singleton.1 hy1] at k2 m2 ⊢
       exact apart x hx1 n1 k1 m1 k2 m2
     ·rcases List.mem_append.1 hy with hy1 | hy1
      ·rw [List.mem_singleton.1 hx1] at k1 m1 ⊢
       exact fun e=>apart y hy1 n2 k2 m2 k1 m1 e.symm
      ·exact absurd (by rw [List.mem_singleton.1 hx1,List.mem_singleton.1 hy1]) hne)⟩
   rcases hheap with ⟨e,hno⟩ | ⟨hk,hw,mkv,O,e1,e2,e3,e4⟩
   ·have es:stH (c::c2) hN=stH c2 hN:=e.symm
    refine base (es ▸ p.st) (es ▸ p.ext) (fun x hx h1 h2 h3=>?_) fun x hx n1 k1 m1 k2 m2=>absurd ⟨k2,m2⟩ hno
    rcases List.mem_append.1 hx with hx | hx
    ·exact es ▸ p.prom x hx h1 h2 h3
    ·obtain rfl:=List.mem_singleton.1 hx
     exact absurd ⟨h2,h3⟩ hno
   ·have hlow:h0.next≤c.h.next:=p.ext.next
    have hfr:φ c.h.next=none:=p.st.rel.fresh
    have X:Ext φ (stH (c::c2) hN) φ (stH c2 hN):=by
     rw [e2]
     exact ⟨.refl _,Nat.le_succ _,fun i hi e=>⟨e,by
      have hi':i≠c.h.next:=Nat.ne_of_lt hi
      rw [AH.get_push,if_neg hi'];rfl⟩⟩
    refine base ⟨p.st.act,p.st.defs,?_,p.st.glob,p.st.rd⟩ (p.ext.trans X) (fun x hx h1 h2 h3=>?_) fun x hx n1 k1 m1 k2 m2=>(by
     obtain ⟨_,_,_,_,q3,_⟩:=p.prom x hx n1 k1 m1
     exact Nat.ne_of_lt q3)
    ·rw [e2];exact p.st.rel.promise O
    ·rcases List.mem_append.1 hx with hx | hx
     ·obtain ⟨mkv',O',q1,q2,q3,q4,q5,q6⟩:=p.prom x hx h1 h2 h3
      obtain ⟨_,g⟩:=X.keep _ q3 q5
      exact ⟨mkv',O',q1,q2,Nat.lt_of_lt_of_le q3 X.next,g.trans q4,q5,q6⟩
     ·obtain rfl:=List.mem_singleton.1 hx
      refine ⟨mkv,O,e1,hlow,?_,?_,hfr,e3,e4⟩
      ·rw [e2];exact Nat.lt_succ_self _
      ·rw [e2,AH.get_push,if_pos rfl]
theorem h0n (C:Canon P call ops a0 h0 aN hN W cs) {S:Nat→Prop} {φ:Phi} {s:AAct} {tm:Array Value} {ds:List Deferred} {w:World} {c1 c2:List Cel}
  (p:Pre P B w0 ops a0 aN h0 hN cs φ0 rd S c1 c2 φ s tm ds w) {e1 e2:List Cel} {c:Cel} (e:cs=e1++c::e2) (hn:¬ S c.r.i) (hready:∀ j,Anc ops c.r.i j→S j) (hcl:∀ i j,S i→Anc ops i j→S j) :
  ∀ t ∈ c.r.rd,s.val t=c.a.val t∧(c.r.k.isRead=true→c ∈ c1→s.val t=(stA c2 aN).val t):=by
 intro t ht
 have hp:=C.place e1 c e2 e
 have writer:∀ x ∈ cs,x.r.o.dst=some t→G9 W t=true:=fun x hx hd=>C.w1 _ _ _ (C.row hx).get hd
 cases hw:G9 W t with
 | false =>
  have nw:∀ x ∈ cs,x.r.o.dst≠some t:=fun x hx hd=>by rw [writer x hx hd] at hw;cases hw
  have h1:s.val t=a0.val t:=p.valN t fun i hi hd=>by
   obtain ⟨x,hx,rfl⟩:=p.sub i hi
   have hxs:x ∈ cs:=by rw [p.split];exact List.mem_append_left _ hx
   rw [(C.row hxs).dst] at hd
   exact nw x hxs hd
  have k1:=C.skip (t:=t) e1 [] (c::e2) e fun x hx=>nw x (by rw [e];exact List.mem_append_left _ hx)
  have k2:=C.skip (t:=t) c1 [] c2 p.split fun x hx=>nw x (by rw [p.split];exact List.mem_append_left _ hx)
  rw [← e,C.first.1] at k1
  rw [← p.split,C.first.1] at k2
  exact ⟨h1.trans k1,fun _ _=>h1.trans k2⟩
 | true =>
  rcases hp.fact.rd t ht hw with ⟨j,hj,hd⟩ | ⟨hnr,hnone⟩
  ·have hS:=hready j hj
   have h1:=p.valS t j hS hd
   obtain ⟨x,hx,hxi⟩:=C.anc hj e rfl
   have hxs:x ∈ cs:=by rw [e];exact List.mem_append_left _ hx
   have hxd:x.r.o.dst=some t:=by rw [← (C.row hxs).dst,hxi];exact hd
   obtain ⟨f1,f2,hf⟩:=List.append_of_mem hx
   have e':cs=f1++x::(f2++c::e2):=by rw [e,hf];simp
   have k1:=C.skip (t:=t) (c::e2) e1 [] (by rw [e];simp) fun y hy hyd=>by
    have:=(C.uniq e').2 y (List.mem_append_right _ hy)
    exact this (C.dst (by rw [e];exact List.mem_append_right _ hy) hxs hyd hxd)
   rw [List.append_nil] at k1
   refine ⟨h1.trans k1.symm,fun _ hc1=>h1.trans ?_⟩
   obtain ⟨g1,g2,hg⟩:=List.append_of_mem hc1
   have e3:cs=g1++c::(g2++c2):=by rw [p.split,hg];simp
   have k2:=C.skip (t:=t) c2 c1 [] (by rw [p.split];simp) fun y hy hyd=>by
    have hyx:=C.dst (by rw [p.split];exact List.mem_append_right _ hy) hxs hyd hxd
    obtain ⟨z,hz,hzi⟩:=C.anc hj e3 rfl
    have hy3:y ∈ g2++c2:=List.mem_append_right _ hy
    obtain ⟨q1,q2,hq⟩:=List.append_of_mem hz
    have e4:cs=q1++z::(q2++c::(g2++c2)):=by rw [e3,hq];simp
    exact (C.uniq e4).2 y (List.mem_append_right _ (List.mem_cons_of_mem _ hy3)) (by rw [hyx,hxi,hzi])
   rw [List.append_nil] at k2
   exact k2.symm
  ·have k1:=C.skip (t:=t) e1 [] (c::e2) e hnone
   rw [← e,C.first.1] at k1
   have h1:s.val t=a0.val t:=p.valN t fun i hi hd=>by
    obtain ⟨x,hx,rfl⟩:=p.sub i hi
    have hxs:x ∈ cs:=by rw [p.split];exact List.mem_append_left _ hx
    have hxd:x.r.o.dst=some t:=by rw [← (C.row hxs).dst];exact hd
    have hxs2:=hxs
    rw [e] at hxs2
    rcases List.mem_append.1 hxs2 with hx1 | hx1
    ·exact hnone x hx1 hxd
    ·rcases List.mem_cons.1 hx1 with rfl | hx1
     ·exact hn hi
     ·obtain ⟨f1,f2,hf⟩:=List.append_of_mem hx1
      have e':cs=(e1++c::f1)++x::f2:=by rw [e,hf];simp
      rcases (C.place _ _ _ e').fact.old t hxd hw c (by simp) ht with ⟨j,hj,hjd⟩ | h2 | h2
      ·obtain ⟨z,hz,hzi⟩:=C.anc hj e rfl
       have hzs:z ∈ cs:=by rw [e];exact List.mem_append_left _ hz
       exact hnone z hz (by rw [← (C.row hzs).dst,hzi];exact hjd)
      ·exact (C.uniq e').1 c (by simp) h2
      ·exact hn (hcl _ _ hi h2)
   exact ⟨h1.trans k1,fun hr=>by rw [hnr] at hr;cases hr⟩
end Go.Dr

namespace Go.Dr
open Go.RowKit
variable {P:Program} {B:Nat} {w0:World} {call:E0} {ops:Array Oper} {W:Nat} {a0 aN:AAct} {h0 hN:AH} {cs:List Cel} {φ0:Phi} {rd:Bool}
 {S:Nat→Prop} {φ:Phi} {s:AAct} {tm:Array Value} {ds:List Deferred} {w:World} {c1 c2:List Cel}
theorem h0t (C:Canon P call ops a0 h0 aN hN W cs) (p:Pre P B w0 ops a0 aN h0 hN cs φ0 rd S c1 c2 φ s tm ds w) {e1 e2:List Cel} {c:Cel} (e:cs=e1++c::e2) (hn:¬ S c.r.i) {v:AV} {da dsx:List ADef}
  (ha:stA e2 aN=(I1 c.a da).put c.r.o.dst v) {s1:AAct} (hs:s1=(I1 s dsx).put c.r.o.dst v) :
  (∀ t i,(S i∨i=c.r.i)→b0e ops i=some t→s1.val t=aN.val t)∧(∀ t,(∀ i,(S i∨i=c.r.i)→b0e ops i≠some t)→s1.val t=a0.val t)∧s1.n=a0.n:=by
 have hcs:c ∈ cs:=by rw [e];simp
 have hrow:=C.row hcs
 have hcn:c.a.n=a0.n:=by
  have:=(C.same e1 [] (c::e2) e).1
  rw [← e,C.first.1] at this
  exact this.symm
 have uniq:∀ i t,b0e ops i=some t→c.r.o.dst=some t→i=c.r.i:=by
  intro i t h1 h2
  unfold b0e at h1
  cases ho:ops[i]? with
  | none=>rw [ho] at h1;cases h1
  | some o =>
   rw [ho] at h1
   exact C.w2 _ _ _ _ _ ho hrow.get h1 h2
 have keep:∀ t,c.r.o.dst≠some t→s1.val t=s.val t:=fun t h=>by rw [hs,(put_val _ _ _ _).2 (.inl h)];rfl
 refine ⟨fun t i hi hd=>?_,fun t ht=>?_,by rw [hs];exact ((I1 s dsx).put_ds _ _).2.2.trans p.n⟩
 ·rcases hi with hi | rfl
  ·by_cases hcd:c.r.o.dst=some t
   ·rw [uniq i t hd hcd] at hi;exact absurd hi hn
   ·rw [keep t hcd];exact p.valS t i hi hd
  ·rw [hrow.dst] at hd
   rw [C.left e hd,ha,hs]
   by_cases ht:t<a0.n
   ·rw [(put_val _ _ _ _).1 hd (by show t<s.n;rw [p.n];exact ht),(put_val _ _ _ _).1 hd (by show t<c.a.n;rw [hcn];exact ht)]
   ·rw [(put_val _ _ _ _).2 (.inr (by show ¬ t<s.n;rw [p.n];exact ht)),(put_val _ _ _ _).2 (.inr (by show ¬ t<c.a.n;rw [hcn];exact ht))]
    show s.val t=c.a.val t
    have k1:=C.skip (t:=t) e1 [] (c::e2) e fun x hx hxd=>(C.uniq e).1 x hx (C.dst (by rw [e];exact List.mem_append_left _ hx) hcs hxd hd)
    rw [← e,C.first.1] at k1
    rw [p.valN t fun i hi hid=>hn (uniq i t hid hd ▸ hi)]
    exact k1
 ·rw [keep t (by rw [← hrow.dst];exact ht _ (.inr rfl))]
  exact p.valN t fun i hi=>ht i (.inl hi)
theorem Anc.inS {ops:Array Oper} {S:Nat→Prop} (hcl:∀ i o e,S i→ops[i]? = some o→e ∈ o.after.toList→X9 e=true→S e.on) {i j:Nat} (h:Anc ops i j):S i→S j:=by
 induction h with
 | one ho he hb=>exact fun hi=>hcl _ _ _ hi ho he hb
 | more ho he hb _ ih=>exact fun hi=>ih (hcl _ _ _ hi ho he hb)
theorem p0a (hC:a0Y P B w0 call) (hY:Z0 P B w0 call) (C:Canon P call ops a0 h0 aN hN W cs) {b:Frame} (p:Pre P B w0 ops a0 aN h0 hN cs φ0 b.roundOf.isSome S c1 c2 φ s tm ds w)
  (hh:j0Z c2) {i:Nat} {o:Oper} (ho:ops[i]? = some o) (hn:¬ S i) (hready:∀ e ∈ o.after.toList,X9 e=true→S e.on) (rest:List Nat) (k:List Item) (fs:List Frame) :
  ∃ d1 d2 φ' s' tm' ds' w',Steps P (lone (mk b tm ds (.inRegion ops (i::rest)::k)) fs w) (lone (mk b tm' ds' (.inRegion ops rest::k)) fs w') ∧
   Pre P B w0 ops a0 aN h0 hN cs φ0 b.roundOf.isSome (fun j=>S j∨j=i) d1 d2 φ' s' tm' ds' w':=by
 have hi:i<ops.size:=(Array.getElem?_eq_some_iff.1 ho).1
 obtain ⟨c,hc,rfl⟩:=C.cover hi
 have hrow:=C.row hc
 have hgo:c.r.o=o:=by have:=hrow.get;rw [ho] at this;cases this;rfl
 subst hgo
 have hcl:=fun i j (hi:S i) (ha:Anc ops i j)=>Anc.inS p.closed ha hi
 have hanc:∀ j,Anc ops c.r.i j→S j:=by
  intro j ha
  cases ha with
  | one ho' he hb=>rw [ho] at ho';cases ho';exact hready _ he hb
  | more ho' he hb h2=>rw [ho] at ho';cases ho';exact hcl _ _ (hready _ he hb) h2
 have closed':∀ j o e,(S j∨j=c.r.i)→ops[j]? = some o→e ∈ o.after.toList→X9 e=true→(S e.on∨e.on=c.r.i):=by
  rintro j o e (hj | rfl) hjo he hb
  ·exact .inl (p.closed _ _ _ hj hjo he hb)
  ·rw [ho] at hjo;cases hjo;exact .inl (hready _ he hb)
 have guards:∀ {a a':AAct},(∀ t ∈ c.r.rd,a.val t=a'.val t)→s6 ops c.r.o a=s6 ops c.r.o a':=fun h=>j0u fun t ht=>h t (by rw [hrow.rd];exact List.mem_append_left _ ht)
 have evs:∀ {a a':AAct} {h:AH},(∀ t ∈ c.r.rd,a.val t=a'.val t)→evC P c.r.c a h=evC P c.r.c a' h:=fun h=>p03 fun t ht=>h t (by rw [hrow.rd];exact List.mem_append_right _ ht)
 have hc':=hc
 rw [p.split] at hc'
 rcases List.mem_append.1 hc' with hc1 | hc2
 ·
  obtain ⟨e1,e2,he⟩:=List.append_of_mem hc1
  have e:cs=e1++c::(e2++c2):=by rw [p.split,he];simp
  have hlight:c.r.k.isHeavy=false:=by
   cases hk:c.r.k.isHeavy with
   | false=>rfl
   | true=>exact absurd (p.heavies c hc1 hk) hn
  have hp:=C.place _ _ _ e
  have ra:=h0n C p e hn hanc hcl
  have ra1:∀ t ∈ c.r.rd,s.val t=c.a.val t:=fun t ht=>(ra t ht).1
  have hcrd:c.a.rd=s.rd:=by
   have:=(C.same e1 [] _ e).2
   rw [← e,C.first.1] at this
   rw [p.st.rd,← p.rda];exact this.symm
  have fin:∀ v φ' tm' ds' w',stA (e2++c2) aN=(I1 c.a c.a.ds).put c.r.o.dst v→Steps P (lone (mk b tm ds (.inRegion ops (c.r.i::rest)::k)) fs w) (lone (mk b tm' ds' (.inRegion ops rest::k)) fs w') →
    St P B w0 φ' ((I1 s s.ds).put c.r.o.dst v) (stH c2 hN) b.roundOf.isSome tm' ds' w'→Ext φ0 h0 φ' (stH c2 hN) →
    (∀ x ∈ c1,¬ S x.r.i→x.r.i≠c.r.i→x.r.k=.alloc→s6 ops x.r.o x.a=.ok true→φ' x.h.next=none) →
    ∃ d1 d2 φ' s' tm' ds' w',Steps P (lone (mk b tm ds (.inRegion ops (c.r.i::rest)::k)) fs w) (lone (mk b tm' ds' (.inRegion ops rest::k)) fs w') ∧
     Pre P B w0 ops a0 aN h0 hN cs φ0 b.roundOf.isSome (fun j=>S j∨j=c.r.i) d1 d2 φ' s' tm' ds' w':=by
   intro v φ' tm' ds' w' hav hst st' ext' hpr
   obtain ⟨u1,u2,u3⟩:=h0t C p e hn (dsx:=s.ds) hav rfl
   refine ⟨c1,c2,φ',_,tm',ds',w',hst,⟨p.split,?_,fun x hx hxh=>.inl (p.heavies x hx hxh),closed',u1,u2,u3,?_,st',p.rda,ext',?_,?_⟩⟩
   ·rintro j (hj | rfl)
    ·exact p.sub j hj
    ·exact ⟨c,hc1,rfl⟩
   ·rw [((I1 s s.ds).put_ds _ _).1];exact p.dsE
   ·intro x hx hxn hxk hxw
    obtain ⟨mkv,O,q1,q2,q3,q4,q5,q6⟩:=p.prom x hx (fun e=>hxn (.inl e)) hxk hxw
    exact ⟨mkv,O,q1,q2,q3,q4,hpr x hx (fun e=>hxn (.inl e)) (fun e=>hxn (.inr e)) hxk hxw,q6⟩
   ·intro x hx y hy n1 k1 m1 n2 k2 m2 hne
    exact p.apart x hx y hy (fun e=>n1 (.inl e)) k1 m1 (fun e=>n2 (.inl e)) k2 m2 hne
  have byOper:∀ v,stA (e2++c2) aN=(I1 c.a c.a.ds).put c.r.o.dst v→M9 P call c.r.o s (stH c2 hN)=.ok ((I1 s s.ds).put c.r.o.dst v,stH c2 hN)→s6 ops c.r.o s=.ok true →
    ∃ d1 d2 φ' s' tm' ds' w',Steps P (lone (mk b tm ds (.inRegion ops (c.r.i::rest)::k)) fs w) (lone (mk b tm' ds' (.inRegion ops rest::k)) fs w') ∧
     Pre P B w0 ops a0 aN h0 hN cs φ0 b.roundOf.isSome (fun j=>S j∨j=c.r.i) d1 d2 φ' s' tm' ds' w':=by
   intro v hav hev hw
   obtain ⟨φ1,tm1,ds1,w1,st1,s1,e1⟩:=g0K hC hY hev p.st ho (T5 p.st.act hw) k fs (rest:=rest)
   refine fin v φ1 tm1 ds1 w1 hav st1 s1 (p.ext.trans e1) fun x hx hxn _ hxk hxw=>?_
   obtain ⟨mkv,O,q1,q2,q3,q4,q5,q6⟩:=p.prom x hx hxn hxk hxw
   exact (e1.keep _ q3 q5).1
  have byValue:∀ v,evC P c.r.c s (stH c2 hN)=.ok (.value v,stH c2 hN)→M9 P call c.r.o s (stH c2 hN)=.ok ((I1 s s.ds).put c.r.o.dst v,stH c2 hN):=by
   intro v hv
   unfold M9
   rw [hrow.comp]
   simp only [hv,p6]
   rfl
  rcases hp.step with ⟨hw,hst⟩ | ⟨hw,hst,_⟩
  ·have hws:s6 ops c.r.o s=.ok true:=(guards ra1).trans hw
   unfold M9 at hst
   rw [hrow.comp] at hst
   simp only at hst
   split at hst
   ·rename_i n h2 hev
    rcases i0c c.r.k with hk | hk | hk | hk
    ·rw [hk] at hlight;cases hlight
    ·
     obtain ⟨v,rfl,rfl,hall⟩:=o0O (g0E (hrow.kind ▸ hk)) hev
     simp only [p6,Except.ok.injEq,Prod.mk.injEq] at hst
     exact byOper v hst.1.symm (byValue v (by rw [evs ra1];exact hall _)) hws
    ·
     obtain ⟨v,rfl,rfl⟩:=l0s (d0t (hrow.kind ▸ hk)) hev
     simp only [p6,Except.ok.injEq,Prod.mk.injEq] at hst
     have hav:stA (e2++c2) aN=(I1 c.a c.a.ds).put c.r.o.dst v:=hst.1.symm
     have hrd:c.r.k.isRead=true:=by rw [hk];rfl
     have ra2:∀ t ∈ c.r.rd,s.val t=(stA c2 aN).val t:=fun t ht=>(ra t ht).2 hrd hc1
     have hreads:o0k P ops c1 (stA c2 aN) (stH c2 hN):=by
      cases c2 with
      | nil =>
       have e0:cs=c1:=by rw [p.split,List.append_nil]
       have:=C.reads
       rw [e0] at this
       exact this
      | cons x c3=>exact (C.place c1 x c3 p.split).again (hh x c3 rfl)
     have hag:k0E P ops c.r (stA c2 aN) (stH c2 hN):=by
      rcases hreads c hc1 hrd with h1 | ⟨x,hx,hxh,hxi⟩
      ·exact h1
      ·have hSx:=p.heavies x hx hxh
       rcases hxi with hxi | hxi
       ·rw [← hxi] at hSx;exact absurd hSx hn
       ·exact absurd (hcl _ _ hSx hxi) hn
     rcases hag with h1 | ⟨v2,h3,h1,h4,h5⟩
     ·rw [← guards ra2,hws] at h1;cases h1
     ·rw [← evs ra2] at h4
      obtain ⟨v3,e3,rfl⟩:=l0s (d0t (hrow.kind ▸ hk)) h4
      have hval:∀ d,c.r.o.dst=some d→v2=aN.val d:=fun d hd=>by
       rw [h5 d hd]
       have:=C.skip (t:=d) c2 c1 [] (by rw [p.split];simp) fun y hy hyd=>by
        have hyi:=C.dst (by rw [p.split];exact List.mem_append_right _ hy) hc hyd hd
        exact (C.uniq e).2 y (List.mem_append_right _ hy) hyi
       rw [List.append_nil] at this
       exact this
      have hcn:c.a.n=a0.n:=by
       have:=(C.same e1 [] _ e).1
       rw [← e,C.first.1] at this
       exact this.symm
      have hput:(I1 s s.ds).put c.r.o.dst v2=(I1 s s.ds).put c.r.o.dst v:=by
       cases hd:c.r.o.dst with
       | none=>rfl
       | some d =>
        by_cases hlt:d<a0.n
        ·have:v2=v:=by
          rw [hval d hd,C.left e hd,hav,(put_val _ _ _ _).1 hd (by show d<c.a.n;rw [hcn];exact hlt)]
         rw [this]
        ·have hb:Nat.blt d (I1 s s.ds).n=false:=by
          cases hb:Nat.blt d (I1 s s.ds).n with
          | false=>rfl
          | true =>
           have hb2:d<(I1 s s.ds).n:=Nat.blt_eq ▸ hb
           have hb3:(I1 s s.ds).n=a0.n:=p.n
           rw [hb3] at hb2;exact absurd hb2 hlt
         simp only [AAct.put,hb,cond_false]
      have hev2:=byValue v2 h4
      rw [hput] at hev2
      exact byOper v hav hev2 hws
    ·
     obtain ⟨mkv,O,q1,q2,q3,q4,q5,q6,q7⟩:=p.prom c hc1 hn hk hw
     have hev0:=q6
     rw [hev] at hev0
     simp only [Except.ok.injEq,Prod.mk.injEq] at hev0
     obtain ⟨rfl,rfl⟩:=hev0
     simp only [p6,Except.ok.injEq,Prod.mk.injEq] at hst
     have hevs:evC P c.r.c s (stH c2 hN)=.ok (.value (mkv (stH c2 hN).next),(stH c2 hN).push O):=by rw [evs ra1];exact q7 _
     obtain ⟨mkv2,O2,r1,r2,r3,r4,r5⟩:=n0b hrow.comp (hrow.kind ▸ hk) hevs
     have hO:O2=O:=by
      have h1:((stH c2 hN).push O).get (stH c2 hN).next=some O:=by rw [AH.get_push,if_pos rfl]
      rw [r3,AH.get_push,if_pos rfl] at h1
      cases h1;rfl
     subst hO
     have hF:=r4 _ _ p.st.glob p.st.act
     obtain ⟨v',w1,φ1,hrun,hcon,R1,X1⟩:=g0W (ds:=ds) hrow.comp hevs p.st.glob p.st.act p.st.rel
     obtain ⟨pl,hc3,R3⟩:=t0N q1 hF p.st.rel R1 X1 hcon q5 q3 q4
     have hnd:b.roundOf=none∨∀ cc,c.r.o.op≠.defer cc:=.inr fun cc ecc=>by
      obtain ⟨d,ed⟩:=e08 ecc hrow.comp hevs
      cases ed
     have hle:=Phi.le_set pl q5
     refine fin (mkv c.h.next) (φ.set c.h.next pl) (f0R tm c.r.o.dst v') ds w1 hst.1.symm (.one (go_value ho (T5 p.st.act hws) hnd hrun)) (p.st.put hle hc3 R3 _) ?_ ?_
     ·refine ⟨p.ext.le.trans hle,p.ext.next,fun j hj hjn=>?_⟩
      obtain ⟨k1,k2⟩:=p.ext.keep j hj hjn
      exact ⟨by rw [Phi.set_other _ _ (by omega)];exact k1,k2⟩
     ·intro x hx hxn hxi hxk hxw
      obtain ⟨_,_,_,_,_,_,x5,_⟩:=p.prom x hx hxn hxk hxw
      rw [Phi.set_other _ _ (p.apart x hx c hc1 hxn hxk hxw hn hk hw hxi)]
      exact x5
   ·cases hst
  ·have hws:s6 ops c.r.o s=.ok false:=(guards ra1).trans hw
   refine fin n8 φ (f0R tm c.r.o.dst undef) ds w hst (.one (go_unwanted ho (T5 p.st.act hws))) (p.st.put (.refl _) T4 p.st.rel _) p.ext fun x hx hxn _ hxk hxw=>?_
   obtain ⟨_,_,_,_,_,_,x5,_⟩:=p.prom x hx hxn hxk hxw
   exact x5
 ·
  cases c2 with
  | nil=>cases hc2
  | cons x c3 =>
   have hxh:=hh x c3 rfl
   have hcx:c=x:=by
    rcases List.mem_cons.1 hc2 with h1 | h1
    ·exact h1
    ·obtain ⟨f1,f2,hf⟩:=List.append_of_mem h1
     have e:cs=(c1++x::f1)++c::f2:=by rw [p.split,hf];simp
     have hS:=hanc _ ((C.place _ _ _ e).fact.hv x (by simp) hxh)
     obtain ⟨y,hy,hyi⟩:=p.sub _ hS
     exact absurd hyi ((C.uniq p.split).1 y hy)
   subst hcx
   have e:=p.split
   have hp:=C.place _ _ _ e
   have ra1:∀ t ∈ c.r.rd,s.val t=c.a.val t:=fun t ht=>(h0n C p e hn hanc hcl t ht).1
   have hcrd:c.a.rd=s.rd:=by
    have:=(C.same c1 [] _ e).2
    rw [← e,C.first.1] at this
    rw [p.st.rd,← p.rda];exact this.symm
   have fin:∀ v da φ' tm' ds' w',stA c3 aN=(I1 c.a da).put c.r.o.dst v→Steps P (lone (mk b tm ds (.inRegion ops (c.r.i::rest)::k)) fs w) (lone (mk b tm' ds' (.inRegion ops rest::k)) fs w') →
     St P B w0 φ' ((I1 s da).put c.r.o.dst v) (stH c3 hN) b.roundOf.isSome tm' ds' w'→Ext φ c.h φ' (stH c3 hN) →
     ∃ d1 d2 φ' s' tm' ds' w',Steps P (lone (mk b tm ds (.inRegion ops (c.r.i::rest)::k)) fs w) (lone (mk b tm' ds' (.inRegion ops rest::k)) fs w') ∧
      Pre P B w0 ops a0 aN h0 hN cs φ0 b.roundOf.isSome (fun j=>S j∨j=c.r.i) d1 d2 φ' s' tm' ds' w':=by
    intro v da φ' tm' ds' w' hav hst st' ext'
    obtain ⟨u1,u2,u3⟩:=h0t C p e hn (dsx:=da) hav rfl
    have only:∀ x ∈ c1++[c],¬ (S x.r.i∨x.r.i=c.r.i)→x ∈ c1∧¬ S x.r.i:=by
     intro x hx hxn
     rcases List.mem_append.1 hx with h1 | h1
     ·exact ⟨h1,fun e=>hxn (.inl e)⟩
     ·rw [List.mem_singleton.1 h1] at hxn
      exact absurd (.inr rfl) hxn
    refine ⟨c1++[c],c3,φ',_,tm',ds',w',hst,⟨by rw [e];simp,?_,?_,closed',u1,u2,u3,?_,st',p.rda,p.ext.trans ext',?_,?_⟩⟩
    ·rintro j (hj | rfl)
     ·obtain ⟨y,h1,h2⟩:=p.sub j hj
      exact ⟨y,List.mem_append_left _ h1,h2⟩
     ·exact ⟨c,by simp,rfl⟩
    ·intro y hy hyh
     rcases List.mem_append.1 hy with h1 | h1
     ·exact .inl (p.heavies y h1 hyh)
     ·rw [List.mem_singleton.1 h1];exact .inr rfl
    ·rw [((I1 s da).put_ds _ _).1,hav,((I1 c.a da).put_ds _ _).1];rfl
    ·intro y hy hyn hyk hyw
     obtain ⟨h1,h2⟩:=only y hy hyn
     obtain ⟨mkv,O,q1,q2,q3,q4,q5,q6⟩:=p.prom y h1 h2 hyk hyw
     obtain ⟨k1,k2⟩:=ext'.keep _ q3 q5
     exact ⟨mkv,O,q1,q2,Nat.lt_of_lt_of_le q3 ext'.next,k2.trans q4,k1,q6⟩
    ·intro y hy z hz n1 k1 m1 n2 k2 m2 hne
     obtain ⟨y1,y2⟩:=only y hy n1
     obtain ⟨z1,z2⟩:=only z hz n2
     exact p.apart y y1 z z1 y2 k1 m1 z2 k2 m2 hne
   rcases hp.step with ⟨hw,hst⟩ | ⟨hw,hst,hhe⟩
   ·have hws:s6 ops c.r.o s=.ok true:=(guards ra1).trans hw
    obtain ⟨v,da,hav,hev⟩:=f0N hrow.comp (evs fun t ht=>(ra1 t ht).symm) p.dsE.symm hcrd hst
    obtain ⟨φ1,tm1,ds1,w1,st1,s1,x1⟩:=g0K hC hY hev p.st ho (T5 p.st.act hws) k fs (rest:=rest)
    exact fin v da φ1 tm1 ds1 w1 hav st1 s1 x1
   ·have hws:s6 ops c.r.o s=.ok false:=(guards ra1).trans hw
    have hsd:s.ds=c.a.ds:=p.dsE
    refine fin n8 c.a.ds φ (f0R tm c.r.o.dst undef) ds w hst (.one (go_unwanted ho (T5 p.st.act hws))) ?_ (by rw [hhe];exact .refl _ _)
    rw [hhe,← hsd]
    exact p.st.put (.refl _) T4 p.st.rel _
end Go.Dr

namespace Go.Dr
open Go.RowKit
variable {P:Program} {B:Nat} {w0:World} {call:E0} {ops:Array Oper} {W:Nat} {a0 aN:AAct} {h0 hN:AH} {cs:List Cel} {φ0:Phi}
theorem l0I (e:Edge):Region.binds .any e=X9 e:=by
 unfold Region.binds X9
 cases e.ground <;> rfl
theorem j06 (S:Nat→Prop):∀ l:List Cel,(∀ c ∈ l,S c.r.i)∨∃ e1 c e2,l=e1++c::e2∧(∀ x ∈ e1,S x.r.i)∧¬ S c.r.i
 | []=>.inl fun c hc=>(by cases hc)
 | c::l=>by
  by_cases h:S c.r.i
  ·rcases j06 S l with h1 | ⟨e1,c',e2,h1,h2,h3⟩
   ·exact .inl fun x hx=>by
     rcases List.mem_cons.1 hx with rfl | hx
     ·exact h
     ·exact h1 x hx
   ·refine .inr ⟨c::e1,c',e2,by rw [h1];rfl,fun x hx=>?_,h3⟩
    rcases List.mem_cons.1 hx with rfl | hx
    ·exact h
    ·exact h2 x hx
  ·exact .inr ⟨[],c,l,rfl,fun x hx=>(by cases hx),h⟩
theorem j07 (C:Canon P call ops a0 h0 aN hN W cs) {S:Nat→Prop} {φ:Phi} {s:AAct} {rd:Bool} {tm:Array Value} {ds:List Deferred} {w:World} {c1 c2:List Cel}
  (p:Pre P B w0 ops a0 aN h0 hN cs φ0 rd S c1 c2 φ s tm ds w) (hall:∀ c ∈ cs,S c.r.i):St P B w0 φ aN hN rd tm ds w∧Ext φ0 h0 φ hN:=by
 have hnil:c2=[]:=by
  cases c2 with
  | nil=>rfl
  | cons x c3 =>
   obtain ⟨y,hy,hyi⟩:=p.sub _ (hall x (by rw [p.split];simp))
   exact absurd hyi ((C.uniq p.split).1 y hy)
 subst hnil
 have e0:cs=c1:=by rw [p.split,List.append_nil]
 have hn:aN.n=a0.n∧aN.rd=a0.rd:=by
  have:=C.same c1 [] [] (by rw [← p.split];rfl)
  rw [← p.split,C.first.1] at this
  exact ⟨this.1.symm,this.2.symm⟩
 refine ⟨⟨⟨?_,fun t=>?_⟩,?_,p.st.rel,p.st.glob,?_⟩,p.ext⟩
 ·rw [p.st.act.size,p.n,hn.1]
 ·have hv:s.val t=aN.val t:=by
   by_cases h:∃ i,S i∧b0e ops i=some t
   ·obtain ⟨i,h1,h2⟩:=h
    exact p.valS t i h1 h2
   ·rw [p.valN t fun i hi hd=>h ⟨i,hi,hd⟩]
    have:=C.skip (t:=t) c1 [] [] (by rw [← p.split];rfl) fun x hx hd=>by
     have hxs:x ∈ cs:=by rw [e0];exact hx
     exact h ⟨x.r.i,hall x hxs,by rw [(C.row hxs).dst];exact hd⟩
    rw [← p.split,C.first.1] at this
    exact this
  rw [← hv];exact p.st.act.val t
 ·have hd:s.ds=aN.ds:=p.dsE
  rw [← hd];exact p.st.defs
 ·rw [hn.2];exact p.rda
theorem q0u (C:Canon P call ops a0 h0 aN hN W cs) {rd:Bool} {tm:Array Value} {ds:List Deferred} {w:World} (st:St P B w0 φ0 a0 h0 rd tm ds w) {S:Nat→Prop} (hS:∀ i,¬ S i) :
  Pre P B w0 ops a0 aN h0 hN cs φ0 rd S [] cs φ0 a0 tm ds w :=
 ⟨rfl,fun i hi=>absurd hi (hS i),fun c hc=>(by cases hc),fun i o e hi=>absurd hi (hS i),fun t i hi=>absurd hi (hS i),fun t _=>rfl,rfl,by rw [C.first.1],by rw [C.first.2];exact st,st.rd,by rw [C.first.2];exact .refl _ _,
  fun c hc=>(by cases hc),fun c hc=>(by cases hc)⟩
theorem o01 {listed:Array Bool} {i:Nat} (hi:i<listed.size) (hl:listed.getD i false=false):∀ {l:List Cel},(∃ c ∈ l,c.r.i=i) →
  (l.countP fun c=>!(listed.setIfInBounds i true).getD c.r.i false)<l.countP fun c=>!listed.getD c.r.i false:=by
 have hmono:∀ l:List Cel,(l.countP fun c=>!(listed.setIfInBounds i true).getD c.r.i false)≤l.countP fun c=>!listed.getD c.r.i false:=fun l=>by
  refine List.countP_mono_left fun c _ h=>?_
  simp only [Bool.not_eq_true',Array.getD_eq_getD_getElem?] at h ⊢
  by_cases hc:c.r.i=i
  ·rw [hc,Array.getElem?_setIfInBounds_self_of_lt hi] at h;cases h
  ·rw [Array.getElem?_setIfInBounds_ne (fun e=>hc e.symm)] at h;exact h
 rintro l ⟨c,hc,hci⟩
 obtain ⟨e1,e2,rfl⟩:=List.append_of_mem hc
 rw [List.countP_append,List.countP_append,List.countP_cons,List.countP_cons]
 have h1:=hmono e1
 have h2:=hmono e2
 have h3:(!(listed.setIfInBounds i true).getD c.r.i false)=false:=by
  rw [Array.getD_eq_getD_getElem?,hci,Array.getElem?_setIfInBounds_self_of_lt hi];rfl
 have h4:(!listed.getD c.r.i false)=true:=by rw [hci,hl];rfl
 rw [h3,h4]
 simp only [Bool.false_eq_true,if_false,if_true]
 omega
theorem b06 (hC:a0Y P B w0 call) (hY:Z0 P B w0 call):i0l P B w0 call:=by
 intro ops a0 h0 aN hN he φ0 b tm ds w st t k fs
 obtain ⟨W,cs,C⟩:=q0d he
 have key:∀ (fuel t:Nat) (listed:Array Bool) (c1 c2:List Cel) (φ:Phi) (s:AAct) (tm:Array Value) (ds:List Deferred) (w:World),listed.size=ops.size →
   (cs.countP fun c=>!listed.getD c.r.i false)≤fuel →
   Pre P B w0 ops a0 aN h0 hN cs φ0 b.roundOf.isSome (fun j=>listed.getD j false=true) c1 c2 φ s tm ds w →
   ∃ φ' tm' ds' w',Steps P (lone (mk b tm ds (.inRegion ops (Region.linearise.go .any ops fuel t listed [])::k)) fs w) (lone (mk b tm' ds' k) fs w') ∧
    St P B w0 φ' aN hN b.roundOf.isSome tm' ds' w'∧Ext φ0 h0 φ' hN:=by
  intro fuel
  induction fuel with
  | zero =>
   intro t listed c1 c2 φ s tm ds w hsz hcount p
   have hall:∀ c ∈ cs,listed.getD c.r.i false=true:=by
    have:cs.countP (fun c=>!listed.getD c.r.i false)=0:=Nat.le_zero.1 hcount
    intro c hc
    have:=List.countP_eq_zero.1 this c hc
    simpa using this
   obtain ⟨f1,f2⟩:=j07 C p hall
   exact ⟨φ,tm,ds,w,.one go_regionEnd,f1,f2⟩
  | succ fuel ih =>
   intro t listed c1 c2 φ s tm ds w hsz hcount p
   simp only [Region.linearise.go]
   change ∃ φ' tm' ds' w',Steps P (lone (mk b tm ds (.inRegion ops (match (Region.ready .any ops listed)[t%(Region.ready .any ops listed).length]? with
    | some i=>Region.linearise.go .any ops fuel (t/(Region.ready .any ops listed).length) (listed.setIfInBounds i true) [i]
    | none=>[].reverse)::k)) fs w) (lone (mk b tm' ds' k) fs w')∧_
   cases hi:(Region.ready .any ops listed)[t%(Region.ready .any ops listed).length]? with
   | none =>
    have hnil:Region.ready .any ops listed=[]:=by
     cases hr:Region.ready .any ops listed with
     | nil=>rfl
     | cons x xs =>
      rw [hr] at hi
      have hlt:t%(x::xs).length<(x::xs).length:=Nat.mod_lt _ (by simp)
      simp at hi
      simp at hlt
      omega
    have hall:∀ c ∈ cs,listed.getD c.r.i false=true:=by
     rcases j06 (fun j=>listed.getD j false=true) cs with h1 | ⟨e1,c,e2,h1,h2,h3⟩
     ·exact h1
     ·exfalso
      have hp:=C.place _ _ _ h1
      have hrow:=hp.fact.row
      have hlt:c.r.i<ops.size:=(Array.getElem?_eq_some_iff.1 hrow.get).1
      have:c.r.i ∈ Region.ready .any ops listed:=by
       unfold Region.ready
       rw [List.mem_filter]
       refine ⟨List.mem_range.2 hlt,?_⟩
       rw [hrow.get]
       simp only [Option.map_some,Option.getD_some,Bool.and_eq_true]
       constructor
       ·simp only [Array.getD_eq_getD_getElem?] at h3 ⊢
        rw [Array.getElem?_eq_getElem (by rw [hsz];exact hlt)] at h3 ⊢
        simpa using h3
       ·rw [Array.all_eq_true']
        intro e he
        rw [l0I]
        cases hb:X9 e with
        | false=>rfl
        | true =>
         obtain ⟨x,hx,hxi⟩:=hp.lin e (Array.mem_toList_iff.2 he) hb
         have:=h2 x hx
         rw [hxi] at this
         rw [this];rfl
      rw [hnil] at this
      cases this
    obtain ⟨f1,f2⟩:=j07 C p hall
    exact ⟨φ,tm,ds,w,.one go_regionEnd,f1,f2⟩
   | some i =>
    simp only []
    rw [linearise_go_acc,List.reverse_singleton,List.singleton_append]
    have hmem:=List.mem_of_getElem? hi
    unfold Region.ready at hmem
    rw [List.mem_filter,List.mem_range] at hmem
    obtain ⟨hlt,hmem⟩:=hmem
    obtain ⟨o,ho⟩:∃ o,ops[i]? = some o:=⟨_,Array.getElem?_eq_getElem hlt⟩
    rw [ho] at hmem
    simp only [Option.map_some,Option.getD_some,Bool.and_eq_true] at hmem
    obtain ⟨hm1,hm2⟩:=hmem
    have hli:listed.getD i false=false:=by
     simp only [Array.getD_eq_getD_getElem?] at hm1 ⊢
     rw [Array.getElem?_eq_getElem (by rw [hsz];exact hlt)] at hm1 ⊢
     simpa using hm1
    obtain ⟨d1,d2,hd,p2⟩:=o0l C c2 c1 p
    obtain ⟨g1,g2,φ',s',tm',ds',w',hst,p3⟩:=p0a hC hY C p2 hd ho (by rw [hli];simp) (fun e he hb=>by
     rw [Array.all_eq_true'] at hm2
     have:=hm2 e (Array.mem_toList_iff.1 he)
     rw [l0I,hb] at this
     simpa using this) (Region.linearise.go .any ops fuel (t/(Region.ready .any ops listed).length) (listed.setIfInBounds i true) []) k fs
    have hS:(fun j=>listed.getD j false=true∨j=i)=(fun j=>(listed.setIfInBounds i true).getD j false=true):=by
     funext j
     apply propext
     simp only [Array.getD_eq_getD_getElem?]
     by_cases hj:j=i
     ·subst hj
      rw [Array.getElem?_setIfInBounds_self_of_lt (by rw [hsz];exact hlt)]
      simp
     ·rw [Array.getElem?_setIfInBounds_ne (fun e=>hj e.symm)]
      simp [hj]
    rw [hS] at p3
    have hcov:=C.cover hlt
    have hdec:=o01 (by rw [hsz];exact hlt) hli hcov
    obtain ⟨φ2,tm2,ds2,w2,st2,f1,f2⟩:=ih _ _ _ _ _ _ _ _ _ (by rw [Array.size_setIfInBounds];exact hsz) (by omega) p3
    exact ⟨φ2,tm2,ds2,w2,hst.trans st2,f1,f2⟩
 have hlen:(cs.countP fun c=>!(Array.replicate ops.size false).getD c.r.i false)≤ops.size:=by
  refine Nat.le_trans List.countP_le_length ?_
  have:=C.all.length_eq
  rw [List.length_map,List.length_range] at this
  omega
 exact key ops.size t (Array.replicate ops.size false) [] cs φ0 a0 tm ds w (by simp) hlen (q0u C st fun i h=>by
  rw [Array.getD_eq_getD_getElem?,Array.getElem?_replicate] at h
  split at h <;> cases h)
theorem k0J {S:FuncId→Option (List AV→AH→R (AV×AH))} {lf:Nat} (hM:P.follows .mixedOrders=true) (hN:∀ (f:Nat) fn,P.funcs[f]? = some fn→fn.body.isSome=true→fn.name≠"runtime.NumGoroutine")
  (hS:c0a P B w0 S) (n:Nat):a0Y P B w0 (A3 P S lf n)∧Z0 P B w0 (A3 P S lf n)∧o0p P B w0 (b0a S (A3 P S lf n)) :=
 k0e hM hN hS (fun _ hC hY=>b06 hC hY) n
theorem l0J {S:FuncId→Option (List AV→AH→R (AV×AH))} {lf n:Nat} (hM:P.follows .mixedOrders=true) (hN:∀ (f:Nat) fn,P.funcs[f]? = some fn→fn.body.isSome=true→fn.name≠"runtime.NumGoroutine")
  (hS:c0a P B w0 S) {f:FuncId} {args:List AV} {h h':AH} {v:AV} (he:A3 P S lf n (.fn f) args h=.ok (v,h')) {φ:Phi} {w:World} {args':List Value} (ha:ConL φ args args') (hG:GlobRel P φ) (hR:Rel B w0 φ h w) :
  Calls P f ⟨args'⟩ w fun | .returned v',w'=>∃ φ',Con φ' v v'∧Rel B w0 φ' h' w'∧Ext φ h φ' h' | _,_=>False:=by
 obtain ⟨_,hK⟩:=(k0J hM hN hS n).1 _ _ _ _ _ he φ w args' ha hG hR
 intro cs
 obtain ⟨v',w',fr,fn,hR',hst,e1,e2,e3,e4,e5,e6⟩:=hK cs
 exact ⟨.returned v',w',fr,hR',hst,e1,e2,e3,e4,fn,e5,e6⟩
end Go.Dr

namespace Go.Dr
open Go.RowKit
variable {P:Program}
def o05 (n:Nat) (ρ:Nat→Value:=fun _=>.pointer none):Phi:=⟨fun g=>if g<n then some ⟨g,0,0⟩ else none,ρ⟩
theorem t0L (W:World) (n:Nat) {ρ:Nat→Value}:Rel W.heap.size W (o05 n ρ) ⟨n,.leaf⟩ W:=by
 refine ⟨fun i p e=>?_,fun i p o _ e=>(by cases e),fun i p o _ e=>(by cases e),fun i j p q oi oj _ _ _ e=>(by cases e),.refl _ _,Nat.le_refl _⟩
 simp only [o05] at e
 split at e
 ·assumption
 ·cases e
theorem q0z (P:Program) {ρ:Nat→Value}:GlobRel P (o05 P.globals.size ρ):=fun g hg=>⟨0,by simp only [o05];rw [if_pos hg]⟩
def k0M:R (AV×AH)→Bool
 | .ok (.bool b,_)=>b
 | _=>false
theorem o06 {r:R (AV×AH)} (h:k0M r=true):∃ h',r=.ok (.bool true,h'):=by
 unfold k0M at h
 split at h
 ·cases h;exact ⟨_,rfl⟩
 ·cases h
theorem c0E {P:Program} (h:P.funcs.all (fun f=>f.name != "runtime.NumGoroutine")=true):∀ (f:Nat) fn,P.funcs[f]? = some fn→fn.body.isSome=true→fn.name≠"runtime.NumGoroutine":=by
 intro f fn hf _
 rw [Array.all_eq_true'] at h
 have:=h fn (Array.mem_of_getElem? hf)
 simpa using this
theorem j0x {w:World} {r:Reach} {base:Nat} {t:TypeId} {v:Value} (h:Cell.okWide P w r base t v):l0p v=true:=by
 cases v <;> first | rfl | (unfold Cell.okWide Cell.ok at h;split at h <;> first | contradiction | (split at h <;> first | contradiction | cases h))
end Go.Dr

namespace Go.Dr
variable {P:Program} {c c':E0}
def N9 (c c':E0):Prop:=∀ t args h r,c t args h=.ok r→c' t args h=.ok r
theorem c0b (hc:N9 c c') {o:Oper} {a:AAct} {h:AH} {r:AAct×AH} (he:M9 P c o a h=.ok r):M9 P c' o a h=.ok r:=by
 unfold M9 at he ⊢
 split at he
 ·split at he
  ·split at he
   ·exact he
   ·exact he
   ·exact he
   ·split at he
    ·rename_i hcall;simp only [hc _ _ _ _ hcall];exact he
    ·cases he
   ·split at he
    ·rename_i hcall;simp only [hc _ _ _ _ hcall];exact he
    ·cases he
  ·cases he
 ·cases he
theorem c05 (hc:N9 c c') {ops:Array Oper}:∀ (l:List Oper) {a:AAct} {h:AH} {r:AAct×AH},c0m P c ops l a h=.ok r→c0m P c' ops l a h=.ok r
 | [],_,_,_,he=>he
 | o::l,a,h,r,he=>by
  simp only [c0m] at he ⊢
  split at he
  ·split at he
   ·rename_i hop;simp only [c0b hc hop];exact c05 hc l he
   ·cases he
  ·exact c05 hc l he
  ·cases he
theorem a0M (hc:N9 c c') {ops:Array Oper}:∀ (l:List DEnt) {a:AAct} {h:AH} {r:AAct×AH},O4 P c ops l a h=.ok r→O4 P c' ops l a h=.ok r
 | [],_,_,_,he=>he
 | .op o::l,a,h,r,he=>by
  simp only [O4] at he ⊢
  split at he
  ·split at he
   ·rename_i hop;simp only [c0b hc hop];exact a0M hc l he
   ·cases he
  ·exact a0M hc l he
  ·cases he
 | .stage re::l,a,h,r,he=>by
  simp only [O4] at he ⊢
  cases hb:again P ops re a h with
  | true=>rw [hb] at he;exact a0M hc l he
  | false=>rw [hb] at he;cases he
theorem c0c (hc:N9 c c') {ops:Array Oper} {a:AAct} {h:AH} {r:AAct×AH} (he:b0V P c ops a h=.ok r):b0V P c' ops a h=.ok r:=by
 unfold b0V at he ⊢
 split at he
 ·exact a0M hc _ he
 ·cases he
theorem d0Q {b b':AAct→AH→R (AX×AAct×AH)} (hb:∀ a h r,b a h=.ok r→b' a h=.ok r):∀ {n n':Nat} {a:AAct} {h:AH} {r:AX×AAct×AH},n≤n'→a0w b n a h=.ok r→a0w b' n' a h=.ok r
 | 0,_,_,_,_,_,he=>by cases he
 | n+1,0,_,_,_,hn,_=>absurd hn (by omega)
 | n+1,n'+1,a,h,r,hn,he=>by
  simp only [a0w] at he ⊢
  split at he
  ·rename_i hbody;simp only [hb _ _ _ hbody];exact d0Q hb (by omega) he
  ·rename_i hnot
   have:=hb _ _ _ he
   rw [this]
   split
   ·rename_i e;cases e;exact absurd he (hnot _ _)
   ·rfl
theorem p0o (hc:N9 c c') {f:AV} {params:Array Tmp} {assign body:Code} {a:AAct} {h:AH} {r:AX×AAct×AH} (he:k09 c f params assign body a h=.ok r):k09 c' f params assign body a h=.ok r:=by
 unfold k09 at he ⊢
 split at he
 ·cases hb:a.rd with
  | true=>rw [hb] at he;cases he
  | false =>
   rw [hb] at he
   simp only [cond_false,o8] at he ⊢
   split at he
   ·rename_i hcall;simp only [hc _ _ _ _ hcall];exact he
   ·cases he
 ·cases he
theorem x4 (hc:N9 c c') {lf lf':Nat} (hl:lf≤lf'):∀ (k:Code) {a:AAct} {h:AH} {r:AX×AAct×AH},n9 P c lf k a h=.ok r→n9 P c' lf' k a h=.ok r
 | .skip,_,_,_,he=>he
 | .label _,_,_,_,he=>he
 | .exit _,_,_,_,he=>he
 | .ret,_,_,_,he=>he
 | .goto _,_,_,_,he=>he
 | .refuse _,_,_,_,he=>he
 | .region _ ops draw,a,h,r,he=>by
  simp only [n9] at he ⊢
  cases draw with
  | true =>
   simp only [cond_true] at he ⊢
   split at he
   ·rename_i hop;simp only [c0c hc hop];exact he
   ·cases he
  | false =>
   simp only [cond_false] at he ⊢
   split at he
   ·rename_i hop;simp only [c05 hc _ hop];exact he
   ·cases he
 | .seq x y,a,h,r,he=>by
  simp only [n9] at he ⊢
  split at he
  ·rename_i hx;simp only [x4 hc hl x hx];exact x4 hc hl y he
  ·rename_i hnot
   have:=x4 hc hl x he
   rw [this]
   split
   ·rename_i e;cases e;exact absurd he (hnot _ _)
   ·rfl
 | .cond o x y,a,h,r,he=>by
  simp only [n9] at he ⊢
  split at he
  ·unfold h0d at he ⊢
   split at he
   ·exact x4 hc hl x he
   ·exact x4 hc hl y he
   ·cases he
  ·cases he
 | .block id k,a,h,r,he=>by
  simp only [n9] at he ⊢
  split at he
  ·rename_i hx;simp only [x4 hc hl k hx];exact he
  ·rename_i hnot
   have:=x4 hc hl k he
   rw [this]
   split
   ·rename_i e;cases e;exact absurd he (hnot _ _ _)
   ·rfl
 | .loop k,a,h,r,he=>by
  simp only [n9] at he ⊢
  exact d0Q (fun a h r=>x4 hc hl k) hl he
 | .scope k,a,h,r,he=>by
  simp only [n9] at he ⊢
  split at he
  ·cases he
  ·rename_i hnot
   have:=x4 hc hl k he
   rw [this]
   split
   ·rename_i e;cases e;exact absurd he (hnot _ _ _)
   ·rfl
 | .rangeFunc f ps x y,a,h,r,he=>by
  simp only [n9] at he ⊢
  split at he
  ·exact p0o hc he
  ·cases he
theorem O0 (hc:N9 c c'):∀ (l:List ADef) {h h':AH},H9 c l h=.ok h'→H9 c' l h=.ok h'
 | [],_,_,he=>he
 | d::l,h,h',he=>by
  unfold H9 at he ⊢
  split at he
  ·split at he
   ·exact O0 hc l he
   ·cases he
  ·split at he
   ·split at he
    ·rename_i hcall;simp only [hc _ _ _ _ hcall];exact O0 hc l he
    ·cases he
   ·cases he
   ·cases he
theorem d0v (hc:N9 c c') {fn:Func} {x y:R (AX×AAct×AH)} (hx:∀ r,x=.ok r→y=.ok r) {r:AV×AH} (he:N0 P c fn x=.ok r):N0 P c' fn y=.ok r:=by
 unfold N0 at he
 split at he
 ·rename_i x a h
  rw [hx _ rfl]
  simp only [N0]
  split at he
  ·split at he
   ·rename_i hd;simp only [O0 hc _ hd];exact he
   ·cases he
  ·split at he
   ·rename_i hd;simp only [O0 hc _ hd];exact he
   ·cases he
  ·cases he
 ·cases he
theorem h0v (hc:N9 c c') {lf lf':Nat} (hl:lf≤lf') {l:Nat} {q:ALoop} {args:List AV} {h:AH} {r:AV×AH} (he:e0d P c lf l q args h=.ok r):e0d P c' lf' l q args h=.ok r:=by
 unfold e0d at he ⊢
 cases hb:Nat.beq args.length q.params.size with
 | false=>rw [hb] at he;cases he
 | true =>
  rw [hb] at he
  simp only [cond_true] at he ⊢
  split at he
  ·rename_i hx
   simp only [x4 hc hl _ hx]
   split at he
   ·split at he
    ·generalize hres:n9 P c lf q.body _ _=res at he
     unfold c0P at he
     split at he
     ·rw [x4 hc hl _ hres];exact he
     ·cases he
    ·cases he
   ·cases he
  ·cases he
  ·cases he
theorem f0i {S:FuncId→Option (List AV→AH→R (AV×AH))} (hc:N9 c c'):N9 (b0a S c) (b0a S c'):=by
 intro t args h r he
 unfold b0a at he ⊢
 split at he
 ·split at he
  ·cases he
  ·exact hc _ _ _ _ he
 ·exact hc _ _ _ _ he
theorem c0d {S:FuncId→Option (List AV→AH→R (AV×AH))} {lf lf':Nat} (hl:lf≤lf'):∀ {n n':Nat},n≤n'→N9 (A3 P S lf n) (A3 P S lf' n')
 | 0,_,_=>fun t args h r he=>by cases t <;> cases he
 | n+1,0,hn=>absurd hn (by omega)
 | n+1,n'+1,hn=>fun t args h r he=>by
  have ih:=c0d (S:=S) hl (n:=n) (n':=n') (by omega)
  cases t with
  | fn f =>
   unfold A3 at he ⊢
   split at he
   ·exact he
   ·split at he
    ·split at he
     ·rename_i fn _ _ k _
      cases hb:Nat.ble args.length fn.ntmps with
      | false=>rw [hb] at he;cases he
      | true =>
       rw [hb] at he
       simp only [cond_true] at he ⊢
       exact d0v (f0i ih) (fun r hr=>x4 ih hl _ hr) he
     ·cases he
    ·cases he
  | yield l =>
   unfold A3 at he ⊢
   split at he
   ·exact h0v ih hl he
   ·cases he
end Go.Dr

namespace Go.Dr
structure CRow where
 d:Option Nat
 g:Option (Nat×Bool)
 c:COp
 deriving Inhabited
inductive CEnt where
 | row (r:CRow)
 | stage (l:List CRow)
 deriving Inhabited
inductive CC where
 | skip
 | ops (l:List CEnt)
 | seq (x y:CC)
 | cond (c:CO) (x y:CC)
 | block (id:Nat) (c:CC)
 | loop (c:CC)
 | exit (id:Nat)
 | ret
 | go (n:Nat) (f:CO) (params:Array Tmp) (assign body:Code)
 deriving Inhabited
inductive CRes where
 | tmp (t:Nat)
 | one (p:Nat)
 | many (p n:Nat)
 deriving Inhabited
structure CF where
 n:Nat
 res:List CRes
 c:CC
 deriving Inhabited
section
variable (P:Program)
def COp.isDefer:COp→Bool
 | .defer _ _=>true
 | _=>false
def f0T (ops:Array Oper) (o:Oper):R (Option (Nat×Bool)) :=
 match o.guard with
 | none=>.ok none
 | some (j,w)=>match (ops[j]?).bind (·.dst) with
  | some d=>.ok (some (d,w))
  | none=>.error "guard"
def h0p (n:Nat):Option Tmp→Bool
 | some d=>Nat.blt d n
 | none=>true
def o0q:COp:=.extract (.c .nilp) 0
def c0Z (o:Oper):COp:=match comp P o with | .ok c=>c | .error _=>o0q
def f0U (n:Nat) (rd:Bool) (ops:Array Oper) (o:Oper):R CRow :=
 match f0T ops o with
 | .ok g=>bif Bool.and (h0p n o.dst) (Bool.not (Bool.and rd (c0Z P o).isDefer)) then .ok ⟨o.dst,g,c0Z P o⟩ else .error "row"
 | .error e=>.error e
def f0V (n:Nat) (rd:Bool) (ops:Array Oper):List Oper→R (List CEnt)
 | []=>.ok []
 | o::l=>match f0U P n rd ops o with
  | .ok r=>match f0V n rd ops l with
   | .ok l=>.ok (.row r::l)
   | .error e=>.error e
  | .error e=>.error e
def e0v (ops:Array Oper):List DRow→R (List CRow)
 | []=>.ok []
 | r::l=>match f0T ops r.o with
  | .ok g=>match e0v ops l with
   | .ok l=>.ok (⟨r.o.dst,g,r.c⟩::l)
   | .error e=>.error e
  | .error e=>.error e
def b0D (n:Nat) (rd:Bool) (ops:Array Oper):List DEnt→R (List CEnt)
 | []=>.ok []
 | .op o::l=>match f0U P n rd ops o with
  | .ok r=>match b0D n rd ops l with
   | .ok l=>.ok (.row r::l)
   | .error e=>.error e
  | .error e=>.error e
 | .stage re::l=>match e0v ops re with
  | .ok re=>match b0D n rd ops l with
   | .ok l=>.ok (match re with | []=>l | re=>.stage re::l)
   | .error e=>.error e
  | .error e=>.error e
def a06 (n:Nat) (rd:Bool):Code→R CC
 | .skip=>.ok .skip
 | .label _=>.ok .skip
 | .region _ ops draw=>bif draw then (match s0B P ops with
   | .ok l=>match b0D P n rd ops l with | .ok l=>.ok (.ops l) | .error e=>.error e
   | .error e=>.error e)
  else match f0V P n rd ops ops.toList with | .ok l=>.ok (.ops l) | .error e=>.error e
 | .seq x y=>match a06 n rd x with
  | .ok a=>match a06 n rd y with | .ok b=>.ok (.seq a b) | .error e=>.error e
  | .error e=>.error e
 | .cond c x y=>match cO P c with
  | .ok c=>match a06 n rd x with
   | .ok a=>match a06 n rd y with | .ok b=>.ok (.cond c a b) | .error e=>.error e
   | .error e=>.error e
  | .error e=>.error e
 | .block id c=>match a06 n rd c with | .ok a=>.ok (.block id a) | .error e=>.error e
 | .loop c=>match a06 n rd c with | .ok a=>.ok (.loop a) | .error e=>.error e
 | .exit id=>.ok (.exit id)
 | .ret=>.ok .ret
 | .scope c=>a06 n rd c
 | .rangeFunc f params assign body=>match cO P f with
  | .ok f=>bif rd then .error "rangeFunc in a round" else .ok (.go n f params assign body)
  | .error e=>.error e
 | .goto _=>.error "goto"
 | .refuse why=>.error why
def b0f:List ResultVar→R (List CRes)
 | []=>.ok []
 | .tmp t::l=>match b0f l with | .ok r=>.ok (.tmp t::r) | .error e=>.error e
 | .cell p t::l=>match b0f l with
  | .ok r=>match d0E P t,M2 P t with
   | .ok true,.ok n=>.ok (.many p n::r)
   | .ok false,_=>.ok (.one p::r)
   | _,_=>.error "results"
  | .error e=>.error e
def m6 (f:FuncId):R CF :=
 match P.funcs[f]? with
 | some fn=>match fn.body with
  | some c=>match a06 P fn.ntmps false c with
   | .ok cc=>match b0f P fn.results.toList with
    | .ok r=>.ok ⟨fn.ntmps,r,cc⟩
    | .error e=>.error e
   | .error e=>.error e
  | none=>.error "no body"
 | none=>.error "no function"
end
abbrev Sg:=Nat→AV
def upd (σ:Sg) (d:Option Nat) (v:AV):Sg :=
 match d with
 | some d=>fun i=>if i=d then v else σ i
 | none=>σ
theorem nr0 {α:Sort _} {a b:α} (h:a=b):a=b:=h
@[simp] theorem v0n (σ:Sg) (v:AV):upd σ none v=σ:=nr0 rfl
@[simp] theorem a0H (σ:Sg) (d:Nat) (v:AV) (i:Nat):upd σ (some d) v i=if i=d then v else σ i:=nr0 rfl
def CO.evS (σ:Sg):CO→AV
 | .t i=>σ i
 | .c v=>v
@[simp] theorem CO.evS_t (σ:Sg) (i:Nat):(CO.t i).evS σ=σ i:=nr0 rfl
@[simp] theorem CO.evS_c (σ:Sg) (v:AV):(CO.c v).evS σ=v:=nr0 rfl
def d0D (σ:Sg):List CO→List AV
 | []=>[]
 | x::l=>x.evS σ::d0D σ l
def b04 (σ:Sg):Option CO→Option AV
 | none=>none
 | some x=>some (x.evS σ)
@[simp] theorem v0o (σ:Sg):d0D σ []=[]:=nr0 rfl
@[simp] theorem u0D (σ:Sg) (x:CO) (l:List CO):d0D σ (x::l)=x.evS σ::d0D σ l:=nr0 rfl
@[simp] theorem u0E (σ:Sg):b04 σ none=none:=nr0 rfl
@[simp] theorem u0F (σ:Sg) (x:CO):b04 σ (some x)=some (x.evS σ):=nr0 rfl
def d0H (σ:Sg) (cells:List AV):List (Nat×Nat×CO)→R (List AV)
 | []=>.ok cells
 | (off,size,x)::rest =>
  let l:=(x.evS σ).cells
  bif Nat.beq l.length size&&Nat.ble (off+l.length) cells.length then d0H σ (B0 cells off l) rest else .error "fill"
def f0W (z:List AV) (pl:List (Nat×Nat×CO)) (σ:Sg):R AV:=match d0H σ z pl with | .ok l=>.ok (.agg l) | .error e=>.error e
def U5 (len es:Nat) (z:List AV) (pl:List (Nat×Nat×CO)) (σ:Sg) (h:AH):RN :=
 match d0H σ z pl with
 | .ok l=>okV (.slice h.next 0 len len true es) (h.push (.cells l false))
 | .error e=>.error e
section
variable (P:Program)
def evS (c:COp) (s:Sg) (h:AH):RN :=
 match c with
 | .move x=>okV (x.evS s) h
 | .pick c x y=>m9 h (h0b (c.evS s) (x.evS s) (y.evS s))
 | .new z=>B7 z h
 | .box x=>B7 (x.evS s).cells h
 | .build z pl=>m9 h (f0W z pl s)
 | .buildSlice len es z pl=>U5 len es z pl s h
 | .load1 x=>c0l (x.evS s) h
 | .loadN n x=>A5 n (x.evS s) h
 | .store n x y=>T6 n (x.evS s) (y.evS s) h
 | .nilCheck x=>L1 (x.evS s) h
 | .bin op t lit x y=>m9 h (A0 P op t lit (x.evS s) (y.evS s))
 | .un op x=>m9 h (n0S op (x.evS s))
 | .conv c x=>J7 c (x.evS s) h
 | .mkI t x=>okV (.iface t (x.evS s)) h
 | .mkF f first captured=>okV (.func (.func f) (d0D s first) (d0D s captured)) h
 | .mkM r=>e03 (b04 s r) h
 | .mkS es bytes z l c=>d05 es bytes z (l.evS s) (c.evS s) h
 | .sliceS x lo hi=>m9 h (d07 (x.evS s) (b04 s lo) (b04 s hi))
 | .sliceV es x lo hi mx=>m9 h (r9 es (x.evS s) (b04 s lo) (b04 s hi) (b04 s mx))
 | .sliceA n es x lo hi mx=>m9 h (d08 n es h (x.evS s) (b04 s lo) (b04 s hi) (b04 s mx))
 | .fieldAddr off x=>m9 h (Y8 off (x.evS s))
 | .field1 off x=>m9 h (f0r (x.evS s) off)
 | .fieldN off n x=>m9 h (d0i (x.evS s) off n)
 | .idxA len es x i=>m9 h (i05 len es (x.evS s) (i.evS s))
 | .idxV es x i=>m9 h (I3 es (x.evS s) (i.evS s))
 | .index1 len es x i=>m9 h (a0E true len es (x.evS s) (i.evS s))
 | .indexN len es x i=>m9 h (a0E false len es (x.evS s) (i.evS s))
 | .indexS x i=>m9 h (b0U (x.evS s) (i.evS s))
 | .lookup kt z ok x k=>m9 h (d09 P kt z ok h (x.evS s) (k.evS s))
 | .upd kt m k v=>a0a (d0B P kt h (m.evS s) (k.evS s) (v.evS s))
 | .mapEntry kt z m k=>a0u P kt z h (m.evS s) (k.evS s)
 | .entryStore m t v=>a0a (a0c h (m.evS s) (t.evS s) (v.evS s))
 | .rangeS x=>a0d h (x.evS s)
 | .rangeM x=>U9 h (x.evS s)
 | .next it b=>a0v h (it.evS s) b
 | .entry it=>m9 h (d0j h (it.evS s))
 | .tassert x t ok=>m9 h (a0e P (x.evS s) t ok)
 | .extract x i=>m9 h (Y9 (x.evS s) i)
 | .app es bytes x y=>a0S es bytes (x.evS s) (y.evS s) h
 | .appZ es bytes z x y=>e0b es bytes z (x.evS s) (y.evS s) h
 | .lenK n=>okV (.int .i64 (.ofNat n)) h
 | .lenS x=>m9 h (g09 (x.evS s))
 | .lenV x=>m9 h (O1 (x.evS s))
 | .lenM x=>m9 h (f0s h (x.evS s))
 | .capV x=>m9 h (h0a (x.evS s))
 | .copy es d x=>c0x es (d.evS s) (x.evS s) h
 | .delete kt m k=>a0T P kt (m.evS s) (k.evS s) h
 | .clear es z x=>c0k es z (x.evS s) h
 | .mm isMax x l=>m9 h (a04 isMax (x.evS s) (d0D s l))
 | .callV f args=>d0k (f.evS s) (d0D s args) h
 | .callM r name args=>c0O P (r.evS s) name (d0D s args) h
 | .defer f args=>g0m (f.evS s) (d0D s args) h
end
theorem CO.ev_eq (a:AAct) (x:CO):x.ev a=x.evS a.val:=by cases x <;> rfl
theorem q0v (a:AAct):∀ l:List CO,evL a l=d0D a.val l
 | []=>rfl
 | x::l=>by rw [evL,d0D,q0v a l,CO.ev_eq]
theorem s0e (a:AAct) (x:Option CO):d06 a x=b04 a.val x:=by cases x <;> simp [d06,b04,CO.ev_eq]
theorem o0r (a:AAct):∀ (l:List (Nat×Nat×CO)) (c:List AV),d0z a c l=d0H a.val c l
 | [],_=>rfl
 | (off,size,x)::rest,c=>by
  rw [d0z,d0H,CO.ev_eq]
  simp only [o0r a rest]
theorem n0q (P:Program) (c:COp) (a:AAct) (h:AH):evC P c a h=evS P c a.val h:=by
 cases c <;> simp only [evC,evS,CO.ev_eq,q0v,s0e,d0l,f0W,Q2,U5,o0r] <;> rfl
theorem AAct.put_val (a:AAct) (d:Option Tmp) (v:AV) (h:h0p a.n d=true):(a.put d v).val=upd a.val d v:=by
 cases d with
 | none=>rfl
 | some d =>
  have h':Nat.blt d a.n=true:=h
  funext i
  simp only [AAct.put,h',cond_true,AAct.val,PT.get_set,upd]
  by_cases e:i=d
  ·simp [e]
  ·simp [e]
theorem AAct.put_same (a:AAct) (d:Option Tmp) (v:AV):(a.put d v).n=a.n∧(a.put d v).ds=a.ds∧(a.put d v).rd=a.rd:=by
 cases d with
 | none=>exact ⟨rfl,rfl,rfl⟩
 | some d =>
  simp only [AAct.put]
  cases Nat.blt d a.n <;> exact ⟨rfl,rfl,rfl⟩
inductive WX where
 | normal
 | exit (id:Nat)
 | ret
 deriving Inhabited
def WX.ax:WX→AX
 | .normal=>.normal
 | .exit i=>.exit i
 | .ret=>.ret
abbrev G4:=WX→Sg→List ADef→AH→Prop
abbrev a0o:=FuncId→Option (List AV→AH→R (AV×AH))
section
variable (P:Program) (S:a0o)
def cl (N:Nat):E0:=A3 P S N N
def Ev (t:Tgt) (args:List AV) (h:AH) (K:AV→AH→Prop):Prop:=∃ N v h',cl P S N t args h=.ok (v,h')∧K v h'
def wpR (r:RN) (K:AV→AH→Prop) (D:ADef→AH→Prop):Prop :=
 match r with
 | .ok (n,h)=>match n with
  | .value v=>K v h
  | .skip=>K n8 h
  | .enter f args=>Ev P S (.fn f) args h K
  | .yield l args=>Ev P S (.yield l) args h K
  | .defer d=>D d h
 | .error _=>False
def wpG (v:AV) (w:Bool) (x y:Prop):Prop :=
 match v with
 | .bool b=>if b=w then x else y
 | _=>False
def e0N (v:AV) (w:Bool) (x y:Prop):Prop :=
 match v with
 | .bool b=>if b=w then x else y
 | .raw _=>False
 | _=>y
def R5:List CRow→Sg→AH→Prop
 | [],_,_=>True
 | r::l,σ,h =>
  (match r.g with
   | none=>∃ v h',evS P r.c σ h=.ok (.value v,h')∧∀ d,r.d=some d→R8 12 v (σ d)=true
   | some (t,w)=>e0N (σ t) w (∃ v h',evS P r.c σ h=.ok (.value v,h')∧∀ d,r.d=some d→R8 12 v (σ d)=true) True)∧R5 l σ h
def C0:List CEnt→G4→Sg→List ADef→AH→Prop
 | [],Q,σ,ds,h=>Q .normal σ ds h
 | .row r::l,Q,σ,ds,h=>match r.g with
  | none=>wpR P S (evS P r.c σ h) (fun v h=>C0 l Q (upd σ r.d v) ds h) (fun df h=>C0 l Q (upd σ r.d n8) (df::ds) h)
  | some (t,w)=>e0N (σ t) w (wpR P S (evS P r.c σ h) (fun v h=>C0 l Q (upd σ r.d v) ds h) (fun df h=>C0 l Q (upd σ r.d n8) (df::ds) h))
    (C0 l Q (upd σ r.d n8) ds h)
 | .stage re::l,Q,σ,ds,h=>R5 P re σ h∧C0 l Q σ ds h
def g0P (id:Nat) (Q:G4):G4:=fun x σ ds h=>match x with
 | .exit i=>if i=id then Q .normal σ ds h else Q (.exit i) σ ds h
 | x=>Q x σ ds h
abbrev Inv:=Nat→Sg→List ADef→AH→Prop
def d0I (I:Inv) (k:Nat) (Q:G4):G4:=fun x σ ds h=>match x with
 | .normal=>∃ k',k'<k∧I k' σ ds h
 | x=>Q x σ ds h
def v0p (t:PT AV) (i:Nat):AV:=match t.get i with | some v=>v | none=>n8
def Kgo (Q:G4) (σ:Sg) (ds:List ADef) (did:Nat):AV→AH→Prop:=fun _ h =>
 ∃ r,h.get (did+1)=some (.loop r)∧r.state≠.busy∧match r.pending with
  | none=>Q .normal σ (.collected did::ds) (h.set (did+1) (.loop { r with state:=.exhausted }))
  | some .ret=>Q .ret σ (.collected did::ds) (h.set (did+1) (.loop { r with state:=.exhausted }))
  | some (.exit id)=>Q (.exit id) σ (.collected did::ds) (h.set (did+1) (.loop { r with state:=.exhausted }))
  | some _=>False
def t0K (f:AV) (n:Nat) (params:Array Tmp) (assign body:Code) (Q:G4) (σ:Sg) (ds:List ADef) (h:AH):Prop :=
 match f with
 | .func (.func g) first captured=>∀ tmps:PT AV,(∀ i,v0p tmps i=σ i) →
   Ev P S (.fn g) (first++(.func (.yield (h.next+1)) [] []::captured))
    ((h.push (.deferred (some []))).push (.loop { state:=.ready,pending:=none,n:=n,tmps:=tmps,params,assign,body })) (Kgo Q σ ds h.next)
 | _=>False
def wpC:CC→G4→Sg→List ADef→AH→Prop
 | .skip,Q,σ,ds,h=>Q .normal σ ds h
 | .ops l,Q,σ,ds,h=>C0 P S l Q σ ds h
 | .seq x y,Q,σ,ds,h=>wpC x (fun r σ ds h=>match r with | .normal=>wpC y Q σ ds h | r=>Q r σ ds h) σ ds h
 | .cond c x y,Q,σ,ds,h=>wpG (c.evS σ) true (wpC x Q σ ds h) (wpC y Q σ ds h)
 | .block id c,Q,σ,ds,h=>wpC c (g0P id Q) σ ds h
 | .loop c,Q,σ,ds,h=>∃ (I:Inv) (k:Nat),I k σ ds h∧∀ k σ ds h,I k σ ds h→wpC c (d0I I k Q) σ ds h
 | .exit id,Q,σ,ds,h=>Q (.exit id) σ ds h
 | .ret,Q,σ,ds,h=>Q .ret σ ds h
 | .go n f params assign body,Q,σ,ds,h=>t0K P S (f.evS σ) n params assign body Q σ ds h
def s0f (y:CC) (Q:G4):G4:=fun r σ ds h=>match r with | .normal=>wpC P S y Q σ ds h | r=>Q r σ ds h
end
section
variable {P:Program} {S:a0o}
theorem N6 {N N':Nat} (h:N≤N'):N9 (cl P S N) (cl P S N'):=c0d h h
theorem Ev.mono {t:Tgt} {args:List AV} {h:AH} {K K':AV→AH→Prop} (e:Ev P S t args h K) (hk:∀ v h',K v h'→K' v h'):Ev P S t args h K':=by
 obtain ⟨N,v,h',e,k⟩:=e
 exact ⟨N,v,h',e,hk _ _ k⟩
def gw (v:AV) (w:Bool):R Bool:=match v with
 | .bool b=>.ok (b == w)
 | .raw _=>.error "guard"
 | _=>.ok false
theorem b0g {ops:Array Oper} {o:Oper} {a:AAct} {g:Option (Nat×Bool)} (hg:f0T ops o=.ok g) :
  (g=none∧s6 ops o a=.ok true)∨∃ t w,g=some (t,w)∧s6 ops o a=gw (a.val t) w:=by
 unfold f0T at hg
 unfold s6
 split at hg
 ·rename_i e;cases hg;rw [e];exact .inl ⟨rfl,rfl⟩
 ·rename_i j w e
  rw [e]
  split at hg
  ·rename_i d e2
   cases hg
   simp only [e2]
   exact .inr ⟨d,w,rfl,rfl⟩
  ·cases hg
theorem c00 {v:AV} {w:Bool} {x y:Prop} (h:e0N v w x y):(∃ b,v=.bool b∧b=w∧x)∨(gw v w=.ok false∧y):=by
 cases v with
 | bool b =>
  simp only [e0N] at h
  by_cases e:b=w
  ·rw [if_pos e] at h;exact .inl ⟨b,rfl,e,h⟩
  ·rw [if_neg e] at h;exact .inr ⟨by simp [gw,e],h⟩
 | raw=>exact h.elim
 | _=>exact .inr ⟨rfl,h⟩
theorem e09 {n:Nat} {rd:Bool} {ops:Array Oper} {o:Oper} {r:CRow} (h:f0U P n rd ops o=.ok r) :
  r.c=c0Z P o∧f0T ops o=.ok r.g∧r.d=o.dst∧h0p n o.dst=true∧(rd=true→r.c.isDefer=false):=by
 unfold f0U at h
 split at h
 ·rename_i g hg
  cases hb:Bool.and (h0p n o.dst) (Bool.not (Bool.and rd (c0Z P o).isDefer)) with
  | false=>rw [hb] at h;cases h
  | true =>
   rw [hb] at h
   cases h
   simp only [Bool.and_eq_true,Bool.not_eq_true'] at hb
   refine ⟨rfl,hg,rfl,hb.1,fun e=>?_⟩
   have:=hb.2
   rw [e] at this
   simpa using this
 ·cases h
theorem i0o {c:COp} {σ:Sg} {h h':AH} {d:ADef} (e:evS P c σ h=.ok (.defer d,h')):c.isDefer=true:=by
 have key:∀ (r:R AV) (h:AH),m9 h r=.ok (.defer d,h')→False:=by
  intro r h e;unfold m9 at e;split at e <;> cases e
 have key2:∀ (r:R AH),a0a r=.ok (.defer d,h')→False:=by
  intro r e;unfold a0a at e;split at e <;> cases e
 cases c <;> simp only [evS,okV,B7] at e <;> first
  | rfl
  | exact (key _ _ e).elim
  | exact (key2 _ e).elim
  | cases e
  | skip
 all_goals exfalso
 case buildSlice=>unfold U5 okV at e;split at e <;> cases e
 case load1=>unfold c0l at e;split at e;exact key _ _ e;cases e
 case loadN=>unfold A5 okV at e;split at e;split at e <;> cases e;cases e
 case store =>
  unfold T6 at e
  split at e
  ·rw [cond_eq_ite] at e
   split at e
   ·exact key2 _ e
   ·cases e
  ·cases e
 case nilCheck=>unfold L1 okV at e;split at e;cases e;cases e;cases e;split at e <;> cases e;cases e
 case conv=>unfold J7 okV at e;simp only [o8] at e;repeat (first | cases e | split at e)
 case mkM=>unfold e03 okV at e;split at e <;> cases e
 case mkS=>unfold d05 okV at e;repeat (first | cases e | split at e)
 case mapEntry=>unfold a0u okV at e;repeat (first | cases e | split at e)
 case rangeS=>unfold a0d okV at e;split at e <;> cases e
 case rangeM=>unfold U9 okV at e;repeat (first | cases e | split at e)
 case next =>
  unfold a0v at e
  split at e
  ·split at e
   ·unfold i06 okV at e
    split at e
    ·rename_i s pos _
     cases hb:Nat.blt pos s.length <;> rw [hb] at e
     ·cases e
     ·simp only [cond_true,o8] at e;cases e
    ·cases e
   ·unfold k0s okV at e;repeat (first | cases e | split at e)
  ·cases e
 case app =>
  unfold a0S at e
  split at e
  ·unfold V0 okV at e
   simp only [o8,cond_eq_ite] at e
   repeat (first | cases e | split at e)
  ·cases e
 case appZ =>
  unfold e0b at e
  split at e
  ·split at e
   ·unfold V0 okV at e
    simp only [o8,cond_eq_ite] at e
    repeat (first | cases e | split at e)
   ·cases e
  ·cases e
 case copy=>unfold c0x okV at e;repeat (first | cases e | split at e)
 case delete=>unfold a0T okV at e;repeat (first | cases e | split at e)
 case clear=>unfold c0k okV at e;repeat (first | cases e | split at e)
 case callV=>unfold d0k a0f at e;repeat (first | cases e | split at e)
 case callM=>unfold c0O a0f at e;repeat (first | cases e | split at e)
structure Keep (n:Nat) (rd:Bool) (a:AAct):Prop where
 n:a.n=n
 rd:a.rd=rd
theorem Keep.put {n:Nat} {rd:Bool} {a:AAct} (k:Keep n rd a) (d:Option Tmp) (v:AV):Keep n rd (a.put d v) :=
 ⟨(a.put_same d v).1.trans k.n,(a.put_same d v).2.2.trans k.rd⟩
theorem o0s {n:Nat} {rd:Bool} {o:Oper} {c:COp} {a:AAct} {h:AH} {K:AV→AH→Prop} {D:ADef→AH→Prop} (hc':c=c0Z P o) (hk:Keep n rd a) (hd:h0p n o.dst=true)
  (hrd:rd=true→c.isDefer=false) (hw:wpR P S (evS P c a.val h) K D) :
  ∃ N a' h',M9 P (cl P S N) o a h=.ok (a',h')∧Keep n rd a' ∧
   ((∃ v,a'.val=upd a.val o.dst v∧a'.ds=a.ds∧K v h')∨(∃ df,a'.val=upd a.val o.dst n8∧a'.ds=df::a.ds∧D df h')):=by
 have hd':h0p a.n o.dst=true:=by rw [hk.n];exact hd
 have hval:∀ v,(a.put o.dst v).val=upd a.val o.dst v:=fun v=>a.put_val _ _ hd'
 have hds:∀ v,(a.put o.dst v).ds=a.ds:=fun v=>(a.put_same _ _).2.1
 have hc:comp P o=.ok c:=by
  unfold c0Z at hc'
  split at hc'
  ·rename_i c1 e;rw [e,hc']
  ·subst hc';exact hw.elim
 unfold M9
 simp only [hc,n0q,p6]
 generalize hres:evS P c a.val h=res at hw
 unfold wpR at hw
 cases res with
 | error e=>exact hw.elim
 | ok p =>
  obtain ⟨m,h1⟩:=p
  cases m with
  | value v=>exact ⟨0,_,_,rfl,hk.put _ _,.inl ⟨v,hval v,hds v,hw⟩⟩
  | skip=>exact ⟨0,_,_,rfl,hk.put _ _,.inl ⟨_,hval _,hds _,hw⟩⟩
  | enter f args =>
   obtain ⟨N,v,h2,e,k⟩:=hw
   exact ⟨N,a.put o.dst v,h2,by simp only [e],hk.put _ _,.inl ⟨v,hval v,hds v,k⟩⟩
  | yield f args =>
   obtain ⟨N,v,h2,e,k⟩:=hw
   exact ⟨N,a.put o.dst v,h2,by simp only [e],hk.put _ _,.inl ⟨v,hval v,hds v,k⟩⟩
  | defer d =>
   have hr:a.rd=false:=by
    cases e:a.rd with
    | false=>rfl
    | true =>
     have:=hrd (hk.rd.symm.trans e)
     rw [i0o hres] at this
     cases this
   refine ⟨0,(⟨a.n,a.ts,d::a.ds,a.rd⟩:AAct).put o.dst n8,h1,by simp only [hr,cond_false],Keep.put (a:=⟨a.n,a.ts,d::a.ds,a.rd⟩) ⟨hk.n,hk.rd⟩ _ _,.inr ⟨d,?_,?_,hw⟩⟩
   ·exact AAct.put_val ⟨a.n,a.ts,d::a.ds,a.rd⟩ o.dst n8 hd'
   ·exact (AAct.put_same _ _ _).2.1
theorem k0K {n:Nat} {rd:Bool} {ops:Array Oper}:∀ (l:List Oper) (l':List CEnt),f0V P n rd ops l=.ok l'→∀ {Q:G4} {a:AAct} {h:AH},Keep n rd a→C0 P S l' Q a.val a.ds h →
  ∃ N a' h',c0m P (cl P S N) ops l a h=.ok (a',h')∧Keep n rd a'∧Q .normal a'.val a'.ds h'
 | [],l',hc,Q,a,h,hk,hw=>by
  cases hc
  exact ⟨0,a,h,rfl,hk,hw⟩
 | o::l,l',hc,Q,a,h,hk,hw=>by
  simp only [f0V] at hc
  split at hc
  ·rename_i r hr
   split at hc
   ·rename_i l2 hl2
    cases hc
    obtain ⟨h1,h2,h3,h4,h5⟩:=e09 hr
    have goOn:wpR P S (evS P r.c a.val h) (fun v h=>C0 P S l2 Q (upd a.val r.d v) a.ds h) (fun df h=>C0 P S l2 Q (upd a.val r.d n8) (df::a.ds) h)→s6 ops o a=.ok true →
      ∃ N a' h',c0m P (cl P S N) ops (o::l) a h=.ok (a',h')∧Keep n rd a'∧Q .normal a'.val a'.ds h':=by
     intro hw hwant
     rw [h3] at hw
     obtain ⟨N1,a1,g1,e1,k1,hcase⟩:=o0s h1 hk h4 h5 hw
     have:C0 P S l2 Q a1.val a1.ds g1:=by
      rcases hcase with ⟨v,b1,b2,b3⟩ | ⟨df,b1,b2,b3⟩
      ·rw [b1,b2];exact b3
      ·rw [b1,b2];exact b3
     obtain ⟨N2,a2,g2,e2,k2,q⟩:=k0K l l2 hl2 k1 this
     refine ⟨max N1 N2,a2,g2,?_,k2,q⟩
     simp only [c0m,hwant,c0b (N6 (Nat.le_max_left N1 N2)) e1]
     exact c05 (N6 (Nat.le_max_right N1 N2)) _ e2
    rcases b0g (a:=a) h2 with ⟨g,hwant⟩ | ⟨t,w,g,hwant⟩
    ·simp only [C0,g] at hw
     exact goOn hw hwant
    ·simp only [C0,g] at hw
     rcases c00 hw with ⟨b,hb,hbw,hw⟩ | ⟨hno,hw⟩
     ·rw [hb] at hwant
      exact goOn hw (by rw [hwant];simp [gw,hbw])
     ·rw [h3] at hw
      have hv:=AAct.put_val a o.dst n8 (by rw [hk.n];exact h4)
      have hd:=(a.put_same o.dst n8).2.1
      obtain ⟨N2,a2,g2,e2,k2,q⟩:=k0K l l2 hl2 (hk.put o.dst n8) (by rw [hv,hd];exact hw)
      refine ⟨N2,a2,g2,?_,k2,q⟩
      simp only [c0m,hwant.trans hno]
      exact e2
   ·cases hc
  ·cases hc
theorem j08 {ops:Array Oper}:∀ (re:List DRow) (l:List CRow),e0v ops re=.ok l→∀ {a:AAct} {h:AH},R5 P l a.val h→again P ops re a h=true
 | [],l,hc,a,h,hw=>rfl
 | r::re,l,hc,a,h,hw=>by
  simp only [e0v] at hc
  split at hc
  ·rename_i g hg
   split at hc
   ·rename_i l2 hl2
    cases hc
    have ih:=j08 re l2 hl2 (a:=a) (h:=h)
    have key:(∃ v h',evS P r.c a.val h=.ok (.value v,h')∧∀ d,r.o.dst=some d→R8 12 v (a.val d)=true)→s6 ops r.o a=.ok true→R5 P l2 a.val h→again P ops (r::re) a h=true:=by
     rintro ⟨v,h',e,hd⟩ hwant hl
     simp only [again,hwant,n0q,e,ih hl,Bool.and_true]
     cases hdst:r.o.dst with
     | none=>rfl
     | some d=>exact hd d hdst
    simp only [R5] at hw
    rcases b0g (a:=a) hg with ⟨g',hwant⟩ | ⟨t,w,g',hwant⟩
    ·subst g'
     exact key hw.1 hwant hw.2
    ·subst g'
     obtain ⟨h1,h2⟩:=hw
     rcases c00 h1 with ⟨b,hb,hbw,h1⟩ | ⟨hno,_⟩
     ·rw [hb] at hwant
      exact key h1 (by rw [hwant];simp [gw,hbw]) h2
     ·simp only [again,hwant.trans hno]
      exact ih h2
   ·cases hc
  ·cases hc
theorem f0X {n:Nat} {rd:Bool} {ops:Array Oper}:∀ (l:List DEnt) (l':List CEnt),b0D P n rd ops l=.ok l'→∀ {Q:G4} {a:AAct} {h:AH},Keep n rd a→C0 P S l' Q a.val a.ds h →
  ∃ N a' h',O4 P (cl P S N) ops l a h=.ok (a',h')∧Keep n rd a'∧Q .normal a'.val a'.ds h'
 | [],l',hc,Q,a,h,hk,hw=>by
  cases hc
  exact ⟨0,a,h,rfl,hk,hw⟩
 | .stage re::l,l',hc,Q,a,h,hk,hw=>by
  simp only [b0D] at hc
  split at hc
  ·rename_i re2 hre
   split at hc
   ·rename_i l2 hl2
    have hw':R5 P re2 a.val h∧C0 P S l2 Q a.val a.ds h:=by
     cases hc
     cases re2 with
     | nil=>exact ⟨trivial,hw⟩
     | cons=>exact hw
    obtain ⟨N,a',h',e,k,q⟩:=f0X l l2 hl2 hk hw'.2
    refine ⟨N,a',h',?_,k,q⟩
    simp only [O4,j08 re re2 hre hw'.1,cond_true]
    exact e
   ·cases hc
  ·cases hc
 | .op o::l,l',hc,Q,a,h,hk,hw=>by
  simp only [b0D] at hc
  split at hc
  ·rename_i r hr
   split at hc
   ·rename_i l2 hl2
    cases hc
    obtain ⟨h1,h2,h3,h4,h5⟩:=e09 hr
    have goOn:wpR P S (evS P r.c a.val h) (fun v h=>C0 P S l2 Q (upd a.val r.d v) a.ds h) (fun df h=>C0 P S l2 Q (upd a.val r.d n8) (df::a.ds) h)→s6 ops o a=.ok true →
      ∃ N a' h',O4 P (cl P S N) ops (.op o::l) a h=.ok (a',h')∧Keep n rd a'∧Q .normal a'.val a'.ds h':=by
     intro hw hwant
     rw [h3] at hw
     obtain ⟨N1,a1,g1,e1,k1,hcase⟩:=o0s h1 hk h4 h5 hw
     have:C0 P S l2 Q a1.val a1.ds g1:=by
      rcases hcase with ⟨v,b1,b2,b3⟩ | ⟨df,b1,b2,b3⟩
      ·rw [b1,b2];exact b3
      ·rw [b1,b2];exact b3
     obtain ⟨N2,a2,g2,e2,k2,q⟩:=f0X l l2 hl2 k1 this
     refine ⟨max N1 N2,a2,g2,?_,k2,q⟩
     simp only [O4,hwant,c0b (N6 (Nat.le_max_left N1 N2)) e1]
     exact a0M (N6 (Nat.le_max_right N1 N2)) _ e2
    rcases b0g (a:=a) h2 with ⟨g,hwant⟩ | ⟨t,w,g,hwant⟩
    ·simp only [C0,g] at hw
     exact goOn hw hwant
    ·simp only [C0,g] at hw
     rcases c00 hw with ⟨b,hb,hbw,hw⟩ | ⟨hno,hw⟩
     ·rw [hb] at hwant
      exact goOn hw (by rw [hwant];simp [gw,hbw])
     ·rw [h3] at hw
      have hv:=AAct.put_val a o.dst n8 (by rw [hk.n];exact h4)
      have hd:=(a.put_same o.dst n8).2.1
      obtain ⟨N2,a2,g2,e2,k2,q⟩:=f0X l l2 hl2 (hk.put o.dst n8) (by rw [hv,hd];exact hw)
      refine ⟨N2,a2,g2,?_,k2,q⟩
      simp only [O4,hwant.trans hno]
      exact e2
   ·cases hc
  ·cases hc
theorem s0g {n:Nat} {rd:Bool} {c:Code} {cc:CC}
  (ih:∀ {Q:G4} {a:AAct} {h:AH},Keep n rd a→wpC P S cc Q a.val a.ds h→∃ N x a' h',n9 P (cl P S N) N c a h=.ok (x.ax,a',h')∧Keep n rd a'∧Q x a'.val a'.ds h')
  {I:Inv} {Q:G4} (hI:∀ k σ ds h,I k σ ds h→wpC P S cc (d0I I k Q) σ ds h):∀ (k:Nat) (a:AAct) (h:AH),Keep n rd a→I k a.val a.ds h →
  ∃ N x a' h',(∀ lf,N≤lf→a0w (n9 P (cl P S lf) lf c) lf a h=.ok (x.ax,a',h'))∧Keep n rd a'∧Q x a'.val a'.ds h':=by
 intro k
 induction k using Nat.strongRecOn with
 | _ k ihk =>
  intro a h hk hi
  obtain ⟨N,x,a1,h1,e,k1,q⟩:=ih hk (hI k _ _ _ hi)
  have hbody:∀ lf,N≤lf→n9 P (cl P S lf) lf c a h=.ok (x.ax,a1,h1):=fun lf hl=>x4 (N6 hl) hl _ e
  cases x with
  | normal =>
   obtain ⟨k',hlt,hi'⟩:=q
   obtain ⟨N2,x2,a2,h2,e2,k2,q2⟩:=ihk k' hlt a1 h1 k1 hi'
   refine ⟨max N N2+1,x2,a2,h2,fun lf hl=>?_,k2,q2⟩
   obtain ⟨m,rfl⟩:∃ m,lf=m+1:=⟨lf - 1,by omega⟩
   simp only [a0w]
   rw [hbody (m+1) (by omega)]
   simp only [WX.ax]
   have:=e2 m (by omega)
   exact d0Q (fun a h r hr=>x4 (N6 (Nat.le_succ m)) (Nat.le_succ m) _ hr) (Nat.le_refl m) this
  | exit id =>
   refine ⟨N+1,.exit id,a1,h1,fun lf hl=>?_,k1,q⟩
   obtain ⟨m,rfl⟩:∃ m,lf=m+1:=⟨lf - 1,by omega⟩
   simp only [a0w]
   rw [hbody (m+1) (by omega)]
   rfl
  | ret =>
   refine ⟨N+1,.ret,a1,h1,fun lf hl=>?_,k1,q⟩
   obtain ⟨m,rfl⟩:∃ m,lf=m+1:=⟨lf - 1,by omega⟩
   simp only [a0w]
   rw [hbody (m+1) (by omega)]
   rfl
theorem b07 {n:Nat} {rd:Bool}:∀ (c:Code) (cc:CC),a06 P n rd c=.ok cc→∀ {Q:G4} {a:AAct} {h:AH},Keep n rd a→wpC P S cc Q a.val a.ds h →
  ∃ N x a' h',n9 P (cl P S N) N c a h=.ok (x.ax,a',h')∧Keep n rd a'∧Q x a'.val a'.ds h'
 | .skip,cc,hc,Q,a,h,hk,hw=>by cases hc;exact ⟨0,.normal,a,h,rfl,hk,hw⟩
 | .label _,cc,hc,Q,a,h,hk,hw=>by cases hc;exact ⟨0,.normal,a,h,rfl,hk,hw⟩
 | .region _ ops draw,cc,hc,Q,a,h,hk,hw=>by
  simp only [a06] at hc
  cases draw with
  | true =>
   simp only [cond_true] at hc
   split at hc
   ·rename_i l hl
    split at hc
    ·rename_i l2 hl2
     cases hc
     obtain ⟨N,a',h',e,k,q⟩:=f0X l l2 hl2 hk hw
     exact ⟨N,.normal,a',h',by simp only [n9,cond_true,b0V,hl,e,WX.ax],k,q⟩
    ·cases hc
   ·cases hc
  | false =>
   simp only [cond_false] at hc
   split at hc
   ·rename_i l hl
    cases hc
    obtain ⟨N,a',h',e,k,q⟩:=k0K _ l hl hk hw
    exact ⟨N,.normal,a',h',by simp only [n9,cond_false,e,WX.ax],k,q⟩
   ·cases hc
 | .seq x y,cc,hc,Q,a,h,hk,hw=>by
  simp only [a06] at hc
  split at hc
  ·rename_i c1 hx
   split at hc
   ·rename_i c2 hy
    cases hc
    simp only [wpC] at hw
    obtain ⟨N1,x1,a1,h1,e1,k1,q1⟩:=b07 x c1 hx hk hw
    cases x1 with
    | normal =>
     obtain ⟨N2,x2,a2,h2,e2,k2,q2⟩:=b07 y c2 hy k1 q1
     refine ⟨max N1 N2,x2,a2,h2,?_,k2,q2⟩
     simp only [n9]
     rw [x4 (N6 (Nat.le_max_left N1 N2)) (Nat.le_max_left N1 N2) _ e1]
     simp only [WX.ax]
     exact x4 (N6 (Nat.le_max_right N1 N2)) (Nat.le_max_right N1 N2) _ e2
    | exit id=>exact ⟨N1,.exit id,a1,h1,by simp only [n9,e1,WX.ax],k1,q1⟩
    | ret=>exact ⟨N1,.ret,a1,h1,by simp only [n9,e1,WX.ax],k1,q1⟩
   ·cases hc
  ·cases hc
 | .cond c x y,cc,hc,Q,a,h,hk,hw=>by
  simp only [a06] at hc
  split at hc
  ·rename_i c1 hc1
   split at hc
   ·rename_i c2 hx
    split at hc
    ·rename_i c3 hy
     cases hc
     simp only [wpC,wpG] at hw
     split at hw
     ·rename_i b hb
      cases b with
      | true =>
       simp only [if_pos] at hw
       obtain ⟨N,x1,a1,h1,e1,k1,q1⟩:=b07 x c2 hx hk hw
       exact ⟨N,x1,a1,h1,by simp only [n9,hc1,CO.ev_eq,hb,h0d];exact e1,k1,q1⟩
      | false =>
       simp only [Bool.false_eq_true,if_false] at hw
       obtain ⟨N,x1,a1,h1,e1,k1,q1⟩:=b07 y c3 hy hk hw
       exact ⟨N,x1,a1,h1,by simp only [n9,hc1,CO.ev_eq,hb,h0d];exact e1,k1,q1⟩
     ·exact hw.elim
    ·cases hc
   ·cases hc
  ·cases hc
 | .block id c,cc,hc,Q,a,h,hk,hw=>by
  simp only [a06] at hc
  split at hc
  ·rename_i c1 hc1
   cases hc
   obtain ⟨N,x1,a1,h1,e1,k1,q1⟩:=b07 c c1 hc1 hk hw
   cases x1 with
   | normal=>exact ⟨N,.normal,a1,h1,by simp only [n9,e1,WX.ax],k1,q1⟩
   | ret=>exact ⟨N,.ret,a1,h1,by simp only [n9,e1,WX.ax],k1,q1⟩
   | exit i =>
    simp only [g0P] at q1
    by_cases hi:i=id
    ·rw [if_pos hi] at q1
     refine ⟨N,.normal,a1,h1,?_,k1,q1⟩
     simp only [n9,e1,WX.ax,PT.beqT hi,cond_true]
    ·rw [if_neg hi] at q1
     refine ⟨N,.exit i,a1,h1,?_,k1,q1⟩
     simp only [n9,e1,WX.ax,PT.beqF hi,cond_false]
  ·cases hc
 | .loop c,cc,hc,Q,a,h,hk,hw=>by
  simp only [a06] at hc
  split at hc
  ·rename_i c1 hc1
   cases hc
   obtain ⟨I,k,hi,hI⟩:=hw
   obtain ⟨N,x,a',h',e,k',q⟩:=s0g (fun hk hw=>b07 c c1 hc1 hk hw) hI k a h hk hi
   exact ⟨N,x,a',h',by simp only [n9];exact e N (Nat.le_refl _),k',q⟩
  ·cases hc
 | .exit id,cc,hc,Q,a,h,hk,hw=>by cases hc;exact ⟨0,.exit id,a,h,rfl,hk,hw⟩
 | .ret,cc,hc,Q,a,h,hk,hw=>by cases hc;exact ⟨0,.ret,a,h,rfl,hk,hw⟩
 | .scope c,cc,hc,Q,a,h,hk,hw=>by
  obtain ⟨N,x,a',h',e,k,q⟩:=b07 c cc hc hk hw
  exact ⟨N,x,a',h',by cases x <;> simp only [n9,e,WX.ax],k,q⟩
 | .rangeFunc f params assign body,cc,hc,Q,a,h,hk,hw=>by
  simp only [a06] at hc
  split at hc
  ·rename_i f1 hf
   cases rd with
   | true=>cases hc
   | false =>
    cases hc
    simp only [wpC,t0K] at hw
    split at hw
    ·rename_i g first captured hfe
     obtain ⟨N,v,h',e,r,hr,hst,hp⟩:=hw a.ts (fun i=>rfl)
     rw [← hk.n] at e
     have hev:∀ res,(match r.pending with
       | none=>(.ok (.normal,⟨a.n,a.ts,.collected h.next::a.ds,a.rd⟩,h'.set (h.next+1) (.loop { r with state:=.exhausted })):R (AX×AAct×AH))
       | some .ret=>.ok (.ret,⟨a.n,a.ts,.collected h.next::a.ds,a.rd⟩,h'.set (h.next+1) (.loop { r with state:=.exhausted }))
       | some (.exit id)=>.ok (.exit id,⟨a.n,a.ts,.collected h.next::a.ds,a.rd⟩,h'.set (h.next+1) (.loop { r with state:=.exhausted }))
       | some _=>.error "rangeFunc: jump")=res→n9 P (cl P S N) N (.rangeFunc f params assign body) a h=res:=by
      intro res hres
      simp only [n9,hf,CO.ev_eq,hfe,k09,hk.rd,cond_false,o8,e,hr]
      rw [← hres]
      cases hst':r.state with
      | busy=>exact absurd hst' hst
      | ready=>rw [hk.rd];rfl
      | done=>rw [hk.rd];rfl
      | exhausted=>rw [hk.rd];rfl
     split at hp
     ·rename_i hpe;exact ⟨N,.normal,⟨a.n,a.ts,.collected h.next::a.ds,a.rd⟩,h'.set (h.next+1) (.loop { r with state:=.exhausted }),hev _ (by rw [hpe];rfl),⟨hk.n,hk.rd⟩,hp⟩
     ·rename_i hpe;exact ⟨N,.ret,⟨a.n,a.ts,.collected h.next::a.ds,a.rd⟩,h'.set (h.next+1) (.loop { r with state:=.exhausted }),hev _ (by rw [hpe];rfl),⟨hk.n,hk.rd⟩,hp⟩
     ·rename_i id hpe;exact ⟨N,.exit id,⟨a.n,a.ts,.collected h.next::a.ds,a.rd⟩,h'.set (h.next+1) (.loop { r with state:=.exhausted }),hev _ (by rw [hpe];rfl),⟨hk.n,hk.rd⟩,hp⟩
     ·exact hp.elim
    ·exact hw.elim
  ·cases hc
 | .goto _,cc,hc,Q,a,h,hk,hw=>by cases hc
 | .refuse _,cc,hc,Q,a,h,hk,hw=>by cases hc
def b0E (h:AH) (σ:Sg):List CRes→R (List AV)
 | []=>.ok []
 | .tmp t::l=>match b0E h σ l with | .ok r=>.ok (σ t::r) | .error e=>.error e
 | .one p::l=>match σ p with
  | .ptr id off=>match load1 h id off with
   | .ok v=>match b0E h σ l with | .ok r=>.ok (v::r) | .error e=>.error e
   | .error e=>.error e
  | _=>.error "results"
 | .many p n::l=>match σ p with
  | .ptr id off=>match loadN h id off n with
   | .ok v=>match b0E h σ l with | .ok r=>.ok (.agg v::r) | .error e=>.error e
   | .error e=>.error e
  | _=>.error "results"
theorem i0p {h:AH} {a:AAct}:∀ (l:List ResultVar) (l':List CRes),b0f P l=.ok l'→∀ r,b0E h a.val l'=.ok r→I8 P h a l=.ok r
 | [],l',hc,r,hr=>by cases hc;exact hr
 | .tmp t::l,l',hc,r,hr=>by
  simp only [b0f] at hc
  split at hc
  ·rename_i l2 hl2
   cases hc
   simp only [b0E] at hr
   split at hr
   ·rename_i r2 hr2;cases hr;simp only [I8,i0p l l2 hl2 r2 hr2]
   ·cases hr
  ·cases hc
 | .cell p t::l,l',hc,r,hr=>by
  simp only [b0f] at hc
  split at hc
  ·rename_i l2 hl2
   split at hc
   ·rename_i n h1 h2
    cases hc
    simp only [b0E] at hr
    split at hr
    ·rename_i id off hp
     split at hr
     ·rename_i v hv
      split at hr
      ·rename_i r2 hr2;cases hr;simp only [I8,hp,h1,h2,hv,i0p l l2 hl2 r2 hr2]
      ·cases hr
     ·cases hr
    ·cases hr
   ·rename_i h1
    cases hc
    simp only [b0E] at hr
    split at hr
    ·rename_i id off hp
     split at hr
     ·rename_i v hv
      split at hr
      ·rename_i r2 hr2;cases hr;simp only [I8,hp,h1,hv,i0p l l2 hl2 r2 hr2]
      ·cases hr
     ·cases hr
    ·cases hr
   ·cases hc
  ·cases hc
variable (P S) in
def g0Q:List ADef→AH→(AH→Prop)→Prop
 | [],h,K=>K h
 | .collected id::l,h,K=>h.get id=some (.deferred (some []))∧g0Q l (h.set id (.deferred none)) K
 | .call fn captured args::l,h,K=>∃ f args' h1,a0f fn captured args h=.ok (.enter f args',h1)∧S f=none∧Ev P S (.fn f) args' h1 fun _ h2=>g0Q l h2 K
theorem g0R:∀ (ds:List ADef) (h:AH) (K:AH→Prop),g0Q P S ds h K→∃ N h',H9 (b0a S (cl P S N)) ds h=.ok h'∧K h'
 | [],h,K,hk=>⟨0,h,rfl,hk⟩
 | .collected id::l,h,K,hk=>by
  obtain ⟨N,h',e,k⟩:=g0R l _ K hk.2
  exact ⟨N,h',by simp only [H9,hk.1,e],k⟩
 | .call fn captured args::l,h,K,hk=>by
  obtain ⟨f,args',h1,e1,hS,N1,v,h2,e2,hk⟩:=hk
  obtain ⟨N2,h',e3,k⟩:=g0R l h2 K hk
  refine ⟨max N1 N2,h',?_,k⟩
  have e4:b0a S (cl P S (max N1 N2)) (.fn f) args' h1=.ok (v,h2):=by
   simp only [b0a,hS,N6 (Nat.le_max_left N1 N2) _ _ _ _ e2]
  simp only [H9,e1,e4]
  exact O0 (f0i (N6 (Nat.le_max_right N1 N2))) _ e3
variable (P S) in
def q0w (res:List CRes) (K:AV→AH→Prop):G4:=fun x σ ds h=>match x with
 | .exit _=>False
 | _=>g0Q P S ds h fun h=>∃ l,b0E h σ res=.ok l∧K (a0n l) h
def i0q (args:List AV):Sg:=fun i=>match args[i]? with | some v=>v | none=>n8
theorem q0x {f:FuncId} {cf:CF} (h:m6 P f=.ok cf):∃ fn c,P.funcs[f]? = some fn∧fn.body=some c∧fn.ntmps=cf.n∧a06 P cf.n false c=.ok cf.c∧b0f P fn.results.toList=.ok cf.res:=by
 unfold m6 at h
 split at h
 ·rename_i fn hf
  split at h
  ·rename_i c hb
   split at h
   ·rename_i cc hcc
    split at h
    ·rename_i r hr
     cases h
     exact ⟨fn,c,hf,hb,rfl,hcc,hr⟩
    ·cases h
   ·cases h
  ·cases h
 ·cases h
theorem j9 {f:FuncId} {cf:CF} {args:List AV} {h:AH} {K:AV→AH→Prop} (hc:m6 P f=.ok cf) (hS:S f=none) (hn:Nat.ble args.length cf.n=true)
  (hw:wpC P S cf.c (q0w P S cf.res K) (i0q args) [] h):Ev P S (.fn f) args h K:=by
 obtain ⟨fn,c,hf,hb,hnt,hcc,hr⟩:=q0x hc
 have hval:(⟨cf.n,laid args 0 .leaf,[],false⟩:AAct).val=i0q args:=by
  funext i
  simp only [AAct.val,g0a,Nat.zero_le,true_and,Nat.zero_add,Nat.sub_zero,i0q]
  by_cases hi:i<args.length
  ·rw [if_pos hi];rfl
  ·rw [if_neg hi,List.getElem?_eq_none (by omega)];rfl
 obtain ⟨N,x,a',h',e,k,q⟩:=b07 c cf.c hcc (a:=⟨cf.n,laid args 0 .leaf,[],false⟩) ⟨rfl,rfl⟩ (by rw [hval];exact hw)
 have main:∀ (hx:x.ax=.normal∨x.ax=.ret),g0Q P S a'.ds h' (fun h=>∃ l,b0E h a'.val cf.res=.ok l∧K (a0n l) h)→Ev P S (.fn f) args h K:=by
  intro hx hd
  obtain ⟨N2,h2,e2,l,hl,hk⟩:=g0R _ _ _ hd
  refine ⟨max N N2+1,a0n l,h2,?_,hk⟩
  have hle:N≤max N N2+1:=Nat.le_trans (Nat.le_max_left N N2) (Nat.le_succ _)
  have hcall:N9 (cl P S N) (A3 P S (max N N2+1) (max N N2)):=c0d hle (Nat.le_max_left N N2)
  have hcall2:N9 (cl P S N2) (A3 P S (max N N2+1) (max N N2)):=c0d (Nat.le_trans (Nat.le_max_right N N2) (Nat.le_succ _)) (Nat.le_max_right N N2)
  unfold cl A3
  simp only [hS,hf,hb,hnt,hn,cond_true]
  rw [x4 hcall hle c e]
  unfold N0
  rcases hx with hx | hx <;> simp only [hx,O0 (f0i hcall2) _ e2,i0p _ _ hr l hl]
 cases x with
 | normal=>exact main (.inl rfl) q
 | ret=>exact main (.inr rfl) q
 | exit id=>exact q.elim
def v0q (l:Nat) (K:AV→AH→Prop):G4:=fun x _ ds h=>ds=[]∧∃ r,h.get l=some (.loop r)∧match x with
 | .normal=>K (.bool true) (h.set l (.loop { r with state:=.ready,pending:=none }))
 | .ret=>K (.bool false) (h.set l (.loop { r with state:=.done,pending:=some .ret }))
 | .exit id=>K (.bool false) (h.set l (.loop { r with state:=.done,pending:=some (.exit id) }))
variable (P S) in
def x0f (l:Nat) (cb:CC) (K:AV→AH→Prop):G4:=fun x σ ds h=>match x with
 | .normal=>∃ q,h.get l=some (.loop q)∧q.state=.ready∧wpC P S cb (v0q l K) σ ds (h.set l (.loop { q with state:=.busy }))
 | _=>False
end
end Go.Dr

namespace Go.Dr
theorem nr {α:Sort _} {a b:α} (h:a=b):a=b:=h
section
variable {P:Program} {S:a0o} {Q:G4} {σ:Sg} {ds:List ADef} {h:AH}
@[simp] theorem r0p:wpC P S .skip Q σ ds h=Q .normal σ ds h:=nr rfl
@[simp] theorem h06 (l:List CEnt):wpC P S (.ops l) Q σ ds h=C0 P S l Q σ ds h:=nr rfl
@[simp] theorem e0G (x y:CC):wpC P S (.seq x y) Q σ ds h=wpC P S x (s0f P S y Q) σ ds h:=nr rfl
@[simp] theorem p0S (id:Nat) (c:CC):wpC P S (.block id c) Q σ ds h=wpC P S c (g0P id Q) σ ds h:=nr rfl
@[simp] theorem r0q (id:Nat):wpC P S (.exit id) Q σ ds h=Q (.exit id) σ ds h:=nr rfl
@[simp] theorem w0m:wpC P S .ret Q σ ds h=Q .ret σ ds h:=nr rfl
variable (P S) in
def wpB (v:AV) (x y:CC) (Q:G4) (σ:Sg) (ds:List ADef) (h:AH):Prop:=wpG v true (wpC P S x Q σ ds h) (wpC P S y Q σ ds h)
@[simp] theorem r0r (c:CO) (x y:CC):wpC P S (.cond c x y) Q σ ds h=wpB P S (c.evS σ) x y Q σ ds h:=nr rfl
@[simp] theorem r0s (x y:CC):wpB P S (.bool true) x y Q σ ds h=wpC P S x Q σ ds h:=nr rfl
@[simp] theorem p0T (x y:CC):wpB P S (.bool false) x y Q σ ds h=wpC P S y Q σ ds h:=nr rfl
@[simp] theorem P1 (y:CC):s0f P S y Q .normal σ ds h=wpC P S y Q σ ds h:=nr rfl
@[simp] theorem p0U (y:CC) (i:Nat):s0f P S y Q (.exit i) σ ds h=Q (.exit i) σ ds h:=nr rfl
@[simp] theorem v0N (y:CC):s0f P S y Q .ret σ ds h=Q .ret σ ds h:=nr rfl
@[simp] theorem h0O (id:Nat):g0P id Q .normal σ ds h=Q .normal σ ds h:=nr rfl
@[simp] theorem e0H (id i:Nat):g0P id Q (.exit i) σ ds h=if i=id then Q .normal σ ds h else Q (.exit i) σ ds h:=nr rfl
@[simp] theorem v0O (id:Nat):g0P id Q .ret σ ds h=Q .ret σ ds h:=nr rfl
theorem m7 (I:Inv) (k:Nat):d0I I k Q .normal σ ds h=∃ k',k'<k∧I k' σ ds h:=nr rfl
@[simp] theorem j0k (I:Inv) (k i:Nat):d0I I k Q (.exit i) σ ds h=Q (.exit i) σ ds h:=nr rfl
@[simp] theorem u0R (I:Inv) (k:Nat):d0I I k Q .ret σ ds h=Q .ret σ ds h:=nr rfl
theorem b02 {c:CC} (I:Inv) (k:Nat) (h0:I k σ ds h) (hI:∀ k σ ds h,I k σ ds h→wpC P S c (d0I I k Q) σ ds h):wpC P S (.loop c) Q σ ds h:=⟨I,k,h0,hI⟩
theorem m0R {r:RN} {K K':AV→AH→Prop} {D D':ADef→AH→Prop} (hw:wpR P S r K D) (hk:∀ v h,K v h→K' v h) (hd:∀ d h,D d h→D' d h):wpR P S r K' D':=by
 unfold wpR at hw ⊢
 split at hw
 ·split at hw
  ·exact hk _ _ hw
  ·exact hk _ _ hw
  ·exact hw.mono hk
  ·exact hw.mono hk
  ·exact hd _ _ hw
 ·exact hw
theorem m0S {v:AV} {w:Bool} {x y x' y':Prop} (hw:wpG v w x y) (hx:x→x') (hy:y→y'):wpG v w x' y':=by
 unfold wpG at hw ⊢
 split at hw
 ·split at hw
  ·rename_i e;rw [if_pos e];exact hx hw
  ·rename_i e;rw [if_neg e];exact hy hw
 ·exact hw
theorem k0w {v:AV} {w:Bool} {x y x' y':Prop} (hw:e0N v w x y) (hx:x→x') (hy:y→y'):e0N v w x' y':=by
 unfold e0N at hw ⊢
 split at hw
 ·split at hw
  ·rename_i e;rw [if_pos e];exact hx hw
  ·rename_i e;rw [if_neg e];exact hy hw
 ·exact hw
 ·exact hy hw
theorem T3 {Q Q':G4} (hq:∀ σ ds h,Q .normal σ ds h→Q' .normal σ ds h):∀ (l:List CEnt) {σ:Sg} {ds:List ADef} {h:AH},C0 P S l Q σ ds h→C0 P S l Q' σ ds h
 | [],_,_,_,hw=>hq _ _ _ hw
 | .stage re::l,_,_,_,hw=>⟨hw.1,T3 hq l hw.2⟩
 | .row r::l,σ,ds,h,hw=>by
  simp only [C0] at hw ⊢
  cases hg:r.g with
  | none=>rw [hg] at hw;exact m0R hw (fun v h=>T3 hq l) (fun d h=>T3 hq l)
  | some p=>rw [hg] at hw;exact k0w hw (fun hw=>m0R hw (fun v h=>T3 hq l) (fun d h=>T3 hq l)) (T3 hq l)
theorem f0F:∀ {c:CC} {Q Q':G4} {σ:Sg} {ds:List ADef} {h:AH},wpC P S c Q σ ds h→(∀ x σ ds h,Q x σ ds h→Q' x σ ds h)→wpC P S c Q' σ ds h
 | .skip,_,_,_,_,_,hw,hq=>hq _ _ _ _ hw
 | .ops l,_,_,_,_,_,hw,hq=>T3 (fun _ _ _=>hq _ _ _ _) l hw
 | .seq x y,Q,Q',_,_,_,hw,hq=>f0F (c:=x) hw fun r σ ds h k=>by
  cases r with
  | normal=>exact f0F (c:=y) k hq
  | exit i=>exact hq _ _ _ _ k
  | ret=>exact hq _ _ _ _ k
 | .cond c x y,_,_,_,_,_,hw,hq=>m0S hw (fun k=>f0F (c:=x) k hq) (fun k=>f0F (c:=y) k hq)
 | .block id c,Q,Q',_,_,_,hw,hq=>f0F (c:=c) hw fun r σ ds h k=>by
  cases r with
  | normal=>exact hq _ _ _ _ k
  | ret=>exact hq _ _ _ _ k
  | exit i =>
   simp only [g0P] at k ⊢
   by_cases hi:i=id
   ·rw [if_pos hi] at k ⊢;exact hq _ _ _ _ k
   ·rw [if_neg hi] at k ⊢;exact hq _ _ _ _ k
 | .loop c,Q,Q',_,_,_,⟨I,k,h0,hI⟩,hq=>⟨I,k,h0,fun k σ ds h hi=>f0F (c:=c) (hI k σ ds h hi) fun r σ ds h q=>by
  cases r with
  | normal=>exact q
  | exit i=>exact hq _ _ _ _ q
  | ret=>exact hq _ _ _ _ q⟩
 | .exit id,_,_,_,_,_,hw,hq=>hq _ _ _ _ hw
 | .ret,_,_,_,_,_,hw,hq=>hq _ _ _ _ hw
 | .go n f params assign body,Q,Q',σ,ds,h,hw,hq=>by
  simp only [wpC,t0K] at hw ⊢
  split at hw
  ·intro tmps ht
   refine (hw tmps ht).mono fun v h'=>?_
   rintro ⟨r,h1,h2,h3⟩
   refine ⟨r,h1,h2,?_⟩
   split at h3
   ·exact hq _ _ _ _ h3
   ·exact hq _ _ _ _ h3
   ·exact hq _ _ _ _ h3
   ·exact h3
  ·exact hw
variable (P S) in
def wpN (r:RN) (d:Option Nat) (l:List CEnt) (Q:G4) (σ:Sg) (ds:List ADef):Prop :=
 wpR P S r (fun v h=>C0 P S l Q (upd σ d v) ds h) (fun df h=>C0 P S l Q (upd σ d n8) (df::ds) h)
variable (P S) in
def p0V (v:AV) (w:Bool) (c:COp) (d:Option Nat) (l:List CEnt) (Q:G4) (σ:Sg) (ds:List ADef) (h:AH):Prop :=
 e0N v w (wpN P S (evS P c σ h) d l Q σ ds) (C0 P S l Q (upd σ d n8) ds h)
variable (P S) in
def r0t (d:Option Nat) (l:List CEnt) (Q:G4) (σ:Sg) (ds:List ADef) (v:AV) (h:AH):Prop:=C0 P S l Q (upd σ d v) ds h
@[simp] theorem e0I:C0 P S [] Q σ ds h=Q .normal σ ds h:=nr rfl
@[simp] theorem e0J (d:Option Nat) (c:COp) (l:List CEnt):C0 P S (.row ⟨d,none,c⟩::l) Q σ ds h=wpN P S (evS P c σ h) d l Q σ ds:=nr rfl
@[simp] theorem t0r (d:Option Nat) (t:Nat) (w:Bool) (c:COp) (l:List CEnt):C0 P S (.row ⟨d,some (t,w),c⟩::l) Q σ ds h=p0V P S (σ t) w c d l Q σ ds h:=nr rfl
@[simp] theorem t0s (re:List CRow) (l:List CEnt):C0 P S (.stage re::l) Q σ ds h=(R5 P re σ h∧C0 P S l Q σ ds h):=nr rfl
@[simp] theorem u0S (d:Option Nat) (l:List CEnt) (v:AV):wpN P S (.ok (.value v,h)) d l Q σ ds=C0 P S l Q (upd σ d v) ds h:=nr rfl
@[simp] theorem l0n (d:Option Nat) (l:List CEnt) (v:AV):wpN P S (okV v h) d l Q σ ds=C0 P S l Q (upd σ d v) ds h:=nr rfl
@[simp] theorem m0T (d:Option Nat) (l:List CEnt) (v:AV):wpN P S (m9 h (.ok v)) d l Q σ ds=C0 P S l Q (upd σ d v) ds h:=nr rfl
@[simp] theorem v0P (d:Option Nat) (l:List CEnt):wpN P S (a0a (.ok h)) d l Q σ ds=C0 P S l Q (upd σ d n8) ds h:=nr rfl
@[simp] theorem u0T (d:Option Nat) (l:List CEnt) (f:FuncId) (args:List AV):wpN P S (.ok (.enter f args,h)) d l Q σ ds=Ev P S (.fn f) args h (r0t P S d l Q σ ds):=nr rfl
@[simp] theorem u0U (d:Option Nat) (l:List CEnt) (f:Nat) (args:List AV):wpN P S (.ok (.yield f args,h)) d l Q σ ds=Ev P S (.yield f) args h (r0t P S d l Q σ ds):=nr rfl
@[simp] theorem u0V (d:Option Nat) (l:List CEnt) (v:AV):r0t P S d l Q σ ds v h=C0 P S l Q (upd σ d v) ds h:=nr rfl
@[simp] theorem w0n (c:COp) (d:Option Nat) (l:List CEnt):p0V P S (.bool true) true c d l Q σ ds h=wpN P S (evS P c σ h) d l Q σ ds:=nr rfl
@[simp] theorem w0o (c:COp) (d:Option Nat) (l:List CEnt):p0V P S (.bool false) false c d l Q σ ds h=wpN P S (evS P c σ h) d l Q σ ds:=nr rfl
@[simp] theorem w0p (c:COp) (d:Option Nat) (l:List CEnt):p0V P S (.bool true) false c d l Q σ ds h=C0 P S l Q (upd σ d n8) ds h:=nr rfl
@[simp] theorem w0q (w:Bool) (c:COp) (d:Option Nat) (l:List CEnt):p0V P S n8 w c d l Q σ ds h=C0 P S l Q (upd σ d n8) ds h:=nr rfl
@[simp] theorem w0r (c:COp) (d:Option Nat) (l:List CEnt):p0V P S (.bool false) true c d l Q σ ds h=C0 P S l Q (upd σ d n8) ds h:=nr rfl
variable (P S) in
def m0U (r:R (List AV)) (K:AV→AH→Prop) (h:AH):Prop :=
 match r with
 | .ok l=>K (a0n l) h
 | .error _=>False
@[simp] theorem w0s (l:List AV) (K:AV→AH→Prop):m0U (.ok l) K h=K (a0n l) h:=nr rfl
theorem h07 (r:R (List AV)) (K:AV→AH→Prop):(∃ l,r=.ok l∧K (a0n l) h)=m0U r K h:=by
 cases r with
 | error e=>simp [m0U]
 | ok l=>simp [m0U]
@[simp] theorem t0t (res:List CRes) (K:AV→AH→Prop):q0w P S res K .normal σ [] h=m0U (b0E h σ res) K h:=h07 _ _
@[simp] theorem v0Q (res:List CRes) (K:AV→AH→Prop):q0w P S res K .ret σ [] h=m0U (b0E h σ res) K h:=h07 _ _
@[simp] theorem v0R:b0E h σ []=.ok []:=nr rfl
@[simp] theorem v0S (t:Nat) (l:List CRes):b0E h σ (.tmp t::l)=match b0E h σ l with | .ok r=>.ok (σ t::r) | .error e=>.error e:=nr rfl
@[simp] theorem u0W (v:AV):a0n [v]=v:=nr rfl
@[simp] theorem u0X:a0n []=.tuple []:=nr rfl
@[simp] theorem u0Y (v u:AV) (l:List AV):a0n (v::u::l)=.tuple (v::u::l):=nr rfl
@[simp] theorem g0z (x:_):evS P (.move x) σ h=okV (x.evS σ) h:=nr rfl
@[simp] theorem v0T (c:_) (x:_) (y:_):evS P (.pick c x y) σ h=m9 h (h0b (c.evS σ) (x.evS σ) (y.evS σ)):=nr rfl
@[simp] theorem w0t (z:_):evS P (.new z) σ h=B7 z h:=nr rfl
@[simp] theorem w0u (x:_):evS P (.box x) σ h=B7 (x.evS σ).cells h:=nr rfl
@[simp] theorem u0Z (z:_) (pl:_):evS P (.build z pl) σ h=m9 h (f0W z pl σ):=nr rfl
@[simp] theorem r0u (len:_) (es:_) (z:_) (pl:_):evS P (.buildSlice len es z pl) σ h=U5 len es z pl σ h:=nr rfl
@[simp] theorem u00 (x:_):evS P (.load1 x) σ h=c0l (x.evS σ) h:=nr rfl
@[simp] theorem u01 (n:_) (x:_):evS P (.loadN n x) σ h=A5 n (x.evS σ) h:=nr rfl
@[simp] theorem u02 (n:_) (x:_) (y:_):evS P (.store n x y) σ h=T6 n (x.evS σ) (y.evS σ) h:=nr rfl
@[simp] theorem s0N (x:_):evS P (.nilCheck x) σ h=L1 (x.evS σ) h:=nr rfl
@[simp] theorem h08 (op:_) (t:_) (lit:_) (x:_) (y:_):evS P (.bin op t lit x y) σ h=m9 h (A0 P op t lit (x.evS σ) (y.evS σ)):=nr rfl
@[simp] theorem w06 (op:_) (x:_):evS P (.un op x) σ h=m9 h (n0S op (x.evS σ)):=nr rfl
@[simp] theorem v0U (c:_) (x:_):evS P (.conv c x) σ h=J7 c (x.evS σ) h:=nr rfl
@[simp] theorem w0v (t:_) (x:_):evS P (.mkI t x) σ h=okV (.iface t (x.evS σ)) h:=nr rfl
@[simp] theorem w0w (f:_) (first:_) (captured:_):evS P (.mkF f first captured) σ h=okV (.func (.func f) (d0D σ first) (d0D σ captured)) h:=nr rfl
@[simp] theorem w0x (r:_):evS P (.mkM r) σ h=e03 (b04 σ r) h:=nr rfl
@[simp] theorem w0y (es:_) (bytes:_) (z:_) (l:_) (c:_):evS P (.mkS es bytes z l c) σ h=d05 es bytes z (l.evS σ) (c.evS σ) h:=nr rfl
@[simp] theorem u0g (x:_) (lo:_) (hi:_):evS P (.sliceS x lo hi) σ h=m9 h (d07 (x.evS σ) (b04 σ lo) (b04 σ hi)):=nr rfl
@[simp] theorem u0h (es:_) (x:_) (lo:_) (hi:_) (mx:_):evS P (.sliceV es x lo hi mx) σ h=m9 h (r9 es (x.evS σ) (b04 σ lo) (b04 σ hi) (b04 σ mx)):=nr rfl
@[simp] theorem u0i (n:_) (es:_) (x:_) (lo:_) (hi:_) (mx:_):evS P (.sliceA n es x lo hi mx) σ h=m9 h (d08 n es h (x.evS σ) (b04 σ lo) (b04 σ hi) (b04 σ mx)):=nr rfl
@[simp] theorem r0V (off:_) (x:_):evS P (.fieldAddr off x) σ h=m9 h (Y8 off (x.evS σ)):=nr rfl
@[simp] theorem u0j (off:_) (x:_):evS P (.field1 off x) σ h=m9 h (f0r (x.evS σ) off):=nr rfl
@[simp] theorem u0k (off:_) (n:_) (x:_):evS P (.fieldN off n x) σ h=m9 h (d0i (x.evS σ) off n):=nr rfl
@[simp] theorem v0V (len:_) (es:_) (x:_) (i:_):evS P (.idxA len es x i) σ h=m9 h (i05 len es (x.evS σ) (i.evS σ)):=nr rfl
@[simp] theorem v0W (es:_) (x:_) (i:_):evS P (.idxV es x i) σ h=m9 h (I3 es (x.evS σ) (i.evS σ)):=nr rfl
@[simp] theorem u0l (len:_) (es:_) (x:_) (i:_):evS P (.index1 len es x i) σ h=m9 h (a0E true len es (x.evS σ) (i.evS σ)):=nr rfl
@[simp] theorem u0m (len:_) (es:_) (x:_) (i:_):evS P (.indexN len es x i) σ h=m9 h (a0E false len es (x.evS σ) (i.evS σ)):=nr rfl
@[simp] theorem u0n (x:_) (i:_):evS P (.indexS x i) σ h=m9 h (b0U (x.evS σ) (i.evS σ)):=nr rfl
@[simp] theorem u0o (kt:_) (z:_) (ok:_) (x:_) (k:_):evS P (.lookup kt z ok x k) σ h=m9 h (d09 P kt z ok h (x.evS σ) (k.evS σ)):=nr rfl
@[simp] theorem w0z (kt:_) (m:_) (k:_) (v:_):evS P (.upd kt m k v) σ h=a0a (d0B P kt h (m.evS σ) (k.evS σ) (v.evS σ)):=nr rfl
@[simp] theorem s0O (kt:_) (z:_) (m:_) (k:_):evS P (.mapEntry kt z m k) σ h=a0u P kt z h (m.evS σ) (k.evS σ):=nr rfl
@[simp] theorem r0v (m:_) (t:_) (v:_):evS P (.entryStore m t v) σ h=a0a (a0c h (m.evS σ) (t.evS σ) (v.evS σ)):=nr rfl
@[simp] theorem u0p (x:_):evS P (.rangeS x) σ h=a0d h (x.evS σ):=nr rfl
@[simp] theorem u0q (x:_):evS P (.rangeM x) σ h=U9 h (x.evS σ):=nr rfl
@[simp] theorem v0X (it:_) (b:_):evS P (.next it b) σ h=a0v h (it.evS σ) b:=nr rfl
@[simp] theorem u03 (it:_):evS P (.entry it) σ h=m9 h (d0j h (it.evS σ)):=nr rfl
@[simp] theorem t0u (x:_) (t:_) (ok:_):evS P (.tassert x t ok) σ h=m9 h (a0e P (x.evS σ) t ok):=nr rfl
@[simp] theorem t0v (x:_) (i:_):evS P (.extract x i) σ h=m9 h (Y9 (x.evS σ) i):=nr rfl
@[simp] theorem w0A (es:_) (bytes:_) (x:_) (y:_):evS P (.app es bytes x y) σ h=a0S es bytes (x.evS σ) (y.evS σ) h:=nr rfl
@[simp] theorem v0Y (es:_) (bytes:_) (z:_) (x:_) (y:_):evS P (.appZ es bytes z x y) σ h=e0b es bytes z (x.evS σ) (y.evS σ) h:=nr rfl
@[simp] theorem v0Z (n:_):evS P (.lenK n) σ h=okV (.int .i64 (.ofNat n)) h:=nr rfl
@[simp] theorem v00 (x:_):evS P (.lenS x) σ h=m9 h (g09 (x.evS σ)):=nr rfl
@[simp] theorem v01 (x:_):evS P (.lenV x) σ h=m9 h (O1 (x.evS σ)):=nr rfl
@[simp] theorem v02 (x:_):evS P (.lenM x) σ h=m9 h (f0s h (x.evS σ)):=nr rfl
@[simp] theorem v03 (x:_):evS P (.capV x) σ h=m9 h (h0a (x.evS σ)):=nr rfl
@[simp] theorem v04 (es:_) (d:_) (x:_):evS P (.copy es d x) σ h=c0x es (d.evS σ) (x.evS σ) h:=nr rfl
@[simp] theorem u04 (es:Nat) (z:List AV) (x:_):evS P (.clear es z x) σ h=c0k es z (x.evS σ) h:=nr rfl
@[simp] theorem u0r (kt:_) (m:_) (k:_):evS P (.delete kt m k) σ h=a0T P kt (m.evS σ) (k.evS σ) h:=nr rfl
@[simp] theorem w07 (isMax:_) (x:_) (l:_):evS P (.mm isMax x l) σ h=m9 h (a04 isMax (x.evS σ) (d0D σ l)):=nr rfl
@[simp] theorem u05 (f:_) (args:_):evS P (.callV f args) σ h=d0k (f.evS σ) (d0D σ args) h:=nr rfl
@[simp] theorem u06 (r:_) (name:_) (args:_):evS P (.callM r name args) σ h=c0O P (r.evS σ) name (d0D σ args) h:=nr rfl
@[simp] theorem u07 (f:_) (args:_):evS P (.defer f args) σ h=g0m (f.evS σ) (d0D σ args) h:=nr rfl
@[simp] theorem t0w (a b:AV):h0b (.bool true) a b=.ok a:=nr rfl
@[simp] theorem s0P (a b:AV):h0b (.bool false) a b=.ok b:=nr rfl
@[simp] theorem r0w (a:AV) (l:List AV):Y9 (.tuple (a::l)) 0=.ok a:=nr rfl
@[simp] theorem r0W (a b:AV) (l:List AV):Y9 (.tuple (a::b::l)) 1=.ok b:=nr rfl
@[simp] theorem r0X (a b c:AV) (l:List AV):Y9 (.tuple (a::b::c::l)) 2=.ok c:=nr rfl
@[simp] theorem q0a (a b c d:AV) (l:List AV):Y9 (.tuple (a::b::c::d::l)) 3=.ok d:=nr rfl
@[simp] theorem q0b (off id o:Nat):Y8 off (.ptr id o)=.ok (.ptr id (o+off)):=nr rfl
@[simp] theorem v05 (z:List AV):B7 z h=okV (.ptr h.next 0) (h.push (.cells z false)):=nr rfl
@[simp] theorem t0x (id off:Nat):c0l (.ptr id off) h=m9 h (load1 h id off):=nr rfl
@[simp] theorem r0x (id off:Nat):L1 (.ptr id off) h=okV (.ptr id off) h:=nr rfl
@[simp] theorem r0y (id:Nat):L1 (.map id) h=okV (.map id) h:=nr rfl
@[simp] theorem t0y:O1 .nils=.ok (.int .i64 0):=nr rfl
@[simp] theorem s0Q (id off n cap:Nat) (x:Bool) (es:Nat):O1 (.slice id off n cap x es)=.ok (.int .i64 (n:Int)):=nr rfl
@[simp] theorem u0s (s:List UInt8):g09 (.str s)=.ok (.int .i64 (s.length:Int)):=nr rfl
@[simp] theorem a0i (es id off len cap:Nat) (x:Bool) (k:IntKind) (i:Int) (hi:0≤i∧i<len) :
  I3 es (.slice id off len cap x es) (.int k i)=.ok (.ptr id (off+i.toNat*es)):=by simp [I3,hi]
@[simp] theorem o0J (t:TypeId) (lit:Bool) (k:IntKind) (a b:Int):A0 P .add t lit (.int k a) (.int k b)=.ok (.int k (x7 k (a+b))):=by simp [A0,R7,d0A]
@[simp] theorem w0B (t:TypeId) (lit:Bool) (k:IntKind) (a b:Int):A0 P .sub t lit (.int k a) (.int k b)=.ok (.int k (x7 k (a - b))):=by simp [A0,R7,d0A]
theorem u0t (t:TypeId) (lit:Bool) (k:IntKind) (a b:Int):A0 P .or t lit (.int k a) (.int k b)=.ok (.int k (x7 k (BitVec.ofInt k.bits a ||| BitVec.ofInt k.bits b).toNat)):=by simp [A0,R7,d0A]
@[simp] theorem w0C (t:TypeId) (lit:Bool) (k:IntKind) (a b:Int):A0 P .eql t lit (.int k a) (.int k b)=.ok (.bool (decide (a=b))):=by
 simp only [A0,R7,d0A,h0G]
 by_cases h:a=b <;> simp [h]
@[simp] theorem w0D (t:TypeId) (lit:Bool) (k:IntKind) (a b:Int):A0 P .neq t lit (.int k a) (.int k b)=.ok (.bool (decide (¬ a=b))):=by
 simp only [A0,R7,d0A,h0G]
 by_cases h:a=b <;> simp [h]
@[simp] theorem o0K (t:TypeId) (lit:Bool) (k:IntKind) (a b:Int):A0 P .lss t lit (.int k a) (.int k b)=.ok (.bool (decide (a<b))):=by simp [A0,R7,d0A,h0G]
@[simp] theorem w0E (t:TypeId) (lit:Bool) (k:IntKind) (a b:Int):A0 P .leq t lit (.int k a) (.int k b)=.ok (.bool (decide (a≤b))):=by simp [A0,R7,d0A,h0G]
@[simp] theorem w0F (t:TypeId) (lit:Bool) (k:IntKind) (a b:Int):A0 P .gtr t lit (.int k a) (.int k b)=.ok (.bool (decide (b<a))):=by simp [A0,R7,d0A,h0G]
@[simp] theorem w0G (t:TypeId) (lit:Bool) (k:IntKind) (a b:Int):A0 P .geq t lit (.int k a) (.int k b)=.ok (.bool (decide (b≤a))):=by simp [A0,R7,d0A,h0G]
theorem w0H (t:TypeId) (lit:Bool) (k k':IntKind) (a b:Int) (hb:0≤b):A0 P .shl t lit (.int k a) (.int k' b)=.ok (.int k (x7 k (a*2 ^ min b.toNat k.bits))):=by
 have:¬ b<0:=by omega
 simp [A0,R7,g0k,this]
theorem s0R (t:TypeId) (lit:Bool) (k k':IntKind) (a b:Int) (hb:0≤b):A0 P .shr t lit (.int k a) (.int k' b)=.ok (.int k (a.fdiv (2 ^ min b.toNat k.bits))):=by
 have:¬ b<0:=by omega
 simp [A0,R7,g0k,this]
@[simp] theorem u08 (t:TypeId) (lit:Bool) (a b:Int):A0 P .or t lit (.int .u8 a) (.int .u8 b)=.ok (.int .u8 (x7 .u8 (BitVec.ofInt 8 a ||| BitVec.ofInt 8 b).toNat)):=u0t t lit .u8 a b
@[simp] theorem t0z (t:TypeId) (lit:Bool) (k':IntKind) (a b:Int) (hb:0≤b):A0 P .shr t lit (.int .u64 a) (.int k' b)=.ok (.int .u64 (a.fdiv (2 ^ min b.toNat 64))):=s0R t lit .u64 k' a b hb
@[simp] theorem w08 (b:Bool):n0S .not (.bool b)=.ok (.bool !b):=nr rfl
@[simp] theorem w09 (k:IntKind) (n:Int):n0S .neg (.int k n)=.ok (.int k (x7 k (0 - n))):=nr rfl
@[simp] theorem v06 (k k':IntKind) (n:Int):J7 (.int k) (.int k' n) h=okV (.int k (x7 k n)) h:=nr rfl
@[simp] theorem x0a (k k':IntKind) (a b:Int):a04 false (.int k a) [.int k' b]=.ok (.int k (min a b)):=by
 simp only [a04,mm2]
 congr 2
 by_cases h:b<a
 ·rw [if_pos h,Int.min_def,if_neg (by omega)]
 ·rw [if_neg h,Int.min_def,if_pos (by omega)]
@[simp] theorem x0b (k k':IntKind) (a b:Int):a04 true (.int k a) [.int k' b]=.ok (.int k (max a b)):=by
 simp only [a04,mm2]
 congr 2
 by_cases h:b>a
 ·rw [if_pos h,Int.max_def,if_pos (by omega)]
 ·rw [if_neg h,Int.max_def]
  by_cases h':a≤b
  ·rw [if_pos h'];omega
  ·rw [if_neg h']
@[simp] theorem u0u (f:FuncId) (first captured args:List AV):d0k (.func (.func f) first captured) args h=.ok (.enter f ((first++args)++captured),h):=nr rfl
@[simp] theorem r0Y (l:Nat) (args:List AV):d0k (.func (.yield l) [] []) args h=.ok (.yield l args,h):=nr rfl
theorem wrap_i64 {n:Int} (h1:-9223372036854775808≤n) (h2:n<9223372036854775808):x7 .i64 n=n:=by rw [a0X];exact IntWalk.i64_in n ⟨h1,by omega⟩
theorem r0z {n:Int} (h1:0≤n) (h2:n<18446744073709551616):x7 .u64 n=n:=by rw [a0X];exact IntWalk.u64_in n ⟨h1,by omega⟩
theorem j0 {o:AObj} {i:Nat} (hi:i≠h.next):(h.push o).get i=h.get i:=by rw [AH.get_push,if_neg hi]
@[simp] theorem b9 (o:AObj):(h.push o).get h.next=some o:=by rw [AH.get_push,if_pos rfl]
theorem a6 {o:AObj} {i j:Nat} (hi:i≠j):(h.set j o).get i=h.get i:=by rw [AH.get_set,if_neg hi]
@[simp] theorem d9 (o:AObj) (j:Nat):(h.set j o).get j=some o:=by rw [AH.get_set,if_pos rfl]
theorem d0p {i j:Nat} (hi:i≠j):(h.kill j).get i=h.get i:=by rw [AH.get_kill,if_neg hi]
structure Fr (h h':AH):Prop where
 next:h.next≤h'.next
 get:∀ i,i<h.next→h'.get i=h.get i
theorem Fr.refl (h:AH):Fr h h:=⟨Nat.le_refl _,fun _ _=>rfl⟩
theorem Fr.trans {h1 h2 h3:AH} (a:Fr h1 h2) (b:Fr h2 h3):Fr h1 h3 :=
 ⟨Nat.le_trans a.next b.next,fun i hi=>(b.get i (Nat.lt_of_lt_of_le hi a.next)).trans (a.get i hi)⟩
theorem Fr.push {h1:AH} (a:Fr h1 h) (o:AObj):Fr h1 (h.push o) :=
 ⟨Nat.le_succ_of_le a.next,fun i hi=>by rw [j0 (by have:=a.next;omega)];exact a.get i hi⟩
def Sl (h:AH) (es n:Nat) (v:AV) (l:List AV):Prop :=
 l.length=n*es∧((v=.nils∧n=0)∨∃ id off cap x vs ro,v=.slice id off n cap x es∧id<h.next∧n≤cap∧h.get id=some (.cells vs ro)∧off+n*es≤vs.length∧(vs.drop off).take (n*es)=l)
theorem Sl.nil (es:Nat):Sl h es 0 .nils []:=⟨by simp,.inl ⟨rfl,rfl⟩⟩
theorem Sl.fr {h h':AH} {es n:Nat} {v:AV} {l:List AV} (s:Sl h es n v l) (f:Fr h h'):Sl h' es n v l:=by
 refine ⟨s.1,?_⟩
 rcases s.2 with e | ⟨id,off,cap,x,vs,ro,e1,e2,e6,e3,e4,e5⟩
 ·exact .inl e
 ·exact .inr ⟨id,off,cap,x,vs,ro,e1,Nat.lt_of_lt_of_le e2 f.next,e6,by rw [f.get id e2];exact e3,e4,e5⟩
theorem Sl.len {es n:Nat} {v:AV} {l:List AV} (s:Sl h es n v l):O1 v=.ok (.int .i64 (n:Int)):=by
 rcases s.2 with ⟨rfl,rfl⟩ | ⟨id,off,cap,x,vs,ro,rfl,_⟩ <;> rfl
theorem Sl.get {es n:Nat} {v:AV} {l:List AV} (s:Sl h es n v l) {k:IntKind} {i:Int} {j:Nat} (hi:i=j) (hj:j<n) :
  ∃ id o,I3 es v (.int k i)=.ok (.ptr id o)∧(∀ c,c<es→load1 h id (o+c)=ofO "load: out of the known cells" l[j*es+c]?)∧loadN h id o es=.ok ((l.drop (j*es)).take es):=by
 subst hi
 rcases s.2 with ⟨rfl,rfl⟩ | ⟨id,off,cap,x,vs,ro,rfl,e2,e6,e3,e4,rfl⟩
 ·omega
 ·have hle:j*es+es≤n*es:=by
   have:=Nat.mul_le_mul_right es (show j+1≤n from hj)
   rw [Nat.add_mul,Nat.one_mul] at this
   exact this
  refine ⟨id,off+j*es,by rw [a0i _ _ _ _ _ _ _ _ ⟨by omega,by omega⟩,Int.toNat_natCast],fun c hc=>?_,?_⟩
  ·rw [List.getElem?_take,if_pos (by omega),List.getElem?_drop]
   unfold load1
   rw [e3]
   simp only []
   rw [show off+j*es+c=off+(j*es+c) from by omega]
   cases vs[off+(j*es+c)]? <;> rfl
  ·have hb:Nat.ble (off+j*es+es) vs.length=true:=Nat.ble_eq_true_of_le (by omega)
   simp only [loadN,e3,hb,cond_true]
   congr 1
   rw [List.drop_take,List.drop_drop,List.take_take,Nat.min_eq_left (by omega)]
theorem Sl.get1 {n:Nat} {v:AV} {l:List AV} (s:Sl h 1 n v l) {k:IntKind} {i:Int} {j:Nat} (hi:i=j) (hj:j<n) {x:AV} (hx:l[j]? = some x) :
  ∃ id o,I3 1 v (.int k i)=.ok (.ptr id o)∧load1 h id o=.ok x∧∀ h',Fr h h'→load1 h' id o=.ok x:=by
 have key:∀ g:AH,Sl g 1 n v l→∃ id o,I3 1 v (.int k i)=.ok (.ptr id o)∧load1 g id o=.ok x:=by
  intro g s
  obtain ⟨id,o,e1,e2,_⟩:=s.get (k:=k) hi hj
  refine ⟨id,o,e1,?_⟩
  have:=e2 0 (by omega)
  rw [Nat.add_zero,Nat.mul_one,Nat.add_zero,hx] at this
  exact this
 obtain ⟨id,o,e1,e2⟩:=key h s
 refine ⟨id,o,e1,e2,fun h' f=>?_⟩
 obtain ⟨id',o',e3,e4⟩:=key h' (s.fr f)
 rw [e1] at e3
 cases e3
 exact e4
theorem Sl.cells {es n:Nat} {v:AV} {l:List AV} (s:Sl h es n v l):O3 h es v=.ok (n,l):=by
 obtain ⟨hl,s⟩:=s
 rcases s with ⟨rfl,rfl⟩ | ⟨id,off,cap,x,vs,ro,rfl,e2,e6,e3,e4,rfl⟩
 ·have:l=[]:=by simpa using hl
  subst this;rfl
 ·have hb:Nat.ble (off+n*es) vs.length=true:=Nat.ble_eq_true_of_le e4
  simp [O3,loadN,e3,hb]
theorem Sl.slice {es n:Nat} {v:AV} {l:List AV} (s:Sl h es n v l) {lo hi:Option AV} {a b:Nat}
  (hlo:lo=none∧a=0∨∃ k,lo=some (.int k (a:Int))) (hhi:hi=none∧b=n∨∃ k,hi=some (.int k (b:Int))) (hab:a≤b) (hbn:b≤n) :
  ∃ v',r9 es v lo hi none=.ok v'∧Sl h es (b - a) v' ((l.drop (a*es)).take ((b - a)*es)):=by
 obtain ⟨hl,s⟩:=s
 have h1:a*es≤b*es:=Nat.mul_le_mul_right es hab
 have h2:b*es≤n*es:=Nat.mul_le_mul_right es hbn
 have hlen:((l.drop (a*es)).take ((b - a)*es)).length=(b - a)*es:=by
  rw [List.length_take,List.length_drop,hl,Nat.sub_mul];omega
 rcases s with ⟨rfl,rfl⟩ | ⟨id,off,cap,x,vs,ro,rfl,e2,e6,e3,e4,rfl⟩
 ·obtain rfl:b=0:=by omega
  obtain rfl:a=0:=by omega
  refine ⟨.nils,?_,hlen,.inl ⟨rfl,rfl⟩⟩
  rcases hlo with ⟨rfl,_⟩ | ⟨k,rfl⟩ <;> rcases hhi with ⟨rfl,_⟩ | ⟨k',rfl⟩ <;> simp [r9,J8,G8,G7]
 ·have hm:G8 none cap cap=.ok cap:=rfl
  have hb:G8 hi n cap=.ok b:=by
   rcases hhi with ⟨rfl,rfl⟩ | ⟨k,rfl⟩
   ·rfl
   ·simp only [G8,G7]
    rw [if_pos ⟨by omega,by omega⟩,Int.toNat_natCast]
  have ha:G8 lo 0 b=.ok a:=by
   rcases hlo with ⟨rfl,rfl⟩ | ⟨k,rfl⟩
   ·rfl
   ·simp only [G8,G7]
    rw [if_pos ⟨by omega,by omega⟩,Int.toNat_natCast]
  refine ⟨.slice id (off+a*es) (b - a) (cap - a) x es,?_,hlen,.inr ⟨id,off+a*es,cap - a,x,vs,ro,rfl,e2,by omega,e3,?_,?_⟩⟩
  ·simp [r9,J8,hm,hb,ha]
  ·rw [Nat.sub_mul];omega
  ·rw [List.drop_take,List.drop_drop,List.take_take,Nat.sub_mul,Nat.min_eq_left (by omega)]
def j5:AV→Option Nat
 | .slice id _ _ _ _ _=>some id
 | _=>none
def Own (B:Nat) (h:AH) (es n:Nat) (v:AV) (l:List AV):Prop :=
 l.length=n*es∧((v=.nils∧n=0)∨∃ id off x vs,v=.slice id off n n x es∧B≤id∧id<h.next∧h.get id=some (.cells vs false)∧off+n*es≤vs.length∧(vs.drop off).take (n*es)=l)
theorem Own.sl {B es n:Nat} {v:AV} {l:List AV} (s:Own B h es n v l):Sl h es n v l:=by
 refine ⟨s.1,?_⟩
 rcases s.2 with e | ⟨id,off,x,vs,e1,e2,e3,e4,e5,e6⟩
 ·exact .inl e
 ·exact .inr ⟨id,off,n,x,vs,false,e1,e3,Nat.le_refl _,e4,e5,e6⟩
theorem Own.nil (B es:Nat):Own B h es 0 .nils []:=⟨by simp,.inl ⟨rfl,rfl⟩⟩
theorem Own.fr {B es n:Nat} {h':AH} {v:AV} {l:List AV} (s:Own B h es n v l) (f:Fr h h'):Own B h' es n v l:=by
 refine ⟨s.1,?_⟩
 rcases s.2 with e | ⟨id,off,x,vs,e1,e2,e3,e4,e5,e6⟩
 ·exact .inl e
 ·exact .inr ⟨id,off,x,vs,e1,e2,Nat.lt_of_lt_of_le e3 f.next,by rw [f.get id e3];exact e4,e5,e6⟩
theorem Own.fresh {B es n:Nat} {l:List AV} (x:Bool) (hB:B≤h.next) (hl:l.length=n*es):Own B (h.push (.cells l false)) es n (.slice h.next 0 n n x es) l :=
 ⟨hl,.inr ⟨h.next,0,x,l,rfl,hB,Nat.lt_succ_self _,b9 _,by omega,by rw [List.drop_zero,List.take_of_length_le (by omega)]⟩⟩
structure FrB (B:Nat) (h h':AH):Prop where
 next:h.next≤h'.next
 get:∀ i,i<B→h'.get i=h.get i
theorem FrB.refl (B:Nat) (h:AH):FrB B h h:=⟨Nat.le_refl _,fun _ _=>rfl⟩
theorem FrB.trans {B:Nat} {h1 h2 h3:AH} (a:FrB B h1 h2) (b:FrB B h2 h3):FrB B h1 h3:=⟨Nat.le_trans a.next b.next,fun i hi=>(b.get i hi).trans (a.get i hi)⟩
theorem Fr.b {B:Nat} {h h':AH} (f:Fr h h') (hB:B≤h.next):FrB B h h':=⟨f.next,fun i hi=>f.get i (Nat.lt_of_lt_of_le hi hB)⟩
theorem Own.append {B es n m bytes:Nat} {v x:AV} {l r:List AV} (s:Own B h es n v l) (t:Sl h es m x r) (hB:B≤h.next) (hs:i5 r=true) (h1:(n+m)*bytes≤2 ^ 40) (h2:n+m≤2 ^ 40) :
  ∃ v' h',a0S es bytes v x h=okV v' h'∧Own B h' es (n+m) v' (l++r)∧FrB B h h'∧(∀ i,i<h.next→j5 v≠some i→h'.get i=h.get i)∧(∀ i,j5 v'=some i→j5 v=some i∨h.next≤i):=by
 have hr:=t.1
 have hlr:(l++r).length=(n+m)*es:=by rw [List.length_append,s.1,hr,Nat.add_mul]
 unfold a0S
 rw [t.cells]
 simp only []
 by_cases hm:m=0
 ·subst hm
  have hr0:r=[]:=by simpa using hr
  subst hr0
  refine ⟨v,h,?_,by simpa using s,.refl _ _,fun _ _ _=>rfl,fun i hi=>.inl hi⟩
  rcases s.2 with ⟨rfl,rfl⟩ | ⟨id,off,x',vs,rfl,e2,e3,e4,e5,e6⟩
  ·simp [V0]
  ·have hb:Nat.ble n n=true:=Nat.ble_eq_true_of_le (Nat.le_refl n)
   simp [V0,o8,v7,hb]
 ·rcases s.2 with ⟨rfl,rfl⟩ | ⟨id,off,x',vs,rfl,e2,e3,e4,e5,e6⟩
  ·have hl0:l=[]:=by simpa using s.1
   subst hl0
   refine ⟨.slice h.next 0 m m false es,h.push (.cells r false),?_,?_,(Fr.push (.refl h) _).b hB,fun i hi _=>j0 (by omega),fun i hi=>by cases hi;exact .inr (Nat.le_refl _)⟩
   ·simp only [V0]
    rw [if_neg hm,if_pos ⟨by simpa using h1,by simpa using h2⟩]
   ·rw [Nat.zero_add]
    exact Own.fresh false hB (by simpa using hr)
  ·have hnb:Nat.ble (n+m) n=false:=by
    cases e:Nat.ble (n+m) n with
    | false=>rfl
    | true=>have:=Nat.le_of_ble_eq_true e;omega
   have hld:loadN h id off (n*es)=.ok l:=by
    have hb:Nat.ble (off+n*es) vs.length=true:=Nat.ble_eq_true_of_le e5
    simp [loadN,e4,hb,e6]
   cases x' with
   | true =>
    refine ⟨.slice h.next 0 (n+m) (n+m) false es,h.push (.cells (l++r) false),?_,?_,(Fr.push (.refl h) _).b hB,fun i hi _=>j0 (by omega),fun i hi=>by cases hi;exact .inr (Nat.le_refl _)⟩
    ·simp only [V0,o8,hnb,cond_false,hld,hs,if_true]
     rw [if_neg (by simp),if_pos ⟨h1,h2⟩]
    ·exact Own.fresh false hB hlr
   | false =>
    refine ⟨.slice h.next 0 (n+m) (n+m) false es,(h.kill id).push (.cells (l++r) false),?_,?_,?_,fun i hi hne=>?_,fun i hi=>by cases hi;exact .inr (Nat.le_refl _)⟩
    ·simp only [V0,o8,hnb,cond_false,hld,hs,if_true,e4]
     rw [if_neg (by simp),if_pos ⟨h1,h2⟩]
    ·exact Own.fresh (h:=h.kill id) false hB hlr
    ·exact ⟨by simp,fun i hi=>by rw [j0 (by simp;omega),d0p (by omega)]⟩
    ·rw [j0 (by simp;omega),d0p (by intro e;apply hne;rw [e];rfl)]
def wpA (r:RN) (u:AV):Prop :=
 match r with
 | .ok (.value v,_)=>R8 12 v u=true
 | _=>False
theorem m0V:R5 P [] σ h=True:=nr rfl
theorem r0A (r:RN) (d:Nat):(∃ v h',r=.ok (.value v,h')∧∀ e,some d=some e→R8 12 v (σ e)=true)=wpA r (σ d):=by
 apply propext
 constructor
 ·rintro ⟨v,h',rfl,e⟩
  exact e d rfl
 ·intro e
  unfold wpA at e
  split at e
  ·rename_i v h'
   exact ⟨v,h',rfl,fun d' hd=>by cases hd;exact e⟩
  ·exact e.elim
theorem m0W (d:Nat) (c:COp) (l:List CRow):R5 P (⟨some d,none,c⟩::l) σ h=(wpA (evS P c σ h) (σ d)∧R5 P l σ h):=by
 simp only [R5,r0A]
theorem j0R (d t:Nat) (w:Bool) (c:COp) (l:List CRow):R5 P (⟨some d,some (t,w),c⟩::l) σ h=(e0N (σ t) w (wpA (evS P c σ h) (σ d)) True∧R5 P l σ h):=by
 simp only [R5,r0A]
theorem r0B (v u:AV):wpA (m9 h (.ok v)) u=(R8 12 v u=true):=nr rfl
theorem s0S (v u:AV):wpA (okV v h) u=(R8 12 v u=true):=nr rfl
theorem u0v (x y:Prop):e0N (.bool true) true x y=x:=nr rfl
theorem u0w (x y:Prop):e0N (.bool false) false x y=x:=nr rfl
theorem u0x (x y:Prop):e0N (.bool true) false x y=y:=nr rfl
theorem u0y (x y:Prop):e0N (.bool false) true x y=y:=nr rfl
theorem u0z (w:Bool) (x y:Prop):e0N n8 w x y=y:=nr rfl
attribute [simp]  u0z m0V m0W j0R r0B s0S u0v u0w u0x u0y
@[simp] theorem v07 (k:IntKind) (n:Int):R8 12 (.int k n) (.int k n)=true:=by simp [R8]
@[simp] theorem o0a (id off n cap:Nat) (x:Bool) (es:Nat):R8 12 (.slice id off n cap x es) (.slice id off n cap x es)=true:=by
 have hb:∀ n,Nat.beq n n=true:=Nat.beq_refl
 simp only [R8,hb,Bool.and_self,beq_self_eq_true]
@[simp] theorem p0W:R8 12 .nils .nils=true:=nr rfl
@[simp] theorem v08 (id off:Nat):R8 12 (.ptr id off) (.ptr id off)=true:=by
 have hb:∀ n,Nat.beq n n=true:=Nat.beq_refl
 simp only [R8,hb,Bool.and_true]
@[simp] theorem u09 (b:Bool):R8 12 (.bool b) (.bool b)=true:=by simp [R8]
@[simp] theorem v09 (s:List UInt8):R8 12 (.str s) (.str s)=true:=by simp [R8]
theorem Ev.eq {t:Tgt} {args:List AV} {X:AV} {h0:AH} (e:Ev P S t args h fun v h'=>v=X∧h'=h0) (K:AV→AH→Prop):Ev P S t args h K=K X h0:=by
 apply propext
 obtain ⟨N,v,h',e,rfl,rfl⟩:=e
 constructor
 ·rintro ⟨M,u,g,f,k⟩
  have h1:=N6 (Nat.le_max_left N M) _ _ _ _ e
  have h2:=N6 (Nat.le_max_right N M) _ _ _ _ f
  rw [h1] at h2
  cases h2
  exact k
 ·intro k
  exact ⟨N,v,h',e,k⟩
theorem J9 {b0 b1 tc ti tn n:Nat} {T:TypeId} {lit:Bool} {lim:CO} {body:CC} (hd:Nat.beq tc ti=false) (J:Nat→Sg→List ADef→AH→Prop) (hn:(n:Int)≤9223372036854775807)
  (h0:σ ti=.int .i64 0) (hJ:J 0 σ ds h)
  (hl:∀ j σ ds h,J j σ ds h→lim.evS σ=.int .i64 (n:Int))
  (hb:∀ j σ ds h,j<n→σ ti=.int .i64 (j:Int)→J j σ ds h →
   wpC P S body (g0P b1 fun x σ' ds' h'=>match x with
    | .normal=>σ' ti=.int .i64 (j:Int)∧J (j+1) (upd (upd σ' (some tn) (.int .i64 ((j:Int)+1))) (some ti) (.int .i64 ((j:Int)+1))) ds' h'
    | x=>Q x σ' ds' h') (upd σ (some tc) (.bool true)) ds h)
  (he:∀ σ ds h,J n σ ds h→Q (.exit b0) (upd σ (some tc) (.bool false)) ds h) :
  wpC P S (.loop (.seq (.ops [.row ⟨some tc,none,.bin .lss T lit (.t ti) lim⟩]) (.seq (.cond (.t tc) .skip (.exit b0))
   (.seq (.block b1 body) (.ops [.row ⟨some tn,none,.bin .add T true (.t ti) (.c (.int .i64 1))⟩,.row ⟨some ti,none,.move (.t tn)⟩]))))) Q σ ds h:=by
 refine b02 (fun k σ ds h=>∃ j,k+j=n∧σ ti=.int .i64 (j:Int)∧J j σ ds h) n ⟨0,by omega,by simpa using h0,hJ⟩ ?_
 rintro k σ ds h ⟨j,hk,hti,hJ⟩
 have hlim:=hl _ _ _ _ hJ
 simp only [e0G,h06,e0J,h08,CO.evS_t,hti,hlim,o0K,m0T,e0I,P1,r0r,a0H,if_true]
 by_cases hj:j<n
 ·have:((j:Int)<(n:Int)):=by omega
  simp only [this,decide_true,r0s,r0p,P1,e0G,p0S]
  refine f0F (hb j σ ds h hj hti hJ) ?_
  intro x σ' ds' h' hx
  have key:(σ' ti=.int .i64 (j:Int)∧J (j+1) (upd (upd σ' (some tn) (.int .i64 ((j:Int)+1))) (some ti) (.int .i64 ((j:Int)+1))) ds' h') →
    wpC P S (.ops [.row ⟨some tn,none,.bin .add T true (.t ti) (.c (.int .i64 1))⟩,.row ⟨some ti,none,.move (.t tn)⟩]) (d0I (fun k σ ds h=>∃ j,k+j=n∧σ ti=.int .i64 (j:Int)∧J j σ ds h) k Q) σ' ds' h':=by
   rintro ⟨h1,h2⟩
   simp only [h06,e0J,h08,g0z,CO.evS_t,CO.evS_c,h1,o0J,m0T,l0n,e0I,a0H,if_true,wrap_i64 (show (-9223372036854775808:Int)≤(j:Int)+1 by omega) (show (j:Int)+1<9223372036854775808 by omega),m7]
   exact ⟨k - 1,by omega,j+1,by omega,by simp,h2⟩
  cases x with
  | normal=>exact key hx
  | ret=>exact hx
  | exit i =>
   simp only [e0H] at hx ⊢
   by_cases hi:i=b1
   ·rw [if_pos hi] at hx ⊢;exact key hx
   ·rw [if_neg hi] at hx ⊢;exact hx
 ·have hjn:j=n:=by omega
  subst hjn
  have:¬ ((j:Int)<(j:Int)):=by omega
  simp only [this,decide_false,p0T,r0q,p0U,j0k]
  exact he _ _ _ hJ
end
end Go.Dr

namespace Go.Dr
def be:Nat→Nat→List Nat
 | 0,_=>[]
 | k+1,n=>be k (n/256)++[n%256]
@[simp] theorem p0R:∀ k n,(be k n).length=k
 | 0,_=>rfl
 | k+1,n=>by rw [be,List.length_append,p0R];rfl
def by8 (l:List Nat):List AV:=l.map fun (x:Nat)=>.int .u8 (x:Int)
@[simp] theorem u0f (l:List Nat):(by8 l).length=l.length:=by simp [by8]
theorem s0M (l:List Nat) (i:Nat):(by8 l)[i]? = (l[i]?).map fun (x:Nat)=>.int .u8 (x:Int):=by simp [by8]
end Go.Dr

namespace Go.Dr
section
variable {P:Program} {S:a0o} {Q:G4} {σ:Sg} {ds:List ADef} {h:AH}
attribute [simp]  IntKind.bits
@[simp] theorem AV.cells_agg (l:List AV):(AV.agg l).cells=l:=nr rfl
@[simp] theorem AV.cells_int (k:IntKind) (n:Int):(AV.int k n).cells=[.int k n]:=nr rfl
@[simp] theorem AV.cells_nils:AV.nils.cells=[.nils]:=nr rfl
@[simp] theorem AV.cells_slice (id off n cap:Nat) (x:Bool) (es:Nat):(AV.slice id off n cap x es).cells=[.slice id off n cap x es]:=nr rfl
@[simp] theorem AV.cells_bool (b:Bool):(AV.bool b).cells=[.bool b]:=nr rfl
@[simp] theorem AV.cells_str (s:List UInt8):(AV.str s).cells=[.str s]:=nr rfl
@[simp] theorem AV.scalar_int (k:IntKind) (n:Int):(AV.int k n).scalar=true:=nr rfl
@[simp] theorem AV.scalar_nils:AV.nils.scalar=true:=nr rfl
@[simp] theorem AV.scalar_slice (id off n cap:Nat) (x:Bool) (es:Nat):(AV.slice id off n cap x es).scalar=true:=nr rfl
@[simp] theorem AV.scalar_bool (b:Bool):(AV.bool b).scalar=true:=nr rfl
@[simp] theorem AV.scalar_str (s:List UInt8):(AV.str s).scalar=true:=nr rfl
@[simp] theorem AV.scalar_ptr (id off:Nat):(AV.ptr id off).scalar=true:=nr rfl
@[simp] theorem r0T:i5 []=true:=nr rfl
@[simp] theorem q0K (v:AV) (l:List AV):i5 (v::l)=(v.scalar&&i5 l):=nr rfl
@[simp] theorem v0C {α:Type} (why:String) (a:α):ofO why (some a)=.ok a:=nr rfl
theorem c9 {id off:Nat} {vs:List AV} {ro:Bool} (hg:h.get id=some (.cells vs ro)):load1 h id off=ofO "load: out of the known cells" vs[off]?:=by
 unfold load1
 rw [hg]
 simp only []
 cases vs[off]? <;> rfl
@[simp] theorem t0R (off:Nat) (vs:List AV) (ro:Bool):load1 (h.push (.cells vs ro)) h.next off=ofO "load: out of the known cells" vs[off]?:=c9 (b9 _)
@[simp] theorem u0G (id off:Nat) (vs:List AV) (ro:Bool):load1 (h.set id (.cells vs ro)) id off=ofO "load: out of the known cells" vs[off]?:=c9 (d9 _ _)
theorem E1 {id n:Nat} {vs:List AV} {ro:Bool} (hg:h.get id=some (.cells vs ro)) (hl:vs.length=n):loadN h id 0 n=.ok vs:=by
 unfold loadN
 rw [hg]
 have:Nat.ble (0+n) vs.length=true:=Nat.ble_eq_true_of_le (by omega)
 simp only [this,cond_true,List.drop_zero]
 rw [List.take_of_length_le (by omega)]
@[simp] theorem t0d (n id off:Nat):A5 n (.ptr id off) h=match loadN h id off n with | .ok l=>okV (.agg l) h | .error e=>.error e:=nr rfl
theorem PT.one_set {α:Type} (v w:Option α):∀ (f n:Nat),n<f→(PT.one v f n).set w n=PT.one w f n:=by
 intro f
 induction f with
 | zero=>intro n h;omega
 | succ f ih =>
  intro n h
  rw [PT.one_succ,PT.one_succ]
  by_cases h0:n=0
  ·rw [if_pos h0,if_pos h0,PT.set_node,if_pos h0]
  ·rw [if_neg h0,if_neg h0]
   by_cases h1:n%2=1
   ·rw [if_pos h1,if_pos h1,PT.set_node,if_neg h0,if_pos h1,ih _ (by omega)]
   ·rw [if_neg h1,if_neg h1,PT.set_node,if_neg h0,if_neg h1,ih _ (by omega)]
theorem PT.set_set {α:Type} (v w:Option α):∀ (t:PT α) (n:Nat),(t.set v n).set w n=t.set w n:=by
 intro t
 induction t with
 | leaf=>intro n;exact PT.one_set v w (n+1) n (by omega)
 | node l u r ihl ihr =>
  intro n
  rw [PT.set_node,PT.set_node]
  by_cases h0:n=0
  ·rw [if_pos h0,if_pos h0,PT.set_node,if_pos h0]
  ·rw [if_neg h0,if_neg h0]
   by_cases h1:n%2=1
   ·rw [if_pos h1,if_pos h1,PT.set_node,if_neg h0,if_pos h1,ihl]
   ·rw [if_neg h1,if_neg h1,PT.set_node,if_neg h0,if_neg h1,ihr]
@[simp] theorem AH.set_push (o o':AObj):(h.push o).set h.next o'=h.push o':=by
 simp only [AH.push,AH.set,PT.set_set]
@[simp] theorem AH.set_set (i:Nat) (o o':AObj):(h.set i o).set i o'=h.set i o':=by
 simp only [AH.set,PT.set_set]
theorem A8 {id off:Nat} {vs:List AV} {v:AV} (hg:h.get id=some (.cells vs false)) (hl:off<vs.length) (hs:v.scalar=true) :
  v7 h id off [v]=.ok (h.set id (.cells (B0 vs off [v]) false)):=by
 have:Nat.ble (off+1) vs.length=true:=Nat.ble_eq_true_of_le hl
 simp [v7,hg,this,hs]
theorem n0E {id:Nat} {vs:List AV} {v:AV} {l:List AV} (hg:h.get id=some (.cells vs false)) (hl:vs.length=(v::l).length) (hs:i5 (v::l)=true) :
  v7 h id 0 (v::l)=.ok (h.set id (.cells (v::l) false)):=by
 have h1:Nat.ble (0+(v::l).length) vs.length=true:=Nat.ble_eq_true_of_le (by omega)
 have h2:B0 vs 0 (v::l)=v::l:=by
  simp only [B0,List.take_zero,List.nil_append,Nat.zero_add,← hl,List.drop_length,List.append_nil]
 simp only [v7,hg,h1,hs,Bool.and_self,cond_true,h2]
@[simp] theorem t0e (id off:Nat) (v:AV) (hv:v.cells=[v]):T6 1 (.ptr id off) v h=a0a (v7 h id off [v]):=by
 simp only [T6,hv,List.length_singleton,Nat.beq_refl,cond_true]
theorem Y5 (n id off:Nat) (l:List AV) (hl:l.length=n):T6 n (.ptr id off) (.agg l) h=a0a (v7 h id off l):=by
 subst hl
 simp only [T6,AV.cells_agg,Nat.beq_refl,cond_true]
theorem c0F (v:AV):∀ n,a0t [v] n=List.replicate n v
 | 0=>rfl
 | n+1=>by rw [a0t,c0F v n];rfl
theorem p0q (es bytes k:Nat) (z:List AV) (a b:IntKind) (h1:bytes*k≤2 ^ 40) (h2:k≤2 ^ 40) :
  d05 es bytes z (.int a (k:Int)) (.int b (k:Int)) h=okV (.slice h.next 0 k k true es) (h.push (.cells (a0t z k) false)):=by
 simp only [d05,Int.toNat_natCast]
 rw [if_pos ⟨by omega,by omega,by exact_mod_cast h1,by exact_mod_cast h2⟩]
@[simp] theorem w0Q (a:AV) (l:List AV):i0q (a::l) 0=a:=nr rfl
@[simp] theorem w0R (a b:AV) (l:List AV):i0q (a::b::l) 1=b:=nr rfl
@[simp] theorem w0S (a b c:AV) (l:List AV):i0q (a::b::c::l) 2=c:=nr rfl
@[simp] theorem w0T (a b c d:AV) (l:List AV):i0q (a::b::c::d::l) 3=d:=nr rfl
@[simp] theorem w0U (a b c d e:AV) (l:List AV):i0q (a::b::c::d::e::l) 4=e:=nr rfl
theorem E3 (c:List AV):d0H σ c []=.ok c:=nr rfl
theorem B5 (c:List AV) (off size:Nat) (x:CO) (rest:List (Nat×Nat×CO)):d0H σ c ((off,size,x)::rest) =
  if (x.evS σ).cells.length=size∧off+(x.evS σ).cells.length≤c.length then d0H σ (B0 c off (x.evS σ).cells) rest else .error "fill":=by
 rw [d0H]
 by_cases h:(x.evS σ).cells.length=size∧off+(x.evS σ).cells.length≤c.length
 ·rw [if_pos h]
  have h1:Nat.beq (x.evS σ).cells.length size=true:=PT.beqT h.1
  have h2:Nat.ble (off+(x.evS σ).cells.length) c.length=true:=Nat.ble_eq_true_of_le h.2
  simp only [h1,h2,Bool.and_self,cond_true]
 ·rw [if_neg h]
  have:(Nat.beq (x.evS σ).cells.length size&&Nat.ble (off+(x.evS σ).cells.length) c.length)=false:=by
   rw [Bool.eq_false_iff]
   intro e
   rw [Bool.and_eq_true] at e
   exact h ⟨Nat.eq_of_beq_eq_true e.1,Nat.le_of_ble_eq_true e.2⟩
  simp only [this,cond_false]
theorem H6 (z:List AV) (pl:List (Nat×Nat×CO)):f0W z pl σ=match d0H σ z pl with | .ok l=>.ok (.agg l) | .error e=>.error e:=nr rfl
theorem x9 (len es:Nat) (z:List AV) (pl:List (Nat×Nat×CO)):U5 len es z pl σ h=match d0H σ z pl with
 | .ok l=>okV (.slice h.next 0 len len true es) (h.push (.cells l false))
 | .error e=>.error e:=nr rfl
theorem t7 (vs:List AV) (off:Nat) (l:List AV):B0 vs off l=vs.take off++(l++vs.drop (off+l.length)):=nr rfl
attribute [simp]  E3 B5 H6 x9
@[simp] theorem t0S (K:AH→Prop):g0Q P S [] h K=K h:=nr rfl
theorem Sl.oneCell {es n:Nat} {v:AV} {l:List AV} (s:Sl h es n v l):v.cells=[v]∧v.scalar=true:=by
 rcases s.2 with ⟨rfl,_⟩ | ⟨id,off,cap,x,vs,ro,rfl,_⟩ <;> exact ⟨rfl,rfl⟩
theorem Own.set {B es n j:Nat} {v:AV} {l:List AV} (s:Own B h es n v l) (o:AObj) (hj:j5 v≠some j):Own B (h.set j o) es n v l:=by
 refine ⟨s.1,?_⟩
 rcases s.2 with e | ⟨id,off,x,vs,e1,e2,e3,e4,e5,e6⟩
 ·exact .inl e
 ·exact .inr ⟨id,off,x,vs,e1,e2,e3,by rw [a6 (by intro e;apply hj;rw [e1,e];rfl)];exact e4,e5,e6⟩
theorem Own.ne {B es n j:Nat} {v:AV} {l:List AV} (s:Own B h es n v l) (hj:j<B):j5 v≠some j:=by
 rcases s.2 with ⟨rfl,_⟩ | ⟨id,off,x,vs,rfl,e2,_⟩
 ·intro e;cases e
 ·intro e;cases e;omega
theorem Sl.same {es n:Nat} {v:AV} {l:List AV} (s:Sl h es n v l):R8 12 v v=true:=by
 rcases s.2 with ⟨rfl,_⟩ | ⟨id,off,cap,x,vs,ro,rfl,_⟩
 ·exact p0W
 ·exact o0a _ _ _ _ _ _
theorem b0J (vs:List AV) (k:Nat) (x:AV) (hk:k<vs.length):B0 vs k [x]=vs.set k x:=by
 rw [B0,List.length_singleton,List.set_eq_take_append_cons_drop,if_pos hk]
 rfl
end
end Go.Dr

namespace Go.Dr
abbrev RL (α:Type):=R (List α)
def Y4 {α β:Type} (f:α→RL β):List α→RL β
 | []=>.ok []
 | x::l=>match f x with
  | .ok r=>match Y4 f l with
   | .ok s=>.ok (r++s)
   | .error e=>.error e
  | .error e=>.error e
abbrev I5:=Tgt→List AV→AH→RL (AV×AH)
def f05 (h:AH) (it:AV):RL (AV×AH) :=
 match it with
 | .ptr id 0=>match h.get id with
  | some (.miter m since seen last)=>match m with
   | none=>.ok [(.tuple [.bool false],h)]
   | some m=>match h.get m with
    | some (.map es clock) =>
     if !seen.isEmpty&&!es.isEmpty&&es.all (fun e=>Nat.ble last e.born) then .error "next: all gone" else
     match es.filter (fun e=>!seen.contains e.born) with
     | []=>.ok [(.tuple [.bool false],h)]
     | l=>if l.all (fun e=>Nat.blt e.born since) then .ok (l.map fun e=>(.tuple [.bool true,e.key,e.val],h.set id (.miter (some m) since (seen++[e.born]) clock))) else .error "next: a new entry"
    | _=>.error "next"
  | _=>.error "next"
 | _=>.error "next"
def i0w (call:I5):E0:=fun t args h=>match call t args h with
 | .ok [x]=>.ok x
 | .ok _=>.error "several ends"
 | .error e=>.error e
def e0R (a:AAct) (d:Option Tmp) (x:AV×AH):AAct×AH:=(g07 x.1 fun v=>a.put d v,x.2)
section
variable (P:Program)
def h01 (o:Oper) (it:CO) (a:AAct) (h:AH):RL (AAct×AH) :=
 match f05 h (it.ev a) with
 | .ok l=>.ok (l.map (e0R a o.dst))
 | .error e=>.error e
def n0s (call:I5) (o:Oper) (a:AAct) (r:RN):RL (AAct×AH) :=
 match r with
 | .ok (r,h)=>match r with
  | .value v=>.ok [e0R a o.dst (v,h)]
  | .skip=>.ok [(a.put o.dst n8,h)]
  | .defer d=>bif a.rd then .error "defer in a round" else .ok [((⟨a.n,a.ts,d::a.ds,a.rd⟩:AAct).put o.dst n8,h)]
  | .enter f args=>match call (.fn f) args h with
   | .ok l=>.ok (l.map (e0R a o.dst))
   | .error e=>.error e
  | .yield f args=>match call (.yield f) args h with
   | .ok l=>.ok (l.map (e0R a o.dst))
   | .error e=>.error e
 | .error e=>.error (o.pos++": "++e)
def i0x:Op→Option Operand
 | .next x false=>some x
 | _=>none
def a0A (call:I5) (o:Oper) (a:AAct) (h:AH):RL (AAct×AH) :=
 match i0x o.op with
 | some x=>match cO P x with
  | .ok c=>h01 o c a h
  | .error e=>.error (o.pos++": read: "++e)
 | none=>match comp P o with
  | .ok c=>n0s call o a (evC P c a h)
  | .error e=>.error (o.pos++": read: "++e)
def W0 (call:I5) (ops:Array Oper):List Oper→AAct→AH→RL (AAct×AH)
 | [],a,h=>.ok [(a,h)]
 | o::l,a,h =>
  match s6 ops o a with
  | .ok true=>match a0A P call o a h with
   | .ok r=>Y4 (fun x=>W0 call ops l x.1 x.2) r
   | .error e=>.error e
  | .ok false=>W0 call ops l (a.put o.dst n8) h
  | .error e=>.error e
abbrev XD:=RL (AX×AAct×AH)
def V3 (body:AAct→AH→XD):Nat→AAct→AH→XD
 | 0,_,_=>.error "fuel"
 | n+1,a,h=>match body a h with
  | .ok r=>Y4 (fun x=>match x.1 with | .normal=>V3 body n x.2.1 x.2.2 | _=>.ok [x]) r
  | .error e=>.error e
def e0Y (did:Nat) (a:AAct) (h:AH):R (AX×AAct×AH) :=
 match h.get (did+1) with
 | some (.loop r)=>match r.state with
  | .busy=>.error "rangeFunc: busy"
  | _=>match r.pending with
   | none=>.ok (.normal,⟨a.n,a.ts,.collected did::a.ds,a.rd⟩,h.set (did+1) (.loop { r with state:=.exhausted }))
   | some .ret=>.ok (.ret,⟨a.n,a.ts,.collected did::a.ds,a.rd⟩,h.set (did+1) (.loop { r with state:=.exhausted }))
   | some (.exit id)=>.ok (.exit id,⟨a.n,a.ts,.collected did::a.ds,a.rd⟩,h.set (did+1) (.loop { r with state:=.exhausted }))
   | some _=>.error "rangeFunc: jump"
 | _=>.error "rangeFunc"
def i0y {α:Type}:R α→RL α
 | .ok x=>.ok [x]
 | .error e=>.error e
def f06 (call:I5) (f:AV) (params:Array Tmp) (assign body:Code) (a:AAct) (h:AH):XD :=
 match f with
 | .func (.func g) first captured=>bif a.rd then .error "rangeFunc in a round" else
  X8 h.next fun did =>
  match call (.fn g) (first++(.func (.yield (did+1)) [] []::captured))
    ((h.push (.deferred (some []))).push (.loop { state:=.ready,pending:=none,n:=a.n,tmps:=a.ts,params,assign,body })) with
  | .ok l=>Y4 (fun x=>i0y (e0Y did a x.2)) l
  | .error e=>.error e
 | _=>.error "rangeFunc: of what"
def l8 (call:I5) (lf:Nat):Code→AAct→AH→XD
 | .region _ ops draw,a,h=>match draw with
  | true=>match b0V P (i0w call) ops a h with
   | .ok (a,h)=>.ok [(.normal,a,h)]
   | .error e=>.error e
  | false=>match W0 P call ops ops.toList a h with
   | .ok l=>.ok (l.map fun x=>(.normal,x.1,x.2))
   | .error e=>.error e
 | .seq x y,a,h=>match l8 call lf x a h with
  | .ok l=>Y4 (fun x=>match x.1 with | .normal=>l8 call lf y x.2.1 x.2.2 | _=>.ok [x]) l
  | .error e=>.error e
 | .cond c x y,a,h=>match cO P c with
  | .ok c=>match c.ev a with
   | .bool true=>l8 call lf x a h
   | .bool false=>l8 call lf y a h
   | _=>.error "cond"
  | .error e=>.error e
 | .block id c,a,h=>match l8 call lf c a h with
  | .ok l=>.ok (l.map fun x=>match x.1 with | .exit i=>bif Nat.beq i id then (.normal,x.2.1,x.2.2) else x | _=>x)
  | .error e=>.error e
 | .loop c,a,h=>V3 (l8 call lf c) lf a h
 | .scope c,a,h=>match l8 call lf c a h with
  | .ok l=>.ok l
  | .error e=>.error e
 | .rangeFunc f params assign body,a,h=>match cO P f with
  | .ok f=>f06 call (f.ev a) params assign body a h
  | .error e=>.error e
 | c,a,h=>i0y (n9 P (i0w call) lf c a h)
def C9 (call:I5):List ADef→AH→RL AH
 | [],h=>.ok [h]
 | d::l,h=>match d with
  | .collected id=>match h.get id with
   | some (.deferred (some []))=>C9 call l (h.set id (.deferred none))
   | _=>.error "collected"
  | .call fn captured args=>match a0f fn captured args h with
   | .ok (.enter f args,h)=>match call (.fn f) args h with
    | .ok r=>Y4 (fun x=>C9 call l x.2) r
    | .error e=>.error e
   | .ok _=>.error "defer"
   | .error e=>.error e
def c01 (call:I5) (fn:Func) (x:AX×AAct×AH):RL (AV×AH) :=
 match x.1 with
 | .normal | .ret=>match C9 call x.2.1.ds x.2.2 with
  | .ok l=>Y4 (fun h=>match I8 P h x.2.1 fn.results.toList with
   | .ok l=>.ok [(a0n l,h)]
   | .error e=>.error (fn.name++": "++e)) l
  | .error e=>.error (fn.name++": "++e)
 | _=>.error "left by a jump"
def Z2 (call:I5) (fn:Func) (r:XD):RL (AV×AH) :=
 match r with
 | .ok l=>Y4 (c01 P call fn) l
 | .error e=>.error (fn.name++"/"++e)
def c02 (call:I5) (lf:Nat) (l:Nat) (r:ALoop) (x:AX×AAct×AH):RL (AV×AH) :=
 match x.1 with
 | .normal=>match x.2.2.get l with
  | some (.loop q)=>match q.state with
   | .ready=>match l8 P call lf r.body x.2.1 (x.2.2.set l (.loop { q with state:=.busy })) with
    | .ok s=>Y4 (fun y=>i0y (c0P l (.ok y))) s
    | .error e=>.error e
   | _=>.error "yield: state"
  | _=>.error "yield: loop"
 | _=>.error "yield: assign"
def b0i (call:I5) (lf:Nat) (l:Nat) (r:ALoop) (args:List AV) (h:AH):RL (AV×AH) :=
 bif Nat.beq args.length r.params.size then
  match l8 P call lf r.assign (Q9 r.params.toList args ⟨r.n,r.tmps,[],true⟩) h with
  | .ok s=>Y4 (c02 P call lf l r) s
  | .error e=>.error e
 else .error "yield: arguments"
end
def k0Q (x y:AEntry):Bool:=Bool.and (R8 12 x.key y.key) (Bool.and (R8 12 x.val y.val) (Nat.beq x.born y.born))
def o07 {α:Type} (f:α→α→Bool):List α→List α→Bool
 | [],[]=>true
 | x::l,y::m=>Bool.and (f x y) (o07 f l m)
 | _,_=>false
def q0D:Option (List ADef)→Option (List ADef)→Bool
 | none,none=>true
 | some [],some []=>true
 | _,_=>false
def v0t:Option Nat→Option Nat→Bool
 | none,none=>true
 | some x,some y=>Nat.beq x y
 | _,_=>false
def q0E:AObj→AObj→Bool
 | .cells l r,.cells m s=>Bool.and (r == s) (o07 (R8 12) l m)
 | .map l c,.map m d=>Bool.and (Nat.beq c d) (o07 k0Q l m)
 | .deferred a,.deferred b=>q0D a b
 | .siter s p,.siter t q=>Bool.and (Nat.beq p q) (decide (s=t))
 | .miter m a b c,.miter n x y z=>Bool.and (v0t m n) (Bool.and (Nat.beq a x) (Bool.and (o07 Nat.beq b y) (Nat.beq c z)))
 | _,_=>false
def i0z:Option AObj→Option AObj→Bool
 | none,none=>true
 | some x,some y=>q0E x y
 | _,_=>false
def f07 (h k:AH):Nat→Bool
 | 0=>true
 | n+1=>Bool.and (i0z (h.get n) (k.get n)) (f07 h k n)
def b0j (k:AH):Nat→Nat→AH→AH
 | 0,_,h=>h
 | n+1,i,h=>bif i0z (h.get i) (k.get i) then b0j k n (i+1) h else b0j k n (i+1) (h.kill i)
def q0F (base:Nat) (x y:AV×AH):Option (AV×AH) :=
 bif Bool.and (R8 12 x.1 y.1) (Bool.and (Nat.beq x.2.next y.2.next) (f07 x.2 y.2 base)) then some (x.1,b0j y.2 (x.2.next - base) base x.2) else none
def h02 (base:Nat) (x:AV×AH):List (AV×AH)→Option (AV×AH)
 | []=>some x
 | y::l=>match q0F base x y with
  | some z=>h02 base z l
  | none=>none
def n0t (base:Nat) (r:RL (AV×AH)):RL (AV×AH) :=
 match r with
 | .ok (x::y::l)=>match h02 base x (y::l) with
  | some z=>.ok [z]
  | none=>.ok (x::y::l)
 | r=>r
def P3 (S:FuncId→Option (List AV→AH→R (AV×AH))) (call:I5):I5:=fun t args h =>
 match t with
 | .fn f=>match S f with
  | some _=>.error "a deferred call of a summary"
  | none=>call (.fn f) args h
 | .yield l=>call (.yield l) args h
def Z3 (P:Program) (S:FuncId→Option (List AV→AH→R (AV×AH))) (lf:Nat):Nat→I5
 | 0,_,_,_=>.error "depth"
 | n+1,.fn f,args,h=>match S f with
  | some g=>i0y (g args h)
  | none=>match P.funcs[f]? with
   | some fn=>match fn.body with
    | some c=>bif Nat.ble args.length fn.ntmps
     then n0t h.next (Z2 P (P3 S (Z3 P S lf n)) fn (l8 P (Z3 P S lf n) lf c ⟨fn.ntmps,laid args 0 .leaf,[],false⟩ h)) else .error "arguments"
    | none=>.error ("no body: "++fn.name)
   | none=>.error "no function"
 | n+1,.yield l,args,h=>match h.get l with
  | some (.loop r)=>b0i P (Z3 P S lf n) lf l r args h
  | _=>.error "yield: no loop"
end Go.Dr
