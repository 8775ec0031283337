/-
  Texts joined.
-/
import Derived.Test.YtnapechhagnmaaaGreatDoorT4
import Derived.SizedLaws
import Derived.Test.YtnapechhagnmaaaGreatDoorT6
import Derived.Lib.LaidU8
import Derived.Shelf.Vars

namespace Go.Dr
open Go.RowKit
variable {P:Program} {H:Type} {enc:TypeId×Value→H} {W:World} {base:Nat} {sp:Nat→Bool} {held:Bool}
theorem d0P {P:Program} {e:TypeId} {d:DataW H}:∀ {l:List (DataW H)},d ∈ l→∀ n ∈ d.weights P e,n ∈ DataW.weightsAll P e l
 | x::l,hm,n,hn=>by
  simp only [DataW.weightsAll,List.mem_append]
  rcases List.mem_cons.1 hm with rfl | hm
  ·exact .inl hn
  ·exact .inr (d0P hm n hn)
inductive TyZ (P:Program) (h:AH):TypeId→List AV→Prop
 | bool {t:TypeId} (ht:P.underlying t=some .bool) (b:Bool):TyZ P h t [.bool b]
 | int {t:TypeId} {k:IntKind} {n:Int} (ht:P.underlying t=some (.int k)) (hn:(Lit.int k n).wf=true):TyZ P h t [.int k n]
 | str {t:TypeId} {s:List UInt8} (ht:P.underlying t=some .string) (hs:s.length≤reachBytes):TyZ P h t [.str s]
 | nils {t e:TypeId} (ht:P.underlying t=some (.slice e)):TyZ P h t [.nils]
 | slice {t e:TypeId} {id len cap:Nat} {vs:List AV} (ht:P.underlying t=some (.slice e)) (hi:id<h.next) (hg:h.get id=some (.cells vs true)) (hv:vs.length=len*P.cellsOf e)
   (hl:len≤cap) (hc:cap*P.bytesOf e≤reachBytes) (hel:∀ i,i<len→TyZ P h e ((vs.drop (i*P.cellsOf e)).take (P.cellsOf e))):TyZ P h t [.slice id 0 len cap true (P.cellsOf e)]
 | struct {t:TypeId} {fs:Array Field} {cs:List AV} (ht:P.underlying t=some (.struct fs)) (hl:cs.length=P.cellsOf t)
   (hf:∀ f ∈ fs.toList,TyZ P h f.type ((cs.drop f.offset).take (P.cellsOf f.type))):TyZ P h t cs
theorem TyZ.fr {h h':AH} (f:Fr h h'):∀ {t:TypeId} {cs:List AV},TyZ P h t cs→TyZ P h' t cs:=by
 intro t cs s
 induction s with
 | bool ht b=>exact .bool ht b
 | int ht hn=>exact .int ht hn
 | str ht hs=>exact .str ht hs
 | nils ht=>exact .nils ht
 | slice ht hi hg hv hl hc _ ih=>exact .slice ht (Nat.lt_of_lt_of_le hi f.next) (by rw [f.get _ hi];exact hg) hv hl hc ih
 | struct ht hl _ ih=>exact .struct ht hl ih
theorem h0s {B:Nat} {w0:World} (L:TypeId→List Value→Prop)
  (hL:∀ t cs,L t cs→∀ φ h,Rel B w0 φ h W→RO φ h→∃ φ' h' l,ConL φ' l cs∧Rel B w0 φ' h' W∧RO φ' h'∧φ.le φ'∧Fr h h'∧TyZ P h' t l) (cs:List Value) :
  ∀ (fs:List Field) (acc:Nat),g0H P fs acc cs.length=true→(∀ f ∈ fs,L f.type ((cs.drop f.offset).take (P.cellsOf f.type)))→∀ φ h,Rel B w0 φ h W→RO φ h →
  ∃ φ' h' l,ConL φ' l (cs.drop acc)∧Rel B w0 φ' h' W∧RO φ' h'∧φ.le φ'∧Fr h h'∧(∀ f ∈ fs,acc≤f.offset∧TyZ P h' f.type ((l.drop (f.offset - acc)).take (P.cellsOf f.type)))
 | [],acc,ht,_,φ,h,hR,hro=>by
  have:acc=cs.length:=Nat.eq_of_beq_eq_true ht
  subst this
  exact ⟨φ,h,[],by rw [List.drop_length];exact .nil,hR,hro,.refl _,.refl _,fun f hf=>by cases hf⟩
 | f::fs,acc,ht,hf,φ,h,hR,hro=>by
  simp only [g0H,Bool.and_eq_true] at ht
  have ho:f.offset=acc:=Nat.eq_of_beq_eq_true ht.1
  obtain ⟨φ1,h1,l1,c1,R1,ro1,le1,f1,t1⟩:=hL _ _ (hf f (by simp)) φ h hR hro
  obtain ⟨φ2,h2,l2,c2,R2,ro2,le2,f2,t2⟩:=h0s L hL cs fs (acc+P.cellsOf f.type) ht.2 (fun g hg=>hf g (List.mem_cons_of_mem _ hg)) φ1 h1 R1 ro1
  have hle:acc+P.cellsOf f.type≤cs.length:=by
   have:∀ (fs:List Field) (a:Nat),g0H P fs a cs.length=true→a≤cs.length:=by
    intro fs
    induction fs with
    | nil=>intro a h;exact Nat.le_of_eq (Nat.eq_of_beq_eq_true h)
    | cons g gs ih =>
     intro a h
     simp only [g0H,Bool.and_eq_true] at h
     have:=ih _ h.2
     omega
   exact this _ _ ht.2
  rw [ho] at c1
  have hlen:l1.length=P.cellsOf f.type:=by rw [c1.length,List.length_take,List.length_drop];omega
  refine ⟨φ2,h2,l1++l2,?_,R2,ro2,le1.trans le2,f1.trans f2,fun g hg=>?_⟩
  ·have:=(c1.mono le2).append c2
   rw [← List.drop_drop,List.take_append_drop] at this
   exact this
  ·rcases List.mem_cons.1 hg with rfl | hg
   ·refine ⟨by omega,?_⟩
    rw [ho,Nat.sub_self,List.drop_zero,List.take_append_of_le_length (by omega),List.take_of_length_le (by omega)]
    exact t1.fr f2
   ·obtain ⟨h3,h4⟩:=t2 g hg
    refine ⟨by omega,?_⟩
    rw [show g.offset - acc=l1.length+(g.offset - (acc+P.cellsOf f.type)) from by omega,← List.drop_drop,List.drop_left]
    exact h4
theorem f0f {B:Nat} {w0:World} :
  ∀ (d fuel:Nat) (t:TypeId) (cs:List Value) (x:DataW H×List MemPlace),c0V P d t=true→DataW.trod enc P W base (fun _=>true) held fuel t cs=some x→(∀ n ∈ x.1.weights P t,n≤reachBytes)→o0m W cs →
  ∀ φ h,Rel B w0 φ h W→RO φ h→∃ φ' h' l,ConL φ' l cs∧Rel B w0 φ' h' W∧RO φ' h'∧φ.le φ'∧Fr h h'∧TyZ P h' t l
 | 0,fuel,t,cs,x,hp,_,_,_,_,_,_,_=>by cases hp
 | d+1,fuel,t,cs,x,hp,h,hw0,hz,φ,g,hR,hro=>by
  unfold c0V at hp
  cases ht:P.underlying t with
  | none=>rw [ht] at hp;cases hp
  | some td =>
   rw [ht] at hp
   cases td with
   | bool =>
    obtain ⟨b,rfl,_⟩:=DataW.trod_bool ht h
    exact ⟨φ,g,_,.cons (.bool b) .nil,hR,hro,.refl _,.refl _,.bool ht b⟩
   | int k =>
    obtain ⟨n,rfl,_,hw⟩:=DataW.trod_int ht h
    exact ⟨φ,g,_,.cons (.int k n) .nil,hR,hro,.refl _,.refl _,.int ht hw⟩
   | string =>
    obtain ⟨⟨⟨s⟩⟩,rfl,rfl,_⟩:=DataW.trod_string ht h
    have hs:s.length≤reachBytes:=hw0 _ (by simp [DataW.weights])
    exact ⟨φ,g,_,.cons (.str s) .nil,hR,hro,.refl _,.refl _,.str ht hs⟩
   | struct fs =>
    simp only [Bool.and_eq_true,List.all_eq_true] at hp
    obtain ⟨hp1,hp2⟩:=hp
    obtain ⟨xs,n,_,hx,hl,hlen,hf⟩:=DataW.trod_struct ht h
    subst hx
    simp only [DataW.weights,ht] at hw0
    obtain ⟨φ1,h1,l1,c1,R1,ro1,le1,f1,t1⟩:=h0s (L:=fun t cs=>∃ n x,c0V P d t=true∧DataW.trod enc P W base (fun _=>true) held n t cs=some x∧(∀ n ∈ x.1.weights P t,n≤reachBytes)∧o0m W cs)
     (fun t cs ⟨n,x,h1,h2,h3,h4⟩=>f0f d n t cs x h1 h2 h3 h4) cs fs.toList 0 (by rw [hl];exact hp1) (fun f hfm=>by
      obtain ⟨i,hi⟩:=List.mem_iff_getElem?.1 hfm
      rw [Array.getElem?_toList] at hi
      have hlt:i<xs.length:=by rw [hlen];exact (Array.getElem?_eq_some_iff.1 hi).1
      exact ⟨n,xs[i],hp2 f hfm,by rw [hf i f hi];exact List.getElem?_eq_getElem hlt,fun m hm=>hw0 m (DataW.weights_mem_each (j:=i) (by rw [List.getElem?_map,Array.getElem?_toList,hi];rfl) (by rw [List.getElem?_map,List.getElem?_eq_getElem hlt];rfl) m hm),fun a len hm=>hz a len (List.mem_of_mem_drop (List.mem_of_mem_take hm))⟩) φ g hR hro
    exact ⟨φ1,h1,l1,c1,R1,ro1,le1,f1,.struct ht (by rw [c1.length,List.drop_zero,hl]) fun f hf=>by have:=(t1 f hf).2;rwa [Nat.sub_zero] at this⟩
   | slice e =>
    simp only [Bool.and_eq_true] at hp
    obtain ⟨hp1,hp2⟩:=hp
    have hk:0<P.cellsOf e:=Nat.le_of_ble_eq_true hp1
    rcases DataW.trod_slice ht h with ⟨rfl,_⟩ | ⟨a,len,cap,elems,rest,n,_,rfl,hx,hb,hlc,_,hel,he1,he2,_⟩
    ·exact ⟨φ,g,_,.cons .nils .nil,hR,hro,.refl _,.refl _,.nils ht⟩
    ·obtain ⟨hrl,hr⟩:=he2 rfl
     subst hx
     simp only [DataW.weights,ht,List.length_map,List.mem_cons,List.mem_append] at hw0
     have hcm:cap*P.bytesOf e≤reachBytes:=by
      have:=hw0 _ (.inl rfl)
      rwa [hel,hrl,show len+(cap - len)=cap from by omega] at this
     have each:∀ i,i<cap→∃ cs y,W.cells? base (a.add (i*P.cellsOf e)) (P.cellsOf e)=some cs∧DataW.trod enc P W base (fun _=>true) held n e cs=some y∧∀ n ∈ y.1.weights P e,n≤reachBytes:=by
      intro i hi
      have:∃ y,(W.cells? base (a.add (i*P.cellsOf e)) (P.cellsOf e)).bind (DataW.trod enc P W base (fun _=>true) held n e)=some y∧∀ n ∈ y.1.weights P e,n≤reachBytes:=by
       by_cases hil:i<len
       ·exact ⟨elems[i],by rw [he1 i hil];exact List.getElem?_eq_getElem (by omega),fun m hm=>hw0 m (.inr (.inl (d0P (List.mem_map_of_mem (List.getElem_mem _)) m hm)))⟩
       ·have hj:i - len<cap - len:=by omega
        refine ⟨rest[i - len],?_,fun m hm=>hw0 m (.inr (.inr (d0P (List.mem_map_of_mem (List.getElem_mem _)) m hm)))⟩
        have:=hr (i - len) hj
        rw [show len+(i - len)=i from by omega] at this
        rw [this];exact List.getElem?_eq_getElem (by omega)
      obtain ⟨y,hy,hwy⟩:=this
      obtain ⟨cs,h1,h2⟩:=Option.bind_eq_some_iff.1 hy
      exact ⟨cs,y,h1,h2,hwy⟩
     have hblk:∃ (b:Nat) (c:Array Value) (e:TypeId) (f:Nat×Nat),W.heap[b]? = some (.cells c e f):=by
      by_cases hc0:cap=0
      ·subst hc0;exact hz a len (by simp)
      ·obtain ⟨cs,y,q1,_⟩:=each 0 (by omega)
       obtain ⟨q2,q3⟩:=c0W q1
       have:=q3 0 hk
       rw [List.getElem?_eq_getElem (by omega)] at this
       obtain ⟨_,c,et,f,hbk,_⟩:=j01 this
       exact ⟨_,c,et,f,hbk⟩
     have hcs:∃ css:List (List Value),css.length=len∧∀ i c,css[i]? = some c→W.cells? base (a.add (i*P.cellsOf e)) (P.cellsOf e)=some c∧∃ y,DataW.trod enc P W base (fun _=>true) held n e c=some y∧∀ n ∈ y.1.weights P e,n≤reachBytes:=by
      refine ⟨(List.range len).map fun i=>(W.cells? base (a.add (i*P.cellsOf e)) (P.cellsOf e)).getD [],by simp,fun i c hi=>?_⟩
      have hil:i<len:=by have:=(List.getElem?_eq_some_iff.1 hi).1;simpa using this
      obtain ⟨cs,y,h1,h2,h3⟩:=each i (by omega)
      simp only [List.getElem?_map,List.getElem?_range hil,Option.map_some,Option.some.injEq,h1,Option.getD_some] at hi
      subst hi
      exact ⟨h1,y,h2,h3⟩
     obtain ⟨css,hcl,hcs⟩:=hcs
     obtain ⟨φ1,h1,ls,R1,ro1,le1,f1,hll,hls⟩:=l0B (B:=B) (w0:=w0) (w:=W) (fun (h:AH) (_:Unit) l=>TyZ P h e l) (fun h h' _ l f t=>t.fr f) (css.map fun c=>((),c)) (fun x hx φ h hR hro=>by
      obtain ⟨c,hc,rfl⟩:=List.mem_map.1 hx
      obtain ⟨i,hi⟩:=List.mem_iff_getElem?.1 hc
      obtain ⟨_,y,hy,hwy⟩:=hcs i c hi
      exact f0f d n e c y hp2 hy hwy (fun _ _ _=>hblk) φ h hR hro) φ g hR hro
     rw [List.length_map,hcl] at hll
     have hlens:∀ l ∈ ls,l.length=P.cellsOf e:=by
      intro l hl
      obtain ⟨i,hi⟩:=List.mem_iff_getElem?.1 hl
      have hil:i<css.length:=by rw [hcl,← hll];exact (List.getElem?_eq_some_iff.1 hi).1
      obtain ⟨l',h1,h2,_⟩:=hls i ((),css[i]) (by simp [hil])
      rw [hi] at h1
      cases h1
      rw [h2.length]
      exact (c0W (hcs i _ (List.getElem?_eq_getElem hil)).1).1
     obtain ⟨hfl,hfg⟩:=i0f ls (P.cellsOf e) hlens
     by_cases hc0:cap=0
     ·
      obtain ⟨b,c,et,f,hbk⟩:=hblk
      have hl0:len=0:=by omega
      have hv0:ls.flatten=[]:=List.length_eq_zero_iff.1 (by rw [hfl,hll,hl0,Nat.zero_mul])
      obtain ⟨R2,ro2,le2⟩:=q0n R1 ro1 (p:=⟨b,0,0⟩) (vs:=[]) hbk (Nat.le_refl _) (Nat.zero_le _) (fun i x hx=>by simp at hx)
      refine ⟨_,_,[.slice h1.next 0 len cap true (P.cellsOf e)],.cons (.slice (Phi.set_same _ _ _) (fun _=>rfl) (Nat.le_refl _) hlc (.inl hc0)) .nil,R2,ro2,le1.trans le2,f1.push _,?_⟩
      exact .slice ht (by simp) (b9 _) (by rw [hl0,Nat.zero_mul];rfl) hlc hcm fun i hi=>by omega
     ·have hcp:0<cap:=by omega
      have hk0:∀ i j,i<cap→j<P.cellsOf e→∃ v,W.cell? ((a.add (i*P.cellsOf e)).add j)=some v:=by
       intro i j hi hj
       obtain ⟨cs,y,q1,_⟩:=each i hi
       obtain ⟨q2,q3⟩:=c0W q1
       exact ⟨cs[j]'(by omega),by rw [q3 j hj];exact List.getElem?_eq_getElem (by omega)⟩
      obtain ⟨v0,hv0⟩:=hk0 0 0 hcp hk
      have ha0:(a.add (0*P.cellsOf e)).add 0=a:=by simp [Addr.add]
      rw [ha0] at hv0
      obtain ⟨hsp,c,et,f,hbk,_⟩:=j01 hv0
      have hat:∀ i j,(a.add (i*P.cellsOf e)).add j=⟨a.block,a.off+(i*P.cellsOf e+j),none⟩:=by
       intro i j
       rw [add_none hsp,Addr.add_none,Nat.add_assoc]
      have hcell:∀ o,W.cell? ⟨a.block,o,none⟩=c[o]?:=fun o=>a0W hbk
      have hsz:a.off+cap*P.cellsOf e≤c.size:=by
       obtain ⟨v,hv⟩:=hk0 (cap - 1) (P.cellsOf e - 1) (by omega) (by omega)
       rw [hat,hcell] at hv
       have:=(Array.getElem?_eq_some_iff.1 hv).1
       have e1:(cap - 1)*P.cellsOf e+P.cellsOf e=cap*P.cellsOf e:=by
        rw [← Nat.succ_mul,show (cap - 1).succ=cap from by omega]
       omega
      have hle:len*P.cellsOf e≤cap*P.cellsOf e:=Nat.mul_le_mul_right _ hlc
      obtain ⟨R2,ro2,le2⟩:=q0n R1 ro1 (p:=⟨a.block,a.off,cap*P.cellsOf e⟩) (vs:=ls.flatten) hbk (by rw [hfl,hll];exact hle) hsz (fun i x hx=>by
       have hi:i<len*P.cellsOf e:=by rw [← hll,← hfl];exact (List.getElem?_eq_some_iff.1 hx).1
       have hdiv:i/P.cellsOf e<len:=(Nat.div_lt_iff_lt_mul hk).2 hi
       have hmod:i%P.cellsOf e<P.cellsOf e:=Nat.mod_lt _ hk
       have hdm:i/P.cellsOf e*P.cellsOf e+i%P.cellsOf e=i:=by rw [Nat.mul_comm];exact Nat.div_add_mod _ _
       obtain ⟨l,q1,q2⟩:=o0V ls (P.cellsOf e) hlens (i/P.cellsOf e) (i%P.cellsOf e) (by omega) hmod
       rw [hdm,hx] at q2
       have hcs':(css.map fun c=>((),c))[i/P.cellsOf e]? = some ((),css[i/P.cellsOf e]'(by omega)):=by simp [hcl,hdiv]
       obtain ⟨l',q3,q4,_⟩:=hls _ _ hcs'
       rw [q1] at q3
       cases q3
       obtain ⟨y,q5,q6⟩:=q4.get _ _ q2.symm
       refine ⟨y,?_,q6⟩
       obtain ⟨_,q7⟩:=c0W (hcs _ _ (List.getElem?_eq_getElem (by omega:i/P.cellsOf e<css.length))).1
       have q8:=q7 _ hmod
       rw [hat,hcell,hdm] at q8
       rw [q8]
       exact q5)
      refine ⟨_,_,[.slice h1.next 0 len cap true (P.cellsOf e)],.cons (.slice (p:=⟨a.block,a.off,cap*P.cellsOf e⟩) (Phi.set_same _ _ _) (fun _=>rfl) (Nat.le_refl _) hlc (.inr ⟨Nat.le_of_eq (Nat.zero_add _),?_⟩)) .nil,R2,ro2,le1.trans le2,f1.push _,?_⟩
      ·obtain ⟨b,o,s⟩:=a
       cases hsp
       rfl
      ·refine .slice ht (by simp) (b9 _) (by rw [hfl,hll]) hlc hcm fun i hi=>?_
       have hil:i<css.length:=by omega
       obtain ⟨l,q1,_,q3⟩:=hls i ((),css[i]) (by simp [hil])
       rw [hfg i l q1]
       exact q3.fr ((Fr.refl _).push _)
   | _=>cases hp
theorem n0v {B:Nat} {w0:World} {b0:Nat} {d:Nat} {t e:TypeId} {v:Value} {dd:DataW H} {ps:List MemPlace} (ht:P.underlying t=some (.slice e)) (hp:c0V P d t=true)
  (hval:Value.okWide P W .any b0 t v) (hd:DataW.Trod enc P W base (fun _=>true) held t v dd ps) (hw:∀ n ∈ dd.weights P t,n≤reachBytes) {φ:Phi} {h:AH} (hR:Rel B w0 φ h W) (hro:RO φ h) :
  ∃ φ' h' a,Con φ' a v∧Rel B w0 φ' h' W∧RO φ' h'∧φ.le φ'∧Fr h h'∧TyZ P h' t [a]:=by
 have hc:Cell.okWide P W .any b0 t v:=by
  unfold Value.okWide at hval
  rw [ht] at hval
  exact hval
 have hs:=j0x hc
 have hcells:v.cells.toList=[v]:=by cases v <;> first | rfl | cases hs
 obtain ⟨fuel,hd⟩:=hd
 rw [hcells] at hd
 obtain ⟨φ',h',l,c1,R1,ro1,le1,f1,t1⟩:=f0f d fuel t [v] _ hp hd hw (fun a len hm=>by
  simp only [List.mem_singleton] at hm
  rw [← hm] at hc
  exact n0g hc) φ h hR hro
 cases c1 with
 | cons c1 c2 =>
  cases c2
  exact ⟨φ',h',_,c1,R1,ro1,le1,f1,t1⟩
variable {h:AH}
theorem TyZ.int_inv {t:TypeId} {k:IntKind} {l:List AV} (ht:P.underlying t=some (.int k)) (s:TyZ P h t l):∃ n,l=[.int k n]∧(Lit.int k n).wf=true:=by
 cases s with
 | int ht' hn=>rw [ht] at ht';cases ht';exact ⟨_,rfl,hn⟩
 | bool ht'=>rw [ht] at ht';cases ht'
 | str ht'=>rw [ht] at ht';cases ht'
 | nils ht'=>rw [ht] at ht';cases ht'
 | slice ht'=>rw [ht] at ht';cases ht'
 | struct ht'=>rw [ht] at ht';cases ht'
theorem TyZ.str_inv {t:TypeId} {l:List AV} (ht:P.underlying t=some .string) (s:TyZ P h t l):∃ x,l=[.str x]∧x.length≤reachBytes:=by
 cases s with
 | str ht' hs=>exact ⟨_,rfl,hs⟩
 | int ht'=>rw [ht] at ht';cases ht'
 | bool ht'=>rw [ht] at ht';cases ht'
 | nils ht'=>rw [ht] at ht';cases ht'
 | slice ht'=>rw [ht] at ht';cases ht'
 | struct ht'=>rw [ht] at ht';cases ht'
theorem TyZ.slice_inv {t e:TypeId} {k:Nat} {l:List AV} (ht:P.underlying t=some (.slice e)) (hb:0<P.bytesOf e) (hk:P.cellsOf e=k) (s:TyZ P h t l) :
  ∃ v n vs,l=[v]∧n≤reachBytes∧Sl h k n v vs∧∀ i,i<n→TyZ P h e ((vs.drop (i*k)).take k):=by
 subst hk
 cases s with
 | nils ht'=>exact ⟨_,0,[],rfl,Nat.zero_le _,Sl.nil _,fun i hi=>absurd hi (by omega)⟩
 | @slice _ e' id len cap vs ht' hi hg hv hl hc hel =>
  rw [ht] at ht'
  cases ht'
  exact ⟨_,len,vs,rfl,Nat.le_trans (Nat.le_trans hl (Nat.le_mul_of_pos_right _ hb)) hc,⟨hv,.inr ⟨id,0,cap,true,vs,true,rfl,hi,hl,hg,by omega,by rw [List.drop_zero,List.take_of_length_le (by omega)]⟩⟩,hel⟩
 | int ht'=>rw [ht] at ht';cases ht'
 | bool ht'=>rw [ht] at ht';cases ht'
 | str ht'=>rw [ht] at ht';cases ht'
 | struct ht'=>rw [ht] at ht';cases ht'
theorem TyZ.struct_inv {t:TypeId} {l:List AV} {ts:List (TypeId×Nat)} (ht:c0B P t=ts) (hne:ts≠[]) (s:TyZ P h t l) :
  l.length=P.cellsOf t∧∀ u o,(u,o) ∈ ts→TyZ P h u ((l.drop o).take (P.cellsOf u)):=by
 subst ht
 unfold c0B at hne ⊢
 cases s with
 | struct ht' hl hf =>
  rw [ht']
  refine ⟨hl,fun u o hm=>?_⟩
  simp only [List.mem_map,Prod.mk.injEq] at hm
  obtain ⟨f,hf',rfl,rfl⟩:=hm
  exact hf f hf'
 | int ht'=>rw [ht'] at hne;exact absurd rfl hne
 | bool ht'=>rw [ht'] at hne;exact absurd rfl hne
 | str ht'=>rw [ht'] at hne;exact absurd rfl hne
 | nils ht'=>rw [ht'] at hne;exact absurd rfl hne
 | slice ht'=>rw [ht'] at hne;exact absurd rfl hne
end Go.Dr

namespace Go.Proofs.YtnapechhagnmaaaGreatDoor
open Go Go.Dr Go.Dk Go.RowKit Go.ChangeShapes Go.WideShapes Go.ChangeAt Go.Lib
set_option maxRecDepth 100000
theorem l0Q:reachBytes<2 ^ 62:=by decide
theorem p0f:0<Tryz.prog.bytesOf 40:=of_decide_eq_true (by kernel_rfl)
theorem p0g:0<Tryz.prog.bytesOf 63:=of_decide_eq_true (by kernel_rfl)
theorem n0z:0<Tryz.prog.bytesOf 101:=of_decide_eq_true (by kernel_rfl)
theorem p0h:0<Tryz.prog.bytesOf 56:=of_decide_eq_true (by kernel_rfl)
theorem i0C:Tryz.prog.cellsOf 3=1:=by kernel_rfl
theorem l0R:Tryz.prog.cellsOf 9=1:=by kernel_rfl
theorem p0i:Tryz.prog.cellsOf 27=1:=by kernel_rfl
theorem p0j:Tryz.prog.cellsOf 38=1:=by kernel_rfl
theorem j09:Tryz.prog.cellsOf 40=6:=by kernel_rfl
theorem p0k:Tryz.prog.cellsOf 45=1:=by kernel_rfl
theorem p0l:Tryz.prog.cellsOf 49=1:=by kernel_rfl
theorem k0a:Tryz.prog.cellsOf 56=2:=by kernel_rfl
theorem k0b:Tryz.prog.cellsOf 63=3:=by kernel_rfl
theorem i0D:Tryz.prog.cellsOf 101=3:=by kernel_rfl
theorem f0g:Tryz.prog.underlying 3=some (.int .i64):=by kernel_rfl
theorem k0T:Tryz.prog.underlying 9=some .string:=by kernel_rfl
theorem s0i:Tryz.prog.underlying 27=some (.slice 63):=by kernel_rfl
theorem o0u:Tryz.prog.underlying 34=some (.slice 40):=by kernel_rfl
theorem s0j:Tryz.prog.underlying 38=some (.slice 101):=by kernel_rfl
theorem s0k:Tryz.prog.underlying 45=some (.slice 56):=by kernel_rfl
theorem s0l:Tryz.prog.underlying 49=some (.int .u64):=by kernel_rfl
theorem n0A:c0B Tryz.prog 40=[(3,0),(27,1),(38,2),(3,3),(3,4),(3,5)]:=by kernel_rfl
theorem n0B:c0B Tryz.prog 56=[(9,0),(9,1)]:=by kernel_rfl
theorem n0C:c0B Tryz.prog 63=[(45,0),(3,1),(49,2)]:=by kernel_rfl
theorem l0S:c0B Tryz.prog 101=[(3,0),(9,1),(9,2)]:=by kernel_rfl
theorem p0m:c0V Tryz.prog 8 34=true:=by kernel_rfl
theorem b0I {α:Type} (f:α→List AV):∀ l:List α,(l.map f).flatten=l.flatMap f
 | []=>rfl
 | x::l=>by rw [List.map_cons,List.flatten_cons,List.flatMap_cons,b0I f l]
theorem l0T {h:AH} {l:List AV} (s:TyZ Tryz.prog h 45 l):∃ v ls,l=[v]∧Sl h 2 ls.length v (ls.flatMap J0)∧l0A ls∧ls.length<2 ^ 62:=by
 obtain ⟨v,n,vs,rfl,hn,hs,he⟩:=s.slice_inv s0k p0h k0a
 obtain ⟨ls,h1,h2,h3⟩:=d0G J0 (fun x:Lab=>x.1.length<2 ^ 62∧x.2.length<2 ^ 62) 2 n vs hs.1 fun i hi=>by
  obtain ⟨hl,hf⟩:=(he i hi).struct_inv n0B (by simp)
  rw [k0a] at hl
  have f0:=hf 9 0 (by simp)
  have f1:=hf 9 1 (by simp)
  rw [l0R] at f0 f1
  obtain ⟨a,a1,a2⟩:=f0.str_inv k0T
  obtain ⟨b,b1,b2⟩:=f1.str_inv k0T
  generalize (vs.drop (i*2)).take 2=w at hl a1 b1
  match w,hl with
  | [c0,c1],_ =>
   simp at a1 b1
   subst a1 b1
   have:=l0Q
   exact ⟨(a,b),rfl,Nat.lt_of_le_of_lt a2 this,Nat.lt_of_le_of_lt b2 this⟩
 rw [b0I] at h2
 subst h2
 exact ⟨v,ls,rfl,by rw [h1];exact hs,h3,by have:=l0Q;omega⟩
theorem p0n {h:AH} {l:List AV} (s:TyZ Tryz.prog h 27 l):∃ (v:AV) (rs:List Rr),l=[v]∧Sl h 3 rs.length v (rs.flatMap rrC)∧∀ x ∈ rs,RrIn h x:=by
 obtain ⟨v,n,vs,rfl,hn,hs,he⟩:=s.slice_inv s0i p0g k0b
 obtain ⟨ls,h1,h2,h3⟩:=d0G rrC (fun x:Rr=>RrIn h x) 3 n vs hs.1 fun i hi=>by
  obtain ⟨hl,hf⟩:=(he i hi).struct_inv n0C (by simp)
  rw [k0b] at hl
  have f0:=hf 45 0 (by simp)
  have f1:=hf 3 1 (by simp)
  have f2:=hf 49 2 (by simp)
  rw [p0k] at f0
  rw [i0C] at f1
  rw [p0l] at f2
  obtain ⟨lv0,ls,a1,a2,a3,a4⟩:=l0T f0
  obtain ⟨b,b1,b2⟩:=f1.int_inv f0g
  obtain ⟨c,c1,c2⟩:=f2.int_inv s0l
  simp [Lit.wf,IntKind.min,IntKind.max,IntKind.signed] at b2 c2
  generalize (vs.drop (i*3)).take 3=w at hl a1 b1 c1
  match w,hl with
  | [y0,y1,y2],_ =>
   simp at a1 b1 c1
   subst a1 b1 c1
   refine ⟨(y0,(ls,(b,c.toNat))),?_,⟨a2,a3,⟨by show _≤b;omega,by show b≤_;omega⟩,a4⟩⟩
   simp only [rrC,Int.toNat_of_nonneg c2.1]
 rw [b0I] at h2
 subst h2
 exact ⟨v,ls,rfl,by rw [h1];exact hs,h3⟩
theorem s0m {h:AH} {l:List AV} (s:TyZ Tryz.prog h 38 l):∃ (v:AV) (ms:List Mc),l=[v]∧Sl h 3 ms.length v (ms.flatMap maC)∧ms.length<2 ^ 62∧∀ m ∈ ms,l0O m:=by
 obtain ⟨v,n,vs,rfl,hn,hs,he⟩:=s.slice_inv s0j n0z i0D
 obtain ⟨ls,h1,h2,h3⟩:=d0G maC (fun x:Mc=>l0O x) 3 n vs hs.1 fun i hi=>by
  obtain ⟨hl,hf⟩:=(he i hi).struct_inv l0S (by simp)
  rw [i0D] at hl
  have f0:=hf 3 0 (by simp)
  have f1:=hf 9 1 (by simp)
  have f2:=hf 9 2 (by simp)
  rw [i0C] at f0
  rw [l0R] at f1 f2
  obtain ⟨a,a1,a2⟩:=f0.int_inv f0g
  obtain ⟨b,b1,b2⟩:=f1.str_inv k0T
  obtain ⟨c,c1,c2⟩:=f2.str_inv k0T
  generalize (vs.drop (i*3)).take 3=w at hl a1 b1 c1
  match w,hl with
  | [y0,y1,y2],_ =>
   simp at a1 b1 c1
   subst a1 b1 c1
   exact ⟨⟨a,b,c⟩,rfl,Nat.lt_of_le_of_lt b2 l0Q⟩
 rw [b0I] at h2
 subst h2
 exact ⟨v,ls,rfl,by rw [h1];exact hs,by have:=l0Q;omega,h3⟩
theorem q0H {h:AH} {l:List AV} (s:TyZ Tryz.prog h 34 l):∃ v n,∃ os:List Opd,l=[v]∧n<2 ^ 62∧Sl h 6 n v (os.flatMap opL)∧∀ o ∈ os,OpOk h o:=by
 obtain ⟨v,n,vs,rfl,hn,hs,he⟩:=s.slice_inv o0u p0f j09
 obtain ⟨xs,h1,h2,h3⟩:=d0G opL (fun x:Opd=>OpOk h x) 6 n vs hs.1 fun i hi=>by
  obtain ⟨hl,hf⟩:=(he i hi).struct_inv n0A (by simp)
  rw [j09] at hl
  have f0:=hf 3 0 (by simp)
  have f1:=hf 27 1 (by simp)
  have f2:=hf 38 2 (by simp)
  have f3:=hf 3 3 (by simp)
  have f4:=hf 3 4 (by simp)
  have f5:=hf 3 5 (by simp)
  rw [i0C] at f0 f3 f4 f5
  rw [p0i] at f1
  rw [p0j] at f2
  obtain ⟨k,k1,_⟩:=f0.int_inv f0g
  obtain ⟨rv,rs,a1,a2,a3⟩:=p0n f1
  obtain ⟨mv,ms,b1,b2,b3,b4⟩:=s0m f2
  obtain ⟨lo,c1,_⟩:=f3.int_inv f0g
  obtain ⟨hi',d1,_⟩:=f4.int_inv f0g
  obtain ⟨kp,e1,_⟩:=f5.int_inv f0g
  generalize (vs.drop (i*6)).take 6=w at hl k1 a1 b1 c1 d1 e1
  match w,hl with
  | [y0,y1,y2,y3,y4,y5],_ =>
   simp at k1 a1 b1 c1 d1 e1
   subst k1 a1 b1 c1 d1 e1
   exact ⟨⟨k,y1,rs,y2,ms,lo,hi',kp⟩,rfl,⟨a2,a3,b2,b3,b4⟩⟩
 rw [b0I] at h2
 subst h2
 have:=l0Q
 exact ⟨v,n,xs,rfl,by omega,hs,h3⟩
theorem s0n:Rows.laid_unicode_utf8_acceptRanges=acceptData:=by kernel_rfl
theorem s0o:Rows.laid_unicode_utf8_first=firstData:=by kernel_rfl
theorem w0N:U8Extra Tryz.prog Tryz.lays197_ren:=⟨by kernel_rfl,by kernel_rfl,by kernel_rfl,by kernel_rfl,by kernel_rfl,by kernel_rfl,by kernel_rfl⟩
theorem v0w:∃ z:Array Value,((begin Tryz.prog (fun _ _=>0) default).world.heap[0]?).bind Obj.row? = some (z,3)∧z.size=1:=⟨#[.int .i64 0],by kernel_rfl,rfl⟩
theorem v0x {W:World} (hl:laidMetH Tryz.prog Rows.modelFloorsRow.laid W) (hsh:W.ShapedOpen Tryz.prog):W3 W:=by
 have hl2:laidMet Tryz.prog [("unicode/utf8.acceptRanges",Rows.laid_unicode_utf8_acceptRanges),("unicode/utf8.first",Rows.laid_unicode_utf8_first)] W:=hl
 rw [s0n,s0o] at hl2
 obtain ⟨z,z1,z2⟩:=v0w
 exact ⟨cell_of_shapedOpen_int hsh (of_decide_eq_true (by kernel_rfl)) z1 z2 (by kernel_rfl) (by kernel_rfl) f0g,
  utf8Tabs_of_reads { Tryz.lays197 with } w0N (Lib.laidMet.reads hl2 (.tail _ (.head _))) (Lib.laidMet.reads hl2 (.head _))⟩
theorem f09 {H:Type} {enc:TypeId×Value→H} {held:Bool} {W:World} {base:Nat} {b0:Nat} {v0:Value} {d0:DataW H} {p0:List MemPlace}
  (hv0:Value.okWide Tryz.prog W .any b0 34 v0) (h0:DataW.Trod enc Tryz.prog W base (fun _=>true) held 34 v0 d0 p0) (hw0:∀ n ∈ d0.weights Tryz.prog 34,n≤reachBytes)
  (hl:laidMetH Tryz.prog Rows.modelFloorsRow.laid W) (hsh:W.ShapedOpen Tryz.prog) :
  Calls Tryz.prog 5 #[v0] W fun e W'=>e=.returned (.bool true)∧Below W.heap.size W W':=by
 obtain ⟨φ1,g1,a0,c0,R1,ro1,le1,f1,t0⟩:=n0v (B:=W.heap.size) (w0:=W) o0u p0m hv0 h0 hw0 (t0L W Tryz.prog.globals.size (ρ:=fun _=>.pointer none)) (ro0 _ _)
 obtain ⟨u,n,xs,e1,hn,s1,q1⟩:=q0H t0
 cases e1
 exact s0r (f:=U1) (args':=[v0]) Tryz.checked.mixed v0s (v0k (v0x hl hsh) rfl) (h0Z s1 hn q1) (.cons c0 .nil) ((q0z Tryz.prog).mono le1) R1
theorem t0O {H:Type} {enc:TypeId×Value→H} {a:Assume} {C:Checked} {os:Os} {f:FuncId} {fn:Func} {s:ChangeSpec} {conds:List PathCond} {apart fresh handsOn again:Bool} {X:World→Array Value→Prop}
  (hX:∀ (w w':World) (args:Array Value),w.heap=w'.heap→X w args→X w' args)
  (own:ownKnob C.prog.godebug=none) (started:os.Started) (noInit:C.prog.inits.idxOf? f=none) (hfn:C.prog.funcs[f]? = some fn)
  (witness:∃ (w:World) (tape:Tape) (i:Input),w.os=os∧(w.forCall tape i).Shaped C.prog∧i.vars=[]∧Input.okWide C.prog (w.forCall tape i) .any w.heap.size f i ∧
   ((s.pre enc C.prog fn conds apart (w.forCall tape i).memory i.args∧X (w.forCall tape i).memory i.args)∧sizedMet enc C.prog fn (OpenSpec.ofChange s) apart (w.forCall tape i).memory i.args)∧a.holds C.prog (lone (Frame.enter C.prog f i.args .normal) [] (w.forCall tape i)))
  (contract:∀ (W:World) (base:Nat) (args:Array Value) (ds gs:List (DataW H)) (before:List MemPlace),
   (∀ (j:Nat) t v,fn.params[j]? = some t→args[j]? = some v→Value.okWide C.prog W .any base t v) →
   DataW.Whole enc C.prog fn.params.toList s.vars apart W args.toList ds gs before →
   (DataW.weightsEach C.prog (fn.params.toList++s.plain.varTypes C.prog) (ds++gs)).all (·≤reachBytes)=true→X W args→W.ShapedOpen C.prog →
   Calls C.prog f args W fun e W'=>∃ v,e=.returned v∧s.post enc C.prog fn apart fresh handsOn again W args v W') :
  ReturnsInHanded a C os f .any (fun w args=>(s.pre enc C.prog fn conds apart w args∧X w args)∧sizedMet enc C.prog fn (OpenSpec.ofChange s) apart w args) (s.post enc C.prog fn apart fresh handsOn again):=by
 refine returnsInHanded_of_calls own started noInit witness ?_
 intro w tape i _ hsh _ hok hpre _
 obtain ⟨_,_,_,fn',hfn',_,_,_,_,hval⟩:=hok
 obtain rfl:fn'=fn:=Option.some.inj (hfn'.symm.trans hfn)
 obtain ⟨⟨⟨ds,gs,before,hw,_⟩,hx⟩,hz⟩:=hpre
 refine (contract (w.forCall tape i) w.heap.size i.args ds gs before hval (DataW.Whole.of_heap (w':=w.forCall tape i) (by rfl) hw) (hz.weights hw) (hX _ _ _ (by rfl) hx) hsh).mono fun e W' ⟨v,he,hp⟩=>?_
 subst he
 exact ChangeSpec.post_blind hp
end Go.Proofs.YtnapechhagnmaaaGreatDoor
