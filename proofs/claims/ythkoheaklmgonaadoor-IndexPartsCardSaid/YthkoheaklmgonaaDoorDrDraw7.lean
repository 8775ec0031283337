/-
  Regions whose order is drawn: one operation, whenever its turn comes.
-/
import Derived.Test.YthkoheaklmgonaaDoorDrDraw6
namespace Go.Dr
open Go.RowKit

variable {P : Program} {B : Nat} {w0 : World} {call : CallF} {ops : Array Oper} {W : Nat} {a0 aN : AAct} {h0 hN : AH} {cs : List Cel} {φ0 : Phi} {rd : Bool}
  {S : Nat → Prop} {φ : Phi} {s : AAct} {tm : Array Value} {ds : List Deferred} {w : World} {c1 c2 : List Cel}

theorem vals_update (C : Canon P call ops a0 h0 aN hN W cs) (p : Pre P B w0 ops a0 aN h0 hN cs φ0 rd S c1 c2 φ s tm ds w) {e1 e2 : List Cel} {c : Cel} (e : cs = e1 ++ c :: e2) (hn : ¬ S c.r.i) {v : AV} {da dsx : List ADef}
    (ha : stA e2 aN = (withDs c.a da).put c.r.o.dst v) {s1 : AAct} (hs : s1 = (withDs s dsx).put c.r.o.dst v) :
    (∀ t i, (S i ∨ i = c.r.i) → dstOf ops i = some t → s1.val t = aN.val t) ∧ (∀ t, (∀ i, (S i ∨ i = c.r.i) → dstOf ops i ≠ some t) → s1.val t = a0.val t) ∧ s1.n = a0.n := by
  have hcs : c ∈ cs := by rw [e]; simp
  have hrow := C.row hcs
  have hcn : c.a.n = a0.n := by
    have := (C.same e1 [] (c :: e2) e).1
    rw [← e, C.first.1] at this
    exact this.symm
  have uniq : ∀ i t, dstOf ops i = some t → c.r.o.dst = some t → i = c.r.i := by
    intro i t h1 h2
    unfold dstOf at h1
    cases ho : ops[i]? with
    | none => rw [ho] at h1; cases h1
    | some o =>
      rw [ho] at h1
      exact C.w2 _ _ _ _ _ ho hrow.get h1 h2
  have keep : ∀ t, c.r.o.dst ≠ some t → s1.val t = s.val t := fun t h => by rw [hs, (put_val _ _ _ _).2 (.inl h)]; rfl
  refine ⟨fun t i hi hd => ?_, fun t ht => ?_, by rw [hs]; exact ((withDs s dsx).put_ds _ _).2.2.trans p.n⟩
  · rcases hi with hi | rfl
    · by_cases hcd : c.r.o.dst = some t
      · rw [uniq i t hd hcd] at hi; exact absurd hi hn
      · rw [keep t hcd]; exact p.valS t i hi hd
    · rw [hrow.dst] at hd
      rw [C.left e hd, ha, hs]
      by_cases ht : t < a0.n
      · rw [(put_val _ _ _ _).1 hd (by show t < s.n; rw [p.n]; exact ht), (put_val _ _ _ _).1 hd (by show t < c.a.n; rw [hcn]; exact ht)]
      · rw [(put_val _ _ _ _).2 (.inr (by show ¬ t < s.n; rw [p.n]; exact ht)), (put_val _ _ _ _).2 (.inr (by show ¬ t < c.a.n; rw [hcn]; exact ht))]
        show s.val t = c.a.val t
        have k1 := C.skip (t := t) e1 [] (c :: e2) e fun x hx hxd => (C.uniq e).1 x hx (C.dst (by rw [e]; exact List.mem_append_left _ hx) hcs hxd hd)
        rw [← e, C.first.1] at k1
        rw [p.valN t fun i hi hid => hn (uniq i t hid hd ▸ hi)]
        exact k1
  · rw [keep t (by rw [← hrow.dst]; exact ht _ (.inr rfl))]
    exact p.valN t fun i hi => ht i (.inl hi)

theorem Anc.inS {ops : Array Oper} {S : Nat → Prop} (hcl : ∀ i o e, S i → ops[i]? = some o → e ∈ o.after.toList → bindsE e = true → S e.on) {i j : Nat} (h : Anc ops i j) : S i → S j := by
  induction h with
  | one ho he hb => exact fun hi => hcl _ _ _ hi ho he hb
  | more ho he hb _ ih => exact fun hi => ih (hcl _ _ _ hi ho he hb)

theorem exec_step (hC : CallOk P B w0 call) (hY : YieldOk P B w0 call) (C : Canon P call ops a0 h0 aN hN W cs) {b : Frame} (p : Pre P B w0 ops a0 aN h0 hN cs φ0 b.roundOf.isSome S c1 c2 φ s tm ds w)
    (hh : HeadHeavy c2) {i : Nat} {o : Oper} (ho : ops[i]? = some o) (hn : ¬ S i) (hready : ∀ e ∈ o.after.toList, bindsE e = true → S e.on) (rest : List Nat) (k : List Item) (fs : List Frame) :
    ∃ d1 d2 φ' s' tm' ds' w', Steps P (lone (mk b tm ds (.inRegion ops (i :: rest) :: k)) fs w) (lone (mk b tm' ds' (.inRegion ops rest :: k)) fs w') ∧
      Pre P B w0 ops a0 aN h0 hN cs φ0 b.roundOf.isSome (fun j => S j ∨ j = i) d1 d2 φ' s' tm' ds' w' := by
  have hi : i < ops.size := (Array.getElem?_eq_some_iff.1 ho).1
  obtain ⟨c, hc, rfl⟩ := C.cover hi
  have hrow := C.row hc
  have hgo : c.r.o = o := by have := hrow.get; rw [ho] at this; cases this; rfl
  subst hgo
  have hcl := fun i j (hi : S i) (ha : Anc ops i j) => Anc.inS p.closed ha hi
  have hanc : ∀ j, Anc ops c.r.i j → S j := by
    intro j ha
    cases ha with
    | one ho' he hb => rw [ho] at ho'; cases ho'; exact hready _ he hb
    | more ho' he hb h2 => rw [ho] at ho'; cases ho'; exact hcl _ _ (hready _ he hb) h2
  have closed' : ∀ j o e, (S j ∨ j = c.r.i) → ops[j]? = some o → e ∈ o.after.toList → bindsE e = true → (S e.on ∨ e.on = c.r.i) := by
    rintro j o e (hj | rfl) hjo he hb
    · exact .inl (p.closed _ _ _ hj hjo he hb)
    · rw [ho] at hjo; cases hjo; exact .inl (hready _ he hb)
  have guards : ∀ {a a' : AAct}, (∀ t ∈ c.r.rd, a.val t = a'.val t) → wantedA ops c.r.o a = wantedA ops c.r.o a' := fun h => wantedA_congr fun t ht => h t (by rw [hrow.rd]; exact List.mem_append_left _ ht)
  have evs : ∀ {a a' : AAct} {h : AH}, (∀ t ∈ c.r.rd, a.val t = a'.val t) → evC P c.r.c a h = evC P c.r.c a' h := fun h => evC_congr fun t ht => h t (by rw [hrow.rd]; exact List.mem_append_right _ ht)
  have hc' := hc
  rw [p.split] at hc'
  rcases List.mem_append.1 hc' with hc1 | hc2
  · -- a light operation
    obtain ⟨e1, e2, he⟩ := List.append_of_mem hc1
    have e : cs = e1 ++ c :: (e2 ++ c2) := by rw [p.split, he]; simp
    have hlight : c.r.k.isHeavy = false := by
      cases hk : c.r.k.isHeavy with
      | false => rfl
      | true => exact absurd (p.heavies c hc1 hk) hn
    have hp := C.place _ _ _ e
    have ra := reads_alike C p e hn hanc hcl
    have ra1 : ∀ t ∈ c.r.rd, s.val t = c.a.val t := fun t ht => (ra t ht).1
    have hcrd : c.a.rd = s.rd := by
      have := (C.same e1 [] _ e).2
      rw [← e, C.first.1] at this
      rw [p.st.rd, ← p.rda]; exact this.symm
    -- what is left to show, once the step is made
    have fin : ∀ v φ' tm' ds' w', stA (e2 ++ c2) aN = (withDs c.a c.a.ds).put c.r.o.dst v → Steps P (lone (mk b tm ds (.inRegion ops (c.r.i :: rest) :: k)) fs w) (lone (mk b tm' ds' (.inRegion ops rest :: k)) fs w') →
        St P B w0 φ' ((withDs s s.ds).put c.r.o.dst v) (stH c2 hN) b.roundOf.isSome tm' ds' w' → Ext φ0 h0 φ' (stH c2 hN) →
        (∀ x ∈ c1, ¬ S x.r.i → x.r.i ≠ c.r.i → x.r.k = .alloc → wantedA ops x.r.o x.a = .ok true → φ' x.h.next = none) →
        ∃ d1 d2 φ' s' tm' ds' w', Steps P (lone (mk b tm ds (.inRegion ops (c.r.i :: rest) :: k)) fs w) (lone (mk b tm' ds' (.inRegion ops rest :: k)) fs w') ∧
          Pre P B w0 ops a0 aN h0 hN cs φ0 b.roundOf.isSome (fun j => S j ∨ j = c.r.i) d1 d2 φ' s' tm' ds' w' := by
      intro v φ' tm' ds' w' hav hst st' ext' hpr
      obtain ⟨u1, u2, u3⟩ := vals_update C p e hn (dsx := s.ds) hav rfl
      refine ⟨c1, c2, φ', _, tm', ds', w', hst, ⟨p.split, ?_, fun x hx hxh => .inl (p.heavies x hx hxh), closed', u1, u2, u3, ?_, st', p.rda, ext', ?_, ?_⟩⟩
      · rintro j (hj | rfl)
        · exact p.sub j hj
        · exact ⟨c, hc1, rfl⟩
      · rw [((withDs s s.ds).put_ds _ _).1]; exact p.dsE
      · intro x hx hxn hxk hxw
        obtain ⟨mkv, O, q1, q2, q3, q4, q5, q6⟩ := p.prom x hx (fun e => hxn (.inl e)) hxk hxw
        exact ⟨mkv, O, q1, q2, q3, q4, hpr x hx (fun e => hxn (.inl e)) (fun e => hxn (.inr e)) hxk hxw, q6⟩
      · intro x hx y hy n1 k1 m1 n2 k2 m2 hne
        exact p.apart x hx y hy (fun e => n1 (.inl e)) k1 m1 (fun e => n2 (.inl e)) k2 m2 hne
    have byOper : ∀ v, stA (e2 ++ c2) aN = (withDs c.a c.a.ds).put c.r.o.dst v → evOper P call c.r.o s (stH c2 hN) = .ok ((withDs s s.ds).put c.r.o.dst v, stH c2 hN) → wantedA ops c.r.o s = .ok true →
        ∃ d1 d2 φ' s' tm' ds' w', Steps P (lone (mk b tm ds (.inRegion ops (c.r.i :: rest) :: k)) fs w) (lone (mk b tm' ds' (.inRegion ops rest :: k)) fs w') ∧
          Pre P B w0 ops a0 aN h0 hN cs φ0 b.roundOf.isSome (fun j => S j ∨ j = c.r.i) d1 d2 φ' s' tm' ds' w' := by
      intro v hav hev hw
      obtain ⟨φ1, tm1, ds1, w1, st1, s1, e1⟩ := evOper_ok hC hY hev p.st ho (wanted_ok p.st.act hw) k fs (rest := rest)
      refine fin v φ1 tm1 ds1 w1 hav st1 s1 (p.ext.trans e1) fun x hx hxn _ hxk hxw => ?_
      obtain ⟨mkv, O, q1, q2, q3, q4, q5, q6⟩ := p.prom x hx hxn hxk hxw
      exact (e1.keep _ q3 q5).1
    have byValue : ∀ v, evC P c.r.c s (stH c2 hN) = .ok (.value v, stH c2 hN) → evOper P call c.r.o s (stH c2 hN) = .ok ((withDs s s.ds).put c.r.o.dst v, stH c2 hN) := by
      intro v hv
      unfold evOper
      rw [hrow.comp]
      simp only [hv, forceV_eq]
      rfl
    rcases hp.step with ⟨hw, hst⟩ | ⟨hw, hst, _⟩
    · have hws : wantedA ops c.r.o s = .ok true := (guards ra1).trans hw
      unfold evOper at hst
      rw [hrow.comp] at hst
      simp only at hst
      split at hst
      · rename_i n h2 hev
        rcases kind_cases c.r.k with hk | hk | hk | hk
        · rw [hk] at hlight; cases hlight
        · -- pure
          obtain ⟨v, rfl, rfl, hall⟩ := pure_ok (rowKind_pure (hrow.kind ▸ hk)) hev
          simp only [forceV_eq, Except.ok.injEq, Prod.mk.injEq] at hst
          exact byOper v hst.1.symm (byValue v (by rw [evs ra1]; exact hall _)) hws
        · -- a read
          obtain ⟨v, rfl, rfl⟩ := read_ok (rowKind_read (hrow.kind ▸ hk)) hev
          simp only [forceV_eq, Except.ok.injEq, Prod.mk.injEq] at hst
          have hav : stA (e2 ++ c2) aN = (withDs c.a c.a.ds).put c.r.o.dst v := hst.1.symm
          have hrd : c.r.k.isRead = true := by rw [hk]; rfl
          have ra2 : ∀ t ∈ c.r.rd, s.val t = (stA c2 aN).val t := fun t ht => (ra t ht).2 hrd hc1
          have hreads : Reads P ops c1 (stA c2 aN) (stH c2 hN) := by
            cases c2 with
            | nil =>
              have e0 : cs = c1 := by rw [p.split, List.append_nil]
              have := C.reads
              rw [e0] at this
              exact this
            | cons x c3 => exact (C.place c1 x c3 p.split).again (hh x c3 rfl)
          have hag : AgainOk P ops c.r (stA c2 aN) (stH c2 hN) := by
            rcases hreads c hc1 hrd with h1 | ⟨x, hx, hxh, hxi⟩
            · exact h1
            · have hSx := p.heavies x hx hxh
              rcases hxi with hxi | hxi
              · rw [← hxi] at hSx; exact absurd hSx hn
              · exact absurd (hcl _ _ hSx hxi) hn
          rcases hag with h1 | ⟨v2, h3, h1, h4, h5⟩
          · rw [← guards ra2, hws] at h1; cases h1
          · rw [← evs ra2] at h4
            obtain ⟨v3, e3, rfl⟩ := read_ok (rowKind_read (hrow.kind ▸ hk)) h4
            have hval : ∀ d, c.r.o.dst = some d → v2 = aN.val d := fun d hd => by
              rw [h5 d hd]
              have := C.skip (t := d) c2 c1 [] (by rw [p.split]; simp) fun y hy hyd => by
                have hyi := C.dst (by rw [p.split]; exact List.mem_append_right _ hy) hc hyd hd
                exact (C.uniq e).2 y (List.mem_append_right _ hy) hyi
              rw [List.append_nil] at this
              exact this
            have hcn : c.a.n = a0.n := by
              have := (C.same e1 [] _ e).1
              rw [← e, C.first.1] at this
              exact this.symm
            have hput : (withDs s s.ds).put c.r.o.dst v2 = (withDs s s.ds).put c.r.o.dst v := by
              cases hd : c.r.o.dst with
              | none => rfl
              | some d =>
                by_cases hlt : d < a0.n
                · have : v2 = v := by
                    rw [hval d hd, C.left e hd, hav, (put_val _ _ _ _).1 hd (by show d < c.a.n; rw [hcn]; exact hlt)]
                  rw [this]
                · have hb : Nat.blt d (withDs s s.ds).n = false := by
                    cases hb : Nat.blt d (withDs s s.ds).n with
                    | false => rfl
                    | true =>
                      have hb2 : d < (withDs s s.ds).n := Nat.blt_eq ▸ hb
                      have hb3 : (withDs s s.ds).n = a0.n := p.n
                      rw [hb3] at hb2; exact absurd hb2 hlt
                  simp only [AAct.put, hb, cond_false]
            have hev2 := byValue v2 h4
            rw [hput] at hev2
            exact byOper v hav hev2 hws
        · -- a new block
          obtain ⟨mkv, O, q1, q2, q3, q4, q5, q6, q7⟩ := p.prom c hc1 hn hk hw
          have hev0 := q6
          rw [hev] at hev0
          simp only [Except.ok.injEq, Prod.mk.injEq] at hev0
          obtain ⟨rfl, rfl⟩ := hev0
          simp only [forceV_eq, Except.ok.injEq, Prod.mk.injEq] at hst
          have hevs : evC P c.r.c s (stH c2 hN) = .ok (.value (mkv (stH c2 hN).next), (stH c2 hN).push O) := by rw [evs ra1]; exact q7 _
          obtain ⟨mkv2, O2, r1, r2, r3, r4, r5⟩ := alloc_ok hrow.comp (hrow.kind ▸ hk) hevs
          have hO : O2 = O := by
            have h1 : ((stH c2 hN).push O).get (stH c2 hN).next = some O := by rw [AH.get_push, if_pos rfl]
            rw [r3, AH.get_push, if_pos rfl] at h1
            cases h1; rfl
          subst hO
          have hF := r4 _ _ p.st.glob p.st.act
          obtain ⟨v', w1, φ1, hrun, hcon, R1, X1⟩ := evC_sound (ds := ds) hrow.comp hevs p.st.glob p.st.act p.st.rel
          obtain ⟨pl, hc3, R3⟩ := rename q1 hF p.st.rel R1 X1 hcon q5 q3 q4
          have hnd : b.roundOf = none ∨ ∀ cc, c.r.o.op ≠ .defer cc := .inr fun cc ecc => by
            obtain ⟨d, ed⟩ := comp_defer ecc hrow.comp hevs
            cases ed
          have hle := Phi.le_set pl q5
          refine fin (mkv c.h.next) (φ.set c.h.next pl) (putT tm c.r.o.dst v') ds w1 hst.1.symm (.one (go_value ho (wanted_ok p.st.act hws) hnd hrun)) (p.st.put hle hc3 R3 _) ?_ ?_
          · refine ⟨p.ext.le.trans hle, p.ext.next, fun j hj hjn => ?_⟩
            obtain ⟨k1, k2⟩ := p.ext.keep j hj hjn
            exact ⟨by rw [Phi.set_other _ _ (by omega)]; exact k1, k2⟩
          · intro x hx hxn hxi hxk hxw
            obtain ⟨_, _, _, _, _, _, x5, _⟩ := p.prom x hx hxn hxk hxw
            rw [Phi.set_other _ _ (p.apart x hx c hc1 hxn hxk hxw hn hk hw hxi)]
            exact x5
      · cases hst
    · have hws : wantedA ops c.r.o s = .ok false := (guards ra1).trans hw
      refine fin aundef φ (putT tm c.r.o.dst undef) ds w hst (.one (go_unwanted ho (wanted_ok p.st.act hws))) (p.st.put (.refl _) undef_con p.st.rel _) p.ext fun x hx hxn _ hxk hxw => ?_
      obtain ⟨_, _, _, _, _, _, x5, _⟩ := p.prom x hx hxn hxk hxw
      exact x5
  · -- the next heavy one
    cases c2 with
    | nil => cases hc2
    | cons x c3 =>
      have hxh := hh x c3 rfl
      have hcx : c = x := by
        rcases List.mem_cons.1 hc2 with h1 | h1
        · exact h1
        · obtain ⟨f1, f2, hf⟩ := List.append_of_mem h1
          have e : cs = (c1 ++ x :: f1) ++ c :: f2 := by rw [p.split, hf]; simp
          have hS := hanc _ ((C.place _ _ _ e).fact.hv x (by simp) hxh)
          obtain ⟨y, hy, hyi⟩ := p.sub _ hS
          exact absurd hyi ((C.uniq p.split).1 y hy)
      subst hcx
      have e := p.split
      have hp := C.place _ _ _ e
      have ra1 : ∀ t ∈ c.r.rd, s.val t = c.a.val t := fun t ht => (reads_alike C p e hn hanc hcl t ht).1
      have hcrd : c.a.rd = s.rd := by
        have := (C.same c1 [] _ e).2
        rw [← e, C.first.1] at this
        rw [p.st.rd, ← p.rda]; exact this.symm
      have fin : ∀ v da φ' tm' ds' w', stA c3 aN = (withDs c.a da).put c.r.o.dst v → Steps P (lone (mk b tm ds (.inRegion ops (c.r.i :: rest) :: k)) fs w) (lone (mk b tm' ds' (.inRegion ops rest :: k)) fs w') →
          St P B w0 φ' ((withDs s da).put c.r.o.dst v) (stH c3 hN) b.roundOf.isSome tm' ds' w' → Ext φ c.h φ' (stH c3 hN) →
          ∃ d1 d2 φ' s' tm' ds' w', Steps P (lone (mk b tm ds (.inRegion ops (c.r.i :: rest) :: k)) fs w) (lone (mk b tm' ds' (.inRegion ops rest :: k)) fs w') ∧
            Pre P B w0 ops a0 aN h0 hN cs φ0 b.roundOf.isSome (fun j => S j ∨ j = c.r.i) d1 d2 φ' s' tm' ds' w' := by
        intro v da φ' tm' ds' w' hav hst st' ext'
        obtain ⟨u1, u2, u3⟩ := vals_update C p e hn (dsx := da) hav rfl
        have only : ∀ x ∈ c1 ++ [c], ¬ (S x.r.i ∨ x.r.i = c.r.i) → x ∈ c1 ∧ ¬ S x.r.i := by
          intro x hx hxn
          rcases List.mem_append.1 hx with h1 | h1
          · exact ⟨h1, fun e => hxn (.inl e)⟩
          · rw [List.mem_singleton.1 h1] at hxn
            exact absurd (.inr rfl) hxn
        refine ⟨c1 ++ [c], c3, φ', _, tm', ds', w', hst, ⟨by rw [e]; simp, ?_, ?_, closed', u1, u2, u3, ?_, st', p.rda, p.ext.trans ext', ?_, ?_⟩⟩
        · rintro j (hj | rfl)
          · obtain ⟨y, h1, h2⟩ := p.sub j hj
            exact ⟨y, List.mem_append_left _ h1, h2⟩
          · exact ⟨c, by simp, rfl⟩
        · intro y hy hyh
          rcases List.mem_append.1 hy with h1 | h1
          · exact .inl (p.heavies y h1 hyh)
          · rw [List.mem_singleton.1 h1]; exact .inr rfl
        · rw [((withDs s da).put_ds _ _).1, hav, ((withDs c.a da).put_ds _ _).1]; rfl
        · intro y hy hyn hyk hyw
          obtain ⟨h1, h2⟩ := only y hy hyn
          obtain ⟨mkv, O, q1, q2, q3, q4, q5, q6⟩ := p.prom y h1 h2 hyk hyw
          obtain ⟨k1, k2⟩ := ext'.keep _ q3 q5
          exact ⟨mkv, O, q1, q2, Nat.lt_of_lt_of_le q3 ext'.next, k2.trans q4, k1, q6⟩
        · intro y hy z hz n1 k1 m1 n2 k2 m2 hne
          obtain ⟨y1, y2⟩ := only y hy n1
          obtain ⟨z1, z2⟩ := only z hz n2
          exact p.apart y y1 z z1 y2 k1 m1 z2 k2 m2 hne
      rcases hp.step with ⟨hw, hst⟩ | ⟨hw, hst, hhe⟩
      · have hws : wantedA ops c.r.o s = .ok true := (guards ra1).trans hw
        obtain ⟨v, da, hav, hev⟩ := evOper_congr hrow.comp (evs fun t ht => (ra1 t ht).symm) p.dsE.symm hcrd hst
        obtain ⟨φ1, tm1, ds1, w1, st1, s1, x1⟩ := evOper_ok hC hY hev p.st ho (wanted_ok p.st.act hws) k fs (rest := rest)
        exact fin v da φ1 tm1 ds1 w1 hav st1 s1 x1
      · have hws : wantedA ops c.r.o s = .ok false := (guards ra1).trans hw
        have hsd : s.ds = c.a.ds := p.dsE
        refine fin aundef c.a.ds φ (putT tm c.r.o.dst undef) ds w hst (.one (go_unwanted ho (wanted_ok p.st.act hws))) ?_ (by rw [hhe]; exact .refl _ _)
        rw [hhe, ← hsd]
        exact p.st.put (.refl _) undef_con p.st.rel _

end Go.Dr
