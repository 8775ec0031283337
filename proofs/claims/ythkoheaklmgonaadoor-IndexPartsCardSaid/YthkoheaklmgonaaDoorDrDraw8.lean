/-
  Regions whose order is drawn: whole.
-/
import Derived.Test.YthkoheaklmgonaaDoorDrDraw7
import Derived.Orders
namespace Go.Dr
open Go.RowKit

variable {P : Program} {B : Nat} {w0 : World} {call : CallF} {ops : Array Oper} {W : Nat} {a0 aN : AAct} {h0 hN : AH} {cs : List Cel} {φ0 : Phi}

theorem binds_eq (e : Edge) : Region.binds .any e = bindsE e := by
  unfold Region.binds bindsE
  cases e.ground <;> rfl

theorem first_not (S : Nat → Prop) : ∀ l : List Cel, (∀ c ∈ l, S c.r.i) ∨ ∃ e1 c e2, l = e1 ++ c :: e2 ∧ (∀ x ∈ e1, S x.r.i) ∧ ¬ S c.r.i
  | [] => .inl fun c hc => (by cases hc)
  | c :: l => by
    by_cases h : S c.r.i
    · rcases first_not S l with h1 | ⟨e1, c', e2, h1, h2, h3⟩
      · exact .inl fun x hx => by
          rcases List.mem_cons.1 hx with rfl | hx
          · exact h
          · exact h1 x hx
      · refine .inr ⟨c :: e1, c', e2, by rw [h1]; rfl, fun x hx => ?_, h3⟩
        rcases List.mem_cons.1 hx with rfl | hx
        · exact h
        · exact h2 x hx
    · exact .inr ⟨[], c, l, rfl, fun x hx => (by cases hx), h⟩

theorem finish_ok (C : Canon P call ops a0 h0 aN hN W cs) {S : Nat → Prop} {φ : Phi} {s : AAct} {rd : Bool} {tm : Array Value} {ds : List Deferred} {w : World} {c1 c2 : List Cel}
    (p : Pre P B w0 ops a0 aN h0 hN cs φ0 rd S c1 c2 φ s tm ds w) (hall : ∀ c ∈ cs, S c.r.i) : St P B w0 φ aN hN rd tm ds w ∧ Ext φ0 h0 φ hN := by
  have hnil : c2 = [] := by
    cases c2 with
    | nil => rfl
    | cons x c3 =>
      obtain ⟨y, hy, hyi⟩ := p.sub _ (hall x (by rw [p.split]; simp))
      exact absurd hyi ((C.uniq p.split).1 y hy)
  subst hnil
  have e0 : cs = c1 := by rw [p.split, List.append_nil]
  have hn : aN.n = a0.n ∧ aN.rd = a0.rd := by
    have := C.same c1 [] [] (by rw [← p.split]; rfl)
    rw [← p.split, C.first.1] at this
    exact ⟨this.1.symm, this.2.symm⟩
  refine ⟨⟨⟨?_, fun t => ?_⟩, ?_, p.st.rel, p.st.glob, ?_⟩, p.ext⟩
  · rw [p.st.act.size, p.n, hn.1]
  · have hv : s.val t = aN.val t := by
      by_cases h : ∃ i, S i ∧ dstOf ops i = some t
      · obtain ⟨i, h1, h2⟩ := h
        exact p.valS t i h1 h2
      · rw [p.valN t fun i hi hd => h ⟨i, hi, hd⟩]
        have := C.skip (t := t) c1 [] [] (by rw [← p.split]; rfl) fun x hx hd => by
          have hxs : x ∈ cs := by rw [e0]; exact hx
          exact h ⟨x.r.i, hall x hxs, by rw [(C.row hxs).dst]; exact hd⟩
        rw [← p.split, C.first.1] at this
        exact this
    rw [← hv]; exact p.st.act.val t
  · have hd : s.ds = aN.ds := p.dsE
    rw [← hd]; exact p.st.defs
  · rw [hn.2]; exact p.rda

theorem start_ok (C : Canon P call ops a0 h0 aN hN W cs) {rd : Bool} {tm : Array Value} {ds : List Deferred} {w : World} (st : St P B w0 φ0 a0 h0 rd tm ds w) {S : Nat → Prop} (hS : ∀ i, ¬ S i) :
    Pre P B w0 ops a0 aN h0 hN cs φ0 rd S [] cs φ0 a0 tm ds w :=
  ⟨rfl, fun i hi => absurd hi (hS i), fun c hc => (by cases hc), fun i o e hi => absurd hi (hS i), fun t i hi => absurd hi (hS i), fun t _ => rfl, rfl, by rw [C.first.1], by rw [C.first.2]; exact st, st.rd, by rw [C.first.2]; exact .refl _ _,
    fun c hc => (by cases hc), fun c hc => (by cases hc)⟩

theorem count_set {listed : Array Bool} {i : Nat} (hi : i < listed.size) (hl : listed.getD i false = false) : ∀ {l : List Cel}, (∃ c ∈ l, c.r.i = i) →
    (l.countP fun c => !(listed.setIfInBounds i true).getD c.r.i false) < l.countP fun c => !listed.getD c.r.i false := by
  have hmono : ∀ l : List Cel, (l.countP fun c => !(listed.setIfInBounds i true).getD c.r.i false) ≤ l.countP fun c => !listed.getD c.r.i false := fun l => by
    refine List.countP_mono_left fun c _ h => ?_
    simp only [Bool.not_eq_true', Array.getD_eq_getD_getElem?] at h ⊢
    by_cases hc : c.r.i = i
    · rw [hc, Array.getElem?_setIfInBounds_self_of_lt hi] at h; cases h
    · rw [Array.getElem?_setIfInBounds_ne (fun e => hc e.symm)] at h; exact h
  rintro l ⟨c, hc, hci⟩
  obtain ⟨e1, e2, rfl⟩ := List.append_of_mem hc
  rw [List.countP_append, List.countP_append, List.countP_cons, List.countP_cons]
  have h1 := hmono e1
  have h2 := hmono e2
  have h3 : (!(listed.setIfInBounds i true).getD c.r.i false) = false := by
    rw [Array.getD_eq_getD_getElem?, hci, Array.getElem?_setIfInBounds_self_of_lt hi]; rfl
  have h4 : (!listed.getD c.r.i false) = true := by rw [hci, hl]; rfl
  rw [h3, h4]
  simp only [Bool.false_eq_true, if_false, if_true]
  omega

/-- a region whose order is drawn, in whatever order -/
theorem draw_ok (hC : CallOk P B w0 call) (hY : YieldOk P B w0 call) : DrawOk P B w0 call := by
  intro ops a0 h0 aN hN he φ0 b tm ds w st t k fs
  obtain ⟨W, cs, C⟩ := canon_of he
  have key : ∀ (fuel t : Nat) (listed : Array Bool) (c1 c2 : List Cel) (φ : Phi) (s : AAct) (tm : Array Value) (ds : List Deferred) (w : World), listed.size = ops.size →
      (cs.countP fun c => !listed.getD c.r.i false) ≤ fuel →
      Pre P B w0 ops a0 aN h0 hN cs φ0 b.roundOf.isSome (fun j => listed.getD j false = true) c1 c2 φ s tm ds w →
      ∃ φ' tm' ds' w', Steps P (lone (mk b tm ds (.inRegion ops (Region.linearise.go .any ops fuel t listed []) :: k)) fs w) (lone (mk b tm' ds' k) fs w') ∧
        St P B w0 φ' aN hN b.roundOf.isSome tm' ds' w' ∧ Ext φ0 h0 φ' hN := by
    intro fuel
    induction fuel with
    | zero =>
      intro t listed c1 c2 φ s tm ds w hsz hcount p
      have hall : ∀ c ∈ cs, listed.getD c.r.i false = true := by
        have : cs.countP (fun c => !listed.getD c.r.i false) = 0 := Nat.le_zero.1 hcount
        intro c hc
        have := List.countP_eq_zero.1 this c hc
        simpa using this
      obtain ⟨f1, f2⟩ := finish_ok C p hall
      exact ⟨φ, tm, ds, w, .one go_regionEnd, f1, f2⟩
    | succ fuel ih =>
      intro t listed c1 c2 φ s tm ds w hsz hcount p
      simp only [Region.linearise.go]
      change ∃ φ' tm' ds' w', Steps P (lone (mk b tm ds (.inRegion ops (match (Region.ready .any ops listed)[t % (Region.ready .any ops listed).length]? with
        | some i => Region.linearise.go .any ops fuel (t / (Region.ready .any ops listed).length) (listed.setIfInBounds i true) [i]
        | none => [].reverse) :: k)) fs w) (lone (mk b tm' ds' k) fs w') ∧ _
      cases hi : (Region.ready .any ops listed)[t % (Region.ready .any ops listed).length]? with
      | none =>
        have hnil : Region.ready .any ops listed = [] := by
          cases hr : Region.ready .any ops listed with
          | nil => rfl
          | cons x xs =>
            rw [hr] at hi
            have hlt : t % (x :: xs).length < (x :: xs).length := Nat.mod_lt _ (by simp)
            simp at hi
            simp at hlt
            omega
        have hall : ∀ c ∈ cs, listed.getD c.r.i false = true := by
          rcases first_not (fun j => listed.getD j false = true) cs with h1 | ⟨e1, c, e2, h1, h2, h3⟩
          · exact h1
          · exfalso
            have hp := C.place _ _ _ h1
            have hrow := hp.fact.row
            have hlt : c.r.i < ops.size := (Array.getElem?_eq_some_iff.1 hrow.get).1
            have : c.r.i ∈ Region.ready .any ops listed := by
              unfold Region.ready
              rw [List.mem_filter]
              refine ⟨List.mem_range.2 hlt, ?_⟩
              rw [hrow.get]
              simp only [Option.map_some, Option.getD_some, Bool.and_eq_true]
              constructor
              · simp only [Array.getD_eq_getD_getElem?] at h3 ⊢
                rw [Array.getElem?_eq_getElem (by rw [hsz]; exact hlt)] at h3 ⊢
                simpa using h3
              · rw [Array.all_eq_true']
                intro e he
                rw [binds_eq]
                cases hb : bindsE e with
                | false => rfl
                | true =>
                  obtain ⟨x, hx, hxi⟩ := hp.lin e (Array.mem_toList_iff.2 he) hb
                  have := h2 x hx
                  rw [hxi] at this
                  rw [this]; rfl
            rw [hnil] at this
            cases this
        obtain ⟨f1, f2⟩ := finish_ok C p hall
        exact ⟨φ, tm, ds, w, .one go_regionEnd, f1, f2⟩
      | some i =>
        simp only []
        rw [linearise_go_acc, List.reverse_singleton, List.singleton_append]
        have hmem := List.mem_of_getElem? hi
        unfold Region.ready at hmem
        rw [List.mem_filter, List.mem_range] at hmem
        obtain ⟨hlt, hmem⟩ := hmem
        obtain ⟨o, ho⟩ : ∃ o, ops[i]? = some o := ⟨_, Array.getElem?_eq_getElem hlt⟩
        rw [ho] at hmem
        simp only [Option.map_some, Option.getD_some, Bool.and_eq_true] at hmem
        obtain ⟨hm1, hm2⟩ := hmem
        have hli : listed.getD i false = false := by
          simp only [Array.getD_eq_getD_getElem?] at hm1 ⊢
          rw [Array.getElem?_eq_getElem (by rw [hsz]; exact hlt)] at hm1 ⊢
          simpa using hm1
        obtain ⟨d1, d2, hd, p2⟩ := advance C c2 c1 p
        obtain ⟨g1, g2, φ', s', tm', ds', w', hst, p3⟩ := exec_step hC hY C p2 hd ho (by rw [hli]; simp) (fun e he hb => by
          rw [Array.all_eq_true'] at hm2
          have := hm2 e (Array.mem_toList_iff.1 he)
          rw [binds_eq, hb] at this
          simpa using this) (Region.linearise.go .any ops fuel (t / (Region.ready .any ops listed).length) (listed.setIfInBounds i true) []) k fs
        have hS : (fun j => listed.getD j false = true ∨ j = i) = (fun j => (listed.setIfInBounds i true).getD j false = true) := by
          funext j
          apply propext
          simp only [Array.getD_eq_getD_getElem?]
          by_cases hj : j = i
          · subst hj
            rw [Array.getElem?_setIfInBounds_self_of_lt (by rw [hsz]; exact hlt)]
            simp
          · rw [Array.getElem?_setIfInBounds_ne (fun e => hj e.symm)]
            simp [hj]
        rw [hS] at p3
        have hcov := C.cover hlt
        have hdec := count_set (by rw [hsz]; exact hlt) hli hcov
        obtain ⟨φ2, tm2, ds2, w2, st2, f1, f2⟩ := ih _ _ _ _ _ _ _ _ _ (by rw [Array.size_setIfInBounds]; exact hsz) (by omega) p3
        exact ⟨φ2, tm2, ds2, w2, hst.trans st2, f1, f2⟩
  have hlen : (cs.countP fun c => !(Array.replicate ops.size false).getD c.r.i false) ≤ ops.size := by
    refine Nat.le_trans List.countP_le_length ?_
    have := C.all.length_eq
    rw [List.length_map, List.length_range] at this
    omega
  exact key ops.size t (Array.replicate ops.size false) [] cs φ0 a0 tm ds w (by simp) hlen (start_ok C st fun i h => by
    rw [Array.getD_eq_getD_getElem?, Array.getElem?_replicate] at h
    split at h <;> cases h)

/-- **every abstract call is the machine's** -/
theorem run_ok {S : FuncId → Option (List AV → AH → R (AV × AH))} {lf : Nat} (hM : P.follows .mixedOrders = true) (hN : ∀ (f : Nat) fn, P.funcs[f]? = some fn → fn.body.isSome = true → fn.name ≠ "runtime.NumGoroutine")
    (hS : SumOk P B w0 S) (n : Nat) : CallOk P B w0 (evCall P S lf n) ∧ YieldOk P B w0 (evCall P S lf n) ∧ DefOk P B w0 (noSum S (evCall P S lf n)) :=
  evCall_ok hM hN hS (fun _ hC hY => draw_ok hC hY) n

/-- the machine's call, told by the abstract one -/
theorem calls_of_ev {S : FuncId → Option (List AV → AH → R (AV × AH))} {lf n : Nat} (hM : P.follows .mixedOrders = true) (hN : ∀ (f : Nat) fn, P.funcs[f]? = some fn → fn.body.isSome = true → fn.name ≠ "runtime.NumGoroutine")
    (hS : SumOk P B w0 S) {f : FuncId} {args : List AV} {h h' : AH} {v : AV} (he : evCall P S lf n (.fn f) args h = .ok (v, h')) {φ : Phi} {w : World} {args' : List Value} (ha : ConL φ args args') (hG : GlobRel P φ) (hR : Rel B w0 φ h w) :
    Calls P f ⟨args'⟩ w fun | .returned v', w' => ∃ φ', Con φ' v v' ∧ Rel B w0 φ' h' w' ∧ Ext φ h φ' h' | _, _ => False := by
  obtain ⟨_, hK⟩ := (run_ok hM hN hS n).1 _ _ _ _ _ he φ w args' ha hG hR
  intro cs
  obtain ⟨v', w', fr, fn, hR', hst, e1, e2, e3, e4, e5, e6⟩ := hK cs
  exact ⟨.returned v', w', fr, hR', hst, e1, e2, e3, e4, fn, e5, e6⟩

end Go.Dr
