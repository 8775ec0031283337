/-
  The abstract run with several ends is the machine's: the machine comes to one of them.
-/
import Derived.Test.YtckonkiblmdeiaaGreatDoorDrNdE
import Derived.Test.YtckonkiblmdeiaaGreatDoorDrDraw8
namespace Go.Dr
open Go.RowKit

variable {P : Program} {B : Nat} {w0 w w' : World} {φ : Phi} {h h' : AH}

theorem bindD_mem {α β : Type} {f : α → RL β} : ∀ {l : List α} {s : List β}, bindD f l = .ok s → ∀ x ∈ l, ∃ r, f x = .ok r ∧ ∀ y ∈ r, y ∈ s
  | [], _, _, _, hx => by cases hx
  | a :: l, s, he, x, hx => by
    simp only [bindD] at he
    split at he
    · rename_i r hr
      split at he
      · rename_i s' hs
        cases he
        rcases List.mem_cons.1 hx with rfl | hx
        · exact ⟨r, hr, fun y hy => List.mem_append_left _ hy⟩
        · obtain ⟨r', h1, h2⟩ := bindD_mem hs x hx
          exact ⟨r', h1, fun y hy => List.mem_append_right _ (h2 y hy)⟩
      · cases he
    · cases he

theorem one1_ok {α : Type} {r : R α} {l : List α} (he : one1 r = .ok l) : ∃ x, r = .ok x ∧ l = [x] := by
  cases r with
  | ok x => cases he; exact ⟨x, rfl, rfl⟩
  | error e => cases he

/-- a call that ends in one of these -/
def FnD (P : Program) (B : Nat) (w0 : World) (kind : CallKind) (f : FuncId) (args : List AV) (h : AH) (K : AV → AH → Prop) : Prop :=
  ∀ φ w args', ConL φ args args' → GlobRel P φ → Rel B w0 φ h w →
    (∀ w, (callFunc f ⟨args'⟩).run P w = .ok (.enter f ⟨args'⟩) w) ∧
    CallsK P kind f ⟨args'⟩ w (fun v' w' => ∃ v h' φ', K v h' ∧ Con φ' v v' ∧ Rel B w0 φ' h' w' ∧ Ext φ h φ' h')

def RoundD (P : Program) (B : Nat) (w0 : World) (l : Nat) (args : List AV) (h : AH) (K : AV → AH → Prop) : Prop :=
  ∀ φ w p args', φ l = some p → ConL φ args args' → GlobRel P φ → Rel B w0 φ h w →
    ∃ fn tmps assign body, (Instr.yield p.blk ⟨args'⟩).run P w = .ok (.round p.blk fn tmps assign body) w ∧
      ∀ c cs, ∃ v h' v' φ' w', K v h' ∧ Steps P (lone (Frame.round p.blk fn tmps assign body .normal) (c :: cs) w) (lone (c.finish v') cs w') ∧ Con φ' v v' ∧ Rel B w0 φ' h' w' ∧ Ext φ h φ' h'

theorem FnD.mono {kind : CallKind} {f : FuncId} {args : List AV} {K K2 : AV → AH → Prop} (hf : FnD P B w0 kind f args h K) (hk : ∀ v h', K v h' → K2 v h') : FnD P B w0 kind f args h K2 := by
  intro φ w args' ha hG hR
  obtain ⟨h1, h2⟩ := hf φ w args' ha hG hR
  refine ⟨h1, fun cs => ?_⟩
  obtain ⟨v', w', fr, fn, ⟨v, h3, φ', k, c⟩, r⟩ := h2 cs
  exact ⟨v', w', fr, fn, ⟨v, h3, φ', hk _ _ k, c⟩, r⟩

def CallDOk (P : Program) (B : Nat) (w0 : World) (call : CallD) : Prop := ∀ f args h l, call (.fn f) args h = .ok l → FnD P B w0 .normal f args h fun v h' => (v, h') ∈ l
def DefDOk (P : Program) (B : Nat) (w0 : World) (call : CallD) : Prop := ∀ f args h l, call (.fn f) args h = .ok l → FnD P B w0 .deferred f args h fun v h' => (v, h') ∈ l
def YieldDOk (P : Program) (B : Nat) (w0 : World) (call : CallD) : Prop := ∀ i args h l, call (.yield i) args h = .ok l → RoundD P B w0 i args h fun v h' => (v, h') ∈ l

theorem oneD_ok {call : CallD} {t : Tgt} {args : List AV} {x : AV × AH} (he : oneD call t args h = .ok x) : call t args h = .ok [x] := by
  unfold oneD at he
  split at he
  · rename_i hc; cases he; exact hc
  · cases he
  · cases he

theorem oneD_call {call : CallD} (hC : CallDOk P B w0 call) : CallOk P B w0 (oneD call) := by
  intro f args h v h' he φ w args' ha hG hR
  obtain ⟨h1, h2⟩ := hC _ _ _ _ (oneD_ok he) φ w args' ha hG hR
  refine ⟨h1, fun cs => ?_⟩
  obtain ⟨v', w', fr, fn, ⟨v2, h3, φ', k, c⟩, r⟩ := h2 cs
  have := List.mem_singleton.1 k
  cases this
  exact ⟨v', w', fr, fn, ⟨φ', c⟩, r⟩

theorem oneD_yield {call : CallD} (hY : YieldDOk P B w0 call) : YieldOk P B w0 (oneD call) := by
  intro l args h v h' he φ w p args' hp ha hG hR
  obtain ⟨fn, tmps, assign, body, h1, h2⟩ := hY _ _ _ _ (oneD_ok he) φ w p args' hp ha hG hR
  refine ⟨fn, tmps, assign, body, h1, fun c cs => ?_⟩
  obtain ⟨v2, h3, v', φ', w', k, r⟩ := h2 c cs
  have := List.mem_singleton.1 k
  cases this
  exact ⟨v', φ', w', r⟩

/-! ### the next entry -/

theorem run_mapNext {n : Nat} (hn : 0 < n) : ∃ i w', i < n ∧ (choose (.mapNext n)).run P w = .ok i w' ∧ (w' = w ∨ w' = w.drew) := by
  by_cases h1 : n ≤ 1
  · exact ⟨0, w, hn, by simp [choose, Sem.run, Question.forced, h1], .inl rfl⟩
  · exact ⟨w.tape w.drawn (.mapNext n) % n, w.drew, Nat.mod_lt _ hn, by simp [choose, Sem.run, Question.forced, Question.cut, h1], .inr rfl⟩

theorem ConE.at : ∀ {l : List AEntry} {es : List MapEntry}, ConE φ l es → ∀ (i : Nat) (e' : MapEntry), es[i]? = some e' → ∃ e : AEntry, l[i]? = some e ∧ Con φ e.key e'.key ∧ Con φ e.val e'.val ∧ e'.born = e.born
  | _, _, .nil, i, e', he => by simp at he
  | _, _, .cons h1 h2 h3 t, 0, e', he => by cases he; exact ⟨_, rfl, h1, h2, h3⟩
  | _, _, .cons h1 h2 h3 t, i + 1, e', he => by
    obtain ⟨e, g⟩ := ConE.at t i e' (by simpa using he)
    exact ⟨e, by simpa using g.1, g.2⟩

theorem ConE.length : ∀ {l : List AEntry} {es : List MapEntry}, ConE φ l es → es.length = l.length
  | _, _, .nil => rfl
  | _, _, .cons _ _ _ t => by simp [t.length]

theorem nextD_ok {ty : TypeId} {it : AV} {it' : Value} {l : List (AV × AH)} (hR : Rel B w0 φ h w) (hi : Con φ it it') (hr : nextD h it = .ok l) :
    ∃ x v' w', x ∈ l ∧ (Instr.next it' false ty).run P w = .ok v' w' ∧ Con φ x.1 v' ∧ Rel B w0 φ x.2 w' ∧ Ext φ h φ x.2 := by
  unfold nextD at hr
  split at hr
  · rename_i id
    cases hi with
    | @ptr _ _ p hp =>
    split at hr
    · rename_i m since seen last hg
      obtain ⟨g0, m', g1, g2⟩ := hR.obj _ _ _ hp hg
      rw [g0]
      have hget : (getObj p.blk).run P w = .ok (.mapIter m' since ⟨seen⟩ last) w := by simp [getObj, Sem.run, g1]
      split at hr
      · cases hr
        have : m' = none := g2
        subst this
        refine ⟨_, .tuple #[.bool false], w, List.mem_singleton.2 rfl, ?_, .tuple (.cons (.bool _) .nil), hR, .refl _ _⟩
        simp only [Instr.next, Nat.add_zero, Sem.run_bind, hget, Result.andThen_ok]
        rfl
      · rename_i m
        obtain ⟨q, hq, rfl⟩ := g2
        split at hr
        · rename_i al clock hgm
          obtain ⟨es, k1, k2⟩ := hR.obj _ _ _ hq hgm
          split at hr
          · cases hr
          · rename_i hall
            have hall' : ¬ ((!(⟨seen⟩ : Array Nat).isEmpty && !(⟨es⟩ : Array MapEntry).isEmpty && (⟨es⟩ : Array MapEntry).all (fun e => decide (e.born ≥ last))) = true) := by
              intro hh
              apply hall
              rw [← hh]
              have e1 : (⟨seen⟩ : Array Nat).isEmpty = seen.isEmpty := by cases seen <;> rfl
              have e2 : (⟨es⟩ : Array MapEntry).isEmpty = al.isEmpty := by rw [← k2.isEmpty]; cases es <;> rfl
              have e3 : ((⟨es⟩ : Array MapEntry).all fun e => decide (e.born ≥ last)) = al.all fun e => Nat.ble last e.born := by
                rw [← k2.all (f := fun b => Nat.ble last b)]
                simp only [List.all_toArray]
                congr 1; funext e
                rw [Bool.eq_iff_iff]; simp
              rw [e1, e2, e3]
            have hfil := k2.filter (f := fun b => !seen.contains b)
            have hleft : (⟨es⟩ : Array MapEntry).filter (fun e => !(⟨seen⟩ : Array Nat).contains e.born) = ⟨es.filter fun e => !seen.contains e.born⟩ := by
              apply Array.ext'; simp
            generalize hL : es.filter (fun e => !seen.contains e.born) = L at hleft hfil
            generalize al.filter (fun e => !seen.contains e.born) = A at hr hfil
            split at hr
            · cases hfil
              cases hr
              refine ⟨_, .tuple #[.bool false], w, List.mem_singleton.2 rfl, ?_, .tuple (.cons (.bool _) .nil), hR, .refl _ _⟩
              simp only [Instr.next, Nat.add_zero, Sem.run_bind, hget, Result.andThen_ok, run_getMap k1]
              rw [if_neg hall']
              simp only [hleft]
              simp [Question.forced]
            · rename_i hne
              split at hr
              · rename_i hsince
                cases hr
                have hold : ∀ e' ∈ L, e'.born < since := by
                  intro e' he'
                  obtain ⟨i, hi⟩ := List.mem_iff_getElem?.1 he'
                  obtain ⟨e, ge, _, _, gb⟩ := hfil.at i e' hi
                  rw [List.all_eq_true] at hsince
                  have := hsince e (List.mem_of_getElem? ge)
                  rw [gb]; simpa [Nat.blt_eq] using this
                have f1 : (⟨L⟩ : Array MapEntry).filter (fun e => decide (e.born < since)) = ⟨L⟩ := by
                  apply Array.ext'
                  simp only [Array.toList_filter]
                  exact List.filter_eq_self.2 fun e he => by simpa using hold e he
                have f2 : (⟨L⟩ : Array MapEntry).filter (fun e => decide (e.born ≥ since)) = #[] := by
                  apply Array.ext'
                  simp only [Array.toList_filter]
                  exact List.filter_eq_nil_iff.2 fun e he => by have := hold e he; simp; omega
                have hpos : 0 < L.length := by
                  rw [hfil.length]
                  cases A with
                  | nil => exact absurd rfl hne
                  | cons a A => simp
                have f3 : (⟨L⟩ : Array MapEntry).isEmpty = false := by
                  cases L with
                  | nil => simp at hpos
                  | cons a L => rfl
                obtain ⟨i, w1, hi, hch, hw1⟩ := run_mapNext (P := P) (w := w) (n := L.length) hpos
                have hLi : L[i]? = some L[i] := List.getElem?_eq_getElem hi
                obtain ⟨e, ge, c1, c2, c3⟩ := hfil.at i _ hLi
                have hg1 : w1.heap[p.blk]? = some (.mapIter (some q.blk) since ⟨seen⟩ last) := by rcases hw1 with rfl | rfl <;> exact g1
                have hR1 : Rel B w0 φ h w1 := by
                  rcases hw1 with rfl | rfl
                  · exact hR
                  · exact hR.drew
                have hset : ∀ o, (setObj p.blk o).run P w1 = .ok () (w1.putObj p.blk o) := fun o => by simp [setObj, Sem.run, hg1, World.putObj]
                refine ⟨_, .tuple #[.bool true, L[i].key, L[i].val], w1.putObj p.blk (.mapIter (some q.blk) since ((⟨seen⟩ : Array Nat).push L[i].born) clock), List.mem_map.2 ⟨e, List.mem_of_getElem? ge, rfl⟩, ?_, .tuple (.cons (.bool _) (.cons c1 (.cons c2 .nil))), ?_, .write hp _⟩
                · simp only [Instr.next, Nat.add_zero, Sem.run_bind, hget, Result.andThen_ok, run_getMap k1]
                  rw [if_neg hall']
                  simp only [hleft, f1, f2, f3, Bool.false_eq_true, if_false]
                  have hsz : ((#[] : Array (Option MapEntry)) ++ ((⟨L⟩ : Array MapEntry) ++ #[]).map some).size = L.length := by simp
                  rw [hsz, Sem.run_bind, hch, Result.andThen_ok]
                  have hge : ((#[] : Array (Option MapEntry)) ++ ((⟨L⟩ : Array MapEntry) ++ #[]).map some)[i]? = some (some L[i]) := by simp [hLi]
                  rw [hge]
                  simp only [Sem.run_bind, hset, Result.andThen_ok, Sem.run_pure]
                · refine hR1.write (w' := w1.putObj p.blk (.mapIter (some q.blk) since ((⟨seen⟩ : Array Nat).push L[i].born) clock)) hp hg rfl rfl (World.putObj_below (hR.own _ _ _ hp hg rfl) _) (fun k hk => World.putObj_heap_other hk) ?_
                  refine ⟨g0, some q.blk, ?_, q, hq, rfl⟩
                  rw [World.putObj_heap_same (Array.getElem?_eq_some_iff.1 hg1).1, c3]
                  simp
              · cases hr
        · cases hr
    · cases hr
  · cases hr

theorem nextOf_ok {o : Op} {x : Operand} (h : nextOf o = some x) : o = .next x false := by
  unfold nextOf at h
  split at h
  · cases h; rfl
  · cases h

/-- one operation -/
theorem evOperD_ok {call : CallD} (hC : CallDOk P B w0 call) (hY : YieldDOk P B w0 call) {o : Oper} {a : AAct} {l : List (AAct × AH)} (he : evOperD P call o a h = .ok l)
    {b : Frame} {tm : Array Value} {ds : List Deferred} (s : St P B w0 φ a h b.roundOf.isSome tm ds w) {ops : Array Oper} {i : Nat} {rest : List Nat} (ho : ops[i]? = some o)
    (hw : Region.wanted o (yielded ops tm) = true) (k : List Item) (cs : List Frame) :
    ∃ x φ' tm' ds' w', x ∈ l ∧ Steps P (lone (mk b tm ds (.inRegion ops (i :: rest) :: k)) cs w) (lone (mk b tm' ds' (.inRegion ops rest :: k)) cs w') ∧
      St P B w0 φ' x.1 x.2 b.roundOf.isSome tm' ds' w' ∧ Ext φ h φ' x.2 := by
  unfold evOperD at he
  split at he
  · rename_i x hx
    have hop := nextOf_ok hx
    split at he
    · rename_i c hc
      unfold evNextD at he
      split at he
      · rename_i r hn
        cases he
        obtain ⟨y, v', w', hy, hrun, hcon, hR', hE⟩ := nextD_ok (P := P) (ty := o.type) s.rel (cO_con (ds := ds) hc s.glob s.act) hn
        have h2 : (execOp (Act.eval ⟨tm, ds⟩) o).run P w = .ok (.value v') w' := by
          simp only [execOp, hop, Sem.run_bind, hrun, Result.andThen_ok, Sem.run_pure]
        refine ⟨_, φ, _, ds, w', List.mem_map.2 ⟨y, hy, rfl⟩, .one (go_value ho hw (.inr fun c e => ?_) h2), ?_, hE⟩
        · rw [hop] at e; cases e
        · simp only [putD, forceV_eq]
          exact s.put (.refl _) hcon hR' _
      · cases he
    · cases he
  · split at he
    · rename_i c hc
      unfold evCD at he
      split at he
      · rename_i n h1 hr
        have hs := evC_sound (ds := ds) hc hr s.glob s.act s.rel
        have hd : (∀ d, n ≠ .defer d) → b.roundOf = none ∨ ∀ c, o.op ≠ .defer c := fun hn => .inr fun call e => by
          obtain ⟨d, e⟩ := comp_defer e hc hr
          exact hn d e
        split at he
        · rename_i v
          cases he
          obtain ⟨v', w', φ', h2, h3, h4, h5⟩ := hs
          refine ⟨_, φ', _, ds, w', List.mem_singleton.2 rfl, .one (go_value ho hw (hd (by simp)) h2), ?_, h5⟩
          simp only [putD, forceV_eq]
          exact s.put h5.le h3 h4 _
        · cases he
          obtain ⟨w', h2, h4, h5⟩ := hs
          exact ⟨_, φ, _, ds, w', List.mem_singleton.2 rfl, .one (go_opskip ho hw (hd (by simp)) h2), s.put (.refl _) undef_con h4 _, h5⟩
        · rename_i d
          cases hrd : a.rd with
          | true => rw [hrd] at he; cases he
          | false =>
            rw [hrd] at he; cases he
            obtain ⟨rfl, d', hd', h2⟩ := hs
            have hb : b.roundOf = none := by have := s.rd; rw [hrd] at this; cases hb : b.roundOf with
              | none => rfl
              | some l => rw [hb] at this; cases this
            refine ⟨_, φ, _, _, w, List.mem_singleton.2 rfl, .one (go_defer ho hw hb h2), ?_, .refl _ _⟩
            have s2 : St P B w0 φ (⟨a.n, a.ts, d :: a.ds, false⟩ : AAct) h1 b.roundOf.isSome tm (d' :: ds) w := ⟨⟨s.act.size, s.act.val⟩, .cons hd' s.defs, s.rel, s.glob, by rw [hb]; rfl⟩
            exact s2.put (.refl _) undef_con s.rel _
        · rename_i f args
          obtain ⟨rfl, args', hargs, h2⟩ := hs
          split at he
          · rename_i r hcall
            cases he
            obtain ⟨hen, hK⟩ := hC _ _ _ _ hcall φ w args' hargs s.glob s.rel
            obtain ⟨v', w', fr, fn, ⟨v, h3, φ', hm, c1, c2, c3⟩, hst, e1, e2, e3, e4, e5, e6⟩ := hK (mk b tm ds (.inRegion ops (i :: rest) :: k) :: cs)
            rw [hen] at h2
            refine ⟨_, φ', putT tm o.dst v', ds, w', List.mem_map.2 ⟨_, hm, rfl⟩, .head (go_enter ho hw (hd (by simp)) h2) (hst.trans (.one ?_)), ?_, c3⟩
            · rw [← mk_finish ho]
              exact go_leave e2 e3 e4 e5 e6
            · simp only [putD, forceV_eq]
              exact s.put c3.le c1 c2 _
          · cases he
        · rename_i f args
          obtain ⟨rfl, p, args', hp, hargs, h2⟩ := hs
          split at he
          · rename_i r hcall
            cases he
            obtain ⟨fn, tmps, assign, body, hy, hK⟩ := hY _ _ _ _ hcall φ w p args' hp hargs s.glob s.rel
            obtain ⟨v, h3, v', φ', w', hm, hst, c1, c2, c3⟩ := hK (mk b tm ds (.inRegion ops (i :: rest) :: k)) cs
            rw [hy] at h2
            refine ⟨_, φ', putT tm o.dst v', ds, w', List.mem_map.2 ⟨_, hm, rfl⟩, .head (go_round ho hw (hd (by simp)) h2) ?_, ?_, c3⟩
            · rw [← mk_finish ho]
              exact hst
            · simp only [putD, forceV_eq]
              exact s.put c3.le c1 c2 _
          · cases he
      · cases he
    · cases he

theorem evOpsD_ok {call : CallD} (hC : CallDOk P B w0 call) (hY : YieldDOk P B w0 call) {ops : Array Oper} {b : Frame} (k : List Item) (cs : List Frame) :
    ∀ (l : List Oper) (is : List Nat) (a : AAct) (r : List (AAct × AH)) (h : AH) (φ : Phi) (tm : Array Value) (ds : List Deferred) (w : World), is.map (ops[·]?) = l.map some → evOpsD P call ops l a h = .ok r →
      St P B w0 φ a h b.roundOf.isSome tm ds w → ∃ x φ' tm' ds' w', x ∈ r ∧ Steps P (lone (mk b tm ds (.inRegion ops is :: k)) cs w) (lone (mk b tm' ds' k) cs w') ∧
        St P B w0 φ' x.1 x.2 b.roundOf.isSome tm' ds' w' ∧ Ext φ h φ' x.2
  | [], is, a, r, h, φ, tm, ds, w, hl, he, s => by
    have : is = [] := by simpa using hl
    subst this
    cases he
    exact ⟨_, φ, tm, ds, w, List.mem_singleton.2 rfl, .one go_regionEnd, s, .refl _ _⟩
  | o :: l, is, a, r, h, φ, tm, ds, w, hl, he, s => by
    cases is with
    | nil => simp at hl
    | cons i rest =>
      simp only [List.map_cons, List.cons.injEq] at hl
      obtain ⟨ho, hl⟩ := hl
      simp only [evOpsD] at he
      split at he
      · rename_i hw
        split at he
        · rename_i r1 h2
          obtain ⟨x, φ1, tm1, ds1, w1, hx, st1, s1, e1⟩ := evOperD_ok hC hY h2 s ho (wanted_ok s.act hw) k cs (rest := rest)
          obtain ⟨r2, h3, h4⟩ := bindD_mem he x hx
          obtain ⟨y, φ2, tm2, ds2, w2, hy, st2, s2, e2⟩ := evOpsD_ok hC hY k cs l rest _ _ _ _ _ _ _ hl h3 s1
          exact ⟨y, φ2, tm2, ds2, w2, h4 _ hy, st1.trans st2, s2, e1.trans e2⟩
        · cases he
      · rename_i hw
        have s1 := s.put (.refl _) undef_con s.rel o.dst
        obtain ⟨y, φ2, tm2, ds2, w2, hy, st2, s2, e2⟩ := evOpsD_ok hC hY k cs l rest _ _ _ _ _ _ _ hl he s1
        exact ⟨y, φ2, tm2, ds2, w2, hy, .head (go_unwanted ho (wanted_ok s.act hw)) st2, s2, e2⟩
      · cases he

/-! ### code -/

def CodeDOk (P : Program) (B : Nat) (w0 : World) (f : AAct → AH → XD) (it : Item) : Prop :=
  ∀ a h r, f a h = .ok r → ∀ φ b tm ds w, St P B w0 φ a h (Option.isSome (Frame.roundOf b)) tm ds w → ∀ k cs,
    ∃ x φ' tm' ds' w', x ∈ r ∧ Arr P (lone (mk b tm ds (it :: k)) cs w) b k cs tm' ds' w' x.1 ∧ St P B w0 φ' x.2.1 x.2.2 b.roundOf.isSome tm' ds' w' ∧ Ext φ h φ' x.2.2

theorem CodeDOk.of_one {f : AAct → AH → R (AX × AAct × AH)} {it : Item} (hf : CodeOk P B w0 f it) : CodeDOk P B w0 (fun a h => one1 (f a h)) it := by
  intro a h r he φ b tm ds w s k cs
  obtain ⟨x, h1, rfl⟩ := one1_ok he
  obtain ⟨φ', tm', ds', w', h2⟩ := hf a h x.1 x.2.1 x.2.2 h1 φ b tm ds w s k cs
  exact ⟨x, φ', tm', ds', w', List.mem_singleton.2 rfl, h2⟩

theorem evLoopD_ok {f : AAct → AH → XD} {c : Code} (hf : CodeDOk P B w0 f (.code c)) : ∀ n a h r, evLoopD f n a h = .ok r →
    ∀ φ b tm ds w, St P B w0 φ a h (Option.isSome (Frame.roundOf b)) tm ds w → ∀ k cs,
    ∃ x φ' tm' ds' w', x ∈ r ∧ Arr P (lone (mk b tm ds (.code c :: .inLoop c :: k)) cs w) b k cs tm' ds' w' x.1 ∧ St P B w0 φ' x.2.1 x.2.2 b.roundOf.isSome tm' ds' w' ∧ Ext φ h φ' x.2.2
  | 0 => fun a h r he => by cases he
  | n + 1 => fun a h r he φ b tm ds w s k cs => by
    simp only [evLoopD] at he
    split at he
    · rename_i r1 hb
      obtain ⟨⟨x, a1, h1⟩, φ1, tm1, ds1, w1, hx, r1', s1, e1⟩ := hf _ _ _ hb φ b tm ds w s (.inLoop c :: k) cs
      obtain ⟨r2, h3, h4⟩ := bindD_mem he _ hx
      cases x with
      | normal =>
        simp only at h3 r1' s1 e1
        obtain ⟨y, φ2, tm2, ds2, w2, hy, r2', s2, e2⟩ := evLoopD_ok hf n _ _ _ h3 φ1 b tm1 ds1 w1 s1 k cs
        exact ⟨y, φ2, tm2, ds2, w2, h4 _ hy, .of_steps (Steps.trans r1' (.one go_inLoop)) r2', s2, e1.trans e2⟩
      | exit i =>
        cases h3
        exact ⟨_, φ1, tm1, ds1, w1, h4 _ (List.mem_singleton.2 rfl), .pass (fun id _ => rfl) (by simp) r1', s1, e1⟩
      | ret =>
        cases h3
        exact ⟨_, φ1, tm1, ds1, w1, h4 _ (List.mem_singleton.2 rfl), .pass (fun id _ => rfl) (by simp) r1', s1, e1⟩
      | goto i => exact r1'.elim
    · cases he

theorem endGo_ok {b : Frame} {tm : Array Value} {ds : List Deferred} {k : List Item} {cs : List Frame} {a : AAct} {did : Nat} {h3 : AH} {x : AX × AAct × AH} (he : endGo did a h3 = .ok x) {m : Machine} {p : Pl} {d : Deferred}
    (s : St P B w0 φ ⟨a.n, a.ts, .collected did :: a.ds, a.rd⟩ h3 b.roundOf.isSome tm (d :: ds) w) (hp : φ (did + 1) = some p)
    (hst : Steps P m (lone (mk b tm (d :: ds) (.endRangeFunc p.blk :: k)) cs w)) :
    ∃ w', Arr P m b k cs tm (d :: ds) w' x.1 ∧ St P B w0 φ x.2.1 x.2.2 b.roundOf.isSome tm (d :: ds) w' ∧ Ext φ h3 φ x.2.2 := by
  unfold endGo at he
  split at he
  · rename_i r hg
    obtain ⟨r', hr1, hr2⟩ := (s.rel.obj _ _ _ hp hg).loop_get
    have key : r.state ≠ .busy → ∀ y, (∀ w1, Steps P (lone (mk b tm (d :: ds) ((r.pending.map Item.code).toList ++ k)) cs w1) (lone (mk b tm (d :: ds) ((r.pending.map Item.code).toList ++ k)) cs w1) →
          Arr P (lone (mk b tm (d :: ds) ((r.pending.map Item.code).toList ++ k)) cs w1) b k cs tm (d :: ds) w1 y) →
        ∃ w', Arr P m b k cs tm (d :: ds) w' y ∧ St P B w0 φ ⟨a.n, a.ts, .collected did :: a.ds, a.rd⟩ (h3.set (did + 1) (.loop { r with state := .exhausted })) b.roundOf.isSome tm (d :: ds) w' ∧
          Ext φ h3 φ (h3.set (did + 1) (.loop { r with state := .exhausted })) := by
      intro hbusy y hy
      have s2 := go_endLoop (P := P) (b := b) (tm := tm) (ds := d :: ds) (k := k) (cs := cs) hr1 (by rw [hr2.state]; exact hbusy)
      rw [hr2.pending] at s2
      exact ⟨_, .of_steps (hst.trans (.one s2)) (hy _ (.refl _ _)), ⟨s.act, s.defs, s.rel.putLoop hp hg hr2 .exhausted r.pending, s.glob, s.rd⟩, .write hp _⟩
    split at he
    · cases he
    · rename_i hbusy
      split at he
      · rename_i hpd; cases he
        exact key hbusy .normal (fun w1 st => by rw [hpd] at st ⊢; exact st)
      · rename_i hpd; cases he
        exact key hbusy .ret (fun w1 st => by rw [hpd] at st ⊢; exact ⟨k, st⟩)
      · rename_i id hpd; cases he
        exact key hbusy (.exit id) (fun w1 st => by rw [hpd] at st ⊢; exact ⟨k, rfl, st⟩)
      · cases he
  · cases he

theorem opGoD_ok {call : CallD} (hC : CallDOk P B w0 call) {f : Operand} {c : CO} {params : Array Tmp} {assign body : Code} (hf : cO P f = .ok c) :
    CodeDOk P B w0 (fun a h => opGoD call (c.ev a) params assign body a h) (.code (.rangeFunc f params assign body)) := by
  intro a h r he φ b tm ds w s k cs
  have hv := cO_con (ds := ds) hf s.glob s.act
  simp only [opGoD] at he
  split at he
  · rename_i g first captured hfv
    cases hrd : a.rd with
    | true => rw [hrd] at he; cases he
    | false =>
      rw [hrd] at he
      simp only [cond_false, forceN_eq] at he
      have hb : b.roundOf = none := by have := s.rd; rw [hrd] at this; cases hb : b.roundOf with
        | none => rfl
        | some l => rw [hb] at this; cases this
      rw [hfv] at hv
      generalize hev : Act.eval ⟨tm, ds⟩ f = fv at hv
      cases hv with
      | @func _ _ _ first' captured' h1 h2 =>
        have R1 := s.rel.push (room := 0) (o := .deferred (some [])) (O := .deferred (some [])) (alloc_new _ _)
        have X1 := Ext.push s.rel (.deferred (some [])) ⟨w.heap.size, 0, 0⟩
        generalize hφ1 : φ.set h.next ⟨w.heap.size, 0, 0⟩ = φ1 at R1 X1
        have g1 : φ1 h.next = some ⟨w.heap.size, 0, 0⟩ := by rw [← hφ1]; exact Phi.set_same _ _ _
        generalize hL : ({ state := .ready, pending := none, n := a.n, tmps := a.ts, params, assign, body } : ALoop) = L at he
        generalize hL' : ({ state := .ready, pending := none, fn := b.fn, tmps := tm, params, assign, body, defers := w.heap.size } : Loop) = L'
        have hLR : ∀ ψ : Phi, φ.le ψ → LoopRel ψ L L' := fun ψ hle => by
          subst hL hL'
          exact ⟨rfl, rfl, rfl, rfl, rfl, s.act.size, fun i => (s.act.val i).mono hle⟩
        have R2 := R1.push (room := 0) (o := .loop L) (O := .loop L') ⟨L', alloc_new _ _, hLR _ (X1.le.trans (Phi.le_set _ R1.fresh))⟩
        have X2 := Ext.push R1 (.loop L) ⟨(w.alloc (.deferred (some []))).heap.size, 0, 0⟩
        rw [World.size_alloc] at R2 X2
        rw [AH.next_push] at R2 X2
        generalize hφ2 : φ1.set (h.next + 1) ⟨w.heap.size + 1, 0, 0⟩ = φ2 at R2 X2
        have g2 : φ2 (h.next + 1) = some ⟨w.heap.size + 1, 0, 0⟩ := by rw [← hφ2]; exact Phi.set_same _ _ _
        have X := X1.trans X2
        split at he
        · rename_i rl hcall
          have hargs : ConL φ2 (first ++ (.func (.yield (h.next + 1)) [] [] :: captured)) (first' ++ (.func (.yield (w.heap.size + 1)) #[] #[] :: captured')) :=
            (h1.mono X.le).append (.cons (.yield g2) (h2.mono X.le))
          obtain ⟨hen, hK⟩ := hC _ _ _ _ hcall φ2 _ _ hargs (s.glob.mono X.le) R2
          have e : (⟨first' ++ (.func (.yield (w.heap.size + 1)) #[] #[] :: captured')⟩ : Array Value) = ⟨first'⟩ ++ #[.func (.yield (w.heap.size + 1)) #[] #[]] ++ ⟨captured'⟩ := by simp
          rw [e] at hK hen
          obtain ⟨v', w3, fr, fn, ⟨v3, h3, φ3, hm, c1, R3, X3⟩, hst, e1, e2, e3, e4, e5, e6⟩ := hK (mk b tm ({ target := .collected w.heap.size, args := #[] } :: ds) (.inRangeFunc (w.heap.size + 1) :: k) :: cs)
          have s0 := go_rangeFunc (P := P) (k := k) (cs := cs) (params := params) (assign := assign) (body := body) hb hev rfl (by rw [hL']; exact hen _)
          rw [hL'] at s0
          have s1 := Steps.head s0 (hst.trans (.one (go_leave e2 e3 e4 e5 e6)))
          rw [show (mk b tm ({ target := .collected w.heap.size, args := #[] } :: ds) (.inRangeFunc (w.heap.size + 1) :: k)).finish v' = mk b tm ({ target := .collected w.heap.size, args := #[] } :: ds) (.endRangeFunc (w.heap.size + 1) :: k) from rfl] at s1
          obtain ⟨r2, h4, h5⟩ := bindD_mem he _ hm
          obtain ⟨x, h6, rfl⟩ := one1_ok h4
          have hp3 : φ3 (h.next + 1) = some ⟨w.heap.size + 1, 0, 0⟩ := X3.le _ _ g2
          have s3 : St P B w0 φ3 ⟨a.n, a.ts, .collected h.next :: a.ds, a.rd⟩ h3 b.roundOf.isSome tm ({ target := .collected w.heap.size, args := #[] } :: ds) w3 :=
            ⟨⟨s.act.size, fun i => ((s.act.val i).mono X.le).mono X3.le⟩, .cons (.collected (X3.le _ _ (X2.le _ _ g1))) ((s.defs.mono X.le).mono X3.le), R3, (s.glob.mono X.le).mono X3.le, s.rd⟩
          obtain ⟨w4, a4, s4, e4'⟩ := endGo_ok (k := k) (cs := cs) h6 s3 hp3 s1
          exact ⟨x, φ3, tm, _, w4, h5 _ (List.mem_singleton.2 rfl), a4, s4, (X.trans X3).trans e4'⟩
        · cases he
  · cases he

theorem evCodeD_ok {call : CallD} {lf : Nat} (hM : P.follows .mixedOrders = true) (hC : CallDOk P B w0 call) (hY : YieldDOk P B w0 call) : ∀ c : Code, CodeDOk P B w0 (evCodeD P call lf c) (.code c)
  | .skip => .of_one (evCode_ok hM (oneD_call hC) (oneD_yield hY) (draw_ok (oneD_call hC) (oneD_yield hY)) _)
  | .label _ => .of_one (evCode_ok hM (oneD_call hC) (oneD_yield hY) (draw_ok (oneD_call hC) (oneD_yield hY)) _)
  | .exit id => .of_one (evCode_ok hM (oneD_call hC) (oneD_yield hY) (draw_ok (oneD_call hC) (oneD_yield hY)) _)
  | .ret => .of_one (evCode_ok hM (oneD_call hC) (oneD_yield hY) (draw_ok (oneD_call hC) (oneD_yield hY)) _)
  | .goto _ => .of_one (evCode_ok hM (oneD_call hC) (oneD_yield hY) (draw_ok (oneD_call hC) (oneD_yield hY)) _)
  | .refuse _ => .of_one (evCode_ok hM (oneD_call hC) (oneD_yield hY) (draw_ok (oneD_call hC) (oneD_yield hY)) _)
  | .region id ops draw => fun a h r he φ b tm ds w s k cs => by
    simp only [evCodeD] at he
    split at he
    · split at he
      · rename_i a1 h1 h2
        cases he
        obtain ⟨φ1, tm1, ds1, w1, st1, s1, e1⟩ := draw_ok (oneD_call hC) (oneD_yield hY) _ _ _ _ _ h2 φ b tm ds w.drew ⟨s.act, s.defs, s.rel.drew, s.glob, s.rd⟩ (w.tape w.drawn (.order b.fn id)) k cs
        refine ⟨_, φ1, tm1, ds1, w1, List.mem_singleton.2 rfl, .head go_region_draw ?_, s1, e1⟩
        rw [hM]
        exact st1
      · cases he
    · split at he
      · rename_i r1 h2
        cases he
        have hl : (List.range ops.size).map (ops[·]?) = ops.toList.map some := by
          apply List.ext_getElem
          · simp
          · intro i h1 h2
            simp at h1
            simp [h1]
        obtain ⟨x, φ1, tm1, ds1, w1, hx, st1, s1, e1⟩ := evOpsD_ok hC hY k cs _ _ _ _ _ _ _ _ _ hl h2 s
        exact ⟨_, φ1, tm1, ds1, w1, List.mem_map.2 ⟨x, hx, rfl⟩, .head go_region st1, s1, e1⟩
      · cases he
  | .seq x y => fun a h r he φ b tm ds w s k cs => by
    simp only [evCodeD] at he
    split at he
    · rename_i r1 hx
      obtain ⟨⟨z, a1, h1⟩, φ1, tm1, ds1, w1, hz, r1', s1, e1⟩ := evCodeD_ok hM hC hY x _ _ _ hx φ b tm ds w s (.code y :: k) cs
      obtain ⟨r2, h3, h4⟩ := bindD_mem he _ hz
      cases z with
      | normal =>
        simp only at h3 r1' s1 e1
        obtain ⟨u, φ2, tm2, ds2, w2, hu, r2', s2, e2⟩ := evCodeD_ok hM hC hY y _ _ _ h3 φ1 b tm1 ds1 w1 s1 k cs
        exact ⟨u, φ2, tm2, ds2, w2, h4 _ hu, .of_steps (.head go_seq r1') r2', s2, e1.trans e2⟩
      | exit i =>
        cases h3
        exact ⟨_, φ1, tm1, ds1, w1, h4 _ (List.mem_singleton.2 rfl), .pass (fun id _ => rfl) (by simp) (.of_steps (.one go_seq) r1'), s1, e1⟩
      | ret =>
        cases h3
        exact ⟨_, φ1, tm1, ds1, w1, h4 _ (List.mem_singleton.2 rfl), .pass (fun id _ => rfl) (by simp) (.of_steps (.one go_seq) r1'), s1, e1⟩
      | goto i => exact r1'.elim
    · cases he
  | .cond c x y => fun a h r he φ b tm ds w s k cs => by
    simp only [evCodeD] at he
    split at he
    · rename_i cc hc
      have hv := cO_con (ds := ds) hc s.glob s.act
      split at he
      · rename_i hb
        rw [hb] at hv
        generalize hev : Act.eval ⟨tm, ds⟩ c = v at hv
        cases hv
        obtain ⟨z, φ1, tm1, ds1, w1, hz, r1, s1, e1⟩ := evCodeD_ok hM hC hY x _ _ _ he φ b tm ds w s k cs
        exact ⟨z, φ1, tm1, ds1, w1, hz, .of_steps (.one (go_cond hev)) r1, s1, e1⟩
      · rename_i hb
        rw [hb] at hv
        generalize hev : Act.eval ⟨tm, ds⟩ c = v at hv
        cases hv
        obtain ⟨z, φ1, tm1, ds1, w1, hz, r1, s1, e1⟩ := evCodeD_ok hM hC hY y _ _ _ he φ b tm ds w s k cs
        exact ⟨z, φ1, tm1, ds1, w1, hz, .of_steps (.one (go_cond hev)) r1, s1, e1⟩
      · cases he
    · cases he
  | .block id c => fun a h r he φ b tm ds w s k cs => by
    simp only [evCodeD] at he
    split at he
    · rename_i r0 hx
      cases he
      obtain ⟨⟨z, a1, h1⟩, φ1, tm1, ds1, w1, hz, r1, s1, e1⟩ := evCodeD_ok hM hC hY c _ _ _ hx φ b tm ds w s (.inBlock id :: k) cs
      refine ⟨_, φ1, tm1, ds1, w1, List.mem_map.2 ⟨_, hz, rfl⟩, ?_⟩
      cases z with
      | normal => exact ⟨.head go_block (Steps.trans r1 (.one go_inBlock)), s1, e1⟩
      | exit i =>
        obtain ⟨k1, hk1, r1⟩ := r1
        simp only at s1 e1 ⊢
        cases hb : Nat.beq i id with
        | true =>
          have : i = id := Nat.eq_of_beq_eq_true hb
          subst this
          simp only [cond_true]
          exact ⟨.head go_block (r1.trans (.one (go_exit (by rw [hk1]; simp [exitTo])))), s1, e1⟩
        | false =>
          have hne : id ≠ i := fun e => by subst e; rw [Nat.beq_refl] at hb; cases hb
          simp only [cond_false]
          exact ⟨⟨k1, by rw [hk1]; simp [exitTo, hne], .head go_block r1⟩, s1, e1⟩
      | ret => exact ⟨.of_steps (.one go_block) (.pass (fun id e => by cases e) (by simp) r1), s1, e1⟩
      | goto l => exact r1.elim
    · cases he
  | .loop c => fun a h r he φ b tm ds w s k cs => by
    simp only [evCodeD] at he
    obtain ⟨z, φ1, tm1, ds1, w1, hz, r1, s1, e1⟩ := evLoopD_ok (evCodeD_ok hM hC hY c) lf _ _ _ he φ b tm ds w s k cs
    exact ⟨z, φ1, tm1, ds1, w1, hz, .of_steps (.one go_loop) r1, s1, e1⟩
  | .scope c => fun a h r he φ b tm ds w s k cs => by
    simp only [evCodeD] at he
    split at he
    · rename_i r0 hx
      cases he
      obtain ⟨⟨z, a1, h1⟩, φ1, tm1, ds1, w1, hz, r1, s1, e1⟩ := evCodeD_ok hM hC hY c _ _ _ hx φ b tm ds w s (.inScope c :: k) cs
      refine ⟨_, φ1, tm1, ds1, w1, hz, ?_, s1, e1⟩
      cases z with
      | normal => exact .head go_scope (Steps.trans r1 (.one go_inScope))
      | exit i => exact .of_steps (.one go_scope) (.pass (fun id _ => rfl) (by simp) r1)
      | ret => exact .of_steps (.one go_scope) (.pass (fun id _ => rfl) (by simp) r1)
      | goto l => exact r1.elim
    · cases he
  | .rangeFunc f params assign body => fun a h r he => by
    simp only [evCodeD] at he
    split at he
    · rename_i cc hc
      exact opGoD_ok hC hc _ _ _ he
    · cases he

end Go.Dr
