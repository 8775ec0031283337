/-
  A function's code: the abstract run is the machine's. Frames in the midst of a run, and the operations of a region.
-/
import Derived.Test.YthkoheaklmgonaaDoorDrOps14
namespace Go.Dr
open Go.RowKit

variable {P : Program} {B : Nat} {w0 w w' : World} {φ : Phi} {h h' : AH}

/-- a frame in the midst of a run -/
def mk (b : Frame) (tm : Array Value) (ds : List Deferred) (todo : List Item) : Frame :=
  { fn := b.fn, tmps := tm, todo, defers := ds, mode := .run, kind := b.kind, roundOf := b.roundOf }

theorem mk_eval (b : Frame) (tm : Array Value) (ds : List Deferred) (todo : List Item) : (mk b tm ds todo).eval = Act.eval ⟨tm, ds⟩ := by
  funext x; cases x <;> rfl

def putT (tm : Array Value) (d : Option Tmp) (v : Value) : Array Value :=
  match d with
  | some d => tm.setIfInBounds d v
  | none => tm

theorem ActRel.put {a : AAct} {tm : Array Value} {v : AV} {v' : Value} (hA : ActRel φ a tm) (d : Option Tmp) (hv : Con φ v v') : ActRel φ (a.put d v) (putT tm d v') := by
  cases d with
  | none => exact hA
  | some d =>
    unfold AAct.put putT
    simp only
    cases hb : Nat.blt d a.n with
    | false =>
      have hd : ¬ d < a.n := fun e => by
        have e2 : Nat.blt d a.n = true := Nat.blt_eq.symm ▸ e
        rw [e2] at hb; cases hb
      simp only [cond_false]
      have : tm.setIfInBounds d v' = tm := by
        apply Array.ext
        · simp
        · intro i h1 h2
          rw [Array.getElem_setIfInBounds]
          split
          · rename_i e; subst e; exact absurd (by rw [← hA.size]; exact h2) hd
          · rfl
      rw [this]; exact hA
    | true =>
      simp only [cond_true]
      have hd : d < a.n := Nat.blt_eq ▸ hb
      refine ⟨by simp only [Array.size_setIfInBounds]; exact hA.size, fun i => ?_⟩
      simp only [AAct.val, PT.get_set]
      by_cases hi : i = d
      · subst hi
        rw [if_pos rfl]
        simp only [Array.getD_eq_getD_getElem?, Array.getElem?_setIfInBounds_self_of_lt (by rw [hA.size]; exact hd), Option.getD_some]
        exact hv
      · rw [if_neg hi]
        have := hA.val i
        simp only [AAct.val] at this
        simp only [Array.getD_eq_getD_getElem?, Array.getElem?_setIfInBounds_ne (fun e => hi e.symm)] at this ⊢
        exact this

inductive DefsR (φ : Phi) : List ADef → List Deferred → Prop
  | nil : DefsR φ [] []
  | cons {d : ADef} {d' : Deferred} {l : List ADef} {l' : List Deferred} (h : DefR φ d d') (t : DefsR φ l l') : DefsR φ (d :: l) (d' :: l')

theorem DefsR.mono {φ ψ : Phi} (hle : φ.le ψ) {l : List ADef} {l' : List Deferred} (h : DefsR φ l l') : DefsR ψ l l' := by
  induction h with
  | nil => exact .nil
  | cons h _ ih => exact .cons (h.mono hle) ih

/-- a frame's state against the abstract one -/
structure St (P : Program) (B : Nat) (w0 : World) (φ : Phi) (a : AAct) (h : AH) (rd : Bool) (tm : Array Value) (ds : List Deferred) (w : World) : Prop where
  act : ActRel φ a tm
  defs : DefsR φ a.ds ds
  rel : Rel B w0 φ h w
  glob : GlobRel P φ
  rd : a.rd = rd

theorem AAct.put_ds (a : AAct) (d : Option Tmp) (v : AV) : (a.put d v).ds = a.ds ∧ (a.put d v).rd = a.rd ∧ (a.put d v).n = a.n := by
  unfold AAct.put; split
  · cases Nat.blt _ _ <;> exact ⟨rfl, rfl, rfl⟩
  · exact ⟨rfl, rfl, rfl⟩

theorem St.put {a : AAct} {rd : Bool} {tm : Array Value} {ds : List Deferred} (s : St P B w0 φ a h rd tm ds w) {φ' : Phi} {v : AV} {v' : Value} (hle : φ.le φ') (hv : Con φ' v v') (hR : Rel B w0 φ' h' w') (d : Option Tmp) :
    St P B w0 φ' (a.put d v) h' rd (putT tm d v') ds w' :=
  ⟨(s.act.mono hle).put d hv, by rw [(a.put_ds d v).1]; exact s.defs.mono hle, hR, s.glob.mono hle, by rw [(a.put_ds d v).2.1]; exact s.rd⟩

/-- a call, run from any frame -/
def CallsK (P : Program) (kind : CallKind) (f : FuncId) (args : Array Value) (w : World) (R : Value → World → Prop) : Prop :=
  ∀ cs, ∃ v w' fr fn, R v w' ∧ Steps P (lone (Frame.enter P f args kind) cs w) (lone fr cs w') ∧
    fr.fn = f ∧ fr.mode = .returning ∧ fr.defers = [] ∧ fr.kind = kind ∧ P.funcs[fr.fn]? = some fn ∧ (results fn fr.tmps).run P w' = .ok v w'

def CallOk (P : Program) (B : Nat) (w0 : World) (call : CallF) : Prop :=
  ∀ f args h v h', call (.fn f) args h = .ok (v, h') → ∀ φ w args', ConL φ args args' → GlobRel P φ → Rel B w0 φ h w →
    (∀ w, (callFunc f ⟨args'⟩).run P w = .ok (.enter f ⟨args'⟩) w) ∧
    CallsK P .normal f ⟨args'⟩ w (fun v' w' => ∃ φ', Con φ' v v' ∧ Rel B w0 φ' h' w' ∧ Ext φ h φ' h')

/-- the same, of deferred calls -/
def DefOk (P : Program) (B : Nat) (w0 : World) (call : CallF) : Prop :=
  ∀ f args h v h', call (.fn f) args h = .ok (v, h') → ∀ φ w args', ConL φ args args' → GlobRel P φ → Rel B w0 φ h w →
    (∀ w, (callFunc f ⟨args'⟩).run P w = .ok (.enter f ⟨args'⟩) w) ∧
    CallsK P .deferred f ⟨args'⟩ w (fun v' w' => ∃ φ', Con φ' v v' ∧ Rel B w0 φ' h' w' ∧ Ext φ h φ' h')

def YieldOk (P : Program) (B : Nat) (w0 : World) (call : CallF) : Prop :=
  ∀ l args h v h', call (.yield l) args h = .ok (v, h') → ∀ φ w p args', φ l = some p → ConL φ args args' → GlobRel P φ → Rel B w0 φ h w →
    ∃ fn tmps assign body, (Instr.yield p.blk ⟨args'⟩).run P w = .ok (.round p.blk fn tmps assign body) w ∧
      ∀ c cs, ∃ v' φ' w', Steps P (lone (Frame.round p.blk fn tmps assign body .normal) (c :: cs) w) (lone (c.finish v') cs w') ∧ Con φ' v v' ∧ Rel B w0 φ' h' w' ∧ Ext φ h φ' h'

section moves
variable {b : Frame} {tm : Array Value} {ds : List Deferred} {k : List Item} {cs : List Frame} {ops : Array Oper}

theorem go_skip : step P (lone (mk b tm ds (.code .skip :: k)) cs w) = .next (lone (mk b tm ds k) cs w) := step_lone_go (by simp [stepG, stepG.exec, mk])
theorem go_label {l : Nat} : step P (lone (mk b tm ds (.code (.label l) :: k)) cs w) = .next (lone (mk b tm ds k) cs w) := step_lone_go (by simp [stepG, stepG.exec, mk])
theorem go_inBlock {id : Nat} : step P (lone (mk b tm ds (.inBlock id :: k)) cs w) = .next (lone (mk b tm ds k) cs w) := step_lone_go (by simp [stepG, stepG.exec, mk])
theorem go_inScope {c : Code} : step P (lone (mk b tm ds (.inScope c :: k)) cs w) = .next (lone (mk b tm ds k) cs w) := step_lone_go (by simp [stepG, stepG.exec, mk])
theorem go_seq {x y : Code} : step P (lone (mk b tm ds (.code (.seq x y) :: k)) cs w) = .next (lone (mk b tm ds (.code x :: .code y :: k)) cs w) := step_lone_go (by simp [stepG, stepG.exec, mk])
theorem go_cond {c : Operand} {x y : Code} {t : Bool} (hc : Act.eval ⟨tm, ds⟩ c = .bool t) :
    step P (lone (mk b tm ds (.code (.cond c x y) :: k)) cs w) = .next (lone (mk b tm ds (.code (if t then x else y) :: k)) cs w) :=
  step_lone_go (by
    have := congrFun (mk_eval b tm ds (.code (.cond c x y) :: k)) c
    simp only [mk] at this
    simp [stepG, stepG.exec, mk, this, hc])
theorem go_block {id : Nat} {c : Code} : step P (lone (mk b tm ds (.code (.block id c) :: k)) cs w) = .next (lone (mk b tm ds (.code c :: .inBlock id :: k)) cs w) := step_lone_go (by simp [stepG, stepG.exec, mk])
theorem go_scope {c : Code} : step P (lone (mk b tm ds (.code (.scope c) :: k)) cs w) = .next (lone (mk b tm ds (.code c :: .inScope c :: k)) cs w) := step_lone_go (by simp [stepG, stepG.exec, mk])
theorem go_loop {c : Code} : step P (lone (mk b tm ds (.code (.loop c) :: k)) cs w) = .next (lone (mk b tm ds (.code c :: .inLoop c :: k)) cs w) := step_lone_go (by simp [stepG, stepG.exec, mk])
theorem go_inLoop {c : Code} : step P (lone (mk b tm ds (.inLoop c :: k)) cs w) = .next (lone (mk b tm ds (.code c :: .inLoop c :: k)) cs w) := step_lone_go (by simp [stepG, stepG.exec, mk])
theorem go_exit {id : Nat} {k' : List Item} (hk : exitTo id k = some k') : step P (lone (mk b tm ds (.code (.exit id) :: k)) cs w) = .next (lone (mk b tm ds k') cs w) := step_lone_go (by simp [stepG, stepG.exec, mk, hk])
theorem go_region {id : Nat} : step P (lone (mk b tm ds (.code (.region id ops false) :: k)) cs w) = .next (lone (mk b tm ds (.inRegion ops (List.range ops.size) :: k)) cs w) := step_lone_go (by simp [stepG, stepG.exec, mk])
theorem go_region_draw {id : Nat} : step P (lone (mk b tm ds (.code (.region id ops true) :: k)) cs w) =
    .next (lone (mk b tm ds (.inRegion ops (Region.schedule (P.follows .mixedOrders) ops (w.tape w.drawn (.order b.fn id))) :: k)) cs w.drew) := step_lone_go (by simp [stepG, stepG.exec, mk, choose, Sem.run, Question.forced, Question.cut])
theorem go_regionEnd : step P (lone (mk b tm ds (.inRegion ops [] :: k)) cs w) = .next (lone (mk b tm ds k) cs w) := step_lone_go (by simp [stepG, stepG.exec, mk])
theorem go_ret (hb : b.roundOf = none) : step P (lone (mk b tm ds (.code .ret :: k)) cs w) = .next (lone { mk b tm ds (.code .ret :: k) with mode := .returning } cs w) := step_lone_go (by simp [stepG, stepG.exec, mk, hb])
theorem go_end (hb : b.roundOf = none) : step P (lone (mk b tm ds []) cs w) = .next (lone { mk b tm ds [] with mode := .returning } cs w) := step_lone_go (by simp [stepG, stepG.exec, mk, hb])

theorem mk_finish {i : Nat} {rest : List Nat} {o : Oper} (ho : ops[i]? = some o) (v : Value) :
    (mk b tm ds (.inRegion ops (i :: rest) :: k)).finish v = mk b (putT tm o.dst v) ds (.inRegion ops rest :: k) := by
  cases hd : o.dst <;> simp [Frame.finish, mk, putT, ho, hd]

theorem go_unwanted {i : Nat} {rest : List Nat} {o : Oper} (ho : ops[i]? = some o) (hw : Region.wanted o (yielded ops tm) = false) :
    step P (lone (mk b tm ds (.inRegion ops (i :: rest) :: k)) cs w) = .next (lone (mk b (putT tm o.dst undef) ds (.inRegion ops rest :: k)) cs w) := by
  rw [← mk_finish ho]
  exact step_lone_go (by simp only [mk]; simp [stepG, stepG.exec, ho, hw])

theorem stepG_oper {i : Nat} {rest : List Nat} {o : Oper} (ho : ops[i]? = some o) (hw : Region.wanted o (yielded ops tm) = true) (hd : b.roundOf = none ∨ ∀ c, o.op ≠ .defer c) :
    stepG P true { frame := mk b tm ds (.inRegion ops (i :: rest) :: k), callers := cs, status := .running, dying := none } w =
      stepG.apply P true (mk b tm ds (.inRegion ops (i :: rest) :: k)) cs none (execOp (Act.eval ⟨tm, ds⟩) o) w := by
  have he := mk_eval b tm ds (.inRegion ops (i :: rest) :: k)
  simp only [mk] at he
  simp only [stepG, stepG.exec, mk, ho, hw, Option.map_some, Option.getD_some, if_true, stepG.oper, Frame.oper?, he]
  split
  · rename_i l c h1 h2
    rcases hd with hd | hd
    · rw [hd] at h1; cases h1
    · exact absurd h2 (hd c)
  · rfl

variable {i : Nat} {rest : List Nat} {o : Oper} (ho : ops[i]? = some o) (hw : Region.wanted o (yielded ops tm) = true)
include ho hw

theorem go_value {v : Value} (hd : b.roundOf = none ∨ ∀ c, o.op ≠ .defer c) (hr : (execOp (Act.eval ⟨tm, ds⟩) o).run P w = .ok (.value v) w') :
    step P (lone (mk b tm ds (.inRegion ops (i :: rest) :: k)) cs w) = .next (lone (mk b (putT tm o.dst v) ds (.inRegion ops rest :: k)) cs w') := by
  rw [← mk_finish ho]
  exact step_lone_go (by rw [stepG_oper ho hw hd]; simp [stepG.apply, hr])

theorem go_opskip (hd : b.roundOf = none ∨ ∀ c, o.op ≠ .defer c) (hr : (execOp (Act.eval ⟨tm, ds⟩) o).run P w = .ok .skip w') :
    step P (lone (mk b tm ds (.inRegion ops (i :: rest) :: k)) cs w) = .next (lone (mk b (putT tm o.dst undef) ds (.inRegion ops rest :: k)) cs w') := by
  rw [← mk_finish ho]
  exact step_lone_go (by rw [stepG_oper ho hw hd]; simp [stepG.apply, hr])

theorem go_enter {f : FuncId} {args : Array Value} (hd : b.roundOf = none ∨ ∀ c, o.op ≠ .defer c) (hr : (execOp (Act.eval ⟨tm, ds⟩) o).run P w = .ok (.enter f args) w') :
    step P (lone (mk b tm ds (.inRegion ops (i :: rest) :: k)) cs w) = .next (lone (Frame.enter P f args .normal) (mk b tm ds (.inRegion ops (i :: rest) :: k) :: cs) w') :=
  step_lone_go (by rw [stepG_oper ho hw hd]; simp [stepG.apply, hr, mk])

theorem go_round {l : Nat} {f : FuncId} {tmps : Array Value} {assign body : Code} (hd : b.roundOf = none ∨ ∀ c, o.op ≠ .defer c) (hr : (execOp (Act.eval ⟨tm, ds⟩) o).run P w = .ok (.round l f tmps assign body) w') :
    step P (lone (mk b tm ds (.inRegion ops (i :: rest) :: k)) cs w) = .next (lone (Frame.round l f tmps assign body .normal) (mk b tm ds (.inRegion ops (i :: rest) :: k) :: cs) w') :=
  step_lone_go (by rw [stepG_oper ho hw hd]; simp [stepG.apply, hr, mk])

theorem go_defer {d : Deferred} (hb : b.roundOf = none) (hr : (execOp (Act.eval ⟨tm, ds⟩) o).run P w = .ok (.defer d) w') :
    step P (lone (mk b tm ds (.inRegion ops (i :: rest) :: k)) cs w) = .next (lone (mk b (putT tm o.dst undef) (d :: ds) (.inRegion ops rest :: k)) cs w') := by
  rw [← mk_finish ho]
  exact step_lone_go (by rw [stepG_oper ho hw (.inl hb)]; simp [stepG.apply, hr, mk])

end moves

/-- the end of a call is the caller's next -/
theorem go_leave {fr c : Frame} {cs : List Frame} {v : Value} {fn : Func} (hm : fr.mode = .returning) (hd : fr.defers = []) (hk : fr.kind = .normal)
    (hf : P.funcs[fr.fn]? = some fn) (hr : (results fn fr.tmps).run P w = .ok v w) : step P (lone fr (c :: cs) w) = .next (lone (c.finish v) cs w) :=
  step_lone_go (by simp [stepG, unwind, doReturn, hm, hd, hk, hf, hr])

theorem comp_defer {o : Oper} {c : COp} {call : Call} {a : AAct} {n : AN} (ho : o.op = .defer call) (hc : comp P o = .ok c) (hr : evC P c a h = .ok (n, h')) : ∃ d, n = .defer d := by
  unfold comp at hc
  rw [ho] at hc
  simp only at hc
  split at hc
  · obtain ⟨g, hg, hc⟩ := with1_ok hc
    split at hc
    · cases hc
      simp only [evC] at hr
      unfold opDefer at hr
      split at hr
      · split at hr
        · cases hr; exact ⟨_, rfl⟩
        · cases hr
      · cases hr
    · cases hc
  · cases hc

theorem undef_con : Con φ aundef undef := .tuple .nil

theorem wanted_ok {ops : Array Oper} {o : Oper} {a : AAct} {tm : Array Value} {b : Bool} (hA : ActRel φ a tm) (hw : wantedA ops o a = .ok b) : Region.wanted o (yielded ops tm) = b := by
  unfold wantedA at hw
  unfold Region.wanted
  split at hw
  · rename_i hg; cases hw; rw [hg]
  · rename_i j want hg
    rw [hg]
    simp only [yielded]
    split at hw
    · rename_i d hd
      rw [hd]
      have hv := hA.val d
      simp only [Option.bind_some]
      rw [Array.getD_eq_getD_getElem?] at hv
      generalize a.val d = av at hv hw
      split at hw
      · rename_i x; cases hw
        cases he : tm[d]? with
        | none => rw [he] at hv; cases hv
        | some v =>
          rw [he] at hv
          simp only [Option.getD_some] at hv
          cases hv
          simp
      · cases hw
      · rename_i x h1 h2; cases hw
        cases he : tm[d]? with
        | none => rfl
        | some v =>
          rw [he] at hv
          simp only [Option.getD_some] at hv
          split
          · rename_i y hy
            cases hy
            cases hv
            · exact absurd rfl (h1 _)
            · exact absurd rfl (h2 _)
          · rfl
    · rename_i hd; cases hw
      rw [hd]; rfl

/-- one operation -/
theorem evOper_ok {call : CallF} (hC : CallOk P B w0 call) (hY : YieldOk P B w0 call) {o : Oper} {a a' : AAct} (he : evOper P call o a h = .ok (a', h'))
    {b : Frame} {tm : Array Value} {ds : List Deferred} (s : St P B w0 φ a h b.roundOf.isSome tm ds w) {ops : Array Oper} {i : Nat} {rest : List Nat} (ho : ops[i]? = some o)
    (hw : Region.wanted o (yielded ops tm) = true) (k : List Item) (cs : List Frame) :
    ∃ φ' tm' ds' w', Steps P (lone (mk b tm ds (.inRegion ops (i :: rest) :: k)) cs w) (lone (mk b tm' ds' (.inRegion ops rest :: k)) cs w') ∧
      St P B w0 φ' a' h' b.roundOf.isSome tm' ds' w' ∧ Ext φ h φ' h' := by
  unfold evOper at he
  split at he
  · rename_i c hc
    split at he
    · rename_i n h1 hr
      have hs := evC_sound (ds := ds) hc hr s.glob s.act s.rel
      have hd : (∀ d, n ≠ .defer d) → b.roundOf = none ∨ ∀ c, o.op ≠ .defer c := fun hn => .inr fun call e => by
        obtain ⟨d, e⟩ := comp_defer e hc hr
        exact hn d e
      split at he
      · rename_i v
        rw [forceV_eq] at he; cases he
        obtain ⟨v', w', φ', h2, h3, h4, h5⟩ := hs
        exact ⟨φ', _, ds, w', .one (go_value ho hw (hd (by simp)) h2), s.put h5.le h3 h4 _, h5⟩
      · cases he
        obtain ⟨w', h2, h4, h5⟩ := hs
        exact ⟨φ, _, ds, w', .one (go_opskip ho hw (hd (by simp)) h2), s.put (.refl _) undef_con h4 _, h5⟩
      · rename_i d
        cases hrd : a.rd with
        | true => rw [hrd] at he; cases he
        | false =>
          rw [hrd] at he; cases he
          obtain ⟨rfl, d', hd', h2⟩ := hs
          have hb : b.roundOf = none := by have := s.rd; rw [hrd] at this; cases hb : b.roundOf with
            | none => rfl
            | some l => rw [hb] at this; cases this
          refine ⟨φ, _, _, w, .one (go_defer ho hw hb h2), ?_, .refl _ _⟩
          have s2 : St P B w0 φ (⟨a.n, a.ts, d :: a.ds, false⟩ : AAct) h' b.roundOf.isSome tm (d' :: ds) w := ⟨⟨s.act.size, s.act.val⟩, .cons hd' s.defs, s.rel, s.glob, by rw [hb]; rfl⟩
          exact s2.put (.refl _) undef_con s.rel _
      · rename_i f args
        obtain ⟨rfl, args', hargs, h2⟩ := hs
        split at he
        · rename_i v h3 hcall
          rw [forceV_eq] at he; cases he
          obtain ⟨hen, hK⟩ := hC _ _ _ _ _ hcall φ w args' hargs s.glob s.rel
          obtain ⟨v', w', fr, fn, ⟨φ', c1, c2, c3⟩, hst, e1, e2, e3, e4, e5, e6⟩ := hK (mk b tm ds (.inRegion ops (i :: rest) :: k) :: cs)
          rw [hen] at h2
          refine ⟨φ', _, ds, w', .head (go_enter ho hw (hd (by simp)) h2) (hst.trans (.one ?_)), s.put c3.le c1 c2 _, c3⟩
          rw [← mk_finish ho]
          exact go_leave e2 e3 e4 e5 e6
        · cases he
      · rename_i f args
        obtain ⟨rfl, p, args', hp, hargs, h2⟩ := hs
        split at he
        · rename_i v h3 hcall
          rw [forceV_eq] at he; cases he
          obtain ⟨fn, tmps, assign, body, hy, hK⟩ := hY _ _ _ _ _ hcall φ w p args' hp hargs s.glob s.rel
          obtain ⟨v', φ', w', hst, c1, c2, c3⟩ := hK (mk b tm ds (.inRegion ops (i :: rest) :: k)) cs
          rw [hy] at h2
          refine ⟨φ', _, ds, w', .head (go_round ho hw (hd (by simp)) h2) ?_, s.put c3.le c1 c2 _, c3⟩
          rw [← mk_finish ho]
          exact hst
        · cases he
    · cases he
  · cases he

end Go.Dr
