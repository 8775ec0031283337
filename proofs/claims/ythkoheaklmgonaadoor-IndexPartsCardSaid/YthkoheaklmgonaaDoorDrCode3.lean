/-
  A function's code: the abstract run is the machine's. Code joined; deferred calls; results; rounds; calls.
-/
import Derived.Test.YthkoheaklmgonaaDoorDrCode2
namespace Go.Dr
open Go.RowKit

variable {P : Program} {B : Nat} {w0 w w' : World} {φ : Phi} {h h' : AH}

theorem evCode_ok {call : CallF} {lf : Nat} (hM : P.follows .mixedOrders = true) (hC : CallOk P B w0 call) (hY : YieldOk P B w0 call) (hD : DrawOk P B w0 call) :
    ∀ c : Code, CodeOk P B w0 (evCode P call lf c) (.code c)
  | .skip => fun a h x a' h' he φ b tm ds w s k cs => by cases he; exact ⟨φ, tm, ds, w, .one go_skip, s, .refl _ _⟩
  | .label _ => fun a h x a' h' he φ b tm ds w s k cs => by cases he; exact ⟨φ, tm, ds, w, .one go_label, s, .refl _ _⟩
  | .exit id => fun a h x a' h' he φ b tm ds w s k cs => by cases he; exact ⟨φ, tm, ds, w, ⟨k, rfl, .refl _ _⟩, s, .refl _ _⟩
  | .ret => fun a h x a' h' he φ b tm ds w s k cs => by cases he; exact ⟨φ, tm, ds, w, ⟨k, .refl _ _⟩, s, .refl _ _⟩
  | .goto _ => fun a h x a' h' he => by cases he
  | .refuse _ => fun a h x a' h' he => by cases he
  | .region id ops draw => fun a h x a' h' he φ b tm ds w s k cs => by
    simp only [evCode] at he
    cases draw with
    | true =>
      simp only [cond_true] at he
      split at he
      · rename_i a1 h1 h2
        cases he
        obtain ⟨φ1, tm1, ds1, w1, st1, s1, e1⟩ := hD _ _ _ _ _ h2 φ b tm ds w.drew ⟨s.act, s.defs, s.rel.drew, s.glob, s.rd⟩ (w.tape w.drawn (.order b.fn id)) k cs
        refine ⟨φ1, tm1, ds1, w1, .head go_region_draw ?_, s1, e1⟩
        rw [hM]
        exact st1
      · cases he
    | false =>
      simp only [cond_false] at he
      split at he
      · rename_i a1 h1 h2
        cases he
        have hl : (List.range ops.size).map (ops[·]?) = ops.toList.map some := by
          apply List.ext_getElem
          · simp
          · intro i h1 h2
            simp at h1
            simp [h1]
        obtain ⟨φ1, tm1, ds1, w1, st1, s1, e1⟩ := evOps_ok hC hY k cs _ _ _ _ _ _ _ _ _ _ hl h2 s
        exact ⟨φ1, tm1, ds1, w1, .head go_region st1, s1, e1⟩
      · cases he
  | .seq x y => fun a h x' a' h' he φ b tm ds w s k cs => by
    simp only [evCode] at he
    split at he
    · rename_i a1 h1 hx
      obtain ⟨φ1, tm1, ds1, w1, r1, s1, e1⟩ := evCode_ok hM hC hY hD x _ _ _ _ _ hx φ b tm ds w s (.code y :: k) cs
      obtain ⟨φ2, tm2, ds2, w2, r2, s2, e2⟩ := evCode_ok hM hC hY hD y _ _ _ _ _ he φ1 b tm1 ds1 w1 s1 k cs
      exact ⟨φ2, tm2, ds2, w2, .of_steps (.head go_seq r1) r2, s2, e1.trans e2⟩
    · rename_i hn
      obtain ⟨φ1, tm1, ds1, w1, r1, s1, e1⟩ := evCode_ok hM hC hY hD x _ _ _ _ _ he φ b tm ds w s (.code y :: k) cs
      refine ⟨φ1, tm1, ds1, w1, .pass (fun id _ => rfl) (fun e => ?_) (.of_steps (.one go_seq) r1), s1, e1⟩
      subst e
      exact hn _ _ he
  | .cond c x y => fun a h x' a' h' he φ b tm ds w s k cs => by
    simp only [evCode] at he
    split at he
    · rename_i cc hc
      have hv := cO_con (ds := ds) hc s.glob s.act
      unfold evCond at he
      split at he
      · rename_i hb
        rw [hb] at hv
        generalize hev : Act.eval ⟨tm, ds⟩ c = v at hv
        cases hv
        obtain ⟨φ1, tm1, ds1, w1, r1, s1, e1⟩ := evCode_ok hM hC hY hD x _ _ _ _ _ he φ b tm ds w s k cs
        exact ⟨φ1, tm1, ds1, w1, .of_steps (.one (go_cond hev)) r1, s1, e1⟩
      · rename_i hb
        rw [hb] at hv
        generalize hev : Act.eval ⟨tm, ds⟩ c = v at hv
        cases hv
        obtain ⟨φ1, tm1, ds1, w1, r1, s1, e1⟩ := evCode_ok hM hC hY hD y _ _ _ _ _ he φ b tm ds w s k cs
        exact ⟨φ1, tm1, ds1, w1, .of_steps (.one (go_cond hev)) r1, s1, e1⟩
      · cases he
    · cases he
  | .block id c => fun a h x' a' h' he φ b tm ds w s k cs => by
    simp only [evCode] at he
    split at he
    · rename_i i a1 h1 hx
      obtain ⟨φ1, tm1, ds1, w1, ⟨k1, hk1, r1⟩, s1, e1⟩ := evCode_ok hM hC hY hD c _ _ _ _ _ hx φ b tm ds w s (.inBlock id :: k) cs
      cases hb : Nat.beq i id with
      | true =>
        rw [hb] at he
        cases he
        have : i = id := Nat.eq_of_beq_eq_true hb
        subst this
        exact ⟨φ1, tm1, ds1, w1, .head go_block (r1.trans (.one (go_exit (by rw [hk1]; simp [exitTo])))), s1, e1⟩
      | false =>
        rw [hb] at he
        cases he
        have hne : id ≠ i := fun e => by subst e; rw [Nat.beq_refl] at hb; cases hb
        exact ⟨φ1, tm1, ds1, w1, ⟨k1, by rw [hk1]; simp [exitTo, hne], .head go_block r1⟩, s1, e1⟩
    · rename_i hn
      obtain ⟨φ1, tm1, ds1, w1, r1, s1, e1⟩ := evCode_ok hM hC hY hD c _ _ _ _ _ he φ b tm ds w s (.inBlock id :: k) cs
      cases x' with
      | normal => exact ⟨φ1, tm1, ds1, w1, .head go_block (Steps.trans r1 (.one go_inBlock)), s1, e1⟩
      | exit i => exact absurd he (hn _ _ _)
      | ret => exact ⟨φ1, tm1, ds1, w1, .of_steps (.one go_block) (.pass (fun id e => by cases e) (by simp) r1), s1, e1⟩
      | goto l => exact r1.elim
  | .loop c => fun a h x' a' h' he φ b tm ds w s k cs => by
    simp only [evCode] at he
    obtain ⟨φ1, tm1, ds1, w1, r1, s1, e1⟩ := evLoop_ok (evCode_ok hM hC hY hD c) lf _ _ _ _ _ he φ b tm ds w s k cs
    exact ⟨φ1, tm1, ds1, w1, .of_steps (.one go_loop) r1, s1, e1⟩
  | .scope c => fun a h x' a' h' he φ b tm ds w s k cs => by
    simp only [evCode] at he
    split at he
    · cases he
    · rename_i hn
      obtain ⟨φ1, tm1, ds1, w1, r1, s1, e1⟩ := evCode_ok hM hC hY hD c _ _ _ _ _ he φ b tm ds w s (.inScope c :: k) cs
      cases x' with
      | normal => exact ⟨φ1, tm1, ds1, w1, .head go_scope (Steps.trans r1 (.one go_inScope)), s1, e1⟩
      | exit i => exact ⟨φ1, tm1, ds1, w1, .of_steps (.one go_scope) (.pass (fun id _ => rfl) (by simp) r1), s1, e1⟩
      | ret => exact ⟨φ1, tm1, ds1, w1, .of_steps (.one go_scope) (.pass (fun id _ => rfl) (by simp) r1), s1, e1⟩
      | goto l => exact r1.elim
  | .rangeFunc f params assign body => fun a h x' a' h' he => by
    simp only [evCode] at he
    split at he
    · rename_i cc hc
      exact opGo_ok hC hc _ _ _ _ _ he
    · cases he

/-- results -/
def resF (tm : Array Value) : ResultVar → Sem Value
  | .tmp t => pure (tm.getD t undef)
  | .cell a t => do loadVar t (← asAddr (tm.getD a undef))

theorem resultsA_ok {a : AAct} {tm : Array Value} (hA : ActRel φ a tm) (hR : Rel B w0 φ h w) : ∀ {l : List ResultVar} {vs : List AV}, resultsA P h a l = .ok vs →
    ∃ vs', (l.mapM (resF tm)).run P w = .ok vs' w ∧ ConL φ vs vs'
  | [], vs, he => by cases he; exact ⟨[], by simp, .nil⟩
  | .tmp t :: l, vs, he => by
    simp only [resultsA] at he
    split at he
    · rename_i r hr; cases he
      obtain ⟨vs', h1, h2⟩ := resultsA_ok hA hR hr
      refine ⟨_ :: vs', ?_, .cons (hA.val t) h2⟩
      simp only [List.mapM_cons, Sem.run_bind, h1, resF, Sem.run_pure, Result.andThen_ok]
    · cases he
  | .cell p t :: l, vs, he => by
    simp only [resultsA] at he
    split at he
    · rename_i id off hv
      have hc := hA.val p
      rw [hv] at hc
      generalize hev : tm.getD p undef = v at hc
      cases hc with
      | @ptr _ _ q hp =>
        split at he
        · rename_i n hagg hs
          split at he
          · rename_i v r hl hr; cases he
            obtain ⟨vs', h1, h2⟩ := resultsA_ok hA hR hr
            obtain ⟨c, c1, c2, c3⟩ := loadN_ok hl hR hp
            refine ⟨.agg ⟨c⟩ :: vs', ?_, .cons (.agg c3) h2⟩
            have : (resF tm (.cell p t)).run P w = .ok (.agg ⟨c⟩) w := by
              simp only [resF, hev, Sem.run_bind, Sem.run_pure, Result.andThen_ok, asAddr, loadVar, run_aggT hagg, if_true, run_szOf hs, run_loadCells_at c1 c2]
            simp only [List.mapM_cons, Sem.run_bind, this, Result.andThen_ok, h1, Sem.run_pure]
          · cases he
        · rename_i hagg
          split at he
          · rename_i v r hl hr; cases he
            obtain ⟨vs', h1, h2⟩ := resultsA_ok hA hR hr
            obtain ⟨c, c1, c2⟩ := load1_ok hl hR hp
            refine ⟨c :: vs', ?_, .cons c2 h2⟩
            have : (resF tm (.cell p t)).run P w = .ok c w := by
              simp only [resF, hev, Sem.run_bind, Sem.run_pure, Result.andThen_ok, asAddr, loadVar, run_aggT hagg, Bool.false_eq_true, if_false, run_load_at c1]
            simp only [List.mapM_cons, Sem.run_bind, this, Result.andThen_ok, h1, Sem.run_pure]
          · cases he
        · cases he
    · cases he

theorem results_run {fn : Func} {a : AAct} {tm : Array Value} {vs : List AV} (hA : ActRel φ a tm) (hR : Rel B w0 φ h w) (he : resultsA P h a fn.results.toList = .ok vs) :
    ∃ v', (results fn tm).run P w = .ok v' w ∧ Con φ (oneOf vs) v' := by
  obtain ⟨vs', h1, h2⟩ := resultsA_ok hA hR he
  have hm : (fn.results.mapM (resF tm)).run P w = .ok ⟨vs'⟩ w := by
    rw [Array.mapM_eq_mapM_toList, Sem.run_map, h1]; rfl
  have hres : (results fn tm).run P w = ((fn.results.mapM (resF tm)).run P w).andThen fun vs w' => .ok (if h : vs.size = 1 then vs[0] else .tuple vs) w' := by
    unfold results
    rw [Sem.run_bind]
    rfl
  rw [hres, hm, Result.andThen_ok]
  refine ⟨_, rfl, ?_⟩
  cases h2 with
  | nil => exact .tuple .nil
  | cons c t =>
    cases t with
    | nil => exact c
    | cons c' t' => exact .tuple (.cons c (.cons c' t'))

/-! ### deferred calls -/

/-- a frame that is left -/
def lv (b : Frame) (tm : Array Value) (ds : List Deferred) (todo : List Item) : Frame := { mk b tm ds todo with mode := .returning }

theorem go_collected {b : Frame} {tm : Array Value} {ds : List Deferred} {todo : List Item} {cs : List Frame} {r : Nat} {args : Array Value} (hg : w.heap[r]? = some (.deferred (some []))) :
    step P (lone (lv b tm ({ target := .collected r, args } :: ds) todo) cs w) = .next (lone (lv b tm ds todo) cs (w.putObj r (.deferred none))) :=
  step_lone_go (by simp [stepG, unwind, lv, mk, Sem.runT_eq, run_takeDeferred hg])

theorem go_deferred {b : Frame} {tm : Array Value} {ds : List Deferred} {todo : List Item} {cs : List Frame} {f : FuncId} {captured args : Array Value}
    (hc : (callFunc f (args ++ captured)).run P w = .ok (.enter f (args ++ captured)) w) :
    step P (lone (lv b tm ({ target := .fn (.func f) captured, args } :: ds) todo) cs w) =
      .next (lone (Frame.enter P f (args ++ captured) .deferred) (lv b tm ds todo :: cs) w) :=
  step_lone_go (by simp [stepG, unwind, callDeferred, lv, mk, Sem.runT_eq, invoke, hc])

theorem go_leaveDeferred {fr c : Frame} {cs : List Frame} {v : Value} {fn : Func} (hm : fr.mode = .returning) (hd : fr.defers = []) (hk : fr.kind = .deferred) (hcm : c.mode = .returning)
    (hf : P.funcs[fr.fn]? = some fn) (hr : (results fn fr.tmps).run P w = .ok v w) : step P (lone fr (c :: cs) w) = .next (lone c cs w) :=
  step_lone_go (by simp [stepG, unwind, doReturn, hm, hd, hk, hf, hr, hcm])

theorem runDefers_ok {call : CallF} (hC : DefOk P B w0 call) {b : Frame} {tm : Array Value} {todo : List Item} {cs : List Frame} :
    ∀ (l : List ADef) (h h' : AH) (φ : Phi) (ds : List Deferred) (w : World), runDefers call l h = .ok h' → DefsR φ l ds → Rel B w0 φ h w → GlobRel P φ →
      ∃ φ' w', Steps P (lone (lv b tm ds todo) cs w) (lone (lv b tm [] todo) cs w') ∧ Rel B w0 φ' h' w' ∧ Ext φ h φ' h'
  | [], h, h', φ, ds, w, he, hd, hR, hG => by
    cases he; cases hd
    exact ⟨φ, w, .refl _ _, hR, .refl _ _⟩
  | d :: l, h, h', φ, ds, w, he, hd, hR, hG => by
    cases hd with
    | @cons _ d' _ ds hd1 hd2 =>
      simp only [runDefers] at he
      cases hd1 with
      | @collected id p hp =>
        simp only at he
        split at he
        · rename_i hg
          have ho : w.heap[p.blk]? = some (.deferred (some [])) := hR.obj _ _ _ hp hg
          have R1 := hR.putObj (O := .deferred none) (o' := .deferred none) hp hg rfl rfl (World.putObj_heap_same (Array.getElem?_eq_some_iff.1 ho).1)
          obtain ⟨φ2, w2, st, R2, X2⟩ := runDefers_ok hC (b := b) (tm := tm) (todo := todo) (cs := cs) l _ _ _ _ _ he hd2 R1 hG
          exact ⟨φ2, w2, .head (go_collected ho) st, R2, (Ext.write hp _).trans X2⟩
        · cases he
      | @call f c a c' a' hc ha =>
        simp only [callFn] at he
        split at he
        · rename_i v h2 hcall
          obtain ⟨hen, hK⟩ := hC _ _ _ _ _ hcall φ w _ (ha.append hc) hG hR
          have e : (⟨a' ++ c'⟩ : Array Value) = ⟨a'⟩ ++ ⟨c'⟩ := by simp
          rw [e] at hK hen
          obtain ⟨v', w3, fr, fn, ⟨φ3, c1, R3, X3⟩, hst, e1, e2, e3, e4, e5, e6⟩ := hK (lv b tm ds todo :: cs)
          obtain ⟨φ2, w2, st, R2, X2⟩ := runDefers_ok hC (b := b) (tm := tm) (todo := todo) (cs := cs) l _ _ _ _ _ he (hd2.mono X3.le) R3 (hG.mono X3.le)
          exact ⟨φ2, w2, .head (go_deferred (hen _)) (hst.trans (.head (go_leaveDeferred e2 e3 e4 rfl e5 e6) st)), R2, X3.trans X2⟩
        · cases he

end Go.Dr
