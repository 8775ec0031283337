/-
  Calls and rounds: the abstract run is the machine's.
-/
import Derived.Test.YthkoheaklmgonaaDoorDrCode3
namespace Go.Dr
open Go.RowKit

variable {P : Program} {B : Nat} {w0 w w' : World} {φ : Phi} {h h' : AH}

theorem laid_get : ∀ (l : List AV) (i : Nat) (t : PT AV) (j : Nat), (laid l i t).get j = if i ≤ j ∧ j < i + l.length then l[j - i]? else t.get j
  | [], i, t, j => by rw [if_neg (by simp only [List.length_nil]; omega)]; rfl
  | v :: l, i, t, j => by
    rw [laid, laid_get l (i + 1) _ j, PT.get_set, List.length_cons]
    by_cases hj : j = i
    · subst hj
      rw [if_neg (by omega), if_pos rfl, if_pos (by omega), Nat.sub_self]; rfl
    · by_cases h1 : i + 1 ≤ j ∧ j < i + 1 + l.length
      · rw [if_pos h1, if_pos (by omega), show j - i = (j - (i + 1)) + 1 from by omega]; rfl
      · rw [if_neg h1, if_neg hj, if_neg (by omega)]

theorem enter_act {args : List AV} {args' : List Value} {n : Nat} {ds : List ADef} {rd : Bool} (ha : ConL φ args args') (hn : args.length ≤ n) :
    ActRel φ ⟨n, laid args 0 .leaf, ds, rd⟩ ((⟨args'⟩ : Array Value) ++ Array.replicate (n - (⟨args'⟩ : Array Value).size) undef) := by
  have hl := ha.length
  refine ⟨by simp only [Array.size_append, Array.size_replicate]; simp; omega, fun i => ?_⟩
  simp only [AAct.val, laid_get, Nat.zero_le, true_and, Nat.zero_add, Nat.sub_zero]
  rw [Array.getD_eq_getD_getElem?]
  by_cases hi : i < args.length
  · rw [if_pos hi]
    have : i < (⟨args'⟩ : Array Value).size := by simp; omega
    rw [Array.getElem?_append_left this]
    obtain ⟨y, hy, hc⟩ := ha.get i args[i] (List.getElem?_eq_getElem hi)
    rw [List.getElem?_eq_getElem hi]
    simp only [List.getElem?_toArray, hy, Option.getD_some]
    exact hc
  · rw [if_neg hi]
    have e : (PT.leaf : PT AV).get i = none := rfl
    rw [e]
    rw [Array.getElem?_append_right (by simp; omega), Array.getElem?_replicate]
    have : (if i - (⟨args'⟩ : Array Value).size < n - (⟨args'⟩ : Array Value).size then some undef else none).getD undef = undef := by split <;> rfl
    rw [this]
    exact undef_con

theorem setParams_ok : ∀ (ts : List Tmp) (vs : List AV) (vs' : List Value) (a : AAct) (tm : Array Value), ActRel φ a tm → ConL φ vs vs' →
    ActRel φ (setParams ts vs a) ((ts.zip vs').foldl (fun tm (t, v) => tm.setIfInBounds t v) tm) ∧ (setParams ts vs a).ds = a.ds ∧ (setParams ts vs a).rd = a.rd
  | [], vs, vs', a, tm, hA, hc => ⟨hA, rfl, rfl⟩
  | t :: ts, [], vs', a, tm, hA, hc => by cases hc; exact ⟨hA, rfl, rfl⟩
  | t :: ts, v :: vs, vs', a, tm, hA, hc => by
    cases hc with
    | @cons _ v' _ vs' h1 h2 =>
      obtain ⟨i1, i2, i3⟩ := setParams_ok ts vs vs' _ _ (hA.put (some t) h1) h2
      obtain ⟨j1, j2, _⟩ := a.put_ds (some t) v
      exact ⟨i1, by rw [setParams, i2, j1], by rw [setParams, i3, j2]⟩

/-- what is told of functions, told truly -/
def SumOk (P : Program) (B : Nat) (w0 : World) (S : FuncId → Option (List AV → AH → R (AV × AH))) : Prop :=
  ∀ f g, S f = some g → ∀ args h v h', g args h = .ok (v, h') → ∀ φ w args', ConL φ args args' → GlobRel P φ → Rel B w0 φ h w →
    (∀ w, (callFunc f ⟨args'⟩).run P w = .ok (.enter f ⟨args'⟩) w) ∧
    CallsK P .normal f ⟨args'⟩ w (fun v' w' => ∃ φ', Con φ' v v' ∧ Rel B w0 φ' h' w' ∧ Ext φ h φ' h')

theorem sumOk_none : SumOk P B w0 (fun _ => none) := fun _ _ e => by cases e

section
variable {S : FuncId → Option (List AV → AH → R (AV × AH))} {lf : Nat}

theorem callFn_run {f : FuncId} {fn : Func} {args : Array Value} (hN : ∀ (f : Nat) fn, P.funcs[f]? = some fn → fn.body.isSome = true → fn.name ≠ "runtime.NumGoroutine")
    (hf : P.funcs[f]? = some fn) (hb : fn.body.isSome = true) (w : World) : (callFunc f args).run P w = .ok (.enter f args) w := by
  have hn := hN f fn hf hb
  have hb' : fn.body ≠ none := by intro h; rw [h] at hb; cases hb
  simp [callFunc, hf, hn, hb']

theorem fn_ok {call dcall : CallF} {kind : CallKind} (hF : DefOk P B w0 dcall) (hM : P.follows .mixedOrders = true) 
    (hC : CallOk P B w0 call) (hY : YieldOk P B w0 call) (hD : DrawOk P B w0 call) {f : FuncId} {fn : Func} {c : Code} {args : List AV} {v : AV} (hf : P.funcs[f]? = some fn) (hb : fn.body = some c)
    (hn : args.length ≤ fn.ntmps) (he : finishCall P dcall fn (evCode P call lf c ⟨fn.ntmps, laid args 0 .leaf, [], false⟩ h) = .ok (v, h')) {args' : List Value} (ha : ConL φ args args') (hG : GlobRel P φ) (hR : Rel B w0 φ h w) :
    CallsK P kind f ⟨args'⟩ w (fun v' w' => ∃ φ', Con φ' v v' ∧ Rel B w0 φ' h' w' ∧ Ext φ h φ' h') := by
  intro cs
  unfold finishCall at he
  split at he
  · rename_i x a1 h1 hcode
    have s0 : St P B w0 φ ⟨fn.ntmps, laid args 0 .leaf, [], false⟩ h (Option.isSome (Frame.roundOf { (default : Frame) with fn := f, kind := kind, roundOf := none })) _ [] w :=
      ⟨enter_act ha hn, .nil, hR, hG, rfl⟩
    obtain ⟨φ1, tm1, ds1, w1, r1, s1, e1⟩ := evCode_ok hM hC hY hD c _ _ _ _ _ hcode φ _ _ _ w s0 [] cs
    have henter : Frame.enter P f ⟨args'⟩ kind = mk { (default : Frame) with fn := f, kind := kind, roundOf := none } ((⟨args'⟩ : Array Value) ++ Array.replicate (fn.ntmps - (⟨args'⟩ : Array Value).size) undef) [] [.code c] := by
      simp [Frame.enter, mk, hf, hb]
    rw [← henter] at r1
    have key : ∀ (v : AV) (h' : AH), (∃ todo, Steps P (lone (Frame.enter P f ⟨args'⟩ kind) cs w) (lone (lv { (default : Frame) with fn := f, kind := kind, roundOf := none } tm1 ds1 todo) cs w1)) →
        (match runDefers dcall a1.ds h1 with
          | .ok h => match resultsA P h a1 fn.results.toList with
            | .ok l => (.ok (oneOf l, h) : R (AV × AH))
            | .error e => .error (fn.name ++ ": " ++ e)
          | .error e => .error (fn.name ++ ": " ++ e)) = .ok (v, h') →
        ∃ v' w' fr fn', (∃ φ', Con φ' v v' ∧ Rel B w0 φ' h' w' ∧ Ext φ h φ' h') ∧ Steps P (lone (Frame.enter P f ⟨args'⟩ kind) cs w) (lone fr cs w') ∧
          fr.fn = f ∧ fr.mode = .returning ∧ fr.defers = [] ∧ fr.kind = kind ∧ P.funcs[fr.fn]? = some fn' ∧ (results fn' fr.tmps).run P w' = .ok v' w' := by
      rintro v h' ⟨todo, hst⟩ he
      split at he
      · rename_i h2 hrd
        obtain ⟨φ2, w2, st, R2, X2⟩ := runDefers_ok hF (b := { (default : Frame) with fn := f, kind := kind, roundOf := none }) (tm := tm1) (todo := todo) (cs := cs) _ _ _ _ _ _ hrd s1.defs s1.rel s1.glob
        split at he
        · rename_i l hl
          cases he
          obtain ⟨v', hv1, hv2⟩ := results_run (s1.act.mono X2.le) R2 hl
          exact ⟨v', w2, _, fn, ⟨φ2, hv2, R2, e1.trans X2⟩, hst.trans st, rfl, rfl, rfl, rfl, hf, hv1⟩
        · cases he
      · cases he
    split at he
    · exact key _ _ ⟨_, Steps.trans r1 (.one (go_end rfl))⟩ he
    · obtain ⟨k1, r1⟩ := r1
      exact key _ _ ⟨_, Steps.trans r1 (.one (go_ret rfl))⟩ he
    · cases he
  · cases he

theorem foldl_zip (params : Array Tmp) (args : List Value) (tm : Array Value) :
    (params.zip ⟨args⟩).foldl (fun tmps (t, a) => tmps.setIfInBounds t a) tm = (params.toList.zip args).foldl (fun tm (t, v) => tm.setIfInBounds t v) tm := by
  rw [← Array.foldl_toList, Array.toList_zip]

theorem round_ok {call : CallF} (hM : P.follows .mixedOrders = true) (hC : CallOk P B w0 call) (hY : YieldOk P B w0 call) (hD : DrawOk P B w0 call) {l : Nat} {r : ALoop} {args : List AV} {v : AV}
    (hg : h.get l = some (.loop r)) (he : aRound P call lf l r args h = .ok (v, h')) {p : Pl} {args' : List Value} (hp : φ l = some p) (ha : ConL φ args args') (hG : GlobRel P φ) (hR : Rel B w0 φ h w) :
    ∃ fn tmps assign body, (Instr.yield p.blk ⟨args'⟩).run P w = .ok (.round p.blk fn tmps assign body) w ∧
      ∀ c cs, ∃ v' φ' w', Steps P (lone (Frame.round p.blk fn tmps assign body .normal) (c :: cs) w) (lone (c.finish v') cs w') ∧ Con φ' v v' ∧ Rel B w0 φ' h' w' ∧ Ext φ h φ' h' := by
  obtain ⟨r', hr1, hr2⟩ := (hR.obj _ _ _ hp hg).loop_get
  unfold aRound at he
  cases hlen : Nat.beq args.length r.params.size with
  | false => rw [hlen] at he; cases he
  | true =>
    rw [hlen] at he
    simp only [cond_true] at he
    have hlen := Nat.eq_of_beq_eq_true hlen
    have hsz : (⟨args'⟩ : Array Value).size = r'.params.size := by rw [hr2.params, ← hlen, ha.length]; rfl
    refine ⟨_, _, _, _, run_yield hr1 hsz, fun c cs => ?_⟩
    rw [foldl_zip, hr2.params, hr2.assign, hr2.body]
    have hA0 : ActRel φ ⟨r.n, r.tmps, [], true⟩ r'.tmps := ⟨hr2.size, fun i => hr2.tmps i⟩
    obtain ⟨hA1, hds, hrd⟩ := setParams_ok r.params.toList args args' _ _ hA0 ha
    generalize hb : ({ (default : Frame) with fn := r'.fn, kind := .normal, roundOf := some p.blk } : Frame) = b
    have s0 : St P B w0 φ (setParams r.params.toList args ⟨r.n, r.tmps, [], true⟩) h b.roundOf.isSome _ [] w := ⟨hA1, by rw [hds]; exact .nil, hR, hG, by rw [hrd]; subst hb; rfl⟩
    generalize (List.foldl (fun tm (x : Tmp × Value) => tm.setIfInBounds x.fst x.snd) r'.tmps (r.params.toList.zip args')) = tm0 at *
    have hround : Frame.round p.blk r'.fn tm0 r.assign r.body .normal = mk b tm0 [] (.code r.assign :: [.beginRound, .code r.body]) := by subst hb; rfl
    split at he
    · rename_i a1 h1 hassign
      obtain ⟨φ1, tm1, ds1, w1, r1, s1, e1⟩ := evCode_ok hM hC hY hD _ _ _ _ _ _ hassign φ b tm0 [] w s0 [.beginRound, .code r.body] (c :: cs)
      rw [← hround] at r1
      have hp1 := e1.le _ _ hp
      split at he
      · rename_i q hg1
        obtain ⟨q', hq1, hq2⟩ := (s1.rel.obj _ _ _ hp1 hg1).loop_get
        split at he
        · rename_i hst
          have hbr : b.roundOf = some p.blk := by subst hb; rfl
          have hbk : b.kind = .normal := by subst hb; rfl
          have st2 : step P (lone (mk b tm1 ds1 [.beginRound, .code r.body]) (c :: cs) w1) = .next (lone (mk b tm1 ds1 [.code r.body]) (c :: cs) (w1.putObj p.blk (.loop { q' with state := .busy }))) :=
            stepR_beginRound (a := ⟨tm1, ds1⟩) hbr (run_beginRound hq1 (by rw [hq2.state]; exact hst))
          have hpe : q'.pending = q.pending := hq2.pending
          have R2 : Rel B w0 φ1 (h1.set l (.loop { q with state := .busy })) (w1.putObj p.blk (.loop { q' with state := .busy })) := by
            have := s1.rel.putLoop hp1 hg1 hq2 .busy q.pending
            rw [show ({ q' with state := .busy, pending := q.pending } : Loop) = { q' with state := .busy } from by rw [← hpe]] at this
            exact this
          have X2 : Ext φ1 h1 φ1 (h1.set l (.loop { q with state := .busy })) := .write hp1 _
          have s2 : St P B w0 φ1 a1 (h1.set l (.loop { q with state := .busy })) b.roundOf.isSome tm1 ds1 (w1.putObj p.blk (.loop { q' with state := .busy })) := ⟨s1.act, s1.defs, R2, s1.glob, s1.rd⟩
          have st3 := Steps.trans r1 (.one st2)
          generalize hres : evCode P call lf r.body a1 (h1.set l (.loop { q with state := .busy })) = res at he
          unfold endRound at he
          split at he
          · rename_i x a2 h2 
            split at he
            · split at he
              · rename_i z hg2
                obtain ⟨φ3, tm3, ds3, w3, r3, s3, e3⟩ := evCode_ok hM hC hY hD _ _ _ _ _ _ hres φ1 b tm1 ds1 _ s2 [] (c :: cs)
                have hp3 := e3.le _ _ hp1
                obtain ⟨z', hz1, hz2⟩ := (s3.rel.obj _ _ _ hp3 hg2).loop_get
                have X := e1.trans (X2.trans e3)
                split at he
                · cases he
                  refine ⟨.bool true, φ3, _, st3.trans (Steps.trans r3 (.one (stepR_round_end (a := ⟨tm3, ds3⟩) hbr hbk (run_endRound none hz1)))), .bool true, s3.rel.putLoop hp3 hg2 hz2 .ready none, X.trans (.write hp3 _)⟩
                · cases he
                  obtain ⟨k1, r3⟩ := r3
                  refine ⟨.bool false, φ3, _, st3.trans (Steps.trans r3 (.one (stepR_round_ret (a := ⟨tm3, ds3⟩) hbr hbk (run_endRound (some .ret) hz1)))), .bool false, s3.rel.putLoop hp3 hg2 hz2 .done (some .ret), X.trans (.write hp3 _)⟩
                · rename_i id; cases he
                  obtain ⟨k1, hk1, r3⟩ := r3
                  refine ⟨.bool false, φ3, _, st3.trans (Steps.trans r3 (.one (stepR_round_exit (a := ⟨tm3, ds3⟩) hbr hbk (by rw [hk1]; rfl) (run_endRound (some (.exit id)) hz1)))), .bool false, s3.rel.putLoop hp3 hg2 hz2 .done (some (.exit id)), X.trans (.write hp3 _)⟩
                · cases he
              · cases he
            · cases he
          · cases he
        · cases he
      · cases he
    · cases he
    · cases he

/-- **every abstract call is the machine's** -/
theorem evCall_ok (hM : P.follows .mixedOrders = true) (hN : ∀ (f : Nat) fn, P.funcs[f]? = some fn → fn.body.isSome = true → fn.name ≠ "runtime.NumGoroutine") (hS : SumOk P B w0 S)
    (hD : ∀ call, CallOk P B w0 call → YieldOk P B w0 call → DrawOk P B w0 call) : ∀ n, CallOk P B w0 (evCall P S lf n) ∧ YieldOk P B w0 (evCall P S lf n) ∧ DefOk P B w0 (noSum S (evCall P S lf n))
  | 0 => ⟨fun f args h v h' e => (by cases e), fun l args h v h' e => (by cases e), fun f args h v h' e => (by unfold noSum at e; simp only at e; split at e <;> cases e)⟩
  | n + 1 => by
    obtain ⟨hC, hY, hF⟩ := evCall_ok hM hN hS hD n
    have hDr := hD _ hC hY
    have body : ∀ (kind : CallKind) (f : FuncId) args h v h', S f = none → evCall P S lf (n + 1) (.fn f) args h = .ok (v, h') → ∀ φ w args', ConL φ args args' → GlobRel P φ → Rel B w0 φ h w →
        (∀ w, (callFunc f ⟨args'⟩).run P w = .ok (.enter f ⟨args'⟩) w) ∧ CallsK P kind f ⟨args'⟩ w (fun v' w' => ∃ φ', Con φ' v v' ∧ Rel B w0 φ' h' w' ∧ Ext φ h φ' h') := by
      intro kind f args h v h' hs e φ w args' ha hG hR
      unfold evCall at e
      rw [hs] at e
      simp only at e
      split at e
      · rename_i fn hf
        split at e
        · rename_i c hb
          cases hle : Nat.ble args.length fn.ntmps with
          | false => rw [hle] at e; cases e
          | true =>
            rw [hle] at e
            simp only [cond_true] at e
            exact ⟨fun w => callFn_run hN hf (by rw [hb]; rfl) w, fn_ok hF hM hC hY hDr hf hb (Nat.le_of_ble_eq_true hle) e ha hG hR⟩
        · cases e
      · cases e
    refine ⟨fun f args h v h' e φ w args' ha hG hR => ?_, fun l args h v h' e φ w p args' hp ha hG hR => ?_, fun f args h v h' e φ w args' ha hG hR => ?_⟩
    · cases hs : S f with
      | some g =>
        unfold evCall at e
        rw [hs] at e
        exact hS _ _ hs _ _ _ _ e _ _ _ ha hG hR
      | none => exact body _ _ _ _ _ _ hs e _ _ _ ha hG hR
    · unfold evCall at e
      split at e
      · rename_i r hg
        exact round_ok hM hC hY hDr hg e hp ha hG hR
      · cases e
    · unfold noSum at e
      simp only at e
      split at e
      · cases e
      · rename_i hs
        exact body _ _ _ _ _ _ hs e _ _ _ ha hG hR

end

end Go.Dr
