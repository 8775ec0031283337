/-
  Calls with several ends, and where these are joined.
-/
import Derived.Test.YtckonkiblmdeiaaGreatDoorDrNd
import Derived.Test.YtckonkiblmdeiaaGreatDoorDrJoin
namespace Go.Dr
open Go.RowKit

variable {P : Program} {B : Nat} {w0 w w' : World} {φ : Phi} {h h' : AH}

theorem runDefersD_ok {call : CallD} (hC : DefDOk P B w0 call) {b : Frame} {tm : Array Value} {todo : List Item} {cs : List Frame} :
    ∀ (l : List ADef) (h : AH) (r : List AH) (φ : Phi) (ds : List Deferred) (w : World), runDefersD call l h = .ok r → DefsR φ l ds → Rel B w0 φ h w → GlobRel P φ →
      ∃ h' φ' w', h' ∈ r ∧ Steps P (lone (lv b tm ds todo) cs w) (lone (lv b tm [] todo) cs w') ∧ Rel B w0 φ' h' w' ∧ Ext φ h φ' h'
  | [], h, r, φ, ds, w, he, hd, hR, hG => by
    cases he; cases hd
    exact ⟨_, φ, w, List.mem_singleton.2 rfl, .refl _ _, hR, .refl _ _⟩
  | d :: l, h, r, φ, ds, w, he, hd, hR, hG => by
    cases hd with
    | @cons _ d' _ ds hd1 hd2 =>
      simp only [runDefersD] at he
      cases hd1 with
      | @collected id p hp =>
        simp only at he
        split at he
        · rename_i hg
          have ho : w.heap[p.blk]? = some (.deferred (some [])) := hR.obj _ _ _ hp hg
          have R1 := hR.putObj (O := .deferred none) (o' := .deferred none) hp hg rfl rfl (World.putObj_heap_same (Array.getElem?_eq_some_iff.1 ho).1)
          obtain ⟨h2, φ2, w2, hm, st, R2, X2⟩ := runDefersD_ok hC (b := b) (tm := tm) (todo := todo) (cs := cs) l _ _ _ _ _ he hd2 R1 hG
          exact ⟨h2, φ2, w2, hm, .head (go_collected ho) st, R2, (Ext.write hp _).trans X2⟩
        · cases he
      | @call f c a c' a' hc ha =>
        simp only [callFn] at he
        split at he
        · rename_i r1 hcall
          obtain ⟨hen, hK⟩ := hC _ _ _ _ hcall φ w _ (ha.append hc) hG hR
          have e : (⟨a' ++ c'⟩ : Array Value) = ⟨a'⟩ ++ ⟨c'⟩ := by simp
          rw [e] at hK hen
          obtain ⟨v', w3, fr, fn, ⟨v, h3, φ3, hm, c1, R3, X3⟩, hst, e1, e2, e3, e4, e5, e6⟩ := hK (lv b tm ds todo :: cs)
          obtain ⟨r2, h4, h5⟩ := bindD_mem he _ hm
          obtain ⟨h2, φ2, w2, hm2, st, R2, X2⟩ := runDefersD_ok hC (b := b) (tm := tm) (todo := todo) (cs := cs) l _ _ _ _ _ h4 (hd2.mono X3.le) R3 (hG.mono X3.le)
          exact ⟨h2, φ2, w2, h5 _ hm2, .head (go_deferred (hen _)) (hst.trans (.head (go_leaveDeferred e2 e3 e4 rfl e5 e6) st)), R2, X3.trans X2⟩
        · cases he

theorem fnD_ok {call dcall : CallD} {lf : Nat} {kind : CallKind} (hF : DefDOk P B w0 dcall) (hM : P.follows .mixedOrders = true) (hC : CallDOk P B w0 call) (hY : YieldDOk P B w0 call) {f : FuncId} {fn : Func} {c : Code} {args : List AV} {r : List (AV × AH)} (hf : P.funcs[f]? = some fn) (hb : fn.body = some c)
    (hn : args.length ≤ fn.ntmps) (he : finishD P dcall fn (evCodeD P call lf c ⟨fn.ntmps, laid args 0 .leaf, [], false⟩ h) = .ok r) {args' : List Value} (ha : ConL φ args args') (hG : GlobRel P φ) (hR : Rel B w0 φ h w) :
    CallsK P kind f ⟨args'⟩ w (fun v' w' => ∃ v h' φ', (v, h') ∈ r ∧ Con φ' v v' ∧ Rel B w0 φ' h' w' ∧ Ext φ h φ' h') := by
  intro cs
  unfold finishD at he
  split at he
  · rename_i xs hcode
    have s0 : St P B w0 φ ⟨fn.ntmps, laid args 0 .leaf, [], false⟩ h (Option.isSome (Frame.roundOf { (default : Frame) with fn := f, kind := kind, roundOf := none })) _ [] w :=
      ⟨enter_act ha hn, .nil, hR, hG, rfl⟩
    obtain ⟨⟨x, a1, h1⟩, φ1, tm1, ds1, w1, hx, r1, s1, e1⟩ := evCodeD_ok hM hC hY c _ _ _ hcode φ _ _ _ w s0 [] cs
    obtain ⟨r2, hl, hsub⟩ := bindD_mem he _ hx
    have henter : Frame.enter P f ⟨args'⟩ kind = mk { (default : Frame) with fn := f, kind := kind, roundOf := none } ((⟨args'⟩ : Array Value) ++ Array.replicate (fn.ntmps - (⟨args'⟩ : Array Value).size) undef) [] [.code c] := by
      simp [Frame.enter, mk, hf, hb]
    rw [← henter] at r1
    simp only at r1 s1 e1
    have key : (∃ todo, Steps P (lone (Frame.enter P f ⟨args'⟩ kind) cs w) (lone (lv { (default : Frame) with fn := f, kind := kind, roundOf := none } tm1 ds1 todo) cs w1)) →
        (match runDefersD dcall a1.ds h1 with
          | .ok l => bindD (fun h => match resultsA P h a1 fn.results.toList with
            | .ok l => (.ok [(oneOf l, h)] : RL (AV × AH))
            | .error e => .error (fn.name ++ ": " ++ e)) l
          | .error e => .error (fn.name ++ ": " ++ e)) = .ok r2 →
        ∃ v' w' fr fn', (∃ v h' φ', (v, h') ∈ r ∧ Con φ' v v' ∧ Rel B w0 φ' h' w' ∧ Ext φ h φ' h') ∧ Steps P (lone (Frame.enter P f ⟨args'⟩ kind) cs w) (lone fr cs w') ∧
          fr.fn = f ∧ fr.mode = .returning ∧ fr.defers = [] ∧ fr.kind = kind ∧ P.funcs[fr.fn]? = some fn' ∧ (results fn' fr.tmps).run P w' = .ok v' w' := by
      rintro ⟨todo, hst⟩ hl
      split at hl
      · rename_i hs hrd
        obtain ⟨h2, φ2, w2, hm, st, R2, X2⟩ := runDefersD_ok hF (b := { (default : Frame) with fn := f, kind := kind, roundOf := none }) (tm := tm1) (todo := todo) (cs := cs) _ _ _ _ _ _ hrd s1.defs s1.rel s1.glob
        obtain ⟨r3, h3, h4⟩ := bindD_mem hl _ hm
        split at h3
        · rename_i vs hvs
          cases h3
          obtain ⟨v', hv1, hv2⟩ := results_run (s1.act.mono X2.le) R2 hvs
          exact ⟨v', w2, _, fn, ⟨_, h2, φ2, hsub _ (h4 _ (List.mem_singleton.2 rfl)), hv2, R2, e1.trans X2⟩, hst.trans st, rfl, rfl, rfl, rfl, hf, hv1⟩
        · cases h3
      · cases hl
    unfold leaveD at hl
    cases x with
    | normal => exact key ⟨_, Steps.trans r1 (.one (go_end rfl))⟩ hl
    | ret =>
      obtain ⟨k1, r1⟩ := r1
      exact key ⟨_, Steps.trans r1 (.one (go_ret rfl))⟩ hl
    | exit i => cases hl
    | goto i => cases hl
  · cases he

theorem roundD_ok {call : CallD} {lf : Nat} (hM : P.follows .mixedOrders = true) (hC : CallDOk P B w0 call) (hY : YieldDOk P B w0 call) {l : Nat} {r : ALoop} {args : List AV} {res : List (AV × AH)}
    (hg : h.get l = some (.loop r)) (he : aRoundD P call lf l r args h = .ok res) {p : Pl} {args' : List Value} (hp : φ l = some p) (ha : ConL φ args args') (hG : GlobRel P φ) (hR : Rel B w0 φ h w) :
    ∃ fn tmps assign body, (Instr.yield p.blk ⟨args'⟩).run P w = .ok (.round p.blk fn tmps assign body) w ∧
      ∀ c cs, ∃ v h' v' φ' w', (v, h') ∈ res ∧ Steps P (lone (Frame.round p.blk fn tmps assign body .normal) (c :: cs) w) (lone (c.finish v') cs w') ∧ Con φ' v v' ∧ Rel B w0 φ' h' w' ∧ Ext φ h φ' h' := by
  obtain ⟨r', hr1, hr2⟩ := (hR.obj _ _ _ hp hg).loop_get
  unfold aRoundD at he
  cases hlen : Nat.beq args.length r.params.size with
  | false => rw [hlen] at he; cases he
  | true =>
    rw [hlen] at he
    simp only [cond_true] at he
    have hlen := Nat.eq_of_beq_eq_true hlen
    have hsz : (⟨args'⟩ : Array Value).size = r'.params.size := by rw [hr2.params, ← hlen, ha.length]; rfl
    refine ⟨_, _, _, _, run_yield hr1 hsz, fun c cs => ?_⟩
    rw [foldl_zip, hr2.params, hr2.assign, hr2.body]
    have hA0 : ActRel φ ⟨r.n, r.tmps, [], true⟩ r'.tmps := ⟨hr2.size, fun i => hr2.tmps i⟩
    obtain ⟨hA1, hds, hrd⟩ := setParams_ok r.params.toList args args' _ _ hA0 ha
    generalize hb : ({ (default : Frame) with fn := r'.fn, kind := .normal, roundOf := some p.blk } : Frame) = b
    have s0 : St P B w0 φ (setParams r.params.toList args ⟨r.n, r.tmps, [], true⟩) h b.roundOf.isSome _ [] w := ⟨hA1, by rw [hds]; exact .nil, hR, hG, by rw [hrd]; subst hb; rfl⟩
    generalize (List.foldl (fun tm (x : Tmp × Value) => tm.setIfInBounds x.fst x.snd) r'.tmps (r.params.toList.zip args')) = tm0 at *
    have hround : Frame.round p.blk r'.fn tm0 r.assign r.body .normal = mk b tm0 [] (.code r.assign :: [.beginRound, .code r.body]) := by subst hb; rfl
    split at he
    · rename_i xs hassign
      obtain ⟨⟨x, a1, h1⟩, φ1, tm1, ds1, w1, hx, r1, s1, e1⟩ := evCodeD_ok hM hC hY _ _ _ _ hassign φ b tm0 [] w s0 [.beginRound, .code r.body] (c :: cs)
      rw [← hround] at r1
      simp only at r1 s1 e1
      obtain ⟨r2, hl, hsub⟩ := bindD_mem he _ hx
      have hp1 := e1.le _ _ hp
      unfold roundBodyD at hl
      cases x with
      | normal =>
        simp only at hl
        split at hl
        · rename_i q hg1
          obtain ⟨q', hq1, hq2⟩ := (s1.rel.obj _ _ _ hp1 hg1).loop_get
          split at hl
          · rename_i hst
            have hbr : b.roundOf = some p.blk := by subst hb; rfl
            have hbk : b.kind = .normal := by subst hb; rfl
            have st2 : step P (lone (mk b tm1 ds1 [.beginRound, .code r.body]) (c :: cs) w1) = .next (lone (mk b tm1 ds1 [.code r.body]) (c :: cs) (w1.putObj p.blk (.loop { q' with state := .busy }))) :=
              stepR_beginRound (a := ⟨tm1, ds1⟩) hbr (run_beginRound hq1 (by rw [hq2.state]; exact hst))
            have hpe : q'.pending = q.pending := hq2.pending
            have R2 : Rel B w0 φ1 (h1.set l (.loop { q with state := .busy })) (w1.putObj p.blk (.loop { q' with state := .busy })) := by
              have := s1.rel.putLoop hp1 hg1 hq2 .busy q.pending
              rw [show ({ q' with state := .busy, pending := q.pending } : Loop) = { q' with state := .busy } from by rw [← hpe]] at this
              exact this
            have X2 : Ext φ1 h1 φ1 (h1.set l (.loop { q with state := .busy })) := .write hp1 _
            have s2 : St P B w0 φ1 a1 (h1.set l (.loop { q with state := .busy })) b.roundOf.isSome tm1 ds1 (w1.putObj p.blk (.loop { q' with state := .busy })) := ⟨s1.act, s1.defs, R2, s1.glob, s1.rd⟩
            have st3 := Steps.trans r1 (.one st2)
            split at hl
            · rename_i ys hbody
              obtain ⟨⟨y, a2, h2⟩, φ3, tm3, ds3, w3, hy, r3, s3, e3⟩ := evCodeD_ok hM hC hY _ _ _ _ hbody φ1 b tm1 ds1 _ s2 [] (c :: cs)
              obtain ⟨r4, hl4, hsub4⟩ := bindD_mem hl _ hy
              obtain ⟨z, hz, rfl⟩ := one1_ok hl4
              have hmem := hsub _ (hsub4 _ (List.mem_singleton.2 rfl))
              simp only at r3 s3 e3
              unfold endRound at hz
              split at hz
              · rename_i heq
                cases heq
                split at hz
                · split at hz
                  · rename_i u hg2
                    have hp3 := e3.le _ _ hp1
                    obtain ⟨z', hz1, hz2⟩ := (s3.rel.obj _ _ _ hp3 hg2).loop_get
                    have X := e1.trans (X2.trans e3)
                    split at hz
                    · cases hz
                      exact ⟨_, _, .bool true, φ3, _, hmem, st3.trans (Steps.trans r3 (.one (stepR_round_end (a := ⟨tm3, ds3⟩) hbr hbk (run_endRound none hz1)))), .bool true, s3.rel.putLoop hp3 hg2 hz2 .ready none, X.trans (.write hp3 _)⟩
                    · cases hz
                      obtain ⟨k1, r3⟩ := r3
                      exact ⟨_, _, .bool false, φ3, _, hmem, st3.trans (Steps.trans r3 (.one (stepR_round_ret (a := ⟨tm3, ds3⟩) hbr hbk (run_endRound (some .ret) hz1)))), .bool false, s3.rel.putLoop hp3 hg2 hz2 .done (some .ret), X.trans (.write hp3 _)⟩
                    · rename_i id; cases hz
                      obtain ⟨k1, hk1, r3⟩ := r3
                      exact ⟨_, _, .bool false, φ3, _, hmem, st3.trans (Steps.trans r3 (.one (stepR_round_exit (a := ⟨tm3, ds3⟩) hbr hbk (by rw [hk1]; rfl) (run_endRound (some (.exit id)) hz1)))), .bool false, s3.rel.putLoop hp3 hg2 hz2 .done (some (.exit id)), X.trans (.write hp3 _)⟩
                    · cases hz
                  · cases hz
                · cases hz
              · cases hz
            · cases hl
          · cases hl
        · cases hl
      | exit i => cases hl
      | ret => cases hl
      | goto i => cases hl
    · cases he

/-! ### ends joined -/

theorem eqBy_eq {α : Type} {f : α → α → Bool} (hf : ∀ x y, f x y = true → x = y) : ∀ {l m : List α}, eqBy f l m = true → l = m
  | [], [], _ => rfl
  | x :: l, y :: m, h => by
    simp only [eqBy, Bool.and_eq_true] at h
    rw [hf _ _ h.1, eqBy_eq hf h.2]
  | [], _ :: _, h => by cases h
  | _ :: _, [], h => by cases h

theorem eqEntry_eq {x y : AEntry} (h : eqEntry x y = true) : x = y := by
  simp only [eqEntry, Bool.and_eq_true] at h
  obtain ⟨h1, h2, h3⟩ := h
  cases x; cases y
  simp only at h1 h2 h3
  rw [eqAV_ok _ _ _ h1, eqAV_ok _ _ _ h2, Nat.eq_of_beq_eq_true h3]

theorem eqObj_eq {x y : AObj} (h : eqObj x y = true) : x = y := by
  unfold eqObj at h
  split at h
  · simp only [Bool.and_eq_true, beq_iff_eq] at h
    rw [h.1, eqBy_eq (eqAV_ok 12) h.2]
  · simp only [Bool.and_eq_true] at h
    rw [Nat.eq_of_beq_eq_true h.1, eqBy_eq (fun _ _ => eqEntry_eq) h.2]
  · rename_i a b
    unfold eqDefs at h
    split at h
    · rfl
    · rfl
    · cases h
  · simp only [Bool.and_eq_true, decide_eq_true_eq] at h
    rw [Nat.eq_of_beq_eq_true h.1, h.2]
  · rename_i m a b c n x y z
    simp only [Bool.and_eq_true] at h
    obtain ⟨h1, h2, h3, h4⟩ := h
    have : m = n := by
      unfold eqNO at h1
      split at h1
      · rfl
      · rw [Nat.eq_of_beq_eq_true h1]
      · cases h1
    rw [this, Nat.eq_of_beq_eq_true h2, eqBy_eq (fun _ _ => Nat.eq_of_beq_eq_true) h3, Nat.eq_of_beq_eq_true h4]
  · cases h

theorem eqObjO_eq {x y : Option AObj} (h : eqObjO x y = true) : x = y := by
  unfold eqObjO at h
  split at h
  · rfl
  · rw [eqObj_eq h]
  · cases h

/-- z says of y what is the same -/
structure View (base : Nat) (z y : AV × AH) : Prop where
  val : z.1 = y.1
  next : z.2.next = y.2.next
  old : ∀ i, i < base → z.2.get i = y.2.get i
  new : ∀ i o, i < y.2.next → z.2.get i = some o → y.2.get i = some o

theorem View.refl (base : Nat) (x : AV × AH) : View base x x := ⟨rfl, rfl, fun _ _ => rfl, fun _ _ _ e => e⟩
theorem View.trans {base : Nat} {x y z : AV × AH} (a : View base x y) (b : View base y z) : View base x z :=
  ⟨a.val.trans b.val, a.next.trans b.next, fun i hi => (a.old i hi).trans (b.old i hi), fun i o hi e => b.new i o hi (a.new i o (by rw [b.next]; exact hi) e)⟩

theorem sameOld_ok {h k : AH} : ∀ {n : Nat}, sameOld h k n = true → ∀ i, i < n → h.get i = k.get i
  | 0, _, i, hi => absurd hi (by omega)
  | n + 1, hs, i, hi => by
    simp only [sameOld, Bool.and_eq_true] at hs
    by_cases e : i = n
    · subst e; exact eqObjO_eq hs.1
    · exact sameOld_ok hs.2 i (by omega)

theorem joinNew_ok {k : AH} : ∀ (n i : Nat) (h : AH), (joinNew k n i h).next = h.next ∧ (∀ j, j < i → (joinNew k n i h).get j = h.get j) ∧ (∀ j, i + n ≤ j → (joinNew k n i h).get j = h.get j) ∧
    (∀ j o, (joinNew k n i h).get j = some o → h.get j = some o) ∧ (∀ j o, i ≤ j → j < i + n → (joinNew k n i h).get j = some o → k.get j = some o)
  | 0, i, h => ⟨rfl, fun _ _ => rfl, fun _ _ => rfl, fun _ _ e => e, fun j o h1 h2 => absurd h2 (by omega)⟩
  | n + 1, i, h => by
    simp only [joinNew]
    cases hb : eqObjO (h.get i) (k.get i) with
    | true =>
      simp only [cond_true]
      obtain ⟨a1, a2, a3, a4, a5⟩ := joinNew_ok n (i + 1) h
      refine ⟨a1, fun j hj => a2 j (by omega), fun j hj => a3 j (by omega), a4, fun j o h1 h2 e => ?_⟩
      by_cases hj : j = i
      · subst hj
        rw [a2 j (by omega)] at e
        rw [← eqObjO_eq hb]; exact e
      · exact a5 j o (by omega) (by omega) e
    | false =>
      simp only [cond_false]
      obtain ⟨a1, a2, a3, a4, a5⟩ := joinNew_ok n (i + 1) (h.kill i)
      have hk : ∀ j o, (h.kill i).get j = some o → h.get j = some o := fun j o e => by
        rw [AH.get_kill] at e; split at e
        · cases e
        · exact e
      refine ⟨a1, fun j hj => ?_, fun j hj => ?_, fun j o e => hk _ _ (a4 j o e), fun j o h1 h2 e => ?_⟩
      · rw [a2 j (by omega), AH.get_kill, if_neg (by omega)]
      · rw [a3 j (by omega), AH.get_kill, if_neg (by omega)]
      · by_cases hj : j = i
        · subst hj
          rw [a2 j (by omega), AH.get_kill, if_pos rfl] at e
          cases e
        · exact a5 j o (by omega) (by omega) e

theorem join2_ok {base : Nat} {x y z : AV × AH} (he : join2 base x y = some z) : View base z x ∧ View base z y := by
  unfold join2 at he
  cases hb : Bool.and (eqAV 12 x.1 y.1) (Bool.and (Nat.beq x.2.next y.2.next) (sameOld x.2 y.2 base)) with
  | false => rw [hb] at he; cases he
  | true =>
    rw [hb] at he
    cases he
    simp only [Bool.and_eq_true] at hb
    obtain ⟨h1, h2, h3⟩ := hb
    have hv := eqAV_ok _ _ _ h1
    have hn := Nat.eq_of_beq_eq_true h2
    have ho := sameOld_ok h3
    obtain ⟨a1, a2, a3, a4, a5⟩ := joinNew_ok (k := y.2) (x.2.next - base) base x.2
    refine ⟨⟨rfl, a1, fun i hi => a2 i hi, fun i o _ e => a4 i o e⟩, ⟨hv, a1.trans hn, fun i hi => (a2 i hi).trans (ho i hi), fun i o hi e => ?_⟩⟩
    simp only at e hi
    by_cases hlt : i < base
    · rw [a2 i hlt] at e; rw [← ho i hlt]; exact e
    · exact a5 i o (by omega) (by omega) e

theorem joinAll_ok {base : Nat} : ∀ {l : List (AV × AH)} {x z : AV × AH}, joinAll base x l = some z → View base z x ∧ ∀ y ∈ l, View base z y
  | [], x, z, he => by cases he; exact ⟨.refl _ _, fun y hy => by cases hy⟩
  | y :: l, x, z, he => by
    simp only [joinAll] at he
    split at he
    · rename_i u hu
      obtain ⟨h1, h2⟩ := join2_ok hu
      obtain ⟨h3, h4⟩ := joinAll_ok he
      refine ⟨h3.trans h1, fun v hv => ?_⟩
      rcases List.mem_cons.1 hv with rfl | hv
      · exact h3.trans h2
      · exact h4 v hv
    · cases he

theorem joined_ok {base : Nat} {r : RL (AV × AH)} {l : List (AV × AH)} (he : joined base r = .ok l) : ∃ s, r = .ok s ∧ ∀ y ∈ s, ∃ z ∈ l, View base z y := by
  unfold joined at he
  split at he
  · rename_i x y m
    refine ⟨_, rfl, ?_⟩
    split at he
    · rename_i z hz
      cases he
      obtain ⟨h1, h2⟩ := joinAll_ok hz
      intro u hu
      rcases List.mem_cons.1 hu with rfl | hu
      · exact ⟨z, List.mem_singleton.2 rfl, h1⟩
      · exact ⟨z, List.mem_singleton.2 rfl, h2 u hu⟩
    · cases he
      exact fun u hu => ⟨u, hu, .refl _ _⟩
  · exact ⟨l, he, fun u hu => ⟨u, hu, .refl _ _⟩⟩

/-- less said of a heap -/
theorem Rel.sub (r : Rel B w0 φ h w) {k : AH} (hn : k.next = h.next) (hs : ∀ i o, i < h.next → k.get i = some o → h.get i = some o) : Rel B w0 φ k w :=
  ⟨fun i p e => by rw [hn]; exact r.lt i p e, fun i p o e g => r.obj i p o e (hs i o (r.lt i p e) g), fun i p o e g => r.own i p o e (hs i o (r.lt i p e) g),
    fun i j p q oi oj hij e1 e2 g1 g2 => r.inj i j p q oi oj hij e1 e2 (hs _ _ (r.lt _ _ e1) g1) (hs _ _ (r.lt _ _ e2) g2), r.below, r.base⟩

theorem FnD.view {kind : CallKind} {f : FuncId} {args : List AV} {s l : List (AV × AH)} (hf : FnD P B w0 kind f args h fun v h' => (v, h') ∈ s) (hv : ∀ y ∈ s, ∃ z ∈ l, View h.next z y) : FnD P B w0 kind f args h fun v h' => (v, h') ∈ l := by
  intro φ w args' ha hG hR
  obtain ⟨h1, h2⟩ := hf φ w args' ha hG hR
  refine ⟨h1, fun cs => ?_⟩
  obtain ⟨v', w', fr, fn, ⟨v, h3, φ', k, c, R', X⟩, r⟩ := h2 cs
  obtain ⟨⟨v2, k2⟩, hz, hV⟩ := hv _ k
  have e1 : v2 = v := hV.val
  subst e1
  refine ⟨v', w', fr, fn, ⟨v2, k2, φ', hz, c, R'.sub hV.next hV.new, ⟨X.le, ?_, fun i hi e => ?_⟩⟩, r⟩
  · have := hV.next; simp only at this; rw [this]; exact X.next
  · obtain ⟨x1, x2⟩ := X.keep i hi e
    exact ⟨x1, (hV.old i hi).trans x2⟩

/-- **the machine comes to one of the ends of the abstract call** -/
theorem evCallD_ok {S : FuncId → Option (List AV → AH → R (AV × AH))} {lf : Nat} (hM : P.follows .mixedOrders = true) (hN : ∀ (f : Nat) fn, P.funcs[f]? = some fn → fn.body.isSome = true → fn.name ≠ "runtime.NumGoroutine") (hS : SumOk P B w0 S) :
    ∀ n, CallDOk P B w0 (evCallD P S lf n) ∧ YieldDOk P B w0 (evCallD P S lf n) ∧ DefDOk P B w0 (noSumD S (evCallD P S lf n))
  | 0 => ⟨fun f args h l e => (by cases e), fun i args h l e => (by cases e), fun f args h l e => (by unfold noSumD at e; simp only at e; split at e <;> cases e)⟩
  | n + 1 => by
    obtain ⟨hC, hY, hF⟩ := evCallD_ok hM hN hS n
    have body : ∀ (kind : CallKind) (f : FuncId) args h l, S f = none → evCallD P S lf (n + 1) (.fn f) args h = .ok l → FnD P B w0 kind f args h fun v h' => (v, h') ∈ l := by
      intro kind f args h l hs e
      unfold evCallD at e
      rw [hs] at e
      simp only at e
      split at e
      · rename_i fn hf
        split at e
        · rename_i c hb
          cases hle : Nat.ble args.length fn.ntmps with
          | false => rw [hle] at e; cases e
          | true =>
            rw [hle] at e
            simp only [cond_true] at e
            obtain ⟨s, hs, hv⟩ := joined_ok e
            refine FnD.view (s := s) (fun φ w args' ha hG hR => ?_) hv
            exact ⟨fun w => callFn_run hN hf (by rw [hb]; rfl) w, fnD_ok hF hM hC hY hf hb (Nat.le_of_ble_eq_true hle) hs ha hG hR⟩
        · cases e
      · cases e
    refine ⟨fun f args h l e => ?_, fun i args h l e φ w p args' hp ha hG hR => ?_, fun f args h l e => ?_⟩
    · cases hs : S f with
      | some g =>
        unfold evCallD at e
        rw [hs] at e
        obtain ⟨⟨v, h'⟩, hx, rfl⟩ := one1_ok e
        intro φ w args' ha hG hR
        obtain ⟨h1, h2⟩ := hS _ _ hs _ _ _ _ hx _ _ _ ha hG hR
        refine ⟨h1, fun cs => ?_⟩
        obtain ⟨v', w', fr, fn, ⟨φ', c⟩, r⟩ := h2 cs
        exact ⟨v', w', fr, fn, ⟨v, h', φ', List.mem_singleton.2 rfl, c⟩, r⟩
      | none => exact body _ _ _ _ _ hs e
    · unfold evCallD at e
      split at e
      · rename_i r hg
        exact roundD_ok hM hC hY hg e hp ha hG hR
      · cases e
    · unfold noSumD at e
      simp only at e
      split at e
      · cases e
      · rename_i hs
        exact body _ _ _ _ _ hs e

def okTrueD : RL (AV × AH) → Bool
  | .ok [(.bool b, _)] => b
  | _ => false

theorem okTrueD_ok {r : RL (AV × AH)} (h : okTrueD r = true) : ∃ h', r = .ok [(.bool true, h')] := by
  unfold okTrueD at h
  split at h
  · cases h; exact ⟨_, rfl⟩
  · cases h

/-- a law that comes out true whatever it is given, in whatever order its maps are gone through -/
theorem law_trueD {lf n : Nat} (hM : P.follows .mixedOrders = true) (hnum : P.funcs.all (fun f => f.name != "runtime.NumGoroutine") = true) {f : FuncId} {args : List AV} {args' : List Value}
    (hrun : okTrueD (evCallD P (fun _ => none) lf n (.fn f) args ⟨P.globals.size, .leaf⟩) = true) {ρ : Nat → Value} (ha : ∀ φ : Phi, φ.raw = ρ → ConL φ args args') (W : World) :
    Calls P f ⟨args'⟩ W fun e W' => e = .returned (.bool true) ∧ Below W.heap.size W W' := by
  obtain ⟨h', he⟩ := okTrueD_ok hrun
  obtain ⟨_, hK⟩ := (evCallD_ok (B := W.heap.size) (w0 := W) hM (noNum hnum) sumOk_none n).1 _ _ _ _ he (phi0 P.globals.size ρ) W args' (ha _ rfl) (glob0 P) (rel0 W _)
  intro cs
  obtain ⟨v', w', fr, fn, ⟨v, h3, φ', hm, hc, hR', _⟩, hst, e1, e2, e3, e4, e5, e6⟩ := hK cs
  have := List.mem_singleton.1 hm
  cases this
  cases hc
  exact ⟨.returned (.bool true), w', fr, ⟨rfl, hR'.below⟩, hst, e1, e2, e3, e4, fn, e5, e6⟩

end Go.Dr
