/-
  A function's code: the abstract run is the machine's. Code, deferred calls, results, rounds, calls.
-/
import Derived.Test.YthkoheaklmgonaaDoorDrCode
import Derived.RangeFuncIn
namespace Go.Dr
open Go.RowKit

variable {P : Program} {B : Nat} {w0 w w' : World} {φ : Phi} {h h' : AH}

/-- the operations of a list -/
theorem evOps_ok {call : CallF} (hC : CallOk P B w0 call) (hY : YieldOk P B w0 call) {ops : Array Oper} {b : Frame} (k : List Item) (cs : List Frame) :
    ∀ (l : List Oper) (is : List Nat) (a a' : AAct) (h h' : AH) (φ : Phi) (tm : Array Value) (ds : List Deferred) (w : World), is.map (ops[·]?) = l.map some → evOps P call ops l a h = .ok (a', h') →
      St P B w0 φ a h b.roundOf.isSome tm ds w → ∃ φ' tm' ds' w', Steps P (lone (mk b tm ds (.inRegion ops is :: k)) cs w) (lone (mk b tm' ds' k) cs w') ∧
        St P B w0 φ' a' h' b.roundOf.isSome tm' ds' w' ∧ Ext φ h φ' h'
  | [], is, a, a', h, h', φ, tm, ds, w, hl, he, s => by
    have : is = [] := by simpa using hl
    subst this
    cases he
    exact ⟨φ, tm, ds, w, .one go_regionEnd, s, .refl _ _⟩
  | o :: l, is, a, a', h, h', φ, tm, ds, w, hl, he, s => by
    cases is with
    | nil => simp at hl
    | cons i rest =>
      simp only [List.map_cons, List.cons.injEq] at hl
      obtain ⟨ho, hl⟩ := hl
      simp only [evOps] at he
      split at he
      · rename_i hw
        split at he
        · rename_i a1 h1 h2
          obtain ⟨φ1, tm1, ds1, w1, st1, s1, e1⟩ := evOper_ok hC hY h2 s ho (wanted_ok s.act hw) k cs (rest := rest)
          obtain ⟨φ2, tm2, ds2, w2, st2, s2, e2⟩ := evOps_ok hC hY k cs l rest _ _ _ _ _ _ _ _ hl he s1
          exact ⟨φ2, tm2, ds2, w2, st1.trans st2, s2, e1.trans e2⟩
        · cases he
      · rename_i hw
        have s1 := s.put (.refl _) undef_con s.rel o.dst
        obtain ⟨φ2, tm2, ds2, w2, st2, s2, e2⟩ := evOps_ok hC hY k cs l rest _ _ _ _ _ _ _ _ hl he s1
        exact ⟨φ2, tm2, ds2, w2, .head (go_unwanted ho (wanted_ok s.act hw)) st2, s2, e2⟩
      · cases he

/-- a region whose order is drawn: any order that its marks allow -/
def DrawOk (P : Program) (B : Nat) (w0 : World) (call : CallF) : Prop :=
  ∀ ops a h a' h', evDraw P call ops a h = .ok (a', h') → ∀ φ b tm ds w, St P B w0 φ a h (Option.isSome (Frame.roundOf b)) tm ds w → ∀ t k cs,
    ∃ φ' tm' ds' w', Steps P (lone (mk b tm ds (.inRegion ops (Region.linearise .any ops t) :: k)) cs w) (lone (mk b tm' ds' k) cs w') ∧
      St P B w0 φ' a' h' b.roundOf.isSome tm' ds' w' ∧ Ext φ h φ' h'

def Arr (P : Program) (m : Machine) (b : Frame) (k : List Item) (cs : List Frame) (tm : Array Value) (ds : List Deferred) (w : World) : AX → Prop
  | .normal => Steps P m (lone (mk b tm ds k) cs w)
  | .exit id => ∃ k1, exitTo id k1 = exitTo id k ∧ Steps P m (lone (mk b tm ds (.code (.exit id) :: k1)) cs w)
  | .ret => ∃ k1, Steps P m (lone (mk b tm ds (.code .ret :: k1)) cs w)
  | .goto _ => False

section
variable {m m1 : Machine} {b : Frame} {k : List Item} {cs : List Frame} {tm : Array Value} {ds : List Deferred} {x : AX}

theorem Arr.of_steps (st : Steps P m m1) (r : Arr P m1 b k cs tm ds w x) : Arr P m b k cs tm ds w x := by
  cases x with
  | normal => exact st.trans r
  | exit id => obtain ⟨k1, e, s⟩ := r; exact ⟨k1, e, st.trans s⟩
  | ret => obtain ⟨k1, s⟩ := r; exact ⟨k1, st.trans s⟩
  | goto l => exact r

theorem Arr.pass {it : Item} (hx : ∀ id, x = .exit id → exitTo id (it :: k) = exitTo id k) (hn : x ≠ .normal) (r : Arr P m b (it :: k) cs tm ds w x) : Arr P m b k cs tm ds w x := by
  cases x with
  | normal => exact absurd rfl hn
  | exit id => obtain ⟨k1, e, s⟩ := r; exact ⟨k1, e.trans (hx id rfl), s⟩
  | ret => exact r
  | goto l => exact r
end

/-- code, against its abstract run -/
def CodeOk (P : Program) (B : Nat) (w0 : World) (f : AAct → AH → R (AX × AAct × AH)) (it : Item) : Prop :=
  ∀ a h x a' h', f a h = .ok (x, a', h') → ∀ φ b tm ds w, St P B w0 φ a h (Option.isSome (Frame.roundOf b)) tm ds w → ∀ k cs,
    ∃ φ' tm' ds' w', Arr P (lone (mk b tm ds (it :: k)) cs w) b k cs tm' ds' w' x ∧ St P B w0 φ' a' h' b.roundOf.isSome tm' ds' w' ∧ Ext φ h φ' h'

theorem evLoop_ok {f : AAct → AH → R (AX × AAct × AH)} {c : Code} (hf : CodeOk P B w0 f (.code c)) : ∀ n a h x a' h', evLoop f n a h = .ok (x, a', h') →
    ∀ φ b tm ds w, St P B w0 φ a h (Option.isSome (Frame.roundOf b)) tm ds w → ∀ k cs,
    ∃ φ' tm' ds' w', Arr P (lone (mk b tm ds (.code c :: .inLoop c :: k)) cs w) b k cs tm' ds' w' x ∧ St P B w0 φ' a' h' b.roundOf.isSome tm' ds' w' ∧ Ext φ h φ' h'
  | 0 => fun a h x a' h' he => by cases he
  | n + 1 => fun a h x a' h' he φ b tm ds w s k cs => by
    simp only [evLoop] at he
    split at he
    · rename_i a1 h1 hb
      obtain ⟨φ1, tm1, ds1, w1, r1, s1, e1⟩ := hf _ _ _ _ _ hb φ b tm ds w s (.inLoop c :: k) cs
      obtain ⟨φ2, tm2, ds2, w2, r2, s2, e2⟩ := evLoop_ok hf n _ _ _ _ _ he φ1 b tm1 ds1 w1 s1 k cs
      exact ⟨φ2, tm2, ds2, w2, .of_steps (Steps.trans r1 (.one go_inLoop)) r2, s2, e1.trans e2⟩
    · rename_i hn
      obtain ⟨φ1, tm1, ds1, w1, r1, s1, e1⟩ := hf _ _ _ _ _ he φ b tm ds w s (.inLoop c :: k) cs
      refine ⟨φ1, tm1, ds1, w1, .pass (fun id _ => rfl) (fun e => ?_) r1, s1, e1⟩
      subst e
      exact hn _ _ he

theorem Rel.putObj {φ : Phi} (r : Rel B w0 φ h w) {i : Nat} {p : Pl} {o o' : AObj} {O : Obj} (hi : φ i = some p) (hg : h.get i = some o) (hw : o.writable = true) (hw' : o'.writable = true)
    (ho : ObjRel φ (w.putObj p.blk O) p o') : Rel B w0 φ (h.set i o') (w.putObj p.blk O) := by
  have hB := r.own _ _ _ hi hg hw
  refine r.write hi hg hw hw' ⟨rfl, rfl, rfl, by simp [World.putObj], fun k hk => World.putObj_heap_other (by omega)⟩ (fun k hk => World.putObj_heap_other hk) ho

theorem ObjRel.loop_get {p : Pl} {r : ALoop} (ho : ObjRel φ w p (.loop r)) : ∃ r', w.heap[p.blk]? = some (.loop r') ∧ LoopRel φ r r' := ho

theorem Rel.putLoop {φ : Phi} (R : Rel B w0 φ h w) {i : Nat} {p : Pl} {r : ALoop} {r' : Loop} (hi : φ i = some p) (hg : h.get i = some (.loop r)) (hr : LoopRel φ r r') (st : LoopState) (pd : Option Code) :
    Rel B w0 φ (h.set i (.loop { r with state := st, pending := pd })) (w.putObj p.blk (.loop { r' with state := st, pending := pd })) := by
  obtain ⟨r1, h1, h2⟩ := (R.obj _ _ _ hi hg).loop_get
  exact R.putObj hi hg rfl rfl ⟨_, World.putObj_heap_same (Array.getElem?_eq_some_iff.1 h1).1, { hr with state := rfl, pending := rfl }⟩

theorem go_endLoop {b : Frame} {tm : Array Value} {ds : List Deferred} {k : List Item} {cs : List Frame} {l : Nat} {r : Loop} (hl : w.heap[l]? = some (.loop r)) (hb : r.state ≠ .busy) :
    step P (lone (mk b tm ds (.endRangeFunc l :: k)) cs w) = .next (lone (mk b tm ds ((r.pending.map Item.code).toList ++ k)) cs (w.putObj l (.loop { r with state := .exhausted }))) :=
  stepR_endRangeFunc (a := ⟨tm, ds⟩) (run_endLoop hl hb)

theorem go_rangeFunc {b : Frame} {tm : Array Value} {ds : List Deferred} {k : List Item} {cs : List Frame} {f : Operand} {params : Array Tmp} {assign body : Code} {g : FuncId} {first captured : Array Value}
    (hb : b.roundOf = none) (hf : Act.eval ⟨tm, ds⟩ f = .func (.func g) first captured) {w2 : World}
    (hw2 : w2 = (w.alloc (.deferred (some []))).alloc (.loop { state := .ready, pending := none, fn := b.fn, tmps := tm, params, assign, body, defers := w.heap.size }))
    (hc : (callFunc g (first ++ #[.func (.yield (w.heap.size + 1)) #[] #[]] ++ captured)).run P w2 = .ok (.enter g (first ++ #[.func (.yield (w.heap.size + 1)) #[] #[]] ++ captured)) w2) :
    step P (lone (mk b tm ds (.code (.rangeFunc f params assign body) :: k)) cs w) =
      .next (lone (Frame.enter P g (first ++ #[.func (.yield (w.heap.size + 1)) #[] #[]] ++ captured) .normal)
        (mk b tm ({ target := .collected w.heap.size, args := #[] } :: ds) (.inRangeFunc (w.heap.size + 1) :: k) :: cs) w2) := by
  refine stepR_rangeFunc (a := ⟨tm, ds⟩) (d := { target := .fn (.func g) captured, args := first ++ #[.func (.yield (w.heap.size + 1)) #[] #[]] }) (w₁ := w2) (w₁' := w2)
    (mark := [{ target := .collected w.heap.size, args := #[] }]) (l := w.heap.size + 1) ?_ ?_ ?_
  · rw [hb, run_enterLoop_outer, hw2]
  · simp only [resolve, hf, Deferred.ofValue, Sem.run_pure]
    simp [Act.eval]
  · simp only [invoke]
    exact hc

/-- a range over a function -/
theorem opGo_ok {call : CallF} (hC : CallOk P B w0 call) {f : Operand} {c : CO} {params : Array Tmp} {assign body : Code} (hf : cO P f = .ok c) :
    CodeOk P B w0 (fun a h => opGo call (c.ev a) params assign body a h) (.code (.rangeFunc f params assign body)) := by
  intro a h x a' h' he φ b tm ds w s k cs
  have hv := cO_con (ds := ds) hf s.glob s.act
  simp only [opGo] at he
  split at he
  · rename_i g first captured hfv
    cases hrd : a.rd with
    | true => rw [hrd] at he; cases he
    | false =>
      rw [hrd] at he
      simp only [cond_false, forceN_eq] at he
      have hb : b.roundOf = none := by have := s.rd; rw [hrd] at this; cases hb : b.roundOf with
        | none => rfl
        | some l => rw [hb] at this; cases this
      rw [hfv] at hv
      generalize hev : Act.eval ⟨tm, ds⟩ f = fv at hv
      cases hv with
      | @func _ _ _ first' captured' h1 h2 =>
        have R1 := s.rel.push (room := 0) (o := .deferred (some [])) (O := .deferred (some [])) (alloc_new _ _)
        have X1 := Ext.push s.rel (.deferred (some [])) ⟨w.heap.size, 0, 0⟩
        generalize hφ1 : φ.set h.next ⟨w.heap.size, 0, 0⟩ = φ1 at R1 X1
        have g1 : φ1 h.next = some ⟨w.heap.size, 0, 0⟩ := by rw [← hφ1]; exact Phi.set_same _ _ _
        generalize hL : ({ state := .ready, pending := none, n := a.n, tmps := a.ts, params, assign, body } : ALoop) = L at he
        generalize hL' : ({ state := .ready, pending := none, fn := b.fn, tmps := tm, params, assign, body, defers := w.heap.size } : Loop) = L'
        have hLR : ∀ ψ : Phi, φ.le ψ → LoopRel ψ L L' := fun ψ hle => by
          subst hL hL'
          exact ⟨rfl, rfl, rfl, rfl, rfl, s.act.size, fun i => (s.act.val i).mono hle⟩
        have R2 := R1.push (room := 0) (o := .loop L) (O := .loop L') ⟨L', alloc_new _ _, hLR _ (X1.le.trans (Phi.le_set _ R1.fresh))⟩
        have X2 := Ext.push R1 (.loop L) ⟨(w.alloc (.deferred (some []))).heap.size, 0, 0⟩
        rw [World.size_alloc] at R2 X2
        rw [AH.next_push] at R2 X2
        generalize hφ2 : φ1.set (h.next + 1) ⟨w.heap.size + 1, 0, 0⟩ = φ2 at R2 X2
        have g2 : φ2 (h.next + 1) = some ⟨w.heap.size + 1, 0, 0⟩ := by rw [← hφ2]; exact Phi.set_same _ _ _
        have X := X1.trans X2
        split at he
        · rename_i rv h3 hcall
          have hargs : ConL φ2 (first ++ (.func (.yield (h.next + 1)) [] [] :: captured)) (first' ++ (.func (.yield (w.heap.size + 1)) #[] #[] :: captured')) :=
            (h1.mono X.le).append (.cons (.yield g2) (h2.mono X.le))
          obtain ⟨hen, hK⟩ := hC _ _ _ _ _ hcall φ2 _ _ hargs (s.glob.mono X.le) R2
          have e : (⟨first' ++ (.func (.yield (w.heap.size + 1)) #[] #[] :: captured')⟩ : Array Value) = ⟨first'⟩ ++ #[.func (.yield (w.heap.size + 1)) #[] #[]] ++ ⟨captured'⟩ := by simp
          rw [e] at hK hen
          obtain ⟨v', w3, fr, fn, ⟨φ3, c1, R3, X3⟩, hst, e1, e2, e3, e4, e5, e6⟩ := hK (mk b tm ({ target := .collected w.heap.size, args := #[] } :: ds) (.inRangeFunc (w.heap.size + 1) :: k) :: cs)
          have s0 := go_rangeFunc (P := P) (k := k) (cs := cs) (params := params) (assign := assign) (body := body) hb hev rfl (by rw [hL']; exact hen _)
          rw [hL'] at s0
          have s1 := Steps.head s0 (hst.trans (.one (go_leave e2 e3 e4 e5 e6)))
          rw [show (mk b tm ({ target := .collected w.heap.size, args := #[] } :: ds) (.inRangeFunc (w.heap.size + 1) :: k)).finish v' = mk b tm ({ target := .collected w.heap.size, args := #[] } :: ds) (.endRangeFunc (w.heap.size + 1) :: k) from rfl] at s1
          split at he
          · rename_i r hg
            have hp3 : φ3 (h.next + 1) = some ⟨w.heap.size + 1, 0, 0⟩ := X3.le _ _ g2
            obtain ⟨r', hr1, hr2⟩ := (R3.obj _ _ _ hp3 hg).loop_get
            have key : r.state ≠ .busy → ∀ x, (∀ (b : Frame) tm ds w, Steps P (lone (mk b tm ds ((r.pending.map Item.code).toList ++ k)) cs w) (lone (mk b tm ds ((r.pending.map Item.code).toList ++ k)) cs w) → Arr P (lone (mk b tm ds ((r.pending.map Item.code).toList ++ k)) cs w) b k cs tm ds w x) →
                ∃ φ' tm' ds' w', Arr P (lone (mk b tm ds (.code (.rangeFunc f params assign body) :: k)) cs w) b k cs tm' ds' w' x ∧
                  St P B w0 φ' ⟨a.n, a.ts, .collected h.next :: a.ds, false⟩ (h3.set (h.next + 1) (.loop { r with state := .exhausted })) b.roundOf.isSome tm' ds' w' ∧
                  Ext φ h φ' (h3.set (h.next + 1) (.loop { r with state := .exhausted })) := by
              intro hbusy x hx
              have s2 := go_endLoop (P := P) (b := b) (tm := tm) (ds := { target := .collected w.heap.size, args := #[] } :: ds) (k := k) (cs := cs) hr1 (by rw [hr2.state]; exact hbusy)
              rw [hr2.pending] at s2
              refine ⟨φ3, tm, _, _, .of_steps (s1.trans (.one s2)) (hx b tm _ _ (.refl _ _)), ⟨?_, ?_, R3.putLoop hp3 hg hr2 .exhausted r.pending, (s.glob.mono X.le).mono X3.le, by rw [hb]; rfl⟩, (X.trans X3).trans (.write hp3 _)⟩
              · exact ⟨s.act.size, fun i => ((s.act.val i).mono X.le).mono X3.le⟩
              · exact .cons (.collected (X3.le _ _ (X2.le _ _ g1))) ((s.defs.mono X.le).mono X3.le)
            split at he
            · cases he
            · rename_i hbusy
              split at he
              · rename_i hpd; cases he
                exact key hbusy .normal (fun b tm ds w st => by rw [hpd] at st ⊢; exact st)
              · rename_i hpd; cases he
                exact key hbusy .ret (fun b tm ds w st => by rw [hpd] at st ⊢; exact ⟨k, st⟩)
              · rename_i id hpd; cases he
                exact key hbusy (.exit id) (fun b tm ds w st => by rw [hpd] at st ⊢; exact ⟨k, rfl, st⟩)
              · cases he
          · cases he
        · cases he
  · cases he

end Go.Dr
