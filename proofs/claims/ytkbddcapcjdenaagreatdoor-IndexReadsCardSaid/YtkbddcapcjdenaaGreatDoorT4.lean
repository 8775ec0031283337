/-
  Texts joined: DrWq, DrSq, DrArg, DrClosed, DrSort, IyA, IyC1, IyC2.
-/
import Derived.Test.YtkbddcapcjdenaaGreatDoorT3
import Derived.ProofKit
import Derived.Sort.OwnSortedInts
import Derived.Test.YtkbddcapcjdenaaGreatDoorRows

/-
  What a piece of code makes sure of in all its ends: maps are gone through in any order.
-/
namespace Go.Dr

inductive DC where
  | skip
  | ops (l : List CEnt)
  | drawn (l : List CEnt)
  | seq (x y : DC)
  | cond (c : CO) (x y : DC)
  | block (id : Nat) (c : DC)
  | loop (c : DC)
  | exit (id : Nat)
  | ret
  | go (n : Nat) (f : CO) (params : Array Tmp) (assign body : Code)
  deriving Inhabited

structure DF where
  n : Nat
  res : List CRes
  c : DC
  deriving Inhabited

section
variable (P : Program)

def nextC : COp → Option CO
  | .next it false => some it
  | _ => none

def agreeN (o : Oper) (c : COp) : Bool :=
  match nextOf o.op with
  | some _ => true
  | none => match nextC c with | some _ => false | none => true

def compRowsD (n : Nat) (rd : Bool) (ops : Array Oper) : List Oper → R (List CEnt)
  | [] => .ok []
  | o :: l => match compRow P n rd ops o with
    | .ok r => bif agreeN o r.c then match compRowsD n rd ops l with
      | .ok l => .ok (.row r :: l)
      | .error e => .error e
      else .error "row: next"
    | .error e => .error e

def compD (n : Nat) (rd : Bool) : Code → R DC
  | .skip => .ok .skip
  | .label _ => .ok .skip
  | .region _ ops draw => bif draw then (match plan P ops with
      | .ok l => match compEnts P n rd ops l with | .ok l => .ok (.drawn l) | .error e => .error e
      | .error e => .error e)
    else match compRowsD P n rd ops ops.toList with | .ok l => .ok (.ops l) | .error e => .error e
  | .seq x y => match compD n rd x with
    | .ok a => match compD n rd y with | .ok b => .ok (.seq a b) | .error e => .error e
    | .error e => .error e
  | .cond c x y => match cO P c with
    | .ok c => match compD n rd x with
      | .ok a => match compD n rd y with | .ok b => .ok (.cond c a b) | .error e => .error e
      | .error e => .error e
    | .error e => .error e
  | .block id c => match compD n rd c with | .ok a => .ok (.block id a) | .error e => .error e
  | .loop c => match compD n rd c with | .ok a => .ok (.loop a) | .error e => .error e
  | .exit id => .ok (.exit id)
  | .ret => .ok .ret
  | .scope c => compD n rd c
  | .rangeFunc f params assign body => match cO P f with
    | .ok f => bif rd then .error "rangeFunc in a round" else .ok (.go n f params assign body)
    | .error e => .error e
  | .goto _ => .error "goto"
  | .refuse why => .error why

def compFD (f : FuncId) : R DF :=
  match P.funcs[f]? with
  | some fn => match fn.body with
    | some c => match compD P fn.ntmps false c with
      | .ok cc => match compRes P fn.results.toList with
        | .ok r => .ok ⟨fn.ntmps, r, cc⟩
        | .error e => .error e
      | .error e => .error e
    | none => .error "no body"
  | none => .error "no function"

end

section
variable (P : Program) (S : Sums)

def clN (N : Nat) : CallD := evCallN P S N N

/-- a call comes out with K, in all its ends -/
def EvN (t : Tgt) (args : List AV) (h : AH) (K : AV → AH → Prop) : Prop := ∃ N l, clN P S N t args h = .ok l ∧ ∀ x ∈ l, K x.1 x.2

def wqR (r : RN) (K : AV → AH → Prop) (D : ADef → AH → Prop) : Prop :=
  match r with
  | .ok (n, h) => match n with
    | .value v => K v h
    | .skip => K aundef h
    | .enter f args => EvN P S (.fn f) args h K
    | .yield l args => EvN P S (.yield l) args h K
    | .defer d => D d h
  | .error _ => False

def wqNext (r : RL (AV × AH)) (K : AV → AH → Prop) : Prop :=
  match r with
  | .ok l => ∀ x ∈ l, K x.1 x.2
  | .error _ => False

def wqE (c : COp) (σ : Sg) (h : AH) (K : AV → AH → Prop) (D : ADef → AH → Prop) : Prop :=
  match nextC c with
  | some it => wqNext (nextD h (it.evS σ)) K
  | none => wqR P S (evS P c σ h) K D

def wqOps : List CEnt → Post → Sg → List ADef → AH → Prop
  | [], Q, σ, ds, h => Q .normal σ ds h
  | .row r :: l, Q, σ, ds, h => match r.g with
    | none => wqE P S r.c σ h (fun v h => wqOps l Q (upd σ r.d v) ds h) (fun df h => wqOps l Q (upd σ r.d aundef) (df :: ds) h)
    | some (t, w) => wpGu (σ t) w (wqE P S r.c σ h (fun v h => wqOps l Q (upd σ r.d v) ds h) (fun df h => wqOps l Q (upd σ r.d aundef) (df :: ds) h))
        (wqOps l Q (upd σ r.d aundef) ds h)
  | .stage _ :: _, _, _, _, _ => False

def wqGo (f : AV) (n : Nat) (params : Array Tmp) (assign body : Code) (Q : Post) (σ : Sg) (ds : List ADef) (h : AH) : Prop :=
  match f with
  | .func (.func g) first captured => ∀ tmps : PT AV, (∀ i, valT tmps i = σ i) →
      EvN P S (.fn g) (first ++ (.func (.yield (h.next + 1)) [] [] :: captured))
        ((h.push (.deferred (some []))).push (.loop { state := .ready, pending := none, n := n, tmps := tmps, params, assign, body })) (Kgo Q σ ds h.next)
  | _ => False

def wqC : DC → Post → Sg → List ADef → AH → Prop
  | .skip, Q, σ, ds, h => Q .normal σ ds h
  | .ops l, Q, σ, ds, h => wqOps P S l Q σ ds h
  | .drawn l, Q, σ, ds, h => wpOps P S l Q σ ds h
  | .seq x y, Q, σ, ds, h => wqC x (fun r σ ds h => match r with | .normal => wqC y Q σ ds h | r => Q r σ ds h) σ ds h
  | .cond c x y, Q, σ, ds, h => wpG (c.evS σ) true (wqC x Q σ ds h) (wqC y Q σ ds h)
  | .block id c, Q, σ, ds, h => wqC c (Kblk id Q) σ ds h
  | .loop c, Q, σ, ds, h => ∃ (I : Inv) (k : Nat), I k σ ds h ∧ ∀ k σ ds h, I k σ ds h → wqC c (Kloop I k Q) σ ds h
  | .exit id, Q, σ, ds, h => Q (.exit id) σ ds h
  | .ret, Q, σ, ds, h => Q .ret σ ds h
  | .go n f params assign body, Q, σ, ds, h => wqGo P S (f.evS σ) n params assign body Q σ ds h

def KseqQ (y : DC) (Q : Post) : Post := fun r σ ds h => match r with | .normal => wqC P S y Q σ ds h | r => Q r σ ds h

end

/-! ### soundness -/

section
variable {P : Program} {S : Sums}

theorem clN_mono {N N' : Nat} (h : N ≤ N') : CallDLe (clN P S N) (clN P S N') := evCallN_mono h h

theorem EvN.mono {t : Tgt} {args : List AV} {h : AH} {K K' : AV → AH → Prop} (e : EvN P S t args h K) (hk : ∀ v h', K v h' → K' v h') : EvN P S t args h K' := by
  obtain ⟨N, l, e, k⟩ := e
  exact ⟨N, l, e, fun x hx => hk _ _ (k x hx)⟩

theorem bindD_ok {α β : Type} {f : Nat → α → RL β} (hm : ∀ N N', N ≤ N' → ∀ x r, f N x = .ok r → f N' x = .ok r) {Φ : β → Prop} : ∀ (l : List α), (∀ x ∈ l, ∃ N r, f N x = .ok r ∧ ∀ y ∈ r, Φ y) →
    ∃ N r, bindD (f N) l = .ok r ∧ ∀ y ∈ r, Φ y
  | [], _ => ⟨0, [], rfl, fun y hy => by cases hy⟩
  | x :: l, h => by
    obtain ⟨N1, r1, e1, k1⟩ := h x (by simp)
    obtain ⟨N2, r2, e2, k2⟩ := bindD_ok hm l fun y hy => h y (List.mem_cons_of_mem _ hy)
    refine ⟨max N1 N2, r1 ++ r2, ?_, fun y hy => ?_⟩
    · simp only [bindD, hm _ _ (Nat.le_max_left N1 N2) _ _ e1, bindD_mono (hm _ _ (Nat.le_max_right N1 N2)) e2]
    · rcases List.mem_append.1 hy with hy | hy
      · exact k1 y hy
      · exact k2 y hy

/-- after an operation -/
def AftOp (n : Nat) (rd : Bool) (o : Oper) (a : AAct) (K : AV → AH → Prop) (D : ADef → AH → Prop) (x : AAct × AH) : Prop :=
  Keep n rd x.1 ∧ ((∃ v, x.1.val = upd a.val o.dst v ∧ x.1.ds = a.ds ∧ K v x.2) ∨ (∃ df, x.1.val = upd a.val o.dst aundef ∧ x.1.ds = df :: a.ds ∧ D df x.2))

theorem operD_ok {n : Nat} {rd : Bool} {o : Oper} {c : COp} {a : AAct} {h : AH} {K : AV → AH → Prop} {D : ADef → AH → Prop} (hc' : c = compOr P o) (hk : Keep n rd a) (hd : dstOk n o.dst = true)
    (hrd : rd = true → c.isDefer = false) (hag : agreeN o c = true) (hw : wqE P S c a.val h K D) :
    ∃ N r, evOperD P (clN P S N) o a h = .ok r ∧ ∀ x ∈ r, AftOp n rd o a K D x := by
  have hd' : dstOk a.n o.dst = true := by rw [hk.n]; exact hd
  have hval : ∀ v, (a.put o.dst v).val = upd a.val o.dst v := fun v => a.put_val _ _ hd'
  have hds : ∀ v, (a.put o.dst v).ds = a.ds := fun v => (a.put_same _ _).2.1
  have aft : ∀ v h', K v h' → AftOp n rd o a K D (putD a o.dst (v, h')) := fun v h' k => by
    simp only [putD, forceV_eq]
    exact ⟨hk.put _ _, .inl ⟨v, hval v, hds v, k⟩⟩
  have hstuck : ∀ c', c' = stuckOp → nextC c' = none → ¬ wqR P S (evS P c' a.val h) K D := by
    rintro _ rfl _ hw
    exact hw.elim
  unfold evOperD
  cases hno : nextOf o.op with
  | some x =>
    have hop := nextOf_ok hno
    have hcomp : comp P o = with1 P x fun a => .ok (.next a false) := by simp only [comp, hop]
    simp only
    unfold compOr at hc'
    rw [hcomp] at hc'
    unfold with1 at hc'
    cases hx : cO P x with
    | error e =>
      rw [hx] at hc'
      simp only at hc'
      subst hc'
      exact hw.elim
    | ok ca =>
      rw [hx] at hc'
      simp only at hc'
      subst hc'
      simp only [wqE, nextC] at hw
      simp only [evNextD, CO.ev_eq]
      unfold wqNext at hw
      split at hw
      · rename_i l hl
        simp only [hl]
        refine ⟨0, _, rfl, fun y hy => ?_⟩
        obtain ⟨z, hz, rfl⟩ := List.mem_map.1 hy
        exact aft _ _ (hw z hz)
      · exact hw.elim
  | none =>
    unfold agreeN at hag
    rw [hno] at hag
    simp only at hag
    unfold wqE at hw
    split at hw
    · rename_i it hit; rw [hit] at hag; cases hag
    · simp only
      have hc : comp P o = .ok c := by
        unfold compOr at hc'
        split at hc'
        · rename_i c1 e; rw [e, hc']
        · subst hc'; exact hw.elim
      simp only [hc, evC_eq]
      generalize hres : evS P c a.val h = res at hw
      unfold wqR at hw
      unfold evCD
      cases res with
      | error e => exact hw.elim
      | ok p =>
        obtain ⟨m, h1⟩ := p
        cases m with
        | value v => exact ⟨0, _, rfl, fun x hx => by rw [List.mem_singleton.1 hx]; exact aft _ _ hw⟩
        | skip => exact ⟨0, _, rfl, fun x hx => by rw [List.mem_singleton.1 hx]; exact ⟨hk.put _ _, .inl ⟨_, hval _, hds _, hw⟩⟩⟩
        | enter f args =>
          obtain ⟨N, l, e, k⟩ := hw
          refine ⟨N, l.map (putD a o.dst), by simp only [e], fun x hx => ?_⟩
          obtain ⟨z, hz, rfl⟩ := List.mem_map.1 hx
          exact aft _ _ (k z hz)
        | yield f args =>
          obtain ⟨N, l, e, k⟩ := hw
          refine ⟨N, l.map (putD a o.dst), by simp only [e], fun x hx => ?_⟩
          obtain ⟨z, hz, rfl⟩ := List.mem_map.1 hx
          exact aft _ _ (k z hz)
        | defer d =>
          have hr : a.rd = false := by
            cases e : a.rd with
            | false => rfl
            | true =>
              have := hrd (hk.rd.symm.trans e)
              rw [isDefer_of hres] at this
              cases this
          refine ⟨0, [((⟨a.n, a.ts, d :: a.ds, a.rd⟩ : AAct).put o.dst aundef, h1)], by simp only [hr, cond_false], fun x hx => ?_⟩
          rw [List.mem_singleton.1 hx]
          refine ⟨Keep.put (a := ⟨a.n, a.ts, d :: a.ds, a.rd⟩) ⟨hk.n, hk.rd⟩ _ _, .inr ⟨d, ?_, ?_, hw⟩⟩
          · exact AAct.put_val ⟨a.n, a.ts, d :: a.ds, a.rd⟩ o.dst aundef hd'
          · exact (AAct.put_same _ _ _).2.1

theorem rowsD_ok {n : Nat} {rd : Bool} {ops : Array Oper} : ∀ (l : List Oper) (l' : List CEnt), compRowsD P n rd ops l = .ok l' → ∀ {Q : Post} {a : AAct} {h : AH}, Keep n rd a → wqOps P S l' Q a.val a.ds h →
    ∃ N r, evOpsD P (clN P S N) ops l a h = .ok r ∧ ∀ x ∈ r, Keep n rd x.1 ∧ Q .normal x.1.val x.1.ds x.2
  | [], l', hc, Q, a, h, hk, hw => by
    cases hc
    exact ⟨0, _, rfl, fun x hx => by rw [List.mem_singleton.1 hx]; exact ⟨hk, hw⟩⟩
  | o :: l, l', hc, Q, a, h, hk, hw => by
    simp only [compRowsD] at hc
    split at hc
    · rename_i r hr
      cases hag : agreeN o r.c with
      | false => rw [hag] at hc; cases hc
      | true =>
        rw [hag] at hc
        simp only [cond_true] at hc
        split at hc
        · rename_i l2 hl2
          cases hc
          obtain ⟨h1, h2, h3, h4, h5⟩ := compRow_ok hr
          have goOn : wqE P S r.c a.val h (fun v h => wqOps P S l2 Q (upd a.val r.d v) a.ds h) (fun df h => wqOps P S l2 Q (upd a.val r.d aundef) (df :: a.ds) h) → wantedA ops o a = .ok true →
              ∃ N s, evOpsD P (clN P S N) ops (o :: l) a h = .ok s ∧ ∀ x ∈ s, Keep n rd x.1 ∧ Q .normal x.1.val x.1.ds x.2 := by
            intro hw hwant
            rw [h3] at hw
            obtain ⟨N1, s1, e1, k1⟩ := operD_ok h1 hk h4 h5 hag hw
            obtain ⟨N2, s2, e2, k2⟩ := bindD_ok (f := fun N (x : AAct × AH) => evOpsD P (clN P S N) ops l x.1 x.2) (fun N N' hn x r hr => evOpsD_mono (clN_mono hn) l hr)
              (Φ := fun x => Keep n rd x.1 ∧ Q .normal x.1.val x.1.ds x.2) s1 fun x hx => by
                obtain ⟨b1, b2⟩ := k1 x hx
                refine rowsD_ok l l2 hl2 b1 ?_
                rcases b2 with ⟨v, c1, c2, c3⟩ | ⟨df, c1, c2, c3⟩
                · rw [c1, c2]; exact c3
                · rw [c1, c2]; exact c3
            refine ⟨max N1 N2, s2, ?_, k2⟩
            simp only [evOpsD, hwant, evOperD_mono (clN_mono (Nat.le_max_left N1 N2)) e1]
            exact bindD_mono (fun x r hr => evOpsD_mono (clN_mono (Nat.le_max_right N1 N2)) l hr) e2
          rcases guard_wanted (a := a) h2 with ⟨g, hwant⟩ | ⟨t, w, g, hwant⟩
          · simp only [wqOps, g] at hw
            exact goOn hw hwant
          · simp only [wqOps, g] at hw
            rcases wpGu_cases hw with ⟨b, hb, hbw, hw⟩ | ⟨hno, hw⟩
            · rw [hb] at hwant
              exact goOn hw (by rw [hwant]; simp [gw, hbw])
            · rw [h3] at hw
              have hv := AAct.put_val a o.dst aundef (by rw [hk.n]; exact h4)
              have hd := (a.put_same o.dst aundef).2.1
              obtain ⟨N2, s2, e2, k2⟩ := rowsD_ok l l2 hl2 (hk.put o.dst aundef) (by rw [hv, hd]; exact hw)
              refine ⟨N2, s2, ?_, k2⟩
              simp only [evOpsD, hwant.trans hno]
              exact e2
        · cases hc
    · cases hc

/-- after a piece of code -/
abbrev AftC (n : Nat) (rd : Bool) (Q : Post) (y : AX × AAct × AH) : Prop := ∃ x : WX, y.1 = x.ax ∧ Keep n rd y.2.1 ∧ Q x y.2.1.val y.2.1.ds y.2.2

theorem loopD_ok {n : Nat} {rd : Bool} {c : Code} {cc : DC}
    (ih : ∀ {Q : Post} {a : AAct} {h : AH}, Keep n rd a → wqC P S cc Q a.val a.ds h → ∃ N r, evCodeD P (clN P S N) N c a h = .ok r ∧ ∀ y ∈ r, AftC n rd Q y)
    {I : Inv} {Q : Post} (hI : ∀ k σ ds h, I k σ ds h → wqC P S cc (Kloop I k Q) σ ds h) : ∀ (k : Nat) (a : AAct) (h : AH), Keep n rd a → I k a.val a.ds h →
    ∃ N r, (∀ lf, N ≤ lf → evLoopD (evCodeD P (clN P S lf) lf c) lf a h = .ok r) ∧ ∀ y ∈ r, AftC n rd Q y := by
  intro k
  induction k using Nat.strongRecOn with
  | _ k ihk =>
    intro a h hk hi
    obtain ⟨N, r, e, hr⟩ := ih hk (hI k _ _ _ hi)
    have hbody : ∀ lf, N ≤ lf → evCodeD P (clN P S lf) lf c a h = .ok r := fun lf hl => evCodeD_mono (clN_mono hl) hl _ e
    obtain ⟨N2, s, e2, hs⟩ := bindD_ok (α := AX × AAct × AH) (f := fun N (x : AX × AAct × AH) => match x.1 with | .normal => evLoopD (evCodeD P (clN P S N) N c) N x.2.1 x.2.2 | _ => .ok [x])
      (fun N N' hn x r hr => by
        split at hr
        · exact evLoopD_mono (fun a h r hr => evCodeD_mono (clN_mono hn) hn _ hr) hn hr
        · exact hr) (Φ := AftC n rd Q) r fun y hy => by
          obtain ⟨x, b1, b2, b3⟩ := hr y hy
          cases x with
          | normal =>
            obtain ⟨k', hlt, hi'⟩ := b3
            obtain ⟨N3, s3, e3, h3⟩ := ihk k' hlt _ _ b2 hi'
            refine ⟨N3, s3, ?_, h3⟩
            rw [b1]
            exact e3 N3 (Nat.le_refl _)
          | exit i => exact ⟨0, [y], by rw [b1]; rfl, fun z hz => by rw [List.mem_singleton.1 hz]; exact ⟨.exit i, b1, b2, b3⟩⟩
          | ret => exact ⟨0, [y], by rw [b1]; rfl, fun z hz => by rw [List.mem_singleton.1 hz]; exact ⟨.ret, b1, b2, b3⟩⟩
    refine ⟨max N N2 + 1, s, fun lf hl => ?_, hs⟩
    obtain ⟨m, rfl⟩ : ∃ m, lf = m + 1 := ⟨lf - 1, by omega⟩
    simp only [evLoopD]
    rw [hbody (m + 1) (by omega)]
    have h2 : N2 ≤ m := by omega
    refine bindD_mono (fun x r hr => ?_) e2
    obtain ⟨x1, x2⟩ := x
    cases x1 with
    | normal => exact evLoopD_mono (fun a h r hr => evCodeD_mono (clN_mono (Nat.le_succ_of_le h2)) (Nat.le_succ_of_le h2) _ hr) h2 hr
    | _ => exact hr

theorem codeD_ok {n : Nat} {rd : Bool} : ∀ (c : Code) (cc : DC), compD P n rd c = .ok cc → ∀ {Q : Post} {a : AAct} {h : AH}, Keep n rd a → wqC P S cc Q a.val a.ds h →
    ∃ N r, evCodeD P (clN P S N) N c a h = .ok r ∧ ∀ y ∈ r, AftC n rd Q y
  | .skip, cc, hc, Q, a, h, hk, hw => by cases hc; exact ⟨0, _, rfl, fun y hy => by rw [List.mem_singleton.1 hy]; exact ⟨.normal, rfl, hk, hw⟩⟩
  | .label _, cc, hc, Q, a, h, hk, hw => by cases hc; exact ⟨0, _, rfl, fun y hy => by rw [List.mem_singleton.1 hy]; exact ⟨.normal, rfl, hk, hw⟩⟩
  | .region _ ops draw, cc, hc, Q, a, h, hk, hw => by
    simp only [compD] at hc
    cases draw with
    | true =>
      simp only [cond_true] at hc
      split at hc
      · rename_i l hl
        split at hc
        · rename_i l2 hl2
          cases hc
          obtain ⟨N, a', h', e, k, q⟩ := ents_ok l l2 hl2 hk hw
          refine ⟨N, [(.normal, a', h')], ?_, fun y hy => by rw [List.mem_singleton.1 hy]; exact ⟨.normal, rfl, k, q⟩⟩
          have : evDraw P (cl P S N) ops a h = .ok (a', h') := by simp only [evDraw, hl, e]
          simp only [evCodeD, evDraw_mono (DSub.one (evCall_sub (S := S) (lf := N) (n := N))) this, clN]
        · cases hc
      · cases hc
    | false =>
      simp only [cond_false] at hc
      split at hc
      · rename_i l hl
        cases hc
        obtain ⟨N, r, e, k⟩ := rowsD_ok _ l hl hk hw
        refine ⟨N, r.map fun x => (.normal, x.1, x.2), by simp only [evCodeD, e], fun y hy => ?_⟩
        obtain ⟨z, hz, rfl⟩ := List.mem_map.1 hy
        exact ⟨.normal, rfl, k z hz⟩
      · cases hc
  | .seq x y, cc, hc, Q, a, h, hk, hw => by
    simp only [compD] at hc
    split at hc
    · rename_i c1 hx
      split at hc
      · rename_i c2 hy
        cases hc
        simp only [wqC] at hw
        obtain ⟨N1, r1, e1, k1⟩ := codeD_ok x c1 hx hk hw
        obtain ⟨N2, r2, e2, k2⟩ := bindD_ok (α := AX × AAct × AH) (f := fun N (x : AX × AAct × AH) => match x.1 with | .normal => evCodeD P (clN P S N) N y x.2.1 x.2.2 | _ => .ok [x])
          (fun N N' hn x r hr => by
            split at hr
            · exact evCodeD_mono (clN_mono hn) hn _ hr
            · exact hr) (Φ := AftC n rd Q) r1 fun z hz => by
              obtain ⟨q, b1, b2, b3⟩ := k1 z hz
              cases q with
              | normal =>
                obtain ⟨N3, r3, e3, k3⟩ := codeD_ok y c2 hy b2 b3
                exact ⟨N3, r3, by rw [b1]; exact e3, k3⟩
              | exit i => exact ⟨0, [z], by rw [b1]; rfl, fun u hu => by rw [List.mem_singleton.1 hu]; exact ⟨.exit i, b1, b2, b3⟩⟩
              | ret => exact ⟨0, [z], by rw [b1]; rfl, fun u hu => by rw [List.mem_singleton.1 hu]; exact ⟨.ret, b1, b2, b3⟩⟩
        refine ⟨max N1 N2, r2, ?_, k2⟩
        simp only [evCodeD]
        rw [evCodeD_mono (clN_mono (Nat.le_max_left N1 N2)) (Nat.le_max_left N1 N2) _ e1]
        refine bindD_mono (fun x r hr => ?_) e2
        obtain ⟨x1, x2⟩ := x
        cases x1 with
        | normal => exact evCodeD_mono (clN_mono (Nat.le_max_right N1 N2)) (Nat.le_max_right N1 N2) _ hr
        | _ => exact hr
      · cases hc
    · cases hc
  | .cond c x y, cc, hc, Q, a, h, hk, hw => by
    simp only [compD] at hc
    split at hc
    · rename_i c1 hc1
      split at hc
      · rename_i c2 hx
        split at hc
        · rename_i c3 hy
          cases hc
          simp only [wqC, wpG] at hw
          split at hw
          · rename_i b hb
            cases b with
            | true =>
              simp only [if_pos] at hw
              obtain ⟨N, r, e1, k1⟩ := codeD_ok x c2 hx hk hw
              exact ⟨N, r, by simp only [evCodeD, hc1, CO.ev_eq, hb]; exact e1, k1⟩
            | false =>
              simp only [Bool.false_eq_true, if_false] at hw
              obtain ⟨N, r, e1, k1⟩ := codeD_ok y c3 hy hk hw
              exact ⟨N, r, by simp only [evCodeD, hc1, CO.ev_eq, hb]; exact e1, k1⟩
          · exact hw.elim
        · cases hc
      · cases hc
    · cases hc
  | .block id c, cc, hc, Q, a, h, hk, hw => by
    simp only [compD] at hc
    split at hc
    · rename_i c1 hc1
      cases hc
      obtain ⟨N, r, e1, k1⟩ := codeD_ok c c1 hc1 hk hw
      refine ⟨N, r.map fun x => match x.1 with | .exit i => bif Nat.beq i id then (.normal, x.2.1, x.2.2) else x | _ => x, by simp only [evCodeD, e1]; rfl, fun y hy => ?_⟩
      obtain ⟨z, hz, rfl⟩ := List.mem_map.1 hy
      obtain ⟨x, b1, b2, b3⟩ := k1 z hz
      cases x with
      | normal => rw [b1]; exact ⟨.normal, b1, b2, b3⟩
      | ret => rw [b1]; exact ⟨.ret, b1, b2, b3⟩
      | exit i =>
        rw [b1]
        simp only [WX.ax, Kblk] at b3 ⊢
        by_cases hi : i = id
        · rw [if_pos hi] at b3
          simp only [PT.beqT hi, cond_true]
          exact ⟨.normal, rfl, b2, b3⟩
        · rw [if_neg hi] at b3
          simp only [PT.beqF hi, cond_false]
          exact ⟨.exit i, b1, b2, b3⟩
    · cases hc
  | .loop c, cc, hc, Q, a, h, hk, hw => by
    simp only [compD] at hc
    split at hc
    · rename_i c1 hc1
      cases hc
      obtain ⟨I, k, hi, hI⟩ := hw
      obtain ⟨N, r, e, hr⟩ := loopD_ok (fun hk hw => codeD_ok c c1 hc1 hk hw) hI k a h hk hi
      exact ⟨N, r, by simp only [evCodeD]; exact e N (Nat.le_refl _), hr⟩
    · cases hc
  | .exit id, cc, hc, Q, a, h, hk, hw => by cases hc; exact ⟨0, _, rfl, fun y hy => by rw [List.mem_singleton.1 hy]; exact ⟨.exit id, rfl, hk, hw⟩⟩
  | .ret, cc, hc, Q, a, h, hk, hw => by cases hc; exact ⟨0, _, rfl, fun y hy => by rw [List.mem_singleton.1 hy]; exact ⟨.ret, rfl, hk, hw⟩⟩
  | .scope c, cc, hc, Q, a, h, hk, hw => by
    obtain ⟨N, r, e, k⟩ := codeD_ok c cc hc hk hw
    exact ⟨N, r, by simp only [evCodeD, e], k⟩
  | .rangeFunc f params assign body, cc, hc, Q, a, h, hk, hw => by
    simp only [compD] at hc
    split at hc
    · rename_i f1 hf
      cases rd with
      | true => cases hc
      | false =>
        cases hc
        simp only [wqC, wqGo] at hw
        split at hw
        · rename_i g first captured hfe
          obtain ⟨N, l, e, kl⟩ := hw a.ts (fun i => rfl)
          rw [← hk.n] at e
          obtain ⟨N2, r2, e2, k2⟩ := bindD_ok (f := fun _ (x : AV × AH) => one1 (endGo h.next a x.2)) (fun _ _ _ x r hr => hr) (Φ := AftC n false Q) l fun x hx => by
            obtain ⟨r, hr, hst, hp⟩ := kl x hx
            have key : ∀ q : WX, one1 (endGo h.next a x.2) = .ok [(q.ax, ⟨a.n, a.ts, .collected h.next :: a.ds, a.rd⟩, x.2.set (h.next + 1) (.loop { r with state := .exhausted }))] →
                Q q a.val (.collected h.next :: a.ds) (x.2.set (h.next + 1) (.loop { r with state := .exhausted })) → ∃ (_ : Nat) (r : List (AX × AAct × AH)), one1 (endGo h.next a x.2) = .ok r ∧ ∀ y ∈ r, AftC n false Q y := by
              intro q h1 h2
              exact ⟨0, _, h1, fun y hy => by rw [List.mem_singleton.1 hy]; exact ⟨q, rfl, ⟨hk.n, hk.rd⟩, h2⟩⟩
            split at hp
            · rename_i hpe; refine key .normal ?_ hp; unfold endGo; simp only [hr, hpe]; cases hst' : r.state <;> first | exact absurd hst' hst | rfl
            · rename_i hpe; refine key .ret ?_ hp; unfold endGo; simp only [hr, hpe]; cases hst' : r.state <;> first | exact absurd hst' hst | rfl
            · rename_i id hpe; refine key (.exit id) ?_ hp; unfold endGo; simp only [hr, hpe]; cases hst' : r.state <;> first | exact absurd hst' hst | rfl
            · exact hp.elim
          refine ⟨N, r2, ?_, k2⟩
          simp only [evCodeD, hf, CO.ev_eq, hfe, opGoD, hk.rd, cond_false, forceN_eq, e]
          exact e2
        · exact hw.elim
    · cases hc
  | .goto _, cc, hc, Q, a, h, hk, hw => by cases hc
  | .refuse _, cc, hc, Q, a, h, hk, hw => by cases hc

/-! ### calls -/

variable (P S) in
/-- the deferred calls, and then K -/
def DefersN : List ADef → AH → (AH → Prop) → Prop
  | [], h, K => K h
  | .collected id :: l, h, K => h.get id = some (.deferred (some [])) ∧ DefersN l (h.set id (.deferred none)) K
  | .call fn captured args :: l, h, K => ∃ f args' h1, callFn fn captured args h = .ok (.enter f args', h1) ∧ S f = none ∧ EvN P S (.fn f) args' h1 fun _ h2 => DefersN l h2 K

theorem defersN_ok : ∀ (ds : List ADef) (h : AH) (K : AH → Prop), DefersN P S ds h K → ∃ N r, runDefersD (noSumD S (clN P S N)) ds h = .ok r ∧ ∀ h' ∈ r, K h'
  | [], h, K, hk => ⟨0, [h], rfl, fun h' hh => by rw [List.mem_singleton.1 hh]; exact hk⟩
  | .collected id :: l, h, K, hk => by
    obtain ⟨N, r, e, k⟩ := defersN_ok l _ K hk.2
    exact ⟨N, r, by simp only [runDefersD, hk.1, e], k⟩
  | .call fn captured args :: l, h, K, hk => by
    obtain ⟨f, args', h1, e1, hS, N1, r1, e2, hk⟩ := hk
    obtain ⟨N2, r2, e3, k⟩ := bindD_ok (f := fun N (x : AV × AH) => runDefersD (noSumD S (clN P S N)) l x.2) (fun N N' hn x r hr => runDefersD_mono (noSumD_mono (clN_mono hn)) l hr) (Φ := K) r1 fun x hx => defersN_ok l x.2 K (hk x hx)
    refine ⟨max N1 N2, r2, ?_, k⟩
    have e4 : noSumD S (clN P S (max N1 N2)) (.fn f) args' h1 = .ok r1 := by
      simp only [noSumD, hS, clN_mono (Nat.le_max_left N1 N2) _ _ _ _ e2]
    simp only [runDefersD, e1, e4]
    exact bindD_mono (fun x r hr => runDefersD_mono (noSumD_mono (clN_mono (Nat.le_max_right N1 N2))) l hr) e3

variable (P S) in
/-- after a function's body -/
def KfinN (res : List CRes) (K : AV → AH → Prop) : Post := fun x σ ds h => match x with
  | .exit _ => False
  | _ => DefersN P S ds h fun h => ∃ l, resS h σ res = .ok l ∧ K (oneOf l) h

theorem compFD_ok {f : FuncId} {cf : DF} (h : compFD P f = .ok cf) : ∃ fn c, P.funcs[f]? = some fn ∧ fn.body = some c ∧ fn.ntmps = cf.n ∧ compD P cf.n false c = .ok cf.c ∧ compRes P fn.results.toList = .ok cf.res := by
  unfold compFD at h
  split at h
  · rename_i fn hf
    split at h
    · rename_i c hb
      split at h
      · rename_i cc hcc
        split at h
        · rename_i r hr
          cases h
          exact ⟨fn, c, hf, hb, rfl, hcc, hr⟩
        · cases h
      · cases h
    · cases h
  · cases h

/-- a function's call, by its body -/
theorem evN_fn {f : FuncId} {cf : DF} {args : List AV} {h : AH} {K : AV → AH → Prop} (hc : compFD P f = .ok cf) (hS : S f = none) (hn : Nat.ble args.length cf.n = true)
    (hw : wqC P S cf.c (KfinN P S cf.res K) (argS args) [] h) : EvN P S (.fn f) args h K := by
  obtain ⟨fn, c, hf, hb, hnt, hcc, hr⟩ := compFD_ok hc
  have hval : (⟨cf.n, laid args 0 .leaf, [], false⟩ : AAct).val = argS args := by
    funext i
    simp only [AAct.val, laid_get, Nat.zero_le, true_and, Nat.zero_add, Nat.sub_zero, argS]
    by_cases hi : i < args.length
    · rw [if_pos hi]; rfl
    · rw [if_neg hi, List.getElem?_eq_none (by omega)]; rfl
  obtain ⟨N, r, e, k⟩ := codeD_ok c cf.c hcc (a := ⟨cf.n, laid args 0 .leaf, [], false⟩) ⟨rfl, rfl⟩ (by rw [hval]; exact hw)
  obtain ⟨N2, r2, e2, k2⟩ := bindD_ok (f := fun N (x : AX × AAct × AH) => leaveD P (noSumD S (clN P S N)) fn x) (Φ := fun x : AV × AH => K x.1 x.2) (fun N N' hn x r hr => by
      unfold leaveD at hr ⊢
      split at hr
      · split at hr
        · rename_i hd; simp only [runDefersD_mono (noSumD_mono (clN_mono hn)) _ hd]; exact hr
        · cases hr
      · split at hr
        · rename_i hd; simp only [runDefersD_mono (noSumD_mono (clN_mono hn)) _ hd]; exact hr
        · cases hr
      · cases hr) r fun y hy => by
        obtain ⟨x, b1, b2, b3⟩ := k y hy
        have main : (x.ax = .normal ∨ x.ax = .ret) → DefersN P S y.2.1.ds y.2.2 (fun h => ∃ l, resS h y.2.1.val cf.res = .ok l ∧ K (oneOf l) h) → ∃ N r, leaveD P (noSumD S (clN P S N)) fn y = .ok r ∧ ∀ z ∈ r, K z.1 z.2 := by
          intro hx hd
          obtain ⟨N3, r3, e3, k3⟩ := defersN_ok _ _ _ hd
          obtain ⟨_, r4, e4, k4⟩ := bindD_ok (f := fun _ h => match resultsA P h y.2.1 fn.results.toList with
            | .ok l => (.ok [(oneOf l, h)] : RL (AV × AH))
            | .error e => .error (fn.name ++ ": " ++ e)) (Φ := fun x : AV × AH => K x.1 x.2) (fun _ _ _ _ _ hr => hr) r3 fun h' hh => by
              obtain ⟨l, hl, hk⟩ := k3 h' hh
              exact ⟨0, [(oneOf l, h')], by simp only [res_ok _ _ hr l hl], fun z hz => by rw [List.mem_singleton.1 hz]; exact hk⟩
          refine ⟨N3, r4, ?_, k4⟩
          unfold leaveD
          rw [b1]
          rcases hx with hx | hx <;> simp only [hx, e3] <;> exact e4
        cases x with
        | normal => exact main (.inl rfl) b3
        | ret => exact main (.inr rfl) b3
        | exit i => exact b3.elim
  refine ⟨max N N2 + 1, r2, ?_, k2⟩
  have hle : N ≤ max N N2 + 1 := Nat.le_trans (Nat.le_max_left N N2) (Nat.le_succ _)
  have hcall : CallDLe (clN P S N) (evCallN P S (max N N2 + 1) (max N N2)) := evCallN_mono hle (Nat.le_max_left N N2)
  have hcall2 : CallDLe (clN P S N2) (evCallN P S (max N N2 + 1) (max N N2)) := evCallN_mono (Nat.le_trans (Nat.le_max_right N N2) (Nat.le_succ _)) (Nat.le_max_right N N2)
  unfold clN evCallN
  simp only [hS, hf, hb, hnt, hn, cond_true]
  rw [evCodeD_mono hcall hle c e]
  simp only [finishD]
  refine bindD_mono (fun x r hr => ?_) e2
  unfold leaveD at hr ⊢
  split at hr
  · split at hr
    · rename_i hd; simp only [runDefersD_mono (noSumD_mono hcall2) _ hd]; exact hr
    · cases hr
  · split at hr
    · rename_i hd; simp only [runDefersD_mono (noSumD_mono hcall2) _ hd]; exact hr
    · cases hr
  · cases hr

variable (P S) in
/-- after a round's words are laid -/
def KassN (l : Nat) (cb : DC) (K : AV → AH → Prop) : Post := fun x σ ds h => match x with
  | .normal => ∃ q, h.get l = some (.loop q) ∧ q.state = .ready ∧ wqC P S cb (Kend l K) σ ds (h.set l (.loop { q with state := .busy }))
  | _ => False

theorem evN_yield {l : Nat} {r : ALoop} {ca cb : DC} {args : List AV} {h : AH} {K : AV → AH → Prop} (hg : h.get l = some (.loop r)) (hn : args.length = r.params.size)
    (hp : r.params.toList.all (fun t => Nat.blt t r.n) = true) (ha : compD P r.n true r.assign = .ok ca) (hb : compD P r.n true r.body = .ok cb)
    (hw : wqC P S ca (KassN P S l cb K) (setS r.params.toList args (valT r.tmps)) [] h) : EvN P S (.yield l) args h K := by
  obtain ⟨h1, h2, h3⟩ := setS_ok r.params.toList args ⟨r.n, r.tmps, [], true⟩ ⟨rfl, rfl⟩ hp
  have hv : (⟨r.n, r.tmps, [], true⟩ : AAct).val = valT r.tmps := rfl
  rw [hv] at h1
  obtain ⟨N, s, e, k⟩ := codeD_ok r.assign ca ha (a := setParams r.params.toList args ⟨r.n, r.tmps, [], true⟩) h2 (by rw [h1, h3]; exact hw)
  have mono : ∀ N N', N ≤ N' → ∀ x t, roundBodyD P (clN P S N) N l r x = .ok t → roundBodyD P (clN P S N') N' l r x = .ok t := by
    intro N N' hn x t hr
    unfold roundBodyD at hr ⊢
    split at hr
    · split at hr
      · split at hr
        · split at hr
          · rename_i hbody; simp only [evCodeD_mono (clN_mono hn) hn _ hbody]; exact hr
          · cases hr
        · cases hr
      · cases hr
    · cases hr
  obtain ⟨N2, s2, e2, k2⟩ := bindD_ok (f := fun N (x : AX × AAct × AH) => roundBodyD P (clN P S N) N l r x) (Φ := fun x : AV × AH => K x.1 x.2) mono s fun y hy => by
    obtain ⟨x, b1, b2, b3⟩ := k y hy
    cases x with
    | exit => exact b3.elim
    | ret => exact b3.elim
    | normal =>
      obtain ⟨q', hq1, hq2, hq3⟩ := b3
      obtain ⟨N3, s3, e3, k3⟩ := codeD_ok r.body cb hb b2 hq3
      obtain ⟨_, s4, e4, k4⟩ := bindD_ok (f := fun _ (y : AX × AAct × AH) => one1 (endRound l (.ok y))) (Φ := fun x : AV × AH => K x.1 x.2) (fun _ _ _ _ _ hr => hr) s3 fun z hz => by
        obtain ⟨x, c1, c2, hds, r2, hr2, hfin⟩ := k3 z hz
        obtain ⟨z1, z2, z3⟩ := z
        simp only at c1 c2 hds hr2 hfin
        subst c1
        cases x with
        | normal => exact ⟨0, _, by simp only [endRound, hds, hr2, WX.ax]; rfl, fun u hu => by rw [List.mem_singleton.1 hu]; exact hfin⟩
        | ret => exact ⟨0, _, by simp only [endRound, hds, hr2, WX.ax]; rfl, fun u hu => by rw [List.mem_singleton.1 hu]; exact hfin⟩
        | exit i => exact ⟨0, _, by simp only [endRound, hds, hr2, WX.ax]; rfl, fun u hu => by rw [List.mem_singleton.1 hu]; exact hfin⟩
      refine ⟨N3, s4, ?_, k4⟩
      unfold roundBodyD
      rw [b1]
      simp only [WX.ax, hq1, hq2, e3]
      exact e4
  refine ⟨max N N2 + 1, s2, ?_, k2⟩
  have hle : N ≤ max N N2 + 1 := Nat.le_trans (Nat.le_max_left N N2) (Nat.le_succ _)
  have hle2 : N2 ≤ max N N2 + 1 := Nat.le_trans (Nat.le_max_right N N2) (Nat.le_succ _)
  have hcall : CallDLe (clN P S N) (evCallN P S (max N N2 + 1) (max N N2)) := evCallN_mono hle (Nat.le_max_left N N2)
  have hcall2 : CallDLe (clN P S N2) (evCallN P S (max N N2 + 1) (max N N2)) := evCallN_mono hle2 (Nat.le_max_right N N2)
  unfold clN evCallN
  simp only [hg, aRoundD, PT.beqT hn, cond_true]
  rw [evCodeD_mono hcall hle _ e]
  refine bindD_mono (fun x t hr => ?_) e2
  unfold roundBodyD at hr ⊢
  split at hr
  · split at hr
    · split at hr
      · split at hr
        · rename_i hbody; simp only [evCodeD_mono hcall2 hle2 _ hbody]; exact hr
        · cases hr
      · cases hr
    · cases hr
  · cases hr

end
end Go.Dr

/-
  Steps over code as read, in all its ends: equations for simp, and rules.
-/
namespace Go.Dr
open Go.RowKit

section
variable {P : Program} {S : Sums} {Q : Post} {σ : Sg} {ds : List ADef} {h : AH}

/-! ### pieces of code -/

@[simp] theorem wqC_skip : wqC P S .skip Q σ ds h = Q .normal σ ds h := nr rfl
@[simp] theorem wqC_ops (l : List CEnt) : wqC P S (.ops l) Q σ ds h = wqOps P S l Q σ ds h := nr rfl
@[simp] theorem wqC_drawn (l : List CEnt) : wqC P S (.drawn l) Q σ ds h = wpOps P S l Q σ ds h := nr rfl
@[simp] theorem wqC_seq (x y : DC) : wqC P S (.seq x y) Q σ ds h = wqC P S x (KseqQ P S y Q) σ ds h := nr rfl
@[simp] theorem wqC_block (id : Nat) (c : DC) : wqC P S (.block id c) Q σ ds h = wqC P S c (Kblk id Q) σ ds h := nr rfl
@[simp] theorem wqC_exit (id : Nat) : wqC P S (.exit id) Q σ ds h = Q (.exit id) σ ds h := nr rfl
@[simp] theorem wqC_ret : wqC P S .ret Q σ ds h = Q .ret σ ds h := nr rfl

variable (P S) in
def wqB (v : AV) (x y : DC) (Q : Post) (σ : Sg) (ds : List ADef) (h : AH) : Prop := wpG v true (wqC P S x Q σ ds h) (wqC P S y Q σ ds h)
@[simp] theorem wqC_cond (c : CO) (x y : DC) : wqC P S (.cond c x y) Q σ ds h = wqB P S (c.evS σ) x y Q σ ds h := nr rfl
@[simp] theorem wqB_true (x y : DC) : wqB P S (.bool true) x y Q σ ds h = wqC P S x Q σ ds h := nr rfl
@[simp] theorem wqB_false (x y : DC) : wqB P S (.bool false) x y Q σ ds h = wqC P S y Q σ ds h := nr rfl
@[simp] theorem KseqQ_normal (y : DC) : KseqQ P S y Q .normal σ ds h = wqC P S y Q σ ds h := nr rfl
@[simp] theorem KseqQ_exit (y : DC) (i : Nat) : KseqQ P S y Q (.exit i) σ ds h = Q (.exit i) σ ds h := nr rfl
@[simp] theorem KseqQ_ret (y : DC) : KseqQ P S y Q .ret σ ds h = Q .ret σ ds h := nr rfl

theorem q_loop {c : DC} (I : Inv) (k : Nat) (h0 : I k σ ds h) (hI : ∀ k σ ds h, I k σ ds h → wqC P S c (Kloop I k Q) σ ds h) : wqC P S (.loop c) Q σ ds h := ⟨I, k, h0, hI⟩

/-! ### consequence -/

/-! ### rows -/

variable (P S) in
def wqN (r : RN) (d : Option Nat) (l : List CEnt) (Q : Post) (σ : Sg) (ds : List ADef) : Prop :=
  wqR P S r (fun v h => wqOps P S l Q (upd σ d v) ds h) (fun df h => wqOps P S l Q (upd σ d aundef) (df :: ds) h)
variable (P S) in
def wqGd (v : AV) (w : Bool) (c : COp) (d : Option Nat) (l : List CEnt) (Q : Post) (σ : Sg) (ds : List ADef) (h : AH) : Prop :=
  wpGu v w (wqN P S (evS P c σ h) d l Q σ ds) (wqOps P S l Q (upd σ d aundef) ds h)
variable (P S) in
def KcallQ (d : Option Nat) (l : List CEnt) (Q : Post) (σ : Sg) (ds : List ADef) (v : AV) (h : AH) : Prop := wqOps P S l Q (upd σ d v) ds h

@[simp] theorem wqOps_nil : wqOps P S [] Q σ ds h = Q .normal σ ds h := nr rfl

theorem nextC_some {c : COp} (hc : nextC c = none) (K : AV → AH → Prop) (D : ADef → AH → Prop) : wqE P S c σ h K D = wqR P S (evS P c σ h) K D := by
  unfold wqE; rw [hc]
@[simp] theorem wqOps_row (d : Option Nat) (c : COp) (l : List CEnt) (hc : nextC c = none) : wqOps P S (.row ⟨d, none, c⟩ :: l) Q σ ds h = wqN P S (evS P c σ h) d l Q σ ds := by
  simp only [wqOps, wqN, nextC_some hc]
@[simp] theorem wqOps_next (d : Option Nat) (it : CO) (l : List CEnt) : wqOps P S (.row ⟨d, none, .next it false⟩ :: l) Q σ ds h = wqNext (nextD h (it.evS σ)) (fun v h => wqOps P S l Q (upd σ d v) ds h) := nr rfl
@[simp] theorem wqOps_guard (d : Option Nat) (t : Nat) (w : Bool) (c : COp) (l : List CEnt) (hc : nextC c = none) : wqOps P S (.row ⟨d, some (t, w), c⟩ :: l) Q σ ds h = wqGd P S (σ t) w c d l Q σ ds h := by
  simp only [wqOps, wqGd, wqN, nextC_some hc]
attribute [simp]  nextC

@[simp] theorem wqN_value (d : Option Nat) (l : List CEnt) (v : AV) : wqN P S (.ok (.value v, h)) d l Q σ ds = wqOps P S l Q (upd σ d v) ds h := nr rfl
@[simp] theorem wqN_okV (d : Option Nat) (l : List CEnt) (v : AV) : wqN P S (okV v h) d l Q σ ds = wqOps P S l Q (upd σ d v) ds h := nr rfl
@[simp] theorem wqN_keep (d : Option Nat) (l : List CEnt) (v : AV) : wqN P S (keepH h (.ok v)) d l Q σ ds = wqOps P S l Q (upd σ d v) ds h := nr rfl
@[simp] theorem wqN_skip (d : Option Nat) (l : List CEnt) : wqN P S (skipH (.ok h)) d l Q σ ds = wqOps P S l Q (upd σ d aundef) ds h := nr rfl
@[simp] theorem wqN_enter (d : Option Nat) (l : List CEnt) (f : FuncId) (args : List AV) : wqN P S (.ok (.enter f args, h)) d l Q σ ds = EvN P S (.fn f) args h (KcallQ P S d l Q σ ds) := nr rfl
@[simp] theorem wqN_yield (d : Option Nat) (l : List CEnt) (f : Nat) (args : List AV) : wqN P S (.ok (.yield f args, h)) d l Q σ ds = EvN P S (.yield f) args h (KcallQ P S d l Q σ ds) := nr rfl
@[simp] theorem KcallQ_app (d : Option Nat) (l : List CEnt) (v : AV) : KcallQ P S d l Q σ ds v h = wqOps P S l Q (upd σ d v) ds h := nr rfl

@[simp] theorem wqGd_tt (c : COp) (d : Option Nat) (l : List CEnt) : wqGd P S (.bool true) true c d l Q σ ds h = wqN P S (evS P c σ h) d l Q σ ds := nr rfl
@[simp] theorem wqGd_ff (c : COp) (d : Option Nat) (l : List CEnt) : wqGd P S (.bool false) false c d l Q σ ds h = wqN P S (evS P c σ h) d l Q σ ds := nr rfl
@[simp] theorem wqGd_tf (c : COp) (d : Option Nat) (l : List CEnt) : wqGd P S (.bool true) false c d l Q σ ds h = wqOps P S l Q (upd σ d aundef) ds h := nr rfl
@[simp] theorem wqGd_un (w : Bool) (c : COp) (d : Option Nat) (l : List CEnt) : wqGd P S aundef w c d l Q σ ds h = wqOps P S l Q (upd σ d aundef) ds h := nr rfl
@[simp] theorem wqGd_ft (c : COp) (d : Option Nat) (l : List CEnt) : wqGd P S (.bool false) true c d l Q σ ds h = wqOps P S l Q (upd σ d aundef) ds h := nr rfl


@[simp] theorem KfinN_normal (res : List CRes) (K : AV → AH → Prop) : KfinN P S res K .normal σ [] h = resK (resS h σ res) K h := resK_eq _ _
@[simp] theorem KfinN_ret (res : List CRes) (K : AV → AH → Prop) : KfinN P S res K .ret σ [] h = resK (resS h σ res) K h := resK_eq _ _

theorem KfinN_ret_ds (res : List CRes) (K : AV → AH → Prop) : KfinN P S res K .ret σ ds h = DefersN P S ds h (fun h => resK (resS h σ res) K h) := by
  simp only [KfinN, resK_eq]
@[simp] theorem DefersN_nil (K : AH → Prop) : DefersN P S [] h K = K h := nr rfl
theorem DefersN_collected (id : Nat) (K : AH → Prop) : DefersN P S (.collected id :: ds) h K = (h.get id = some (.deferred (some [])) ∧ DefersN P S ds (h.set id (.deferred none)) K) := nr rfl
theorem wqC_go (n : Nat) (f : CO) (params : Array Tmp) (a b : Code) : wqC P S (.go n f params a b) Q σ ds h = wqGo P S (f.evS σ) n params a b Q σ ds h := nr rfl
theorem wqGo_func (g : FuncId) (first captured : List AV) (n : Nat) (params : Array Tmp) (a b : Code) : wqGo P S (.func (.func g) first captured) n params a b Q σ ds h =
    ∀ tmps : PT AV, (∀ i, valT tmps i = σ i) → EvN P S (.fn g) (first ++ (.func (.yield (h.next + 1)) [] [] :: captured))
      ((h.push (.deferred (some []))).push (.loop { state := .ready, pending := none, n := n, tmps := tmps, params := params, assign := a, body := b })) (Kgo Q σ ds h.next) := nr rfl

/-! ### loops over so many -/

/-! ### summaries -/

/-- less said of a heap: what stands in k stands in h -/
structure Less (k h : AH) : Prop where
  next : k.next = h.next
  get : ∀ i o, i < h.next → k.get i = some o → h.get i = some o

theorem Less.refl (h : AH) : Less h h := ⟨rfl, fun _ _ _ e => e⟩

/-- what comes out the same in all ends, but for blocks that are not told of, may be told of a call -/
theorem sum_of_ends {B : Nat} {w0 : World} (hM : P.follows .mixedOrders = true) (hnum : ∀ (f : Nat) fn, P.funcs[f]? = some fn → fn.body.isSome = true → fn.name ≠ "runtime.NumGoroutine") (hS : SumOk P B w0 S)
    {f : FuncId} {args : List AV} {v : AV} {h h' : AH} (he : EvN P S (.fn f) args h fun r g => r = v ∧ Less h' g ∧ ∀ i, i < h.next → h'.get i = g.get i)
    {φ : Phi} {w : World} {args' : List Value} (ha : ConL φ args args') (hG : GlobRel P φ) (hR : Rel B w0 φ h w) :
    (∀ w, (callFunc f ⟨args'⟩).run P w = .ok (.enter f ⟨args'⟩) w) ∧
    CallsK P .normal f ⟨args'⟩ w (fun v' w' => ∃ φ', Con φ' v v' ∧ Rel B w0 φ' h' w' ∧ Ext φ h φ' h') := by
  obtain ⟨N, l, e, k⟩ := he
  obtain ⟨h1, h2⟩ := (evCallN_ok hM hnum hS N).1 _ _ _ _ e φ w args' ha hG hR
  refine ⟨h1, fun cs => ?_⟩
  obtain ⟨v', w', fr, fn, ⟨u, g, φ', hm, c, R', X⟩, r⟩ := h2 cs
  obtain ⟨e1, hL, hold⟩ := k _ hm
  simp only at e1 hL hold
  subst e1
  refine ⟨v', w', fr, fn, ⟨φ', c, R'.sub hL.next hL.get, ⟨X.le, ?_, fun i hi e => ?_⟩⟩, r⟩
  · rw [hL.next]; exact X.next
  · obtain ⟨x1, x2⟩ := X.keep i hi e
    exact ⟨x1, (hold i hi).trans x2⟩

end
end Go.Dr

/-
  What a law is given, laid into an abstract heap: numbers, texts, slices and structs of these, to any depth; only read.
-/
namespace Go.Dr
open Go.RowKit

variable {P : Program} {H : Type} {enc : TypeId × Value → H} {W : World} {base : Nat} {sp : Nat → Bool} {held : Bool}

theorem mapM_some {α β : Type} {f : α → Option β} : ∀ {l : List α} {r : List β}, l.mapM f = some r → r.length = l.length ∧ ∀ (i : Nat) (a : α), l[i]? = some a → ∃ b, r[i]? = some b ∧ f a = some b
  | [], r, h => by
    simp only [List.mapM_nil] at h
    cases h
    exact ⟨rfl, fun i a e => by simp at e⟩
  | x :: l, r, h => by
    rw [List.mapM_cons] at h
    cases hx : f x with
    | none => rw [hx] at h; cases h
    | some b =>
      cases hl : l.mapM f with
      | none => rw [hx, hl] at h; cases h
      | some bs =>
        rw [hx, hl] at h
        cases h
        obtain ⟨h1, h2⟩ := mapM_some hl
        refine ⟨by simp [h1], fun i a e => ?_⟩
        cases i with
        | zero => simp at e; subst e; exact ⟨b, rfl, hx⟩
        | succ i => exact h2 i a (by simpa using e)

/-- cells of a type, as they can be read from h -/
inductive TyV (P : Program) (h : AH) : TypeId → List AV → Prop
  | bool {t : TypeId} (ht : P.underlying t = some .bool) (b : Bool) : TyV P h t [.bool b]
  | int {t : TypeId} {k : IntKind} {n : Int} (ht : P.underlying t = some (.int k)) (hn : (Lit.int k n).wf = true) : TyV P h t [.int k n]
  | str {t : TypeId} {s : List UInt8} (ht : P.underlying t = some .string) (hs : s.length ≤ maxLen) : TyV P h t [.str s]
  | nils {t e : TypeId} (ht : P.underlying t = some (.slice e)) : TyV P h t [.nils]
  | slice {t e : TypeId} {id len cap : Nat} {vs : List AV} (ht : P.underlying t = some (.slice e)) (hi : id < h.next) (hg : h.get id = some (.cells vs true)) (hv : vs.length = len * P.cellsOf e)
      (hl : len ≤ cap) (hc : cap ≤ maxLen) (hel : ∀ i, i < len → TyV P h e ((vs.drop (i * P.cellsOf e)).take (P.cellsOf e))) : TyV P h t [.slice id 0 len cap true (P.cellsOf e)]
  | struct {t : TypeId} {fs : Array Field} {cs : List AV} (ht : P.underlying t = some (.struct fs)) (hl : cs.length = P.cellsOf t)
      (hf : ∀ f ∈ fs.toList, TyV P h f.type ((cs.drop f.offset).take (P.cellsOf f.type))) : TyV P h t cs

theorem TyV.fr {h h' : AH} (f : Fr h h') : ∀ {t : TypeId} {cs : List AV}, TyV P h t cs → TyV P h' t cs := by
  intro t cs s
  induction s with
  | bool ht b => exact .bool ht b
  | int ht hn => exact .int ht hn
  | str ht hs => exact .str ht hs
  | nils ht => exact .nils ht
  | slice ht hi hg hv hl hc _ ih => exact .slice ht (Nat.lt_of_lt_of_le hi f.next) (by rw [f.get _ hi]; exact hg) hv hl hc ih
  | struct ht hl _ ih => exact .struct ht hl ih

/-- fields that lie one after another -/
def tileOk (P : Program) : List Field → Nat → Nat → Bool
  | [], acc, tot => Nat.beq acc tot
  | f :: fs, acc, tot => Nat.beq f.offset acc && tileOk P fs (acc + P.cellsOf f.type) tot

/-- a type of such values alone -/
def plainTy (P : Program) : Nat → TypeId → Bool
  | 0, _ => false
  | d + 1, t => match P.underlying t with
    | some .bool | some (.int _) | some .string => true
    | some (.slice e) => Nat.blt 0 (P.cellsOf e) && plainTy P d e
    | some (.struct fs) => tileOk P fs.toList 0 (P.cellsOf t) && fs.toList.all fun f => plainTy P d f.type
    | _ => false

/-- nothing may be written -/
def RO (φ : Phi) (h : AH) : Prop := ∀ j q o, φ j = some q → h.get j = some o → o.writable = false

theorem cells?_get {n : Nat} {a : Addr} {cs : List Value} (h : W.cells? base a n = some cs) : cs.length = n ∧ ∀ i, i < n → W.cell? (a.add i) = cs[i]? := by
  unfold World.cells? at h
  split at h
  · obtain ⟨h1, h2⟩ := mapM_some h
    rw [List.length_range] at h1
    refine ⟨h1, fun i hi => ?_⟩
    obtain ⟨b, hb, hf⟩ := h2 i i (by rw [List.getElem?_range hi])
    rw [hb, hf]
  · cases h

/-- a block laid to be read -/
theorem rel_ro {B : Nat} {w0 w : World} {φ : Phi} {h : AH} (r : Rel B w0 φ h w) (hro : RO φ h) {p : Pl} {vs : List AV} {c : Array Value} {e : TypeId} {f : Nat × Nat} (hb : w.heap[p.blk]? = some (.cells c e f))
    (h1 : vs.length ≤ p.room) (h2 : p.off + p.room ≤ c.size) (hc : ∀ i x, vs[i]? = some x → ∃ y, c[p.off + i]? = some y ∧ Con φ x y) :
    Rel B w0 (φ.set h.next p) (h.push (.cells vs true)) w ∧ RO (φ.set h.next p) (h.push (.cells vs true)) ∧ φ.le (φ.set h.next p) := by
  have hle := Phi.le_set p r.fresh
  refine ⟨(r.promise (.cells vs true)).lay (Nat.lt_succ_self _) r.fresh (get_push_new _) ⟨c, e, f.1, f.2, hb, h1, h2, fun i x hx => ?_, fun e => by cases e⟩ (fun e => by cases e) (fun j q oj hj hg hw => ?_), fun j q o hj hg => ?_, hle⟩
  · obtain ⟨y, hy, hcon⟩ := hc i x hx
    exact ⟨y, hy, hcon.mono hle⟩
  · have hne : j ≠ h.next := fun e => by rw [e, r.fresh] at hj; cases hj
    rw [get_push_old hne] at hg
    rcases hw with hw | hw
    · cases hw
    · rw [hro j q oj hj hg] at hw; cases hw
  · by_cases hne : j = h.next
    · subst hne
      rw [get_push_new] at hg
      cases hg
      rfl
    · rw [Phi.set_other _ _ hne] at hj
      rw [get_push_old hne] at hg
      exact hro j q o hj hg

/-- several, one after another -/
theorem lay_list {B : Nat} {w0 w : World} {α : Type} (T : AH → α → List AV → Prop) (hT : ∀ h h' a l, Fr h h' → T h a l → T h' a l) : ∀ (xs : List (α × List Value)) (_ : ∀ x ∈ xs, ∀ φ h, Rel B w0 φ h w → RO φ h →
      ∃ φ' h' l, ConL φ' l x.2 ∧ Rel B w0 φ' h' w ∧ RO φ' h' ∧ φ.le φ' ∧ Fr h h' ∧ T h' x.1 l) (φ : Phi) (h : AH), Rel B w0 φ h w → RO φ h →
    ∃ (φ' : Phi) (h' : AH) (ls : List (List AV)), Rel B w0 φ' h' w ∧ RO φ' h' ∧ φ.le φ' ∧ Fr h h' ∧ ls.length = xs.length ∧ ∀ (i : Nat) (x : α × List Value), xs[i]? = some x → ∃ l, ls[i]? = some l ∧ ConL φ' l x.2 ∧ T h' x.1 l
  | [], _, φ, h, r, ro => ⟨φ, h, [], r, ro, .refl _, .refl _, rfl, fun i x e => by simp at e⟩
  | x :: xs, hx, φ, h, r, ro => by
    obtain ⟨φ1, h1, l, c1, r1, ro1, le1, f1, t1⟩ := hx x (by simp) φ h r ro
    obtain ⟨φ2, h2, ls, r2, ro2, le2, f2, hl, hall⟩ := lay_list T hT xs (fun y hy => hx y (List.mem_cons_of_mem _ hy)) φ1 h1 r1 ro1
    refine ⟨φ2, h2, l :: ls, r2, ro2, le1.trans le2, f1.trans f2, by simp [hl], fun i y e => ?_⟩
    cases i with
    | zero => simp at e; subst e; exact ⟨l, rfl, c1.mono le2, hT _ _ _ _ f2 t1⟩
    | succ i => exact hall i y (by simpa using e)

theorem flat_get {α : Type} : ∀ (ls : List (List α)) (k : Nat), (∀ l ∈ ls, l.length = k) → ls.flatten.length = ls.length * k ∧ ∀ (i : Nat) (l : List α), ls[i]? = some l → (ls.flatten.drop (i * k)).take k = l
  | [], k, _ => ⟨by simp, fun i l e => by simp at e⟩
  | x :: ls, k, h => by
    obtain ⟨h1, h2⟩ := flat_get ls k fun l hl => h l (List.mem_cons_of_mem _ hl)
    have hx := h x (by simp)
    refine ⟨by rw [List.flatten_cons, List.length_append, h1, hx, List.length_cons, Nat.add_mul, Nat.one_mul, Nat.add_comm], fun i l e => ?_⟩
    cases i with
    | zero =>
      simp at e; subst e
      rw [List.flatten_cons, Nat.zero_mul, List.drop_zero, List.take_append_of_le_length (by omega), List.take_of_length_le (by omega)]
    | succ i =>
      rw [List.flatten_cons, Nat.add_mul, Nat.one_mul, Nat.add_comm, ← List.drop_drop, ← hx, List.drop_left, hx]
      exact h2 i l (by simpa using e)

theorem flat_cell {α : Type} (ls : List (List α)) (k : Nat) (h : ∀ l ∈ ls, l.length = k) (i j : Nat) (hi : i < ls.length) (hj : j < k) : ∃ l, ls[i]? = some l ∧ ls.flatten[i * k + j]? = l[j]? := by
  obtain ⟨h1, h2⟩ := flat_get ls k h
  refine ⟨ls[i], List.getElem?_eq_getElem hi, ?_⟩
  have := h2 i _ (List.getElem?_eq_getElem hi)
  rw [← this, List.getElem?_take, if_pos hj, List.getElem?_drop]

theorem add_none {a : Addr} (h : a.spot = none) (m : Nat) : a.add m = ⟨a.block, a.off + m, none⟩ := by
  obtain ⟨b, o, s⟩ := a
  cases h
  exact Addr.add_none b o m

theorem cell_some {a : Addr} {v : Value} (h : W.cell? a = some v) : a.spot = none ∧ ∃ c e f, W.heap[a.block]? = some (.cells c e f) ∧ c[a.off]? = some v := by
  unfold World.cell? at h
  split at h
  · rename_i c e f hb
    split at h
    · cases h
    · rename_i hs
      refine ⟨by cases hs' : a.spot <;> simp_all, c, e, f, hb, h⟩
  · cases h

/-- fields, one after another -/
theorem lay_fields {B : Nat} {w0 : World} (L : TypeId → List Value → Prop)
    (hL : ∀ t cs, L t cs → ∀ φ h, Rel B w0 φ h W → RO φ h → ∃ φ' h' l, ConL φ' l cs ∧ Rel B w0 φ' h' W ∧ RO φ' h' ∧ φ.le φ' ∧ Fr h h' ∧ TyV P h' t l) (cs : List Value) :
    ∀ (fs : List Field) (acc : Nat), tileOk P fs acc cs.length = true → (∀ f ∈ fs, L f.type ((cs.drop f.offset).take (P.cellsOf f.type))) → ∀ φ h, Rel B w0 φ h W → RO φ h →
    ∃ φ' h' l, ConL φ' l (cs.drop acc) ∧ Rel B w0 φ' h' W ∧ RO φ' h' ∧ φ.le φ' ∧ Fr h h' ∧ (∀ f ∈ fs, acc ≤ f.offset ∧ TyV P h' f.type ((l.drop (f.offset - acc)).take (P.cellsOf f.type)))
  | [], acc, ht, _, φ, h, hR, hro => by
    have : acc = cs.length := Nat.eq_of_beq_eq_true ht
    subst this
    exact ⟨φ, h, [], by rw [List.drop_length]; exact .nil, hR, hro, .refl _, .refl _, fun f hf => by cases hf⟩
  | f :: fs, acc, ht, hf, φ, h, hR, hro => by
    simp only [tileOk, Bool.and_eq_true] at ht
    have ho : f.offset = acc := Nat.eq_of_beq_eq_true ht.1
    obtain ⟨φ1, h1, l1, c1, R1, ro1, le1, f1, t1⟩ := hL _ _ (hf f (by simp)) φ h hR hro
    obtain ⟨φ2, h2, l2, c2, R2, ro2, le2, f2, t2⟩ := lay_fields L hL cs fs (acc + P.cellsOf f.type) ht.2 (fun g hg => hf g (List.mem_cons_of_mem _ hg)) φ1 h1 R1 ro1
    have hle : acc + P.cellsOf f.type ≤ cs.length := by
      have : ∀ (fs : List Field) (a : Nat), tileOk P fs a cs.length = true → a ≤ cs.length := by
        intro fs
        induction fs with
        | nil => intro a h; exact Nat.le_of_eq (Nat.eq_of_beq_eq_true h)
        | cons g gs ih =>
          intro a h
          simp only [tileOk, Bool.and_eq_true] at h
          have := ih _ h.2
          omega
      exact this _ _ ht.2
    rw [ho] at c1
    have hlen : l1.length = P.cellsOf f.type := by rw [c1.length, List.length_take, List.length_drop]; omega
    refine ⟨φ2, h2, l1 ++ l2, ?_, R2, ro2, le1.trans le2, f1.trans f2, fun g hg => ?_⟩
    · have := (c1.mono le2).append c2
      rw [← List.drop_drop, List.take_append_drop] at this
      exact this
    · rcases List.mem_cons.1 hg with rfl | hg
      · refine ⟨by omega, ?_⟩
        rw [ho, Nat.sub_self, List.drop_zero, List.take_append_of_le_length (by omega), List.take_of_length_le (by omega)]
        exact t1.fr f2
      · obtain ⟨h3, h4⟩ := t2 g hg
        refine ⟨by omega, ?_⟩
        rw [show g.offset - acc = l1.length + (g.offset - (acc + P.cellsOf f.type)) from by omega, ← List.drop_drop, List.drop_left]
        exact h4

/-- where a slice of no room stands, some block of cells lies -/
def Empties (W : World) (cs : List Value) : Prop := ∀ (a : Addr) (len : Nat), Value.slice (some a) len 0 ∈ cs → ∃ (b : Nat) (c : Array Value) (e : TypeId) (f : Nat × Nat), W.heap[b]? = some (.cells c e f)

/-- cells of such a type, laid -/
theorem lay_cells {B : Nat} {w0 : World} :
    ∀ (d fuel : Nat) (t : TypeId) (cs : List Value) (x : DataW H × List MemPlace), plainTy P d t = true → DataW.trod enc P W base (fun _ => true) held fuel t cs = some x → Empties W cs →
    ∀ φ h, Rel B w0 φ h W → RO φ h → ∃ φ' h' l, ConL φ' l cs ∧ Rel B w0 φ' h' W ∧ RO φ' h' ∧ φ.le φ' ∧ Fr h h' ∧ TyV P h' t l
  | 0, fuel, t, cs, x, hp, _, _, _, _, _, _ => by cases hp
  | d + 1, fuel, t, cs, x, hp, h, hz, φ, g, hR, hro => by
    unfold plainTy at hp
    cases ht : P.underlying t with
    | none => rw [ht] at hp; cases hp
    | some td =>
      rw [ht] at hp
      cases td with
      | bool =>
        obtain ⟨b, rfl, _⟩ := DataW.trod_bool ht h
        exact ⟨φ, g, _, .cons (.bool b) .nil, hR, hro, .refl _, .refl _, .bool ht b⟩
      | int k =>
        obtain ⟨n, rfl, _, hw⟩ := DataW.trod_int ht h
        exact ⟨φ, g, _, .cons (.int k n) .nil, hR, hro, .refl _, .refl _, .int ht hw⟩
      | string =>
        obtain ⟨⟨⟨s⟩⟩, rfl, _, hs⟩ := DataW.trod_string ht h
        exact ⟨φ, g, _, .cons (.str s) .nil, hR, hro, .refl _, .refl _, .str ht hs⟩
      | struct fs =>
        simp only [Bool.and_eq_true, List.all_eq_true] at hp
        obtain ⟨hp1, hp2⟩ := hp
        obtain ⟨xs, n, _, _, hl, hlen, hf⟩ := DataW.trod_struct ht h
        obtain ⟨φ1, h1, l1, c1, R1, ro1, le1, f1, t1⟩ := lay_fields (L := fun t cs => ∃ n x, plainTy P d t = true ∧ DataW.trod enc P W base (fun _ => true) held n t cs = some x ∧ Empties W cs)
          (fun t cs ⟨n, x, h1, h2, h3⟩ => lay_cells d n t cs x h1 h2 h3) cs fs.toList 0 (by rw [hl]; exact hp1) (fun f hfm => by
            obtain ⟨i, hi⟩ := List.mem_iff_getElem?.1 hfm
            rw [Array.getElem?_toList] at hi
            have hlt : i < xs.length := by rw [hlen]; exact (Array.getElem?_eq_some_iff.1 hi).1
            exact ⟨n, xs[i], hp2 f hfm, by rw [hf i f hi]; exact List.getElem?_eq_getElem hlt, fun a len hm => hz a len (List.mem_of_mem_drop (List.mem_of_mem_take hm))⟩) φ g hR hro
        exact ⟨φ1, h1, l1, c1, R1, ro1, le1, f1, .struct ht (by rw [c1.length, List.drop_zero, hl]) fun f hf => by have := (t1 f hf).2; rwa [Nat.sub_zero] at this⟩
      | slice e =>
        simp only [Bool.and_eq_true] at hp
        obtain ⟨hp1, hp2⟩ := hp
        have hk : 0 < P.cellsOf e := Nat.le_of_ble_eq_true hp1
        rcases DataW.trod_slice ht h with ⟨rfl, _⟩ | ⟨a, len, cap, elems, rest, n, _, rfl, _, hb, hlc, hcm, hel, he1, he2, _⟩
        · exact ⟨φ, g, _, .cons .nils .nil, hR, hro, .refl _, .refl _, .nils ht⟩
        · obtain ⟨hrl, hr⟩ := he2 rfl
          have each : ∀ i, i < cap → ∃ cs y, W.cells? base (a.add (i * P.cellsOf e)) (P.cellsOf e) = some cs ∧ DataW.trod enc P W base (fun _ => true) held n e cs = some y := by
            intro i hi
            have : ∃ y, (W.cells? base (a.add (i * P.cellsOf e)) (P.cellsOf e)).bind (DataW.trod enc P W base (fun _ => true) held n e) = some y := by
              by_cases hil : i < len
              · exact ⟨elems[i], by rw [he1 i hil]; exact List.getElem?_eq_getElem (by omega)⟩
              · have hj : i - len < cap - len := by omega
                refine ⟨rest[i - len], ?_⟩
                have := hr (i - len) hj
                rw [show len + (i - len) = i from by omega] at this
                rw [this]; exact List.getElem?_eq_getElem (by omega)
            obtain ⟨y, hy⟩ := this
            obtain ⟨cs, h1, h2⟩ := Option.bind_eq_some_iff.1 hy
            exact ⟨cs, y, h1, h2⟩
          have hblk : ∃ (b : Nat) (c : Array Value) (e : TypeId) (f : Nat × Nat), W.heap[b]? = some (.cells c e f) := by
            by_cases hc0 : cap = 0
            · subst hc0; exact hz a len (by simp)
            · obtain ⟨cs, y, q1, _⟩ := each 0 (by omega)
              obtain ⟨q2, q3⟩ := cells?_get q1
              have := q3 0 hk
              rw [List.getElem?_eq_getElem (by omega)] at this
              obtain ⟨_, c, et, f, hbk, _⟩ := cell_some this
              exact ⟨_, c, et, f, hbk⟩
          -- the elements' cells
          have hcs : ∃ css : List (List Value), css.length = len ∧ ∀ i c, css[i]? = some c → W.cells? base (a.add (i * P.cellsOf e)) (P.cellsOf e) = some c ∧ ∃ y, DataW.trod enc P W base (fun _ => true) held n e c = some y := by
            refine ⟨(List.range len).map fun i => (W.cells? base (a.add (i * P.cellsOf e)) (P.cellsOf e)).getD [], by simp, fun i c hi => ?_⟩
            have hil : i < len := by have := (List.getElem?_eq_some_iff.1 hi).1; simpa using this
            obtain ⟨cs, y, h1, h2⟩ := each i (by omega)
            simp only [List.getElem?_map, List.getElem?_range hil, Option.map_some, Option.some.injEq, h1, Option.getD_some] at hi
            subst hi
            exact ⟨h1, y, h2⟩
          obtain ⟨css, hcl, hcs⟩ := hcs
          obtain ⟨φ1, h1, ls, R1, ro1, le1, f1, hll, hls⟩ := lay_list (B := B) (w0 := w0) (w := W) (fun (h : AH) (_ : Unit) l => TyV P h e l) (fun h h' _ l f t => t.fr f) (css.map fun c => ((), c)) (fun x hx φ h hR hro => by
            obtain ⟨c, hc, rfl⟩ := List.mem_map.1 hx
            obtain ⟨i, hi⟩ := List.mem_iff_getElem?.1 hc
            obtain ⟨_, y, hy⟩ := hcs i c hi
            exact lay_cells d n e c y hp2 hy (fun _ _ _ => hblk) φ h hR hro) φ g hR hro
          rw [List.length_map, hcl] at hll
          have hlens : ∀ l ∈ ls, l.length = P.cellsOf e := by
            intro l hl
            obtain ⟨i, hi⟩ := List.mem_iff_getElem?.1 hl
            have hil : i < css.length := by rw [hcl, ← hll]; exact (List.getElem?_eq_some_iff.1 hi).1
            obtain ⟨l', h1, h2, _⟩ := hls i ((), css[i]) (by simp [hil])
            rw [hi] at h1
            cases h1
            rw [h2.length]
            exact (cells?_get (hcs i _ (List.getElem?_eq_getElem hil)).1).1
          obtain ⟨hfl, hfg⟩ := flat_get ls (P.cellsOf e) hlens
          by_cases hc0 : cap = 0
          · -- nothing there
            obtain ⟨b, c, et, f, hbk⟩ := hblk
            have hl0 : len = 0 := by omega
            have hv0 : ls.flatten = [] := List.length_eq_zero_iff.1 (by rw [hfl, hll, hl0, Nat.zero_mul])
            obtain ⟨R2, ro2, le2⟩ := rel_ro R1 ro1 (p := ⟨b, 0, 0⟩) (vs := []) hbk (Nat.le_refl _) (Nat.zero_le _) (fun i x hx => by simp at hx)
            refine ⟨_, _, [.slice h1.next 0 len cap true (P.cellsOf e)], .cons (.slice (Phi.set_same _ _ _) (fun _ => rfl) (Nat.le_refl _) hlc (.inl hc0)) .nil, R2, ro2, le1.trans le2, f1.push _, ?_⟩
            exact .slice ht (by simp) (get_push_new _) (by rw [hl0, Nat.zero_mul]; rfl) hlc hcm fun i hi => by omega
          · have hcp : 0 < cap := by omega
            have hk0 : ∀ i j, i < cap → j < P.cellsOf e → ∃ v, W.cell? ((a.add (i * P.cellsOf e)).add j) = some v := by
              intro i j hi hj
              obtain ⟨cs, y, q1, _⟩ := each i hi
              obtain ⟨q2, q3⟩ := cells?_get q1
              exact ⟨cs[j]'(by omega), by rw [q3 j hj]; exact List.getElem?_eq_getElem (by omega)⟩
            obtain ⟨v0, hv0⟩ := hk0 0 0 hcp hk
            have ha0 : (a.add (0 * P.cellsOf e)).add 0 = a := by simp [Addr.add]
            rw [ha0] at hv0
            obtain ⟨hsp, c, et, f, hbk, _⟩ := cell_some hv0
            have hat : ∀ i j, (a.add (i * P.cellsOf e)).add j = ⟨a.block, a.off + (i * P.cellsOf e + j), none⟩ := by
              intro i j
              rw [add_none hsp, Addr.add_none, Nat.add_assoc]
            have hcell : ∀ o, W.cell? ⟨a.block, o, none⟩ = c[o]? := fun o => cell?_of hbk
            have hsz : a.off + cap * P.cellsOf e ≤ c.size := by
              obtain ⟨v, hv⟩ := hk0 (cap - 1) (P.cellsOf e - 1) (by omega) (by omega)
              rw [hat, hcell] at hv
              have := (Array.getElem?_eq_some_iff.1 hv).1
              have e1 : (cap - 1) * P.cellsOf e + P.cellsOf e = cap * P.cellsOf e := by
                rw [← Nat.succ_mul, show (cap - 1).succ = cap from by omega]
              omega
            have hle : len * P.cellsOf e ≤ cap * P.cellsOf e := Nat.mul_le_mul_right _ hlc
            obtain ⟨R2, ro2, le2⟩ := rel_ro R1 ro1 (p := ⟨a.block, a.off, cap * P.cellsOf e⟩) (vs := ls.flatten) hbk (by rw [hfl, hll]; exact hle) hsz (fun i x hx => by
              have hi : i < len * P.cellsOf e := by rw [← hll, ← hfl]; exact (List.getElem?_eq_some_iff.1 hx).1
              have hdiv : i / P.cellsOf e < len := (Nat.div_lt_iff_lt_mul hk).2 hi
              have hmod : i % P.cellsOf e < P.cellsOf e := Nat.mod_lt _ hk
              have hdm : i / P.cellsOf e * P.cellsOf e + i % P.cellsOf e = i := by rw [Nat.mul_comm]; exact Nat.div_add_mod _ _
              obtain ⟨l, q1, q2⟩ := flat_cell ls (P.cellsOf e) hlens (i / P.cellsOf e) (i % P.cellsOf e) (by omega) hmod
              rw [hdm, hx] at q2
              have hcs' : (css.map fun c => ((), c))[i / P.cellsOf e]? = some ((), css[i / P.cellsOf e]'(by omega)) := by simp [hcl, hdiv]
              obtain ⟨l', q3, q4, _⟩ := hls _ _ hcs'
              rw [q1] at q3
              cases q3
              obtain ⟨y, q5, q6⟩ := q4.get _ _ q2.symm
              refine ⟨y, ?_, q6⟩
              obtain ⟨_, q7⟩ := cells?_get (hcs _ _ (List.getElem?_eq_getElem (by omega : i / P.cellsOf e < css.length))).1
              have q8 := q7 _ hmod
              rw [hat, hcell, hdm] at q8
              rw [q8]
              exact q5)
            refine ⟨_, _, [.slice h1.next 0 len cap true (P.cellsOf e)], .cons (.slice (p := ⟨a.block, a.off, cap * P.cellsOf e⟩) (Phi.set_same _ _ _) (fun _ => rfl) (Nat.le_refl _) hlc (.inr ⟨Nat.le_of_eq (Nat.zero_add _), ?_⟩)) .nil, R2, ro2, le1.trans le2, f1.push _, ?_⟩
            · obtain ⟨b, o, s⟩ := a
              cases hsp
              rfl
            · refine .slice ht (by simp) (get_push_new _) (by rw [hfl, hll]) hlc hcm fun i hi => ?_
              have hil : i < css.length := by omega
              obtain ⟨l, q1, _, q3⟩ := hls i ((), css[i]) (by simp [hil])
              rw [hfg i l q1]
              exact q3.fr ((Fr.refl _).push _)
      | _ => cases hp

theorem shape_cells {b : Nat} {x : TypeId × Nat} (h : W.shape? b = some x) : ∃ (c : Array Value) (e : TypeId) (f : Nat × Nat), W.heap[b]? = some (.cells c e f) := by
  unfold World.shape? at h
  split at h
  · rename_i c e f hb; exact ⟨c, e, f, hb⟩
  · cases h

theorem cell_empty {b0 : Nat} {t : TypeId} {a : Addr} {len cap : Nat} (h : Cell.okWide P W .any b0 t (.slice (some a) len cap)) : ∃ (b : Nat) (c : Array Value) (e : TypeId) (f : Nat × Nat), W.heap[b]? = some (.cells c e f) := by
  unfold Cell.okWide at h
  split at h
  case h_8 =>
    unfold Cell.ok at h
    split at h <;> first | contradiction | skip
    all_goals (rename_i heq; first | cases heq | skip)
    obtain ⟨_, _, hh⟩ := h
    unfold World.has at hh
    obtain ⟨_, _, row, cells, hs, _⟩ := hh
    obtain ⟨c, e, f, hb⟩ := shape_cells hs
    exact ⟨_, c, e, f, hb⟩
  all_goals (rename_i heq; cases heq)

/-- a slice that is given -/
theorem lay_slice {B : Nat} {w0 : World} {b0 : Nat} {d : Nat} {t e : TypeId} {v : Value} {dd : DataW H} {ps : List MemPlace} (ht : P.underlying t = some (.slice e)) (hp : plainTy P d t = true)
    (hval : Value.okWide P W .any b0 t v) (hd : DataW.Trod enc P W base (fun _ => true) held t v dd ps) {φ : Phi} {h : AH} (hR : Rel B w0 φ h W) (hro : RO φ h) :
    ∃ φ' h' a, Con φ' a v ∧ Rel B w0 φ' h' W ∧ RO φ' h' ∧ φ.le φ' ∧ Fr h h' ∧ TyV P h' t [a] := by
  have hc : Cell.okWide P W .any b0 t v := by
    unfold Value.okWide at hval
    rw [ht] at hval
    exact hval
  have hs := okWide_scalar hc
  have hcells : v.cells.toList = [v] := by cases v <;> first | rfl | cases hs
  obtain ⟨fuel, hd⟩ := hd
  rw [hcells] at hd
  obtain ⟨φ', h', l, c1, R1, ro1, le1, f1, t1⟩ := lay_cells d fuel t [v] _ hp hd (fun a len hm => by
    simp only [List.mem_singleton] at hm
    rw [← hm] at hc
    exact cell_empty hc) φ h hR hro
  cases c1 with
  | cons c1 c2 =>
    cases c2
    exact ⟨φ', h', _, c1, R1, ro1, le1, f1, t1⟩

theorem ro0 (φ : Phi) (n : Nat) : RO φ ⟨n, .leaf⟩ := fun _ _ _ _ e => by cases e

theorem GlobRel.le {φ ψ : Phi} (h : GlobRel P φ) (hle : φ.le ψ) : GlobRel P ψ := fun g hg => let ⟨n, e⟩ := h g hg; ⟨n, hle _ _ e⟩

/-! ### what cells of a type are -/

variable {h : AH}

theorem TyV.int_inv {t : TypeId} {k : IntKind} {l : List AV} (ht : P.underlying t = some (.int k)) (s : TyV P h t l) : ∃ n, l = [.int k n] ∧ (Lit.int k n).wf = true := by
  cases s with
  | int ht' hn => rw [ht] at ht'; cases ht'; exact ⟨_, rfl, hn⟩
  | bool ht' => rw [ht] at ht'; cases ht'
  | str ht' => rw [ht] at ht'; cases ht'
  | nils ht' => rw [ht] at ht'; cases ht'
  | slice ht' => rw [ht] at ht'; cases ht'
  | struct ht' => rw [ht] at ht'; cases ht'

theorem TyV.slice_inv {t e : TypeId} {k : Nat} {l : List AV} (ht : P.underlying t = some (.slice e)) (hk : P.cellsOf e = k) (s : TyV P h t l) :
    ∃ v n vs, l = [v] ∧ n ≤ maxLen ∧ Sl h k n v vs ∧ ∀ i, i < n → TyV P h e ((vs.drop (i * k)).take k) := by
  subst hk
  cases s with
  | nils ht' => exact ⟨_, 0, [], rfl, Nat.zero_le _, Sl.nil _, fun i hi => absurd hi (by omega)⟩
  | @slice _ e' id len cap vs ht' hi hg hv hl hc hel =>
    rw [ht] at ht'
    cases ht'
    exact ⟨_, len, vs, rfl, Nat.le_trans hl hc, ⟨hv, .inr ⟨id, 0, cap, true, vs, true, rfl, hi, hl, hg, by omega, by rw [List.drop_zero, List.take_of_length_le (by omega)]⟩⟩, hel⟩
  | int ht' => rw [ht] at ht'; cases ht'
  | bool ht' => rw [ht] at ht'; cases ht'
  | str ht' => rw [ht] at ht'; cases ht'
  | struct ht' => rw [ht] at ht'; cases ht'

/-- elements told one by one -/
theorem elems_of {α : Type} (g : α → List AV) (p : α → Prop) (k : Nat) : ∀ (n : Nat) (vs : List AV), vs.length = n * k → (∀ i, i < n → ∃ x, (vs.drop (i * k)).take k = g x ∧ p x) → ∃ xs : List α, xs.length = n ∧ vs = (xs.map g).flatten ∧ ∀ x ∈ xs, p x
  | 0, vs, hl, _ => ⟨[], rfl, List.length_eq_zero_iff.1 (by omega), fun x hx => by cases hx⟩
  | n + 1, vs, hl, he => by
    obtain ⟨x, h1, h2⟩ := he 0 (by omega)
    rw [Nat.zero_mul, List.drop_zero] at h1
    rw [Nat.add_mul, Nat.one_mul] at hl
    obtain ⟨xs, h3, h4, h5⟩ := elems_of g p k n (vs.drop k) (by rw [List.length_drop]; omega) fun i hi => by
      obtain ⟨y, q1, q2⟩ := he (i + 1) (by omega)
      refine ⟨y, ?_, q2⟩
      rw [List.drop_drop, show k + i * k = (i + 1) * k from by rw [Nat.add_mul, Nat.one_mul, Nat.add_comm]]
      exact q1
    refine ⟨x :: xs, by simp [h3], ?_, fun y hy => ?_⟩
    · rw [List.map_cons, List.flatten_cons, ← h4, ← h1, List.take_append_drop]
    · rcases List.mem_cons.1 hy with rfl | hy
      · exact h2
      · exact h5 y hy

end Go.Dr

/-
  A call that reads nothing it is given and comes out true, told by one run.
-/
namespace Go.Dr
open Go.RowKit

variable {P : Program}

/-- the summary of one closed call -/
def closedS (f : FuncId) : Sums := fun g => if g = f then some (fun args h => match args with | [] => .ok (.bool true, h) | _ => .error "arguments") else none

theorem closed_ok {lf n : Nat} {f : FuncId} (hM : P.follows .mixedOrders = true) (hnum : P.funcs.all (fun f => f.name != "runtime.NumGoroutine") = true)
    (hrun : okTrue (evCall P (fun _ => none) lf n (.fn f) [] ⟨P.globals.size, .leaf⟩) = true) (B : Nat) (w0 : World) : SumOk P B w0 (closedS f) := by
  intro g s hs args h v h' he φ w args' ha hG hR
  unfold closedS at hs
  split at hs
  · rename_i e
    subst e
    cases hs
    cases args with
    | cons a l => cases he
    | nil =>
      cases he
      cases ha
      obtain ⟨hh, hr⟩ := okTrue_ok hrun
      obtain ⟨h1, h2⟩ := (run_ok (B := w.heap.size) (w0 := w) hM (noNum hnum) sumOk_none n).1 _ _ _ _ _ hr (phi0 P.globals.size) w [] .nil (glob0 P) (rel0 w _)
      refine ⟨h1, fun cs => ?_⟩
      obtain ⟨v', w', fr, fn', ⟨φ', hv, hR', _⟩, rest⟩ := h2 cs
      refine ⟨v', w', fr, fn', ⟨φ, ?_, ?_, .refl _ _⟩, rest⟩
      · cases hv; exact .bool true
      · exact hR.world (hR'.below.mono hR.size) fun i p o hi ho => hR'.below.block _ (hR.obj i p o hi ho).lt
  · cases hs

/-- a law that comes out true, with what is told of calls -/
theorem law_evS {S : Sums} (hM : P.follows .mixedOrders = true) (hnum : P.funcs.all (fun f => f.name != "runtime.NumGoroutine") = true) {W : World} (hS : SumOk P W.heap.size W S) {f : FuncId} {args : List AV} {args' : List Value} {φ : Phi} {h : AH}
    (he : Ev P S (.fn f) args h fun r _ => r = .bool true) (ha : ConL φ args args') (hG : GlobRel P φ) (hR : Rel W.heap.size W φ h W) :
    Calls P f ⟨args'⟩ W fun e W' => e = .returned (.bool true) ∧ Below W.heap.size W W' := by
  obtain ⟨N, v, h', he, rfl⟩ := he
  refine (calls_of_ev hM (noNum hnum) hS he ha hG hR).mono fun e W' hh => ?_
  cases e with
  | returned v =>
    obtain ⟨φ', h1, h2, _⟩ := hh
    cases h1
    exact ⟨rfl, h2.below⟩
  | panicked c => exact hh.elim
  | outgrown => exact hh.elim

end Go.Dr

/-
  The library's sort of a slice of integers, told of the abstract run.
-/
namespace Go.Dr
open Go.RowKit

variable {P : Program} {B : Nat} {w0 w w' : World} {φ : Phi} {h h' : AH}

theorem CallsK.of_calls {f : FuncId} {args : Array Value} {R : Ending → World → Prop} {K : Value → World → Prop} (hc : Calls P f args w R) (hr : ∀ e w', R e w' → ∃ v, e = .returned v ∧ K v w') : CallsK P .normal f args w K := by
  intro cs
  obtain ⟨e, w', fr, hR, hst, hf, hl⟩ := hc cs
  obtain ⟨v, rfl, hk⟩ := hr _ _ hR
  obtain ⟨hm, hd, hkd, fn, hfn, hres⟩ := hl
  exact ⟨v, w', fr, fn, hk, hst, hf, hm, hd, hkd, hfn, hres⟩

def sorted (zs : List Int) : List Int := zs.mergeSort fun x y => decide (x ≤ y)

/-- the kit's two contracts of slices.Sort at []int -/
structure SortIs (P : Program) (f : FuncId) : Prop where
  some : ∀ (blk off cap : Nat) (zs : List Int) (w : World), Sort.Holds (Value.int .i64) w blk off zs.toArray → blk < w.heap.size → zs.length < 4611686018427387904 →
    Calls P f #[.slice (some ⟨blk, off, none⟩) zs.length cap] w fun e w' =>
      e = .returned (.tuple #[]) ∧ ∃ n os, w' = Sort.grow (Sort.putRow (Value.int .i64) (Sort.ahead w n) blk off (zs.mergeSort fun x y => decide (x ≤ y)).toArray) os
  none : ∀ (p : Option Addr) (cap : Nat) (w : World), Calls P f #[.slice p 0 cap] w fun e w' => e = .returned (.tuple #[]) ∧ w' = w
  enter : ∀ args w, (callFunc f args).run P w = .ok (.enter f args) w

end Go.Dr

namespace Go.Dk
open Go Go.Dr
set_option maxRecDepth 100000

noncomputable abbrev P : Program := Go.Proofs.Tryz.prog
def f_index_Encode : FuncId := 7
def f_index_Can : FuncId := 10
def f_labels_Can : FuncId := 33
def f_labels_Name : FuncId := 76
def f_labels_letter : FuncId := 112
def f_slices_ContainsFunc_byte_byte : FuncId := 113
def f_slices_IndexFunc_byte_byte : FuncId := 140
def f_labels_Name_1 : FuncId := 114
def f_labels_digit : FuncId := 115
def f_labels_Value : FuncId := 77
def f_labels_plain : FuncId := 116
def f_labels_Compare : FuncId := 34
def f_slices_CompareFunc_api_Label_api_Label_api_Label_api_Label : FuncId := 78
def f_labels_Compare_1 : FuncId := 79
def f_cmp_Compare_string : FuncId := 80
def f_cmp_isNaN_string : FuncId := 117
def f_cmp_Or_int : FuncId := 66
def f_index_items : FuncId := 27
def f_maps_Keys_map_string_bool_string_bool : FuncId := 64
def f_maps_Keys_map_string_bool_string_bool_1 : FuncId := 107
def f_slices_Sorted_string : FuncId := 63
def f_slices_Collect_string : FuncId := 105
def f_slices_AppendSeq_string_string : FuncId := 135
def f_slices_Sort_string_string : FuncId := 106
def f_index_items_1 : FuncId := 65
def f_maps_Keys_map_index_pair_index_places_index_pair_index_places : FuncId := 69
def f_maps_Keys_map_index_pair_index_places_index_pair_index_places_1 : FuncId := 111
def f_slices_SortedFunc_index_pair : FuncId := 68
def f_slices_Collect_index_pair : FuncId := 109
def f_slices_AppendSeq_index_pair_index_pair : FuncId := 138
def f_slices_SortFunc_index_pair_index_pair : FuncId := 110
def f_index_bytesOf : FuncId := 28
def f_crc_Put : FuncId := 70
def f_ref13_Encode : FuncId := 8
def f_ref13_Can : FuncId := 11
def f_ref07_Can : FuncId := 35
def f_ref07_Name : FuncId := 81
def f_ref07_Value : FuncId := 82
def f_ref07_Plain : FuncId := 118
def f_ref07_Compare : FuncId := 36
def f_ref07_texts : FuncId := 83
def f_ref13_texts : FuncId := 29
def f_ref13_with : FuncId := 71
def f_ref13_four : FuncId := 30
def f_ref01_Put : FuncId := 72
def f_ref13_entry : FuncId := 31
def f_ref13_place : FuncId := 73
def f_ref10_Big : FuncId := 74
def f_ref13_postings : FuncId := 32
def f_ref07_Get : FuncId := 75
def f_slices_Equal_byte_byte : FuncId := 9
def f_law13_awake : FuncId := 12
def f_slices_Clone_byte_byte : FuncId := 18
def f_crc_Get : FuncId := 96
def f_bytes_Equal : FuncId := 46
def f_ref10_Int : FuncId := 97
def f_ref01_Get : FuncId := 133
def f_ref07_Piece : FuncId := 98
def f_index_Decode : FuncId := 16
def f_index_source_number : FuncId := 44
def f_index_source_take : FuncId := 45
def f_plain_SameEntries : FuncId := 17
def f_slices_EqualFunc_api_Entry_api_Entry_api_Entry_api_Entry : FuncId := 47
def f_plain_SameEntries_1 : FuncId := 48
def f_slices_Equal_api_Label_api_Label : FuncId := 49
def f_law13_IndexReads : FuncId := 5
def f_ref13_Decode : FuncId := 19
def f_ref13_reader_int : FuncId := 50
def f_ref13_reader_text : FuncId := 51
def f_ref13_reader_label : FuncId := 52
def f_law19_awake : FuncId := 21
def t_api_Errno : TypeId := 24
def t_int : TypeId := 3
def t_string : TypeId := 9
def t_uint8 : TypeId := 5
def t_int32 : TypeId := 21
def t_index_word : TypeId := 104
def t_index_text : TypeId := 105
def t_index_pair : TypeId := 108
def t_index_places : TypeId := 109
def t_uint64 : TypeId := 66
def t_sl_uint8 : TypeId := 23
def t_api_Label : TypeId := 65
@[simp] theorem und_api_Errno : P.underlying t_api_Errno = some (.int .i64) := nr (by kernel_rfl)
@[simp] theorem und_int : P.underlying t_int = some (.int .i64) := nr (by kernel_rfl)
@[simp] theorem und_string : P.underlying t_string = some .string := nr (by kernel_rfl)
@[simp] theorem und_uint8 : P.underlying t_uint8 = some (.int .u8) := nr (by kernel_rfl)
@[simp] theorem und_int32 : P.underlying t_int32 = some (.int .i32) := nr (by kernel_rfl)
-- t_index_word: struct [n:t_int@0, width:t_int@1]
@[simp] theorem und_index_text : P.underlying t_index_text = some .string := nr (by kernel_rfl)
-- t_index_pair: struct [name:t_int@0, value:t_int@1]
@[simp] theorem und_index_places : P.underlying t_index_places = some (.slice t_int) := nr (by kernel_rfl)
@[simp] theorem und_uint64 : P.underlying t_uint64 = some (.int .u64) := nr (by kernel_rfl)
@[simp] theorem und_sl_uint8 : P.underlying t_sl_uint8 = some (.slice t_uint8) := nr (by kernel_rfl)
def g_math_bits_deBruijn64tab : Nat := 0

/-- the ranges over functions in a code -/
noncomputable def gos : Code → List (Code × Code)
  | .seq x y => gos x ++ gos y
  | .cond _ x y => gos x ++ gos y
  | .block _ c => gos c
  | .loop c => gos c
  | .scope c => gos c
  | .rangeFunc _ _ a b => [(a, b)]
  | _ => []
noncomputable def gosOf (f : FuncId) : List (Code × Code) := match P.funcs[f]? with
  | some fn => match fn.body with | some c => gos c | none => []
  | none => []
noncomputable def goAssign (f k : Nat) : Code := match (gosOf f)[k]? with | some p => p.1 | none => .skip
noncomputable def goBody (f k : Nat) : Code := match (gosOf f)[k]? with | some p => p.2 | none => .skip

end Go.Dk

namespace Go.Dk
open Go Go.Dr
set_option maxRecDepth 100000

-- reached: 153
/-- dryrot/index.Encode, of 1 -/
noncomputable def c_index_Encode : CC :=
 (.seq
  (.ops [
   .row ⟨(some 2), none, .move (.c .nils)⟩,
   .row ⟨(some 3), none, .move (.c (.int .i64 0))⟩])
  (.seq
   (.seq
    (.ops [
     .row ⟨(some 11), none, .move (.t 0)⟩,
     .row ⟨(some 12), none, .callV (.c (.func (.func f_index_Can) [] [])) [(.t 11)]⟩,
     .row ⟨(some 13), none, .un .not (.t 12)⟩])
    (.cond (.t 13)
     (.seq
      (.ops [
       .row ⟨(some 2), none, .move (.c .nils)⟩,
       .row ⟨(some 3), none, .move (.c (.int .i64 1))⟩])
      .ret)
     .skip))
   (.seq
    (.ops [
     .row ⟨(some 14), none, .move (.t 0)⟩,
     .row ⟨(some 15), none, .callV (.c (.func (.func f_index_items) [] [])) [(.t 14)]⟩,
     .row ⟨(some 4), none, .move (.t 15)⟩])
    (.seq
     (.ops [
      .row ⟨(some 5), none, .move (.c (.int .i64 0))⟩])
     (.seq
      (.seq
       (.ops [
        .row ⟨(some 16), none, .move (.t 4)⟩,
        .row ⟨(some 17), none, .lenV (.t 16)⟩,
        .row ⟨(some 18), none, .move (.c (.int .i64 0))⟩])
       (.block 0
        (.loop
         (.seq
          (.ops [
           .row ⟨(some 19), none, .bin .lss t_int false (.t 18) (.t 17)⟩])
          (.seq
           (.cond (.t 19)
            .skip
            (.exit 0))
           (.seq
            (.block 1
             (.seq
              (.ops [
               .row ⟨(some 20), none, .idxV 1 (.t 16) (.t 18)⟩,
               .row ⟨(some 21), none, .load1 (.t 20)⟩,
               .row ⟨(some 7), none, .move (.t 21)⟩])
              (.ops [
               .row ⟨(some 22), none, .move (.t 5)⟩,
               .row ⟨(some 23), none, .move (.t 7)⟩,
               .row ⟨(some 24), none, .callM (.t 23) "dryrot/index.size" []⟩,
               .row ⟨(some 25), none, .bin .add t_int false (.t 22) (.t 24)⟩,
               .row ⟨(some 5), none, .move (.t 25)⟩])))
            (.ops [
             .row ⟨(some 26), none, .bin .add t_int true (.t 18) (.c (.int .i64 1))⟩,
             .row ⟨(some 18), none, .move (.t 26)⟩])))))))
      (.seq
       (.ops [
        .row ⟨(some 27), none, .move (.t 5)⟩,
        .row ⟨(some 28), none, .mkS 1 1 [(.int .u8 0)] (.c (.int .i64 0)) (.t 27)⟩,
        .row ⟨(some 8), none, .move (.t 28)⟩])
       (.seq
        (.seq
         (.ops [
          .row ⟨(some 29), none, .move (.t 4)⟩,
          .row ⟨(some 30), none, .lenV (.t 29)⟩,
          .row ⟨(some 31), none, .move (.c (.int .i64 0))⟩])
         (.block 2
          (.loop
           (.seq
            (.ops [
             .row ⟨(some 32), none, .bin .lss t_int false (.t 31) (.t 30)⟩])
            (.seq
             (.cond (.t 32)
              .skip
              (.exit 2))
             (.seq
              (.block 3
               (.seq
                (.ops [
                 .row ⟨(some 33), none, .idxV 1 (.t 29) (.t 31)⟩,
                 .row ⟨(some 34), none, .load1 (.t 33)⟩,
                 .row ⟨(some 10), none, .move (.t 34)⟩])
                (.ops [
                 .row ⟨(some 35), none, .move (.t 8)⟩,
                 .row ⟨(some 36), none, .move (.t 10)⟩,
                 .row ⟨(some 37), none, .callV (.c (.func (.func f_index_bytesOf) [] [])) [(.t 36)]⟩,
                 .row ⟨(some 38), none, .app 1 1 (.t 35) (.t 37)⟩,
                 .row ⟨(some 8), none, .move (.t 38)⟩])))
              (.ops [
               .row ⟨(some 39), none, .bin .add t_int true (.t 31) (.c (.int .i64 1))⟩,
               .row ⟨(some 31), none, .move (.t 39)⟩])))))))
        (.seq
         (.ops [
          .row ⟨(some 40), none, .move (.t 8)⟩,
          .row ⟨(some 2), none, .move (.t 40)⟩,
          .row ⟨(some 3), none, .move (.c (.int .i64 0))⟩])
         .ret))))))))

theorem k_index_Encode : compF P f_index_Encode = .ok ⟨41, [.tmp 2, .tmp 3], c_index_Encode⟩ := by kernel_rfl

/-- dryrot/index.Can, of 1 -/
noncomputable def c_index_Can : CC :=
 (.seq
  (.ops [
   .row ⟨(some 2), none, .move (.c (.bool false))⟩])
  (.seq
   (.ops [
    .row ⟨(some 3), none, .move (.c (.int .i64 0))⟩])
   (.seq
    (.seq
     (.ops [
      .row ⟨(some 8), none, .move (.t 0)⟩,
      .row ⟨(some 9), none, .lenV (.t 8)⟩,
      .row ⟨(some 10), none, .move (.c (.int .i64 0))⟩])
     (.block 0
      (.loop
       (.seq
        (.ops [
         .row ⟨(some 11), none, .bin .lss t_int false (.t 10) (.t 9)⟩])
        (.seq
         (.cond (.t 11)
          .skip
          (.exit 0))
         (.seq
          (.block 1
           (.seq
            (.ops [
             .row ⟨(some 12), none, .move (.t 10)⟩,
             .row ⟨(some 13), none, .idxV 5 (.t 8) (.t 10)⟩,
             .row ⟨(some 14), none, .loadN 5 (.t 13)⟩,
             .row ⟨(some 5), none, .new [.nils, (.int .i64 0), (.int .i64 0), (.int .i64 0), (.int .i64 0)]⟩,
             .row ⟨(some 4), none, .move (.t 12)⟩,
             .row ⟨none, none, .store 5 (.t 5) (.t 14)⟩])
            (.seq
             (.seq
              (.ops [
               .row ⟨(some 15), none, .fieldAddr 0 (.t 5)⟩,
               .row ⟨(some 16), none, .load1 (.t 15)⟩,
               .row ⟨(some 17), none, .callV (.c (.func (.func f_labels_Can) [] [])) [(.t 16)]⟩,
               .row ⟨(some 18), none, .un .not (.t 17)⟩,
               .row ⟨(some 19), none, .move (.t 18)⟩,
               .row ⟨(some 20), (some (19, false)), .fieldAddr 3 (.t 5)⟩,
               .row ⟨(some 21), (some (19, false)), .load1 (.t 20)⟩,
               .row ⟨(some 22), (some (19, false)), .fieldAddr 4 (.t 5)⟩,
               .row ⟨(some 23), (some (19, false)), .load1 (.t 22)⟩,
               .row ⟨(some 24), (some (19, false)), .bin .gtr t_int false (.t 21) (.t 23)⟩,
               .row ⟨(some 25), none, .pick (.t 19) (.c (.bool true)) (.t 24)⟩,
               .row ⟨(some 26), none, .move (.t 25)⟩,
               .row ⟨(some 27), (some (26, false)), .fieldAddr 2 (.t 5)⟩,
               .row ⟨(some 28), (some (26, false)), .load1 (.t 27)⟩,
               .row ⟨(some 29), (some (26, false)), .bin .lss t_int true (.t 28) (.c (.int .i64 1))⟩,
               .row ⟨(some 30), none, .pick (.t 26) (.c (.bool true)) (.t 29)⟩,
               .row ⟨(some 31), none, .move (.t 30)⟩,
               .row ⟨(some 32), (some (31, false)), .fieldAddr 2 (.t 5)⟩,
               .row ⟨(some 33), (some (31, false)), .load1 (.t 32)⟩,
               .row ⟨(some 34), (some (31, false)), .bin .gtr t_int true (.t 33) (.c (.int .i64 2147483647))⟩,
               .row ⟨(some 35), none, .pick (.t 31) (.c (.bool true)) (.t 34)⟩,
               .row ⟨(some 36), none, .move (.t 35)⟩,
               .row ⟨(some 37), (some (36, false)), .fieldAddr 1 (.t 5)⟩,
               .row ⟨(some 38), (some (36, false)), .load1 (.t 37)⟩,
               .row ⟨(some 39), (some (36, false)), .move (.t 3)⟩,
               .row ⟨(some 40), (some (36, false)), .bin .neq t_int false (.t 38) (.t 39)⟩,
               .row ⟨(some 41), none, .pick (.t 36) (.c (.bool true)) (.t 40)⟩])
              (.cond (.t 41)
               (.seq
                (.ops [
                 .row ⟨(some 2), none, .move (.c (.bool false))⟩])
                .ret)
               .skip))
             (.seq
              (.ops [
               .row ⟨(some 42), none, .move (.t 3)⟩,
               .row ⟨(some 43), none, .fieldAddr 2 (.t 5)⟩,
               .row ⟨(some 44), none, .load1 (.t 43)⟩,
               .row ⟨(some 45), none, .bin .add t_int false (.t 42) (.t 44)⟩,
               .row ⟨(some 3), none, .move (.t 45)⟩])
              (.seq
               (.ops [
                .row ⟨(some 46), none, .move (.t 4)⟩,
                .row ⟨(some 47), none, .bin .gtr t_int true (.t 46) (.c (.int .i64 0))⟩])
               (.cond (.t 47)
                (.seq
                 (.ops [
                  .row ⟨(some 48), none, .move (.t 0)⟩,
                  .row ⟨(some 49), none, .move (.t 4)⟩,
                  .row ⟨(some 50), none, .bin .sub t_int true (.t 49) (.c (.int .i64 1))⟩,
                  .row ⟨(some 51), none, .idxV 5 (.t 48) (.t 50)⟩,
                  .row ⟨(some 52), none, .loadN 5 (.t 51)⟩,
                  .row ⟨(some 6), none, .new [.nils, (.int .i64 0), (.int .i64 0), (.int .i64 0), (.int .i64 0)]⟩,
                  .row ⟨none, none, .store 5 (.t 6) (.t 52)⟩])
                 (.seq
                  (.ops [
                   .row ⟨(some 53), none, .fieldAddr 0 (.t 6)⟩,
                   .row ⟨(some 54), none, .load1 (.t 53)⟩,
                   .row ⟨(some 55), none, .fieldAddr 0 (.t 5)⟩,
                   .row ⟨(some 56), none, .load1 (.t 55)⟩,
                   .row ⟨(some 57), none, .callV (.c (.func (.func f_labels_Compare) [] [])) [(.t 54), (.t 56)]⟩,
                   .row ⟨(some 7), none, .move (.t 57)⟩])
                  (.seq
                   (.ops [
                    .row ⟨(some 58), none, .move (.t 7)⟩,
                    .row ⟨(some 59), none, .bin .gtr t_int true (.t 58) (.c (.int .i64 0))⟩,
                    .row ⟨(some 60), none, .move (.t 59)⟩,
                    .row ⟨(some 61), (some (60, false)), .move (.t 7)⟩,
                    .row ⟨(some 62), (some (60, false)), .bin .eql t_int true (.t 61) (.c (.int .i64 0))⟩,
                    .row ⟨(some 63), (some (60, false)), .move (.t 62)⟩,
                    .row ⟨(some 64), (some (63, true)), .fieldAddr 3 (.t 5)⟩,
                    .row ⟨(some 65), (some (63, true)), .load1 (.t 64)⟩,
                    .row ⟨(some 66), (some (63, true)), .fieldAddr 4 (.t 6)⟩,
                    .row ⟨(some 67), (some (63, true)), .load1 (.t 66)⟩,
                    .row ⟨(some 68), (some (63, true)), .bin .leq t_int false (.t 65) (.t 67)⟩,
                    .row ⟨(some 69), (some (60, false)), .pick (.t 63) (.t 68) (.c (.bool false))⟩,
                    .row ⟨(some 70), none, .pick (.t 60) (.c (.bool true)) (.t 69)⟩])
                   (.cond (.t 70)
                    (.seq
                     (.ops [
                      .row ⟨(some 2), none, .move (.c (.bool false))⟩])
                     .ret)
                    .skip))))
                .skip))))))
          (.ops [
           .row ⟨(some 71), none, .bin .add t_int true (.t 10) (.c (.int .i64 1))⟩,
           .row ⟨(some 10), none, .move (.t 71)⟩])))))))
    (.seq
     (.ops [
      .row ⟨(some 72), none, .move (.t 0)⟩,
      .row ⟨(some 73), none, .lenV (.t 72)⟩,
      .row ⟨(some 74), none, .bin .leq t_int true (.t 73) (.c (.int .i64 100000))⟩,
      .row ⟨(some 2), none, .move (.t 74)⟩])
     .ret))))

theorem k_index_Can : compF P f_index_Can = .ok ⟨75, [.tmp 2], c_index_Can⟩ := by kernel_rfl

/-- dryrot/labels.Can, of 1 -/
noncomputable def c_labels_Can : CC :=
 (.seq
  (.ops [
   .row ⟨(some 2), none, .move (.c (.bool false))⟩])
  (.seq
   (.seq
    (.ops [
     .row ⟨(some 6), none, .move (.t 0)⟩,
     .row ⟨(some 7), none, .lenV (.t 6)⟩,
     .row ⟨(some 8), none, .bin .eql t_int true (.t 7) (.c (.int .i64 0))⟩,
     .row ⟨(some 9), none, .move (.t 8)⟩,
     .row ⟨(some 10), (some (9, false)), .move (.t 0)⟩,
     .row ⟨(some 11), (some (9, false)), .lenV (.t 10)⟩,
     .row ⟨(some 12), (some (9, false)), .bin .gtr t_int true (.t 11) (.c (.int .i64 8))⟩,
     .row ⟨(some 13), none, .pick (.t 9) (.c (.bool true)) (.t 12)⟩])
    (.cond (.t 13)
     (.seq
      (.ops [
       .row ⟨(some 2), none, .move (.c (.bool false))⟩])
      .ret)
     .skip))
   (.seq
    (.ops [
     .row ⟨(some 3), none, .move (.c (.str []))⟩])
    (.seq
     (.seq
      (.ops [
       .row ⟨(some 14), none, .move (.t 0)⟩,
       .row ⟨(some 15), none, .lenV (.t 14)⟩,
       .row ⟨(some 16), none, .move (.c (.int .i64 0))⟩])
      (.block 0
       (.loop
        (.seq
         (.ops [
          .row ⟨(some 17), none, .bin .lss t_int false (.t 16) (.t 15)⟩])
         (.seq
          (.cond (.t 17)
           .skip
           (.exit 0))
          (.seq
           (.block 1
            (.seq
             (.ops [
              .row ⟨(some 18), none, .idxV 2 (.t 14) (.t 16)⟩,
              .row ⟨(some 19), none, .loadN 2 (.t 18)⟩,
              .row ⟨(some 5), none, .new [(.str []), (.str [])]⟩,
              .row ⟨none, none, .store 2 (.t 5) (.t 19)⟩])
             (.seq
              (.seq
               (.ops [
                .row ⟨(some 20), none, .fieldAddr 0 (.t 5)⟩,
                .row ⟨(some 21), none, .load1 (.t 20)⟩,
                .row ⟨(some 22), none, .callV (.c (.func (.func f_labels_Name) [] [])) [(.t 21)]⟩,
                .row ⟨(some 23), none, .un .not (.t 22)⟩,
                .row ⟨(some 24), none, .move (.t 23)⟩,
                .row ⟨(some 25), (some (24, false)), .fieldAddr 1 (.t 5)⟩,
                .row ⟨(some 26), (some (24, false)), .load1 (.t 25)⟩,
                .row ⟨(some 27), (some (24, false)), .callV (.c (.func (.func f_labels_Value) [] [])) [(.t 26)]⟩,
                .row ⟨(some 28), (some (24, false)), .un .not (.t 27)⟩,
                .row ⟨(some 29), none, .pick (.t 24) (.c (.bool true)) (.t 28)⟩,
                .row ⟨(some 30), none, .move (.t 29)⟩,
                .row ⟨(some 31), (some (30, false)), .fieldAddr 0 (.t 5)⟩,
                .row ⟨(some 32), (some (30, false)), .load1 (.t 31)⟩,
                .row ⟨(some 33), (some (30, false)), .move (.t 3)⟩,
                .row ⟨(some 34), (some (30, false)), .bin .leq t_string false (.t 32) (.t 33)⟩,
                .row ⟨(some 35), none, .pick (.t 30) (.c (.bool true)) (.t 34)⟩])
               (.cond (.t 35)
                (.seq
                 (.ops [
                  .row ⟨(some 2), none, .move (.c (.bool false))⟩])
                 .ret)
                .skip))
              (.ops [
               .row ⟨(some 36), none, .fieldAddr 0 (.t 5)⟩,
               .row ⟨(some 37), none, .load1 (.t 36)⟩,
               .row ⟨(some 3), none, .move (.t 37)⟩]))))
           (.ops [
            .row ⟨(some 38), none, .bin .add t_int true (.t 16) (.c (.int .i64 1))⟩,
            .row ⟨(some 16), none, .move (.t 38)⟩])))))))
     (.seq
      (.ops [
       .row ⟨(some 2), none, .move (.c (.bool true))⟩])
      .ret)))))

theorem k_labels_Can : compF P f_labels_Can = .ok ⟨39, [.tmp 2], c_labels_Can⟩ := by kernel_rfl

/-- dryrot/labels.Name, of 1 -/
noncomputable def c_labels_Name : CC :=
 (.seq
  (.ops [
   .row ⟨(some 2), none, .move (.c (.bool false))⟩])
  (.seq
   (.seq
    (.ops [
     .row ⟨(some 3), none, .move (.t 0)⟩,
     .row ⟨(some 4), none, .bin .eql t_string true (.t 3) (.c (.str []))⟩,
     .row ⟨(some 5), none, .move (.t 4)⟩,
     .row ⟨(some 6), (some (5, false)), .move (.t 0)⟩,
     .row ⟨(some 7), (some (5, false)), .lenS (.t 6)⟩,
     .row ⟨(some 8), (some (5, false)), .bin .gtr t_int true (.t 7) (.c (.int .i64 24))⟩,
     .row ⟨(some 9), none, .pick (.t 5) (.c (.bool true)) (.t 8)⟩,
     .row ⟨(some 10), none, .move (.t 9)⟩,
     .row ⟨(some 11), (some (10, false)), .move (.t 0)⟩,
     .row ⟨(some 12), (some (10, false)), .indexS (.t 11) (.c (.int .i64 0))⟩,
     .row ⟨(some 13), (some (10, false)), .callV (.c (.func (.func f_labels_letter) [] [])) [(.t 12)]⟩,
     .row ⟨(some 14), (some (10, false)), .un .not (.t 13)⟩,
     .row ⟨(some 15), none, .pick (.t 10) (.c (.bool true)) (.t 14)⟩])
    (.cond (.t 15)
     (.seq
      (.ops [
       .row ⟨(some 2), none, .move (.c (.bool false))⟩])
      .ret)
     .skip))
   (.seq
    (.ops [
     .row ⟨(some 16), none, .move (.t 0)⟩,
     .row ⟨(some 17), none, .conv .bytes (.t 16)⟩,
     .row ⟨(some 18), none, .callV (.c (.func (.func f_slices_ContainsFunc_byte_byte) [] [])) [(.t 17), (.c (.func (.func f_labels_Name_1) [] []))]⟩,
     .row ⟨(some 19), none, .un .not (.t 18)⟩,
     .row ⟨(some 2), none, .move (.t 19)⟩])
    .ret)))

theorem k_labels_Name : compF P f_labels_Name = .ok ⟨20, [.tmp 2], c_labels_Name⟩ := by kernel_rfl

/-- dryrot/labels.letter, of 1 -/
noncomputable def c_labels_letter : CC :=
 (.seq
  (.ops [
   .row ⟨(some 2), none, .move (.c (.bool false))⟩])
  (.seq
   (.ops [
    .row ⟨(some 3), none, .move (.t 0)⟩,
    .row ⟨(some 4), none, .bin .eql t_uint8 true (.t 3) (.c (.int .u8 95))⟩,
    .row ⟨(some 5), none, .move (.t 4)⟩,
    .row ⟨(some 6), (some (5, false)), .move (.t 0)⟩,
    .row ⟨(some 7), (some (5, false)), .bin .or t_uint8 true (.t 6) (.c (.int .u8 32))⟩,
    .row ⟨(some 8), (some (5, false)), .bin .geq t_uint8 true (.t 7) (.c (.int .u8 97))⟩,
    .row ⟨(some 9), (some (5, false)), .move (.t 8)⟩,
    .row ⟨(some 10), (some (9, true)), .move (.t 0)⟩,
    .row ⟨(some 11), (some (9, true)), .bin .or t_uint8 true (.t 10) (.c (.int .u8 32))⟩,
    .row ⟨(some 12), (some (9, true)), .bin .leq t_uint8 true (.t 11) (.c (.int .u8 122))⟩,
    .row ⟨(some 13), (some (5, false)), .pick (.t 9) (.t 12) (.c (.bool false))⟩,
    .row ⟨(some 14), none, .pick (.t 5) (.c (.bool true)) (.t 13)⟩,
    .row ⟨(some 2), none, .move (.t 14)⟩])
   .ret))

theorem k_labels_letter : compF P f_labels_letter = .ok ⟨15, [.tmp 2], c_labels_letter⟩ := by kernel_rfl

/-- slices.ContainsFunc[[]byte,byte], of 2 -/
noncomputable def c_slices_ContainsFunc_byte_byte : CC :=
 (.seq
  (.ops [
   .row ⟨(some 4), none, .move (.c (.bool false))⟩])
  (.seq
   (.ops [
    .row ⟨(some 5), none, .move (.t 0)⟩,
    .row ⟨(some 6), none, .move (.t 1)⟩,
    .row ⟨(some 7), none, .callV (.c (.func (.func f_slices_IndexFunc_byte_byte) [] [])) [(.t 5), (.t 6)]⟩,
    .row ⟨(some 8), none, .bin .geq t_int true (.t 7) (.c (.int .i64 0))⟩,
    .row ⟨(some 4), none, .move (.t 8)⟩])
   .ret))

theorem k_slices_ContainsFunc_byte_byte : compF P f_slices_ContainsFunc_byte_byte = .ok ⟨9, [.tmp 4], c_slices_ContainsFunc_byte_byte⟩ := by kernel_rfl

/-- slices.IndexFunc[[]byte,byte], of 2 -/
noncomputable def c_slices_IndexFunc_byte_byte : CC :=
 (.seq
  (.ops [
   .row ⟨(some 4), none, .move (.c (.int .i64 0))⟩])
  (.seq
   (.seq
    (.ops [
     .row ⟨(some 6), none, .move (.t 0)⟩,
     .row ⟨(some 7), none, .lenV (.t 6)⟩,
     .row ⟨(some 8), none, .move (.c (.int .i64 0))⟩])
    (.block 0
     (.loop
      (.seq
       (.ops [
        .row ⟨(some 9), none, .bin .lss t_int false (.t 8) (.t 7)⟩])
       (.seq
        (.cond (.t 9)
         .skip
         (.exit 0))
        (.seq
         (.block 1
          (.seq
           (.ops [
            .row ⟨(some 10), none, .move (.t 8)⟩,
            .row ⟨(some 5), none, .move (.t 10)⟩])
           (.seq
            (.ops [
             .row ⟨(some 11), none, .move (.t 1)⟩,
             .row ⟨(some 12), none, .move (.t 0)⟩,
             .row ⟨(some 13), none, .move (.t 5)⟩,
             .row ⟨(some 14), none, .idxV 1 (.t 12) (.t 13)⟩,
             .row ⟨(some 15), none, .load1 (.t 14)⟩,
             .row ⟨(some 16), none, .callV (.t 11) [(.t 15)]⟩])
            (.cond (.t 16)
             (.seq
              (.ops [
               .row ⟨(some 17), none, .move (.t 5)⟩,
               .row ⟨(some 4), none, .move (.t 17)⟩])
              .ret)
             .skip))))
         (.ops [
          .row ⟨(some 18), none, .bin .add t_int true (.t 8) (.c (.int .i64 1))⟩,
          .row ⟨(some 8), none, .move (.t 18)⟩])))))))
   (.seq
    (.ops [
     .row ⟨(some 4), none, .move (.c (.int .i64 (-1)))⟩])
    .ret)))

theorem k_slices_IndexFunc_byte_byte : compF P f_slices_IndexFunc_byte_byte = .ok ⟨19, [.tmp 4], c_slices_IndexFunc_byte_byte⟩ := by kernel_rfl

/-- dryrot/labels.Name$1, of 1 -/
noncomputable def c_labels_Name_1 : CC :=
 (.seq
  (.ops [
   .row ⟨(some 2), none, .move (.c (.bool false))⟩])
  (.seq
   (.ops [
    .row ⟨(some 3), none, .move (.t 0)⟩,
    .row ⟨(some 4), none, .callV (.c (.func (.func f_labels_letter) [] [])) [(.t 3)]⟩,
    .row ⟨(some 5), none, .un .not (.t 4)⟩,
    .row ⟨(some 6), none, .move (.t 5)⟩,
    .row ⟨(some 7), (some (6, true)), .move (.t 0)⟩,
    .row ⟨(some 8), (some (6, true)), .callV (.c (.func (.func f_labels_digit) [] [])) [(.t 7)]⟩,
    .row ⟨(some 9), (some (6, true)), .un .not (.t 8)⟩,
    .row ⟨(some 10), none, .pick (.t 6) (.t 9) (.c (.bool false))⟩,
    .row ⟨(some 2), none, .move (.t 10)⟩])
   .ret))

theorem k_labels_Name_1 : compF P f_labels_Name_1 = .ok ⟨11, [.tmp 2], c_labels_Name_1⟩ := by kernel_rfl

/-- dryrot/labels.digit, of 1 -/
noncomputable def c_labels_digit : CC :=
 (.seq
  (.ops [
   .row ⟨(some 2), none, .move (.c (.bool false))⟩])
  (.seq
   (.ops [
    .row ⟨(some 3), none, .move (.t 0)⟩,
    .row ⟨(some 4), none, .bin .geq t_uint8 true (.t 3) (.c (.int .u8 48))⟩,
    .row ⟨(some 5), none, .move (.t 4)⟩,
    .row ⟨(some 6), (some (5, true)), .move (.t 0)⟩,
    .row ⟨(some 7), (some (5, true)), .bin .leq t_uint8 true (.t 6) (.c (.int .u8 57))⟩,
    .row ⟨(some 8), none, .pick (.t 5) (.t 7) (.c (.bool false))⟩,
    .row ⟨(some 2), none, .move (.t 8)⟩])
   .ret))

theorem k_labels_digit : compF P f_labels_digit = .ok ⟨9, [.tmp 2], c_labels_digit⟩ := by kernel_rfl

/-- dryrot/labels.Value, of 1 -/
noncomputable def c_labels_Value : CC :=
 (.seq
  (.ops [
   .row ⟨(some 2), none, .move (.c (.bool false))⟩])
  (.seq
   (.seq
    (.ops [
     .row ⟨(some 5), none, .move (.t 0)⟩,
     .row ⟨(some 6), none, .rangeS (.t 5)⟩])
    (.block 0
     (.loop
      (.seq
       (.ops [
        .row ⟨(some 7), none, .next (.t 6) true⟩,
        .row ⟨(some 8), none, .extract (.t 7) 0⟩])
       (.seq
        (.cond (.t 8)
         .skip
         (.exit 0))
        (.block 1
         (.seq
          (.ops [
           .row ⟨(some 9), none, .extract (.t 7) 2⟩,
           .row ⟨(some 4), none, .move (.t 9)⟩])
          (.seq
           (.ops [
            .row ⟨(some 10), none, .move (.t 4)⟩,
            .row ⟨(some 11), none, .callV (.c (.func (.func f_labels_plain) [] [])) [(.t 10)]⟩,
            .row ⟨(some 12), none, .un .not (.t 11)⟩])
           (.cond (.t 12)
            (.seq
             (.ops [
              .row ⟨(some 2), none, .move (.c (.bool false))⟩])
             .ret)
            .skip)))))))))
   (.seq
    (.ops [
     .row ⟨(some 13), none, .move (.t 0)⟩,
     .row ⟨(some 14), none, .bin .neq t_string true (.t 13) (.c (.str []))⟩,
     .row ⟨(some 15), none, .move (.t 14)⟩,
     .row ⟨(some 16), (some (15, true)), .move (.t 0)⟩,
     .row ⟨(some 17), (some (15, true)), .lenS (.t 16)⟩,
     .row ⟨(some 18), (some (15, true)), .bin .leq t_int true (.t 17) (.c (.int .i64 40))⟩,
     .row ⟨(some 19), none, .pick (.t 15) (.t 18) (.c (.bool false))⟩,
     .row ⟨(some 2), none, .move (.t 19)⟩])
    .ret)))

theorem k_labels_Value : compF P f_labels_Value = .ok ⟨20, [.tmp 2], c_labels_Value⟩ := by kernel_rfl

/-- dryrot/labels.plain, of 1 -/
noncomputable def c_labels_plain : CC :=
 (.seq
  (.ops [
   .row ⟨(some 2), none, .move (.c (.bool false))⟩])
  (.seq
   (.ops [
    .row ⟨(some 3), none, .move (.t 0)⟩,
    .row ⟨(some 4), none, .bin .geq t_int32 true (.t 3) (.c (.int .i32 32))⟩,
    .row ⟨(some 5), none, .move (.t 4)⟩,
    .row ⟨(some 6), (some (5, true)), .move (.t 0)⟩,
    .row ⟨(some 7), (some (5, true)), .bin .neq t_int32 true (.t 6) (.c (.int .i32 127))⟩,
    .row ⟨(some 8), none, .pick (.t 5) (.t 7) (.c (.bool false))⟩,
    .row ⟨(some 9), none, .move (.t 8)⟩,
    .row ⟨(some 10), (some (9, true)), .move (.t 0)⟩,
    .row ⟨(some 11), (some (9, true)), .bin .neq t_int32 true (.t 10) (.c (.int .i32 65533))⟩,
    .row ⟨(some 12), none, .pick (.t 9) (.t 11) (.c (.bool false))⟩,
    .row ⟨(some 2), none, .move (.t 12)⟩])
   .ret))

theorem k_labels_plain : compF P f_labels_plain = .ok ⟨13, [.tmp 2], c_labels_plain⟩ := by kernel_rfl

/-- dryrot/labels.Compare, of 2 -/
noncomputable def c_labels_Compare : CC :=
 (.seq
  (.ops [
   .row ⟨(some 4), none, .move (.c (.int .i64 0))⟩])
  (.seq
   (.ops [
    .row ⟨(some 5), none, .move (.t 0)⟩,
    .row ⟨(some 6), none, .move (.t 1)⟩,
    .row ⟨(some 7), none, .callV (.c (.func (.func f_slices_CompareFunc_api_Label_api_Label_api_Label_api_Label) [] [])) [(.t 5), (.t 6), (.c (.func (.func f_labels_Compare_1) [] []))]⟩,
    .row ⟨(some 4), none, .move (.t 7)⟩])
   .ret))

theorem k_labels_Compare : compF P f_labels_Compare = .ok ⟨8, [.tmp 4], c_labels_Compare⟩ := by kernel_rfl

/-- slices.CompareFunc[[]dryrot/api.Label,[]dryrot/api.Label,dryrot/api.Label,dryrot/api.Label], of 3 -/
noncomputable def c_slices_CompareFunc_api_Label_api_Label_api_Label_api_Label : CC :=
 (.seq
  (.ops [
   .row ⟨(some 6), none, .move (.c (.int .i64 0))⟩])
  (.seq
   (.seq
    (.ops [
     .row ⟨(some 11), none, .move (.t 0)⟩,
     .row ⟨(some 12), none, .lenV (.t 11)⟩,
     .row ⟨(some 13), none, .move (.c (.int .i64 0))⟩])
    (.block 0
     (.loop
      (.seq
       (.ops [
        .row ⟨(some 14), none, .bin .lss t_int false (.t 13) (.t 12)⟩])
       (.seq
        (.cond (.t 14)
         .skip
         (.exit 0))
        (.seq
         (.block 1
          (.seq
           (.ops [
            .row ⟨(some 15), none, .move (.t 13)⟩,
            .row ⟨(some 16), none, .idxV 2 (.t 11) (.t 13)⟩,
            .row ⟨(some 17), none, .loadN 2 (.t 16)⟩,
            .row ⟨(some 8), none, .new [(.str []), (.str [])]⟩,
            .row ⟨(some 7), none, .move (.t 15)⟩,
            .row ⟨none, none, .store 2 (.t 8) (.t 17)⟩])
           (.seq
            (.seq
             (.ops [
              .row ⟨(some 18), none, .move (.t 7)⟩,
              .row ⟨(some 19), none, .move (.t 1)⟩,
              .row ⟨(some 20), none, .lenV (.t 19)⟩,
              .row ⟨(some 21), none, .bin .geq t_int false (.t 18) (.t 20)⟩])
             (.cond (.t 21)
              (.seq
               (.ops [
                .row ⟨(some 6), none, .move (.c (.int .i64 1))⟩])
               .ret)
              .skip))
            (.seq
             (.ops [
              .row ⟨(some 22), none, .move (.t 1)⟩,
              .row ⟨(some 23), none, .move (.t 7)⟩,
              .row ⟨(some 24), none, .idxV 2 (.t 22) (.t 23)⟩,
              .row ⟨(some 25), none, .loadN 2 (.t 24)⟩,
              .row ⟨(some 9), none, .new [(.str []), (.str [])]⟩,
              .row ⟨none, none, .store 2 (.t 9) (.t 25)⟩])
             (.seq
              (.ops [
               .row ⟨(some 26), none, .move (.t 2)⟩,
               .row ⟨(some 27), none, .loadN 2 (.t 8)⟩,
               .row ⟨(some 28), none, .loadN 2 (.t 9)⟩,
               .row ⟨(some 29), none, .callV (.t 26) [(.t 27), (.t 28)]⟩,
               .row ⟨(some 10), none, .move (.t 29)⟩])
              (.seq
               (.ops [
                .row ⟨(some 30), none, .move (.t 10)⟩,
                .row ⟨(some 31), none, .bin .neq t_int true (.t 30) (.c (.int .i64 0))⟩])
               (.cond (.t 31)
                (.seq
                 (.ops [
                  .row ⟨(some 32), none, .move (.t 10)⟩,
                  .row ⟨(some 6), none, .move (.t 32)⟩])
                 .ret)
                .skip)))))))
         (.ops [
          .row ⟨(some 33), none, .bin .add t_int true (.t 13) (.c (.int .i64 1))⟩,
          .row ⟨(some 13), none, .move (.t 33)⟩])))))))
   (.seq
    (.seq
     (.ops [
      .row ⟨(some 34), none, .move (.t 0)⟩,
      .row ⟨(some 35), none, .lenV (.t 34)⟩,
      .row ⟨(some 36), none, .move (.t 1)⟩,
      .row ⟨(some 37), none, .lenV (.t 36)⟩,
      .row ⟨(some 38), none, .bin .lss t_int false (.t 35) (.t 37)⟩])
     (.cond (.t 38)
      (.seq
       (.ops [
        .row ⟨(some 6), none, .move (.c (.int .i64 (-1)))⟩])
       .ret)
      .skip))
    (.seq
     (.ops [
      .row ⟨(some 6), none, .move (.c (.int .i64 0))⟩])
     .ret))))

theorem k_slices_CompareFunc_api_Label_api_Label_api_Label_api_Label : compF P f_slices_CompareFunc_api_Label_api_Label_api_Label_api_Label = .ok ⟨39, [.tmp 6], c_slices_CompareFunc_api_Label_api_Label_api_Label_api_Label⟩ := by kernel_rfl

/-- dryrot/labels.Compare$1, of 2 -/
noncomputable def c_labels_Compare_1 : CC :=
 (.seq
  (.ops [
   .row ⟨(some 2), none, .box (.t 0)⟩,
   .row ⟨(some 3), none, .box (.t 1)⟩,
   .row ⟨(some 4), none, .move (.c (.int .i64 0))⟩])
  (.seq
   (.ops [
    .row ⟨(some 5), none, .fieldAddr 0 (.t 2)⟩,
    .row ⟨(some 6), none, .load1 (.t 5)⟩,
    .row ⟨(some 7), none, .fieldAddr 0 (.t 3)⟩,
    .row ⟨(some 8), none, .load1 (.t 7)⟩,
    .row ⟨(some 10), none, .fieldAddr 1 (.t 2)⟩,
    .row ⟨(some 11), none, .load1 (.t 10)⟩,
    .row ⟨(some 12), none, .fieldAddr 1 (.t 3)⟩,
    .row ⟨(some 13), none, .load1 (.t 12)⟩,
    .stage [⟨(some 13), none, .load1 (.t 12)⟩, ⟨(some 11), none, .load1 (.t 10)⟩, ⟨(some 8), none, .load1 (.t 7)⟩, ⟨(some 6), none, .load1 (.t 5)⟩],
    .row ⟨(some 9), none, .callV (.c (.func (.func f_cmp_Compare_string) [] [])) [(.t 6), (.t 8)]⟩,
    .stage [⟨(some 13), none, .load1 (.t 12)⟩, ⟨(some 11), none, .load1 (.t 10)⟩],
    .row ⟨(some 14), none, .callV (.c (.func (.func f_cmp_Compare_string) [] [])) [(.t 11), (.t 13)]⟩,
    .row ⟨(some 15), none, .buildSlice 2 1 [(.int .i64 0), (.int .i64 0)] [(0, 1, (.t 9)), (1, 1, (.t 14))]⟩,
    .row ⟨(some 16), none, .callV (.c (.func (.func f_cmp_Or_int) [] [])) [(.t 15)]⟩,
    .row ⟨(some 4), none, .move (.t 16)⟩])
   .ret))

theorem k_labels_Compare_1 : compF P f_labels_Compare_1 = .ok ⟨17, [.tmp 4], c_labels_Compare_1⟩ := by kernel_rfl

/-- cmp.Compare[string], of 2 -/
noncomputable def c_cmp_Compare_string : CC :=
 (.seq
  (.ops [
   .row ⟨(some 4), none, .move (.c (.int .i64 0))⟩])
  (.seq
   (.ops [
    .row ⟨(some 7), none, .move (.t 0)⟩,
    .row ⟨(some 8), none, .callV (.c (.func (.func f_cmp_isNaN_string) [] [])) [(.t 7)]⟩,
    .row ⟨(some 5), none, .move (.t 8)⟩])
   (.seq
    (.ops [
     .row ⟨(some 9), none, .move (.t 1)⟩,
     .row ⟨(some 10), none, .callV (.c (.func (.func f_cmp_isNaN_string) [] [])) [(.t 9)]⟩,
     .row ⟨(some 6), none, .move (.t 10)⟩])
    (.seq
     (.seq
      (.ops [
       .row ⟨(some 11), none, .move (.t 5)⟩])
      (.cond (.t 11)
       (.seq
        (.seq
         (.ops [
          .row ⟨(some 12), none, .move (.t 6)⟩])
         (.cond (.t 12)
          (.seq
           (.ops [
            .row ⟨(some 4), none, .move (.c (.int .i64 0))⟩])
           .ret)
          .skip))
        (.seq
         (.ops [
          .row ⟨(some 4), none, .move (.c (.int .i64 (-1)))⟩])
         .ret))
       .skip))
     (.seq
      (.seq
       (.ops [
        .row ⟨(some 13), none, .move (.t 6)⟩])
       (.cond (.t 13)
        (.seq
         (.ops [
          .row ⟨(some 4), none, .move (.c (.int .i64 1))⟩])
         .ret)
        .skip))
      (.seq
       (.seq
        (.ops [
         .row ⟨(some 14), none, .move (.t 0)⟩,
         .row ⟨(some 15), none, .move (.t 1)⟩,
         .row ⟨(some 16), none, .bin .lss t_string false (.t 14) (.t 15)⟩])
        (.cond (.t 16)
         (.seq
          (.ops [
           .row ⟨(some 4), none, .move (.c (.int .i64 (-1)))⟩])
          .ret)
         .skip))
       (.seq
        (.seq
         (.ops [
          .row ⟨(some 17), none, .move (.t 0)⟩,
          .row ⟨(some 18), none, .move (.t 1)⟩,
          .row ⟨(some 19), none, .bin .gtr t_string false (.t 17) (.t 18)⟩])
         (.cond (.t 19)
          (.seq
           (.ops [
            .row ⟨(some 4), none, .move (.c (.int .i64 1))⟩])
           .ret)
          .skip))
        (.seq
         (.ops [
          .row ⟨(some 4), none, .move (.c (.int .i64 0))⟩])
         .ret))))))))

theorem k_cmp_Compare_string : compF P f_cmp_Compare_string = .ok ⟨20, [.tmp 4], c_cmp_Compare_string⟩ := by kernel_rfl

/-- cmp.isNaN[string], of 1 -/
noncomputable def c_cmp_isNaN_string : CC :=
 (.seq
  (.ops [
   .row ⟨(some 2), none, .move (.c (.bool false))⟩])
  (.seq
   (.ops [
    .row ⟨(some 3), none, .move (.t 0)⟩,
    .row ⟨(some 4), none, .move (.t 0)⟩,
    .row ⟨(some 5), none, .bin .neq t_string false (.t 3) (.t 4)⟩,
    .row ⟨(some 2), none, .move (.t 5)⟩])
   .ret))

theorem k_cmp_isNaN_string : compF P f_cmp_isNaN_string = .ok ⟨6, [.tmp 2], c_cmp_isNaN_string⟩ := by kernel_rfl

/-- cmp.Or[int], of 1 -/
noncomputable def c_cmp_Or_int : CC :=
 (.seq
  (.ops [
   .row ⟨(some 2), none, .move (.c (.int .i64 0))⟩])
  (.seq
   (.ops [
    .row ⟨(some 3), none, .move (.c (.int .i64 0))⟩])
   (.seq
    (.seq
     (.ops [
      .row ⟨(some 6), none, .move (.t 0)⟩,
      .row ⟨(some 7), none, .lenV (.t 6)⟩,
      .row ⟨(some 8), none, .move (.c (.int .i64 0))⟩])
     (.block 0
      (.loop
       (.seq
        (.ops [
         .row ⟨(some 9), none, .bin .lss t_int false (.t 8) (.t 7)⟩])
        (.seq
         (.cond (.t 9)
          .skip
          (.exit 0))
         (.seq
          (.block 1
           (.seq
            (.ops [
             .row ⟨(some 10), none, .idxV 1 (.t 6) (.t 8)⟩,
             .row ⟨(some 11), none, .load1 (.t 10)⟩,
             .row ⟨(some 5), none, .move (.t 11)⟩])
            (.seq
             (.ops [
              .row ⟨(some 12), none, .move (.t 5)⟩,
              .row ⟨(some 13), none, .move (.t 3)⟩,
              .row ⟨(some 14), none, .bin .neq t_int false (.t 12) (.t 13)⟩])
             (.cond (.t 14)
              (.seq
               (.ops [
                .row ⟨(some 15), none, .move (.t 5)⟩,
                .row ⟨(some 2), none, .move (.t 15)⟩])
               .ret)
              .skip))))
          (.ops [
           .row ⟨(some 16), none, .bin .add t_int true (.t 8) (.c (.int .i64 1))⟩,
           .row ⟨(some 8), none, .move (.t 16)⟩])))))))
    (.seq
     (.ops [
      .row ⟨(some 17), none, .move (.t 3)⟩,
      .row ⟨(some 2), none, .move (.t 17)⟩])
     .ret))))

theorem k_cmp_Or_int : compF P f_cmp_Or_int = .ok ⟨18, [.tmp 2], c_cmp_Or_int⟩ := by kernel_rfl

/-- dryrot/index.items, of 1 -/
noncomputable def c_index_items : CC :=
 (.seq
  (.ops [
   .row ⟨(some 2), none, .move (.c .nils)⟩])
  (.seq
   (.ops [
    .row ⟨(some 22), none, .mkM none⟩,
    .row ⟨(some 3), none, .move (.t 22)⟩])
   (.seq
    (.seq
     (.ops [
      .row ⟨(some 23), none, .move (.t 0)⟩,
      .row ⟨(some 24), none, .lenV (.t 23)⟩,
      .row ⟨(some 25), none, .move (.c (.int .i64 0))⟩])
     (.block 0
      (.loop
       (.seq
        (.ops [
         .row ⟨(some 26), none, .bin .lss t_int false (.t 25) (.t 24)⟩])
        (.seq
         (.cond (.t 26)
          .skip
          (.exit 0))
         (.seq
          (.block 1
           (.seq
            (.ops [
             .row ⟨(some 27), none, .idxV 5 (.t 23) (.t 25)⟩,
             .row ⟨(some 28), none, .loadN 5 (.t 27)⟩,
             .row ⟨(some 5), none, .new [.nils, (.int .i64 0), (.int .i64 0), (.int .i64 0), (.int .i64 0)]⟩,
             .row ⟨none, none, .store 5 (.t 5) (.t 28)⟩])
            (.seq
             (.ops [
              .row ⟨(some 29), none, .fieldAddr 0 (.t 5)⟩,
              .row ⟨(some 30), none, .load1 (.t 29)⟩,
              .row ⟨(some 31), none, .lenV (.t 30)⟩,
              .row ⟨(some 32), none, .move (.c (.int .i64 0))⟩])
             (.block 2
              (.loop
               (.seq
                (.ops [
                 .row ⟨(some 33), none, .bin .lss t_int false (.t 32) (.t 31)⟩])
                (.seq
                 (.cond (.t 33)
                  .skip
                  (.exit 2))
                 (.seq
                  (.block 3
                   (.seq
                    (.ops [
                     .row ⟨(some 34), none, .idxV 2 (.t 30) (.t 32)⟩,
                     .row ⟨(some 35), none, .loadN 2 (.t 34)⟩,
                     .row ⟨(some 7), none, .new [(.str []), (.str [])]⟩,
                     .row ⟨none, none, .store 2 (.t 7) (.t 35)⟩])
                    (.ops [
                     .row ⟨(some 36), none, .move (.t 3)⟩,
                     .row ⟨(some 37), none, .fieldAddr 0 (.t 7)⟩,
                     .row ⟨(some 38), none, .load1 (.t 37)⟩,
                     .row ⟨(some 39), none, .move (.t 3)⟩,
                     .row ⟨(some 40), none, .fieldAddr 1 (.t 7)⟩,
                     .row ⟨(some 41), none, .load1 (.t 40)⟩,
                     .stage [⟨(some 41), none, .load1 (.t 40)⟩, ⟨(some 38), none, .load1 (.t 37)⟩],
                     .row ⟨none, none, .upd t_string (.t 36) (.t 38) (.c (.bool true))⟩,
                     .stage [⟨(some 41), none, .load1 (.t 40)⟩],
                     .row ⟨none, none, .upd t_string (.t 39) (.t 41) (.c (.bool true))⟩])))
                  (.ops [
                   .row ⟨(some 42), none, .bin .add t_int true (.t 32) (.c (.int .i64 1))⟩,
                   .row ⟨(some 32), none, .move (.t 42)⟩])))))))))
          (.ops [
           .row ⟨(some 43), none, .bin .add t_int true (.t 25) (.c (.int .i64 1))⟩,
           .row ⟨(some 25), none, .move (.t 43)⟩])))))))
    (.seq
     (.ops [
      .row ⟨(some 44), none, .move (.t 3)⟩,
      .row ⟨(some 45), none, .callV (.c (.func (.func f_maps_Keys_map_string_bool_string_bool) [] [])) [(.t 44)]⟩,
      .row ⟨(some 46), none, .callV (.c (.func (.func f_slices_Sorted_string) [] [])) [(.t 45)]⟩,
      .row ⟨(some 8), none, .move (.t 46)⟩])
     (.seq
      (.ops [
       .row ⟨(some 47), none, .mkM none⟩,
       .row ⟨(some 9), none, .move (.t 47)⟩])
      (.seq
       (.ops [
        .row ⟨(some 48), none, .move (.t 8)⟩,
        .row ⟨(some 49), none, .lenV (.t 48)⟩,
        .row ⟨(some 50), none, .build [(.int .i64 0), (.int .i64 0)] [(0, 1, (.t 49)), (1, 1, (.c (.int .i64 4)))]⟩,
        .row ⟨(some 51), none, .mkI t_index_word (.t 50)⟩,
        .row ⟨(some 52), none, .buildSlice 1 1 [.nili] [(0, 1, (.t 51))]⟩,
        .row ⟨(some 10), none, .move (.t 52)⟩])
       (.seq
        (.seq
         (.ops [
          .row ⟨(some 53), none, .move (.t 8)⟩,
          .row ⟨(some 54), none, .lenV (.t 53)⟩,
          .row ⟨(some 55), none, .move (.c (.int .i64 0))⟩])
         (.block 4
          (.loop
           (.seq
            (.ops [
             .row ⟨(some 56), none, .bin .lss t_int false (.t 55) (.t 54)⟩])
            (.seq
             (.cond (.t 56)
              .skip
              (.exit 4))
             (.seq
              (.block 5
               (.seq
                (.ops [
                 .row ⟨(some 57), none, .move (.t 55)⟩,
                 .row ⟨(some 58), none, .idxV 1 (.t 53) (.t 55)⟩,
                 .row ⟨(some 59), none, .load1 (.t 58)⟩,
                 .row ⟨(some 11), none, .move (.t 57)⟩,
                 .row ⟨(some 12), none, .move (.t 59)⟩])
                (.seq
                 (.ops [
                  .row ⟨(some 60), none, .move (.t 9)⟩,
                  .row ⟨(some 61), none, .move (.t 12)⟩,
                  .row ⟨(some 62), none, .move (.t 11)⟩,
                  .row ⟨none, none, .upd t_string (.t 60) (.t 61) (.t 62)⟩])
                 (.ops [
                  .row ⟨(some 63), none, .move (.t 10)⟩,
                  .row ⟨(some 64), none, .move (.t 12)⟩,
                  .row ⟨(some 65), none, .mkI t_index_text (.t 64)⟩,
                  .row ⟨(some 66), none, .buildSlice 1 1 [.nili] [(0, 1, (.t 65))]⟩,
                  .row ⟨(some 67), none, .app 1 16 (.t 63) (.t 66)⟩,
                  .row ⟨(some 10), none, .move (.t 67)⟩]))))
              (.ops [
               .row ⟨(some 68), none, .bin .add t_int true (.t 55) (.c (.int .i64 1))⟩,
               .row ⟨(some 55), none, .move (.t 68)⟩])))))))
        (.seq
         (.ops [
          .row ⟨(some 69), none, .move (.t 10)⟩,
          .row ⟨(some 70), none, .move (.t 0)⟩,
          .row ⟨(some 71), none, .lenV (.t 70)⟩,
          .row ⟨(some 72), none, .build [(.int .i64 0), (.int .i64 0)] [(0, 1, (.t 71)), (1, 1, (.c (.int .i64 4)))]⟩,
          .row ⟨(some 73), none, .mkI t_index_word (.t 72)⟩,
          .row ⟨(some 74), none, .buildSlice 1 1 [.nili] [(0, 1, (.t 73))]⟩,
          .row ⟨(some 75), none, .app 1 16 (.t 69) (.t 74)⟩,
          .row ⟨(some 10), none, .move (.t 75)⟩])
         (.seq
          (.ops [
           .row ⟨(some 76), none, .mkM none⟩,
           .row ⟨(some 13), none, .move (.t 76)⟩])
          (.seq
           (.seq
            (.ops [
             .row ⟨(some 77), none, .move (.t 0)⟩,
             .row ⟨(some 78), none, .lenV (.t 77)⟩,
             .row ⟨(some 79), none, .move (.c (.int .i64 0))⟩])
            (.block 6
             (.loop
              (.seq
               (.ops [
                .row ⟨(some 80), none, .bin .lss t_int false (.t 79) (.t 78)⟩])
               (.seq
                (.cond (.t 80)
                 .skip
                 (.exit 6))
                (.seq
                 (.block 7
                  (.seq
                   (.ops [
                    .row ⟨(some 81), none, .move (.t 79)⟩,
                    .row ⟨(some 82), none, .idxV 5 (.t 77) (.t 79)⟩,
                    .row ⟨(some 83), none, .loadN 5 (.t 82)⟩,
                    .row ⟨(some 15), none, .new [.nils, (.int .i64 0), (.int .i64 0), (.int .i64 0), (.int .i64 0)]⟩,
                    .row ⟨(some 14), none, .move (.t 81)⟩,
                    .row ⟨none, none, .store 5 (.t 15) (.t 83)⟩])
                   (.seq
                    (.ops [
                     .row ⟨(some 84), none, .move (.t 10)⟩,
                     .row ⟨(some 85), none, .fieldAddr 0 (.t 15)⟩,
                     .row ⟨(some 86), none, .load1 (.t 85)⟩,
                     .row ⟨(some 87), none, .lenV (.t 86)⟩,
                     .row ⟨(some 88), none, .build [(.int .i64 0), (.int .i64 0)] [(0, 1, (.t 87)), (1, 1, (.c (.int .i64 1)))]⟩,
                     .row ⟨(some 89), none, .mkI t_index_word (.t 88)⟩,
                     .row ⟨(some 90), none, .buildSlice 1 1 [.nili] [(0, 1, (.t 89))]⟩,
                     .row ⟨(some 91), none, .app 1 16 (.t 84) (.t 90)⟩,
                     .row ⟨(some 10), none, .move (.t 91)⟩])
                    (.seq
                     (.seq
                      (.ops [
                       .row ⟨(some 92), none, .fieldAddr 0 (.t 15)⟩,
                       .row ⟨(some 93), none, .load1 (.t 92)⟩,
                       .row ⟨(some 94), none, .lenV (.t 93)⟩,
                       .row ⟨(some 95), none, .move (.c (.int .i64 0))⟩])
                      (.block 8
                       (.loop
                        (.seq
                         (.ops [
                          .row ⟨(some 96), none, .bin .lss t_int false (.t 95) (.t 94)⟩])
                         (.seq
                          (.cond (.t 96)
                           .skip
                           (.exit 8))
                          (.seq
                           (.block 9
                            (.seq
                             (.ops [
                              .row ⟨(some 97), none, .idxV 2 (.t 93) (.t 95)⟩,
                              .row ⟨(some 98), none, .loadN 2 (.t 97)⟩,
                              .row ⟨(some 17), none, .new [(.str []), (.str [])]⟩,
                              .row ⟨none, none, .store 2 (.t 17) (.t 98)⟩])
                             (.seq
                              (.ops [
                               .row ⟨(some 99), none, .move (.t 9)⟩,
                               .row ⟨(some 100), none, .fieldAddr 0 (.t 17)⟩,
                               .row ⟨(some 101), none, .load1 (.t 100)⟩,
                               .row ⟨(some 102), none, .lookup t_string (.int .i64 0) false (.t 99) (.t 101)⟩,
                               .row ⟨(some 103), none, .move (.t 9)⟩,
                               .row ⟨(some 104), none, .fieldAddr 1 (.t 17)⟩,
                               .row ⟨(some 105), none, .load1 (.t 104)⟩,
                               .row ⟨(some 106), none, .lookup t_string (.int .i64 0) false (.t 103) (.t 105)⟩,
                               .row ⟨(some 107), none, .build [(.int .i64 0), (.int .i64 0)] [(0, 1, (.t 102)), (1, 1, (.t 106))]⟩,
                               .row ⟨(some 18), none, .new [(.int .i64 0), (.int .i64 0)]⟩,
                               .row ⟨none, none, .store 2 (.t 18) (.t 107)⟩])
                              (.seq
                               (.ops [
                                .row ⟨(some 108), none, .move (.t 10)⟩,
                                .row ⟨(some 109), none, .fieldAddr 0 (.t 18)⟩,
                                .row ⟨(some 110), none, .load1 (.t 109)⟩,
                                .row ⟨(some 111), none, .build [(.int .i64 0), (.int .i64 0)] [(0, 1, (.t 110)), (1, 1, (.c (.int .i64 4)))]⟩,
                                .row ⟨(some 112), none, .mkI t_index_word (.t 111)⟩,
                                .row ⟨(some 113), none, .fieldAddr 1 (.t 18)⟩,
                                .row ⟨(some 114), none, .load1 (.t 113)⟩,
                                .row ⟨(some 115), none, .build [(.int .i64 0), (.int .i64 0)] [(0, 1, (.t 114)), (1, 1, (.c (.int .i64 4)))]⟩,
                                .row ⟨(some 116), none, .mkI t_index_word (.t 115)⟩,
                                .row ⟨(some 117), none, .buildSlice 2 1 [.nili, .nili] [(0, 1, (.t 112)), (1, 1, (.t 116))]⟩,
                                .row ⟨(some 118), none, .app 1 16 (.t 108) (.t 117)⟩,
                                .row ⟨(some 10), none, .move (.t 118)⟩])
                               (.ops [
                                .row ⟨(some 119), none, .move (.t 13)⟩,
                                .row ⟨(some 120), none, .loadN 2 (.t 18)⟩,
                                .row ⟨(some 122), none, .move (.t 14)⟩,
                                .row ⟨(some 123), none, .buildSlice 1 1 [(.int .i64 0)] [(0, 1, (.t 122))]⟩,
                                .row ⟨(some 124), none, .mapEntry t_index_pair .nils (.t 119) (.t 120)⟩,
                                .row ⟨(some 121), none, .extract (.t 124) 0⟩,
                                .row ⟨(some 125), none, .app 1 8 (.t 121) (.t 123)⟩,
                                .row ⟨(some 126), none, .extract (.t 124) 1⟩,
                                .row ⟨none, none, .entryStore (.t 119) (.t 126) (.t 125)⟩])))))
                           (.ops [
                            .row ⟨(some 127), none, .bin .add t_int true (.t 95) (.c (.int .i64 1))⟩,
                            .row ⟨(some 95), none, .move (.t 127)⟩])))))))
                     (.ops [
                      .row ⟨(some 128), none, .move (.t 10)⟩,
                      .row ⟨(some 129), none, .fieldAddr 2 (.t 15)⟩,
                      .row ⟨(some 130), none, .load1 (.t 129)⟩,
                      .row ⟨(some 131), none, .build [(.int .i64 0), (.int .i64 0)] [(0, 1, (.t 130)), (1, 1, (.c (.int .i64 4)))]⟩,
                      .row ⟨(some 132), none, .mkI t_index_word (.t 131)⟩,
                      .row ⟨(some 133), none, .fieldAddr 3 (.t 15)⟩,
                      .row ⟨(some 134), none, .load1 (.t 133)⟩,
                      .row ⟨(some 135), none, .build [(.int .i64 0), (.int .i64 0)] [(0, 1, (.t 134)), (1, 1, (.c (.int .i64 8)))]⟩,
                      .row ⟨(some 136), none, .mkI t_index_word (.t 135)⟩,
                      .row ⟨(some 137), none, .fieldAddr 4 (.t 15)⟩,
                      .row ⟨(some 138), none, .load1 (.t 137)⟩,
                      .row ⟨(some 139), none, .build [(.int .i64 0), (.int .i64 0)] [(0, 1, (.t 138)), (1, 1, (.c (.int .i64 8)))]⟩,
                      .row ⟨(some 140), none, .mkI t_index_word (.t 139)⟩,
                      .row ⟨(some 141), none, .buildSlice 3 1 [.nili, .nili, .nili] [(0, 1, (.t 132)), (1, 1, (.t 136)), (2, 1, (.t 140))]⟩,
                      .row ⟨(some 142), none, .app 1 16 (.t 128) (.t 141)⟩,
                      .row ⟨(some 10), none, .move (.t 142)⟩])))))
                 (.ops [
                  .row ⟨(some 143), none, .bin .add t_int true (.t 79) (.c (.int .i64 1))⟩,
                  .row ⟨(some 79), none, .move (.t 143)⟩])))))))
           (.seq
            (.ops [
             .row ⟨(some 19), none, .move (.c (.func (.func f_index_items_1) [] []))⟩])
            (.seq
             (.seq
              (.ops [
               .row ⟨(some 144), none, .move (.t 13)⟩,
               .row ⟨(some 145), none, .callV (.c (.func (.func f_maps_Keys_map_index_pair_index_places_index_pair_index_places) [] [])) [(.t 144)]⟩,
               .row ⟨(some 146), none, .move (.t 19)⟩,
               .row ⟨(some 147), none, .callV (.c (.func (.func f_slices_SortedFunc_index_pair) [] [])) [(.t 145), (.t 146)]⟩,
               .row ⟨(some 148), none, .lenV (.t 147)⟩,
               .row ⟨(some 149), none, .move (.c (.int .i64 0))⟩])
              (.block 10
               (.loop
                (.seq
                 (.ops [
                  .row ⟨(some 150), none, .bin .lss t_int false (.t 149) (.t 148)⟩])
                 (.seq
                  (.cond (.t 150)
                   .skip
                   (.exit 10))
                  (.seq
                   (.block 11
                    (.seq
                     (.ops [
                      .row ⟨(some 151), none, .idxV 2 (.t 147) (.t 149)⟩,
                      .row ⟨(some 152), none, .loadN 2 (.t 151)⟩,
                      .row ⟨(some 21), none, .new [(.int .i64 0), (.int .i64 0)]⟩,
                      .row ⟨none, none, .store 2 (.t 21) (.t 152)⟩])
                     (.ops [
                      .row ⟨(some 153), none, .move (.t 10)⟩,
                      .row ⟨(some 154), none, .fieldAddr 0 (.t 21)⟩,
                      .row ⟨(some 155), none, .load1 (.t 154)⟩,
                      .row ⟨(some 156), none, .build [(.int .i64 0), (.int .i64 0)] [(0, 1, (.t 155)), (1, 1, (.c (.int .i64 4)))]⟩,
                      .row ⟨(some 157), none, .mkI t_index_word (.t 156)⟩,
                      .row ⟨(some 158), none, .fieldAddr 1 (.t 21)⟩,
                      .row ⟨(some 159), none, .load1 (.t 158)⟩,
                      .row ⟨(some 160), none, .build [(.int .i64 0), (.int .i64 0)] [(0, 1, (.t 159)), (1, 1, (.c (.int .i64 4)))]⟩,
                      .row ⟨(some 161), none, .mkI t_index_word (.t 160)⟩,
                      .row ⟨(some 162), none, .move (.t 13)⟩,
                      .row ⟨(some 163), none, .loadN 2 (.t 21)⟩,
                      .row ⟨(some 164), none, .lookup t_index_pair .nils false (.t 162) (.t 163)⟩,
                      .row ⟨(some 165), none, .mkI t_index_places (.t 164)⟩,
                      .row ⟨(some 166), none, .buildSlice 3 1 [.nili, .nili, .nili] [(0, 1, (.t 157)), (1, 1, (.t 161)), (2, 1, (.t 165))]⟩,
                      .stage [⟨(some 164), none, .lookup t_index_pair .nils false (.t 162) (.t 163)⟩, ⟨(some 163), none, .loadN 2 (.t 21)⟩, ⟨(some 159), none, .load1 (.t 158)⟩, ⟨(some 155), none, .load1 (.t 154)⟩],
                      .row ⟨(some 167), none, .app 1 16 (.t 153) (.t 166)⟩,
                      .row ⟨(some 10), none, .move (.t 167)⟩])))
                   (.ops [
                    .row ⟨(some 168), none, .bin .add t_int true (.t 149) (.c (.int .i64 1))⟩,
                    .row ⟨(some 149), none, .move (.t 168)⟩])))))))
             (.seq
              (.ops [
               .row ⟨(some 169), none, .move (.t 10)⟩,
               .row ⟨(some 2), none, .move (.t 169)⟩])
              .ret)))))))))))))

theorem k_index_items : compF P f_index_items = .ok ⟨170, [.tmp 2], c_index_items⟩ := by kernel_rfl

/-- maps.Keys[map[string]bool,string,bool], of 1 -/
noncomputable def c_maps_Keys_map_string_bool_string_bool : CC :=
 (.seq
  (.ops [
   .row ⟨(some 1), none, .box (.t 0)⟩,
   .row ⟨(some 2), none, .move (.c .nilf)⟩])
  (.seq
   (.ops [
    .row ⟨(some 3), none, .mkF f_maps_Keys_map_string_bool_string_bool_1 [] [(.t 1)]⟩,
    .row ⟨(some 2), none, .move (.t 3)⟩])
   .ret))

theorem k_maps_Keys_map_string_bool_string_bool : compF P f_maps_Keys_map_string_bool_string_bool = .ok ⟨4, [.tmp 2], c_maps_Keys_map_string_bool_string_bool⟩ := by kernel_rfl

/-- maps.Keys[map[dryrot/index.pair]dryrot/index.places,dryrot/index.pair,dryrot/index.places], of 1 -/
noncomputable def c_maps_Keys_map_index_pair_index_places_index_pair_index_places : CC :=
 (.seq
  (.ops [
   .row ⟨(some 1), none, .box (.t 0)⟩,
   .row ⟨(some 2), none, .move (.c .nilf)⟩])
  (.seq
   (.ops [
    .row ⟨(some 3), none, .mkF f_maps_Keys_map_index_pair_index_places_index_pair_index_places_1 [] [(.t 1)]⟩,
    .row ⟨(some 2), none, .move (.t 3)⟩])
   .ret))

theorem k_maps_Keys_map_index_pair_index_places_index_pair_index_places : compF P f_maps_Keys_map_index_pair_index_places_index_pair_index_places = .ok ⟨4, [.tmp 2], c_maps_Keys_map_index_pair_index_places_index_pair_index_places⟩ := by kernel_rfl

/-- dryrot/index.bytesOf, of 1 -/
noncomputable def c_index_bytesOf : CC :=
 (.seq
  (.ops [
   .row ⟨(some 2), none, .move (.c .nils)⟩])
  (.seq
   (.seq
    (.ops [
     .row ⟨(some 12), none, .move (.t 0)⟩,
     .row ⟨(some 13), none, .tassert (.t 12) t_index_text true⟩,
     .row ⟨(some 11), none, .move (.t 13)⟩,
     .row ⟨(some 14), none, .extract (.t 11) 0⟩,
     .row ⟨(some 15), none, .extract (.t 11) 1⟩,
     .row ⟨(some 3), none, .move (.t 14)⟩,
     .row ⟨(some 4), none, .move (.t 15)⟩])
    (.seq
     (.ops [
      .row ⟨(some 16), none, .move (.t 4)⟩])
     (.cond (.t 16)
      (.seq
       (.ops [
        .row ⟨(some 17), none, .move (.t 3)⟩,
        .row ⟨(some 18), none, .lenS (.t 17)⟩,
        .row ⟨(some 19), none, .conv (.int .u8) (.t 18)⟩,
        .row ⟨(some 20), none, .buildSlice 1 1 [(.int .u8 0)] [(0, 1, (.t 19))]⟩,
        .row ⟨(some 21), none, .move (.t 3)⟩,
        .row ⟨(some 22), none, .app 1 1 (.t 20) (.t 21)⟩,
        .row ⟨(some 2), none, .move (.t 22)⟩])
       .ret)
      .skip)))
   (.seq
    (.seq
     (.ops [
      .row ⟨(some 24), none, .move (.t 0)⟩,
      .row ⟨(some 25), none, .tassert (.t 24) t_index_word true⟩,
      .row ⟨(some 23), none, .move (.t 25)⟩,
      .row ⟨(some 26), none, .extract (.t 23) 0⟩,
      .row ⟨(some 27), none, .extract (.t 23) 1⟩,
      .row ⟨(some 5), none, .new [(.int .i64 0), (.int .i64 0)]⟩,
      .row ⟨none, none, .store 2 (.t 5) (.t 26)⟩,
      .row ⟨(some 6), none, .move (.t 27)⟩])
     (.seq
      (.ops [
       .row ⟨(some 28), none, .move (.t 6)⟩])
      (.cond (.t 28)
       (.seq
        (.ops [
         .row ⟨(some 29), none, .fieldAddr 0 (.t 5)⟩,
         .row ⟨(some 30), none, .load1 (.t 29)⟩,
         .row ⟨(some 31), none, .conv (.int .u64) (.t 30)⟩,
         .row ⟨(some 32), none, .fieldAddr 1 (.t 5)⟩,
         .row ⟨(some 33), none, .load1 (.t 32)⟩,
         .row ⟨(some 34), none, .callV (.c (.func (.func f_crc_Put) [] [])) [(.t 31), (.t 33)]⟩,
         .row ⟨(some 2), none, .move (.t 34)⟩])
        .ret)
       .skip)))
    (.seq
     (.ops [
      .row ⟨(some 35), none, .move (.t 0)⟩,
      .row ⟨(some 36), none, .tassert (.t 35) t_index_places false⟩,
      .row ⟨(some 7), none, .move (.t 36)⟩])
     (.seq
      (.ops [
       .row ⟨(some 37), none, .move (.t 7)⟩,
       .row ⟨(some 38), none, .lenV (.t 37)⟩,
       .row ⟨(some 39), none, .conv (.int .u64) (.t 38)⟩,
       .row ⟨(some 40), none, .callV (.c (.func (.func f_crc_Put) [] [])) [(.t 39), (.c (.int .i64 4))]⟩,
       .row ⟨(some 8), none, .move (.t 40)⟩])
      (.seq
       (.seq
        (.ops [
         .row ⟨(some 41), none, .move (.t 7)⟩,
         .row ⟨(some 42), none, .lenV (.t 41)⟩,
         .row ⟨(some 43), none, .move (.c (.int .i64 0))⟩])
        (.block 0
         (.loop
          (.seq
           (.ops [
            .row ⟨(some 44), none, .bin .lss t_int false (.t 43) (.t 42)⟩])
           (.seq
            (.cond (.t 44)
             .skip
             (.exit 0))
            (.seq
             (.block 1
              (.seq
               (.ops [
                .row ⟨(some 45), none, .idxV 1 (.t 41) (.t 43)⟩,
                .row ⟨(some 46), none, .load1 (.t 45)⟩,
                .row ⟨(some 10), none, .move (.t 46)⟩])
               (.ops [
                .row ⟨(some 47), none, .move (.t 8)⟩,
                .row ⟨(some 48), none, .move (.t 10)⟩,
                .row ⟨(some 49), none, .conv (.int .u64) (.t 48)⟩,
                .row ⟨(some 50), none, .callV (.c (.func (.func f_crc_Put) [] [])) [(.t 49), (.c (.int .i64 4))]⟩,
                .row ⟨(some 51), none, .app 1 1 (.t 47) (.t 50)⟩,
                .row ⟨(some 8), none, .move (.t 51)⟩])))
             (.ops [
              .row ⟨(some 52), none, .bin .add t_int true (.t 43) (.c (.int .i64 1))⟩,
              .row ⟨(some 43), none, .move (.t 52)⟩])))))))
       (.seq
        (.ops [
         .row ⟨(some 53), none, .move (.t 8)⟩,
         .row ⟨(some 2), none, .move (.t 53)⟩])
        .ret)))))))

theorem k_index_bytesOf : compF P f_index_bytesOf = .ok ⟨54, [.tmp 2], c_index_bytesOf⟩ := by kernel_rfl

/-- dryrot/crc.Put, of 2 -/
noncomputable def c_crc_Put : CC :=
 (.seq
  (.ops [
   .row ⟨(some 4), none, .move (.c .nils)⟩])
  (.seq
   (.ops [
    .row ⟨(some 7), none, .move (.t 1)⟩,
    .row ⟨(some 8), none, .mm true (.t 7) [(.c (.int .i64 0))]⟩,
    .row ⟨(some 9), none, .mm false (.t 8) [(.c (.int .i64 8))]⟩,
    .row ⟨(some 10), none, .mkS 1 1 [(.int .u8 0)] (.t 9) (.t 9)⟩,
    .row ⟨(some 5), none, .move (.t 10)⟩])
   (.seq
    (.seq
     (.ops [
      .row ⟨(some 11), none, .move (.t 5)⟩,
      .row ⟨(some 12), none, .lenV (.t 11)⟩,
      .row ⟨(some 13), none, .move (.c (.int .i64 0))⟩])
     (.block 0
      (.loop
       (.seq
        (.ops [
         .row ⟨(some 14), none, .bin .lss t_int false (.t 13) (.t 12)⟩])
        (.seq
         (.cond (.t 14)
          .skip
          (.exit 0))
         (.seq
          (.block 1
           (.seq
            (.ops [
             .row ⟨(some 15), none, .move (.t 13)⟩,
             .row ⟨(some 6), none, .move (.t 15)⟩])
            (.ops [
             .row ⟨(some 16), none, .move (.t 5)⟩,
             .row ⟨(some 17), none, .move (.t 5)⟩,
             .row ⟨(some 18), none, .lenV (.t 17)⟩,
             .row ⟨(some 19), none, .bin .sub t_int true (.t 18) (.c (.int .i64 1))⟩,
             .row ⟨(some 20), none, .move (.t 6)⟩,
             .row ⟨(some 21), none, .bin .sub t_int false (.t 19) (.t 20)⟩,
             .row ⟨(some 22), none, .move (.t 0)⟩,
             .row ⟨(some 23), none, .move (.t 6)⟩,
             .row ⟨(some 24), none, .bin .mul t_int true (.c (.int .i64 8)) (.t 23)⟩,
             .row ⟨(some 25), none, .bin .shr t_uint64 false (.t 22) (.t 24)⟩,
             .row ⟨(some 26), none, .conv (.int .u8) (.t 25)⟩,
             .row ⟨(some 27), none, .idxV 1 (.t 16) (.t 21)⟩,
             .row ⟨none, none, .store 1 (.t 27) (.t 26)⟩])))
          (.ops [
           .row ⟨(some 28), none, .bin .add t_int true (.t 13) (.c (.int .i64 1))⟩,
           .row ⟨(some 13), none, .move (.t 28)⟩])))))))
    (.seq
     (.ops [
      .row ⟨(some 29), none, .move (.t 5)⟩,
      .row ⟨(some 4), none, .move (.t 29)⟩])
     .ret))))

theorem k_crc_Put : compF P f_crc_Put = .ok ⟨30, [.tmp 4], c_crc_Put⟩ := by kernel_rfl

/-- dryrot/dryrotref13.Encode, of 1 -/
noncomputable def c_ref13_Encode : CC :=
 (.seq
  (.ops [
   .row ⟨(some 2), none, .move (.c .nils)⟩,
   .row ⟨(some 3), none, .move (.c (.int .i64 0))⟩])
  (.seq
   (.seq
    (.ops [
     .row ⟨(some 10), none, .move (.t 0)⟩,
     .row ⟨(some 11), none, .callV (.c (.func (.func f_ref13_Can) [] [])) [(.t 10)]⟩,
     .row ⟨(some 12), none, .un .not (.t 11)⟩])
    (.cond (.t 12)
     (.seq
      (.ops [
       .row ⟨(some 2), none, .move (.c .nils)⟩,
       .row ⟨(some 3), none, .move (.c (.int .i64 1))⟩])
      .ret)
     .skip))
   (.seq
    (.ops [
     .row ⟨(some 13), none, .move (.t 0)⟩,
     .row ⟨(some 14), none, .callV (.c (.func (.func f_ref13_texts) [] [])) [(.t 13)]⟩,
     .row ⟨(some 4), none, .move (.t 14)⟩])
    (.seq
     (.ops [
      .row ⟨(some 15), none, .move (.t 4)⟩,
      .row ⟨(some 16), none, .lenV (.t 15)⟩,
      .row ⟨(some 17), none, .callV (.c (.func (.func f_ref13_four) [] [])) [(.t 16)]⟩,
      .row ⟨(some 5), none, .move (.t 17)⟩])
     (.seq
      (.seq
       (.ops [
        .row ⟨(some 18), none, .move (.t 4)⟩,
        .row ⟨(some 19), none, .lenV (.t 18)⟩,
        .row ⟨(some 20), none, .move (.c (.int .i64 0))⟩])
       (.block 0
        (.loop
         (.seq
          (.ops [
           .row ⟨(some 21), none, .bin .lss t_int false (.t 20) (.t 19)⟩])
          (.seq
           (.cond (.t 21)
            .skip
            (.exit 0))
           (.seq
            (.block 1
             (.seq
              (.ops [
               .row ⟨(some 22), none, .idxV 1 (.t 18) (.t 20)⟩,
               .row ⟨(some 23), none, .load1 (.t 22)⟩,
               .row ⟨(some 7), none, .move (.t 23)⟩])
              (.ops [
               .row ⟨(some 24), none, .move (.t 5)⟩,
               .row ⟨(some 25), none, .move (.t 7)⟩,
               .row ⟨(some 26), none, .lenS (.t 25)⟩,
               .row ⟨(some 27), none, .conv (.int .u8) (.t 26)⟩,
               .row ⟨(some 28), none, .buildSlice 1 1 [(.int .u8 0)] [(0, 1, (.t 27))]⟩,
               .row ⟨(some 29), none, .app 1 1 (.t 24) (.t 28)⟩,
               .row ⟨(some 30), none, .move (.t 7)⟩,
               .row ⟨(some 31), none, .app 1 1 (.t 29) (.t 30)⟩,
               .row ⟨(some 5), none, .move (.t 31)⟩])))
            (.ops [
             .row ⟨(some 32), none, .bin .add t_int true (.t 20) (.c (.int .i64 1))⟩,
             .row ⟨(some 20), none, .move (.t 32)⟩])))))))
      (.seq
       (.ops [
        .row ⟨(some 33), none, .move (.t 5)⟩,
        .row ⟨(some 34), none, .move (.t 0)⟩,
        .row ⟨(some 35), none, .lenV (.t 34)⟩,
        .row ⟨(some 36), none, .callV (.c (.func (.func f_ref13_four) [] [])) [(.t 35)]⟩,
        .row ⟨(some 37), none, .app 1 1 (.t 33) (.t 36)⟩,
        .row ⟨(some 5), none, .move (.t 37)⟩])
       (.seq
        (.seq
         (.ops [
          .row ⟨(some 38), none, .move (.t 0)⟩,
          .row ⟨(some 39), none, .lenV (.t 38)⟩,
          .row ⟨(some 40), none, .move (.c (.int .i64 0))⟩])
         (.block 2
          (.loop
           (.seq
            (.ops [
             .row ⟨(some 41), none, .bin .lss t_int false (.t 40) (.t 39)⟩])
            (.seq
             (.cond (.t 41)
              .skip
              (.exit 2))
             (.seq
              (.block 3
               (.seq
                (.ops [
                 .row ⟨(some 42), none, .idxV 5 (.t 38) (.t 40)⟩,
                 .row ⟨(some 43), none, .loadN 5 (.t 42)⟩,
                 .row ⟨(some 9), none, .new [.nils, (.int .i64 0), (.int .i64 0), (.int .i64 0), (.int .i64 0)]⟩,
                 .row ⟨none, none, .store 5 (.t 9) (.t 43)⟩])
                (.ops [
                 .row ⟨(some 44), none, .move (.t 5)⟩,
                 .row ⟨(some 45), none, .move (.t 4)⟩,
                 .row ⟨(some 46), none, .loadN 5 (.t 9)⟩,
                 .row ⟨(some 47), none, .callV (.c (.func (.func f_ref13_entry) [] [])) [(.t 45), (.t 46)]⟩,
                 .row ⟨(some 48), none, .app 1 1 (.t 44) (.t 47)⟩,
                 .row ⟨(some 5), none, .move (.t 48)⟩])))
              (.ops [
               .row ⟨(some 49), none, .bin .add t_int true (.t 40) (.c (.int .i64 1))⟩,
               .row ⟨(some 40), none, .move (.t 49)⟩])))))))
        (.seq
         (.ops [
          .row ⟨(some 50), none, .move (.t 5)⟩,
          .row ⟨(some 51), none, .move (.t 4)⟩,
          .row ⟨(some 52), none, .move (.t 0)⟩,
          .row ⟨(some 53), none, .callV (.c (.func (.func f_ref13_postings) [] [])) [(.t 51), (.t 52)]⟩,
          .row ⟨(some 54), none, .app 1 1 (.t 50) (.t 53)⟩,
          .row ⟨(some 2), none, .move (.t 54)⟩,
          .row ⟨(some 3), none, .move (.c (.int .i64 0))⟩])
         .ret))))))))

theorem k_ref13_Encode : compF P f_ref13_Encode = .ok ⟨55, [.tmp 2, .tmp 3], c_ref13_Encode⟩ := by kernel_rfl

/-- dryrot/dryrotref13.Can, of 1 -/
noncomputable def c_ref13_Can : CC :=
 (.seq
  (.ops [
   .row ⟨(some 2), none, .move (.c (.bool false))⟩])
  (.seq
   (.ops [
    .row ⟨(some 3), none, .move (.c (.int .i64 0))⟩])
   (.seq
    (.seq
     (.ops [
      .row ⟨(some 7), none, .move (.t 0)⟩,
      .row ⟨(some 8), none, .lenV (.t 7)⟩,
      .row ⟨(some 9), none, .move (.c (.int .i64 0))⟩])
     (.block 0
      (.loop
       (.seq
        (.ops [
         .row ⟨(some 10), none, .bin .lss t_int false (.t 9) (.t 8)⟩])
        (.seq
         (.cond (.t 10)
          .skip
          (.exit 0))
         (.seq
          (.block 1
           (.seq
            (.ops [
             .row ⟨(some 11), none, .move (.t 9)⟩,
             .row ⟨(some 12), none, .idxV 5 (.t 7) (.t 9)⟩,
             .row ⟨(some 13), none, .loadN 5 (.t 12)⟩,
             .row ⟨(some 5), none, .new [.nils, (.int .i64 0), (.int .i64 0), (.int .i64 0), (.int .i64 0)]⟩,
             .row ⟨(some 4), none, .move (.t 11)⟩,
             .row ⟨none, none, .store 5 (.t 5) (.t 13)⟩])
            (.seq
             (.seq
              (.ops [
               .row ⟨(some 14), none, .fieldAddr 0 (.t 5)⟩,
               .row ⟨(some 15), none, .load1 (.t 14)⟩,
               .row ⟨(some 16), none, .callV (.c (.func (.func f_ref07_Can) [] [])) [(.t 15)]⟩,
               .row ⟨(some 17), none, .un .not (.t 16)⟩,
               .row ⟨(some 18), none, .move (.t 17)⟩,
               .row ⟨(some 19), (some (18, false)), .fieldAddr 3 (.t 5)⟩,
               .row ⟨(some 20), (some (18, false)), .load1 (.t 19)⟩,
               .row ⟨(some 21), (some (18, false)), .fieldAddr 4 (.t 5)⟩,
               .row ⟨(some 22), (some (18, false)), .load1 (.t 21)⟩,
               .row ⟨(some 23), (some (18, false)), .bin .gtr t_int false (.t 20) (.t 22)⟩,
               .row ⟨(some 24), none, .pick (.t 18) (.c (.bool true)) (.t 23)⟩,
               .row ⟨(some 25), none, .move (.t 24)⟩,
               .row ⟨(some 26), (some (25, false)), .fieldAddr 2 (.t 5)⟩,
               .row ⟨(some 27), (some (25, false)), .load1 (.t 26)⟩,
               .row ⟨(some 28), (some (25, false)), .bin .lss t_int true (.t 27) (.c (.int .i64 1))⟩,
               .row ⟨(some 29), none, .pick (.t 25) (.c (.bool true)) (.t 28)⟩,
               .row ⟨(some 30), none, .move (.t 29)⟩,
               .row ⟨(some 31), (some (30, false)), .fieldAddr 2 (.t 5)⟩,
               .row ⟨(some 32), (some (30, false)), .load1 (.t 31)⟩,
               .row ⟨(some 33), (some (30, false)), .bin .gtr t_int true (.t 32) (.c (.int .i64 2147483647))⟩,
               .row ⟨(some 34), none, .pick (.t 30) (.c (.bool true)) (.t 33)⟩,
               .row ⟨(some 35), none, .move (.t 34)⟩,
               .row ⟨(some 36), (some (35, false)), .fieldAddr 1 (.t 5)⟩,
               .row ⟨(some 37), (some (35, false)), .load1 (.t 36)⟩,
               .row ⟨(some 38), (some (35, false)), .move (.t 3)⟩,
               .row ⟨(some 39), (some (35, false)), .bin .neq t_int false (.t 37) (.t 38)⟩,
               .row ⟨(some 40), none, .pick (.t 35) (.c (.bool true)) (.t 39)⟩])
              (.cond (.t 40)
               (.seq
                (.ops [
                 .row ⟨(some 2), none, .move (.c (.bool false))⟩])
                .ret)
               .skip))
             (.seq
              (.ops [
               .row ⟨(some 41), none, .move (.t 3)⟩,
               .row ⟨(some 42), none, .fieldAddr 2 (.t 5)⟩,
               .row ⟨(some 43), none, .load1 (.t 42)⟩,
               .row ⟨(some 44), none, .bin .add t_int false (.t 41) (.t 43)⟩,
               .row ⟨(some 3), none, .move (.t 44)⟩])
              (.seq
               (.seq
                (.ops [
                 .row ⟨(some 45), none, .move (.t 4)⟩,
                 .row ⟨(some 46), none, .bin .eql t_int true (.t 45) (.c (.int .i64 0))⟩])
                (.cond (.t 46)
                 (.exit 1)
                 .skip))
               (.seq
                (.ops [
                 .row ⟨(some 47), none, .move (.t 0)⟩,
                 .row ⟨(some 48), none, .move (.t 4)⟩,
                 .row ⟨(some 49), none, .bin .sub t_int true (.t 48) (.c (.int .i64 1))⟩,
                 .row ⟨(some 50), none, .idxV 5 (.t 47) (.t 49)⟩,
                 .row ⟨(some 51), none, .fieldAddr 0 (.t 50)⟩,
                 .row ⟨(some 52), none, .load1 (.t 51)⟩,
                 .row ⟨(some 53), none, .fieldAddr 0 (.t 5)⟩,
                 .row ⟨(some 54), none, .load1 (.t 53)⟩,
                 .stage [⟨(some 54), none, .load1 (.t 53)⟩, ⟨(some 52), none, .load1 (.t 51)⟩],
                 .row ⟨(some 55), none, .callV (.c (.func (.func f_ref07_Compare) [] [])) [(.t 52), (.t 54)]⟩,
                 .row ⟨(some 6), none, .move (.t 55)⟩])
                (.seq
                 (.ops [
                  .row ⟨(some 56), none, .move (.t 6)⟩,
                  .row ⟨(some 57), none, .bin .gtr t_int true (.t 56) (.c (.int .i64 0))⟩,
                  .row ⟨(some 58), none, .move (.t 57)⟩,
                  .row ⟨(some 59), (some (58, false)), .move (.t 6)⟩,
                  .row ⟨(some 60), (some (58, false)), .bin .eql t_int true (.t 59) (.c (.int .i64 0))⟩,
                  .row ⟨(some 61), (some (58, false)), .move (.t 60)⟩,
                  .row ⟨(some 62), (some (61, true)), .move (.t 0)⟩,
                  .row ⟨(some 63), (some (61, true)), .move (.t 4)⟩,
                  .row ⟨(some 64), (some (61, true)), .bin .sub t_int true (.t 63) (.c (.int .i64 1))⟩,
                  .row ⟨(some 65), (some (61, true)), .idxV 5 (.t 62) (.t 64)⟩,
                  .row ⟨(some 66), (some (61, true)), .fieldAddr 4 (.t 65)⟩,
                  .row ⟨(some 67), (some (61, true)), .load1 (.t 66)⟩,
                  .row ⟨(some 68), (some (61, true)), .fieldAddr 3 (.t 5)⟩,
                  .row ⟨(some 69), (some (61, true)), .load1 (.t 68)⟩,
                  .row ⟨(some 70), (some (61, true)), .bin .geq t_int false (.t 67) (.t 69)⟩,
                  .row ⟨(some 71), (some (58, false)), .pick (.t 61) (.t 70) (.c (.bool false))⟩,
                  .row ⟨(some 72), none, .pick (.t 58) (.c (.bool true)) (.t 71)⟩,
                  .stage [⟨(some 69), (some (61, true)), .load1 (.t 68)⟩, ⟨(some 67), (some (61, true)), .load1 (.t 66)⟩]])
                 (.cond (.t 72)
                  (.seq
                   (.ops [
                    .row ⟨(some 2), none, .move (.c (.bool false))⟩])
                   .ret)
                  .skip))))))))
          (.ops [
           .row ⟨(some 73), none, .bin .add t_int true (.t 9) (.c (.int .i64 1))⟩,
           .row ⟨(some 9), none, .move (.t 73)⟩])))))))
    (.seq
     (.ops [
      .row ⟨(some 74), none, .move (.t 0)⟩,
      .row ⟨(some 75), none, .lenV (.t 74)⟩,
      .row ⟨(some 76), none, .bin .leq t_int true (.t 75) (.c (.int .i64 100000))⟩,
      .row ⟨(some 2), none, .move (.t 76)⟩])
     .ret))))

theorem k_ref13_Can : compF P f_ref13_Can = .ok ⟨77, [.tmp 2], c_ref13_Can⟩ := by kernel_rfl

/-- dryrot/dryrotref07.Can, of 1 -/
noncomputable def c_ref07_Can : CC :=
 (.seq
  (.ops [
   .row ⟨(some 2), none, .move (.c (.bool false))⟩])
  (.seq
   (.seq
    (.ops [
     .row ⟨(some 5), none, .move (.t 0)⟩,
     .row ⟨(some 6), none, .lenV (.t 5)⟩,
     .row ⟨(some 7), none, .bin .lss t_int true (.t 6) (.c (.int .i64 1))⟩,
     .row ⟨(some 8), none, .move (.t 7)⟩,
     .row ⟨(some 9), (some (8, false)), .move (.t 0)⟩,
     .row ⟨(some 10), (some (8, false)), .lenV (.t 9)⟩,
     .row ⟨(some 11), (some (8, false)), .bin .gtr t_int true (.t 10) (.c (.int .i64 8))⟩,
     .row ⟨(some 12), none, .pick (.t 8) (.c (.bool true)) (.t 11)⟩])
    (.cond (.t 12)
     (.seq
      (.ops [
       .row ⟨(some 2), none, .move (.c (.bool false))⟩])
      .ret)
     .skip))
   (.seq
    (.seq
     (.ops [
      .row ⟨(some 13), none, .move (.t 0)⟩,
      .row ⟨(some 14), none, .lenV (.t 13)⟩,
      .row ⟨(some 15), none, .move (.c (.int .i64 0))⟩])
     (.block 0
      (.loop
       (.seq
        (.ops [
         .row ⟨(some 16), none, .bin .lss t_int false (.t 15) (.t 14)⟩])
        (.seq
         (.cond (.t 16)
          .skip
          (.exit 0))
         (.seq
          (.block 1
           (.seq
            (.ops [
             .row ⟨(some 17), none, .move (.t 15)⟩,
             .row ⟨(some 18), none, .idxV 2 (.t 13) (.t 15)⟩,
             .row ⟨(some 19), none, .loadN 2 (.t 18)⟩,
             .row ⟨(some 4), none, .new [(.str []), (.str [])]⟩,
             .row ⟨(some 3), none, .move (.t 17)⟩,
             .row ⟨none, none, .store 2 (.t 4) (.t 19)⟩])
            (.seq
             (.ops [
              .row ⟨(some 20), none, .fieldAddr 0 (.t 4)⟩,
              .row ⟨(some 21), none, .load1 (.t 20)⟩,
              .stage [⟨(some 21), none, .load1 (.t 20)⟩],
              .row ⟨(some 22), none, .callV (.c (.func (.func f_ref07_Name) [] [])) [(.t 21)]⟩,
              .row ⟨(some 23), none, .un .not (.t 22)⟩,
              .row ⟨(some 24), none, .move (.t 23)⟩,
              .row ⟨(some 25), (some (24, false)), .fieldAddr 1 (.t 4)⟩,
              .row ⟨(some 26), (some (24, false)), .load1 (.t 25)⟩,
              .stage [⟨(some 26), (some (24, false)), .load1 (.t 25)⟩],
              .row ⟨(some 27), (some (24, false)), .callV (.c (.func (.func f_ref07_Value) [] [])) [(.t 26)]⟩,
              .row ⟨(some 28), (some (24, false)), .un .not (.t 27)⟩,
              .row ⟨(some 29), none, .pick (.t 24) (.c (.bool true)) (.t 28)⟩,
              .row ⟨(some 30), none, .move (.t 29)⟩,
              .row ⟨(some 31), (some (30, false)), .move (.t 3)⟩,
              .row ⟨(some 32), (some (30, false)), .bin .gtr t_int true (.t 31) (.c (.int .i64 0))⟩,
              .row ⟨(some 33), (some (30, false)), .move (.t 32)⟩,
              .row ⟨(some 34), (some (33, true)), .move (.t 0)⟩,
              .row ⟨(some 35), (some (33, true)), .move (.t 3)⟩,
              .row ⟨(some 36), (some (33, true)), .bin .sub t_int true (.t 35) (.c (.int .i64 1))⟩,
              .row ⟨(some 37), (some (33, true)), .idxV 2 (.t 34) (.t 36)⟩,
              .row ⟨(some 38), (some (33, true)), .fieldAddr 0 (.t 37)⟩,
              .row ⟨(some 39), (some (33, true)), .load1 (.t 38)⟩,
              .row ⟨(some 40), (some (33, true)), .fieldAddr 0 (.t 4)⟩,
              .row ⟨(some 41), (some (33, true)), .load1 (.t 40)⟩,
              .row ⟨(some 42), (some (33, true)), .bin .geq t_string false (.t 39) (.t 41)⟩,
              .row ⟨(some 43), (some (30, false)), .pick (.t 33) (.t 42) (.c (.bool false))⟩,
              .row ⟨(some 44), none, .pick (.t 30) (.c (.bool true)) (.t 43)⟩,
              .stage [⟨(some 41), (some (33, true)), .load1 (.t 40)⟩, ⟨(some 39), (some (33, true)), .load1 (.t 38)⟩]])
             (.cond (.t 44)
              (.seq
               (.ops [
                .row ⟨(some 2), none, .move (.c (.bool false))⟩])
               .ret)
              .skip))))
          (.ops [
           .row ⟨(some 45), none, .bin .add t_int true (.t 15) (.c (.int .i64 1))⟩,
           .row ⟨(some 15), none, .move (.t 45)⟩])))))))
    (.seq
     (.ops [
      .row ⟨(some 2), none, .move (.c (.bool true))⟩])
     .ret))))

theorem k_ref07_Can : compF P f_ref07_Can = .ok ⟨46, [.tmp 2], c_ref07_Can⟩ := by kernel_rfl

/-- dryrot/dryrotref07.Name, of 1 -/
noncomputable def c_ref07_Name : CC :=
 (.seq
  (.ops [
   .row ⟨(some 2), none, .move (.c (.bool false))⟩])
  (.seq
   (.seq
    (.ops [
     .row ⟨(some 3), none, .move (.c (.int .i64 0))⟩])
    (.block 0
     (.loop
      (.seq
       (.seq
        (.ops [
         .row ⟨(some 6), none, .move (.t 3)⟩,
         .row ⟨(some 7), none, .move (.t 0)⟩,
         .row ⟨(some 8), none, .lenS (.t 7)⟩,
         .row ⟨(some 9), none, .bin .lss t_int false (.t 6) (.t 8)⟩])
        (.cond (.t 9)
         .skip
         (.exit 0)))
       (.seq
        (.block 1
         (.seq
          (.ops [
           .row ⟨(some 12), none, .move (.t 0)⟩,
           .row ⟨(some 13), none, .move (.t 3)⟩,
           .row ⟨(some 14), none, .indexS (.t 12) (.t 13)⟩,
           .row ⟨(some 4), none, .move (.t 14)⟩])
          (.seq
           (.ops [
            .row ⟨(some 15), none, .move (.t 4)⟩,
            .row ⟨(some 16), none, .bin .geq t_uint8 true (.t 15) (.c (.int .u8 97))⟩,
            .row ⟨(some 17), none, .move (.t 16)⟩,
            .row ⟨(some 18), (some (17, true)), .move (.t 4)⟩,
            .row ⟨(some 19), (some (17, true)), .bin .leq t_uint8 true (.t 18) (.c (.int .u8 122))⟩,
            .row ⟨(some 20), none, .pick (.t 17) (.t 19) (.c (.bool false))⟩,
            .row ⟨(some 21), none, .move (.t 20)⟩,
            .row ⟨(some 22), (some (21, false)), .move (.t 4)⟩,
            .row ⟨(some 23), (some (21, false)), .bin .geq t_uint8 true (.t 22) (.c (.int .u8 65))⟩,
            .row ⟨(some 24), (some (21, false)), .move (.t 23)⟩,
            .row ⟨(some 25), (some (24, true)), .move (.t 4)⟩,
            .row ⟨(some 26), (some (24, true)), .bin .leq t_uint8 true (.t 25) (.c (.int .u8 90))⟩,
            .row ⟨(some 27), (some (21, false)), .pick (.t 24) (.t 26) (.c (.bool false))⟩,
            .row ⟨(some 28), none, .pick (.t 21) (.c (.bool true)) (.t 27)⟩,
            .row ⟨(some 29), none, .move (.t 28)⟩,
            .row ⟨(some 30), (some (29, false)), .move (.t 4)⟩,
            .row ⟨(some 31), (some (29, false)), .bin .eql t_uint8 true (.t 30) (.c (.int .u8 95))⟩,
            .row ⟨(some 32), none, .pick (.t 29) (.c (.bool true)) (.t 31)⟩,
            .row ⟨(some 5), none, .move (.t 32)⟩])
           (.seq
            (.ops [
             .row ⟨(some 33), none, .move (.t 5)⟩,
             .row ⟨(some 34), none, .un .not (.t 33)⟩,
             .row ⟨(some 35), none, .move (.t 34)⟩,
             .row ⟨(some 36), (some (35, true)), .move (.t 3)⟩,
             .row ⟨(some 37), (some (35, true)), .bin .eql t_int true (.t 36) (.c (.int .i64 0))⟩,
             .row ⟨(some 38), (some (35, true)), .move (.t 37)⟩,
             .row ⟨(some 39), (some (38, false)), .move (.t 4)⟩,
             .row ⟨(some 40), (some (38, false)), .bin .lss t_uint8 true (.t 39) (.c (.int .u8 48))⟩,
             .row ⟨(some 41), (some (35, true)), .pick (.t 38) (.c (.bool true)) (.t 40)⟩,
             .row ⟨(some 42), (some (35, true)), .move (.t 41)⟩,
             .row ⟨(some 43), (some (42, false)), .move (.t 4)⟩,
             .row ⟨(some 44), (some (42, false)), .bin .gtr t_uint8 true (.t 43) (.c (.int .u8 57))⟩,
             .row ⟨(some 45), (some (35, true)), .pick (.t 42) (.c (.bool true)) (.t 44)⟩,
             .row ⟨(some 46), none, .pick (.t 35) (.t 45) (.c (.bool false))⟩])
            (.cond (.t 46)
             (.seq
              (.ops [
               .row ⟨(some 2), none, .move (.c (.bool false))⟩])
              .ret)
             .skip)))))
        (.ops [
         .row ⟨(some 10), none, .move (.t 3)⟩,
         .row ⟨(some 11), none, .bin .add t_int true (.t 10) (.c (.int .i64 1))⟩,
         .row ⟨(some 3), none, .move (.t 11)⟩]))))))
   (.seq
    (.ops [
     .row ⟨(some 47), none, .move (.t 0)⟩,
     .row ⟨(some 48), none, .lenS (.t 47)⟩,
     .row ⟨(some 49), none, .bin .geq t_int true (.t 48) (.c (.int .i64 1))⟩,
     .row ⟨(some 50), none, .move (.t 49)⟩,
     .row ⟨(some 51), (some (50, true)), .move (.t 0)⟩,
     .row ⟨(some 52), (some (50, true)), .lenS (.t 51)⟩,
     .row ⟨(some 53), (some (50, true)), .bin .leq t_int true (.t 52) (.c (.int .i64 24))⟩,
     .row ⟨(some 54), none, .pick (.t 50) (.t 53) (.c (.bool false))⟩,
     .row ⟨(some 2), none, .move (.t 54)⟩])
    .ret)))

theorem k_ref07_Name : compF P f_ref07_Name = .ok ⟨55, [.tmp 2], c_ref07_Name⟩ := by kernel_rfl

/-- dryrot/dryrotref07.Value, of 1 -/
noncomputable def c_ref07_Value : CC :=
 (.seq
  (.ops [
   .row ⟨(some 2), none, .move (.c (.bool false))⟩])
  (.seq
   (.ops [
    .row ⟨(some 3), none, .move (.t 0)⟩,
    .row ⟨(some 4), none, .lenS (.t 3)⟩,
    .row ⟨(some 5), none, .bin .geq t_int true (.t 4) (.c (.int .i64 1))⟩,
    .row ⟨(some 6), none, .move (.t 5)⟩,
    .row ⟨(some 7), (some (6, true)), .move (.t 0)⟩,
    .row ⟨(some 8), (some (6, true)), .lenS (.t 7)⟩,
    .row ⟨(some 9), (some (6, true)), .bin .leq t_int true (.t 8) (.c (.int .i64 40))⟩,
    .row ⟨(some 10), none, .pick (.t 6) (.t 9) (.c (.bool false))⟩,
    .row ⟨(some 11), none, .move (.t 10)⟩,
    .row ⟨(some 12), (some (11, true)), .move (.t 0)⟩,
    .row ⟨(some 13), (some (11, true)), .callV (.c (.func (.func f_ref07_Plain) [] [])) [(.t 12)]⟩,
    .row ⟨(some 14), none, .pick (.t 11) (.t 13) (.c (.bool false))⟩,
    .row ⟨(some 2), none, .move (.t 14)⟩])
   .ret))

theorem k_ref07_Value : compF P f_ref07_Value = .ok ⟨15, [.tmp 2], c_ref07_Value⟩ := by kernel_rfl

/-- dryrot/dryrotref07.Plain, of 1 -/
noncomputable def c_ref07_Plain : CC :=
 (.seq
  (.ops [
   .row ⟨(some 2), none, .move (.c (.bool false))⟩])
  (.seq
   (.seq
    (.ops [
     .row ⟨(some 5), none, .move (.t 0)⟩,
     .row ⟨(some 6), none, .rangeS (.t 5)⟩])
    (.block 0
     (.loop
      (.seq
       (.ops [
        .row ⟨(some 7), none, .next (.t 6) true⟩,
        .row ⟨(some 8), none, .extract (.t 7) 0⟩])
       (.seq
        (.cond (.t 8)
         .skip
         (.exit 0))
        (.block 1
         (.seq
          (.ops [
           .row ⟨(some 9), none, .extract (.t 7) 2⟩,
           .row ⟨(some 4), none, .move (.t 9)⟩])
          (.seq
           (.ops [
            .row ⟨(some 10), none, .move (.t 4)⟩,
            .row ⟨(some 11), none, .bin .lss t_int32 true (.t 10) (.c (.int .i32 32))⟩,
            .row ⟨(some 12), none, .move (.t 11)⟩,
            .row ⟨(some 13), (some (12, false)), .move (.t 4)⟩,
            .row ⟨(some 14), (some (12, false)), .bin .eql t_int32 true (.t 13) (.c (.int .i32 127))⟩,
            .row ⟨(some 15), none, .pick (.t 12) (.c (.bool true)) (.t 14)⟩,
            .row ⟨(some 16), none, .move (.t 15)⟩,
            .row ⟨(some 17), (some (16, false)), .move (.t 4)⟩,
            .row ⟨(some 18), (some (16, false)), .bin .eql t_int32 true (.t 17) (.c (.int .i32 65533))⟩,
            .row ⟨(some 19), none, .pick (.t 16) (.c (.bool true)) (.t 18)⟩])
           (.cond (.t 19)
            (.seq
             (.ops [
              .row ⟨(some 2), none, .move (.c (.bool false))⟩])
             .ret)
            .skip)))))))))
   (.seq
    (.ops [
     .row ⟨(some 2), none, .move (.c (.bool true))⟩])
    .ret)))

theorem k_ref07_Plain : compF P f_ref07_Plain = .ok ⟨20, [.tmp 2], c_ref07_Plain⟩ := by kernel_rfl

/-- dryrot/dryrotref07.Compare, of 2 -/
noncomputable def c_ref07_Compare : CC :=
 (.seq
  (.ops [
   .row ⟨(some 4), none, .move (.c (.int .i64 0))⟩])
  (.seq
   (.seq
    (.ops [
     .row ⟨(some 8), none, .move (.t 0)⟩,
     .row ⟨(some 9), none, .lenV (.t 8)⟩,
     .row ⟨(some 10), none, .move (.t 1)⟩,
     .row ⟨(some 11), none, .lenV (.t 10)⟩,
     .row ⟨(some 12), none, .mm false (.t 9) [(.t 11)]⟩,
     .row ⟨(some 13), none, .move (.c (.int .i64 0))⟩])
    (.block 0
     (.loop
      (.seq
       (.ops [
        .row ⟨(some 14), none, .bin .lss t_int false (.t 13) (.t 12)⟩])
       (.seq
        (.cond (.t 14)
         .skip
         (.exit 0))
        (.seq
         (.block 1
          (.seq
           (.ops [
            .row ⟨(some 15), none, .move (.t 13)⟩,
            .row ⟨(some 5), none, .move (.t 15)⟩])
           (.seq
            (.seq
             (.ops [
              .row ⟨(some 16), none, .move (.t 0)⟩,
              .row ⟨(some 17), none, .move (.t 5)⟩,
              .row ⟨(some 18), none, .idxV 2 (.t 16) (.t 17)⟩,
              .row ⟨(some 19), none, .fieldAddr 0 (.t 18)⟩,
              .row ⟨(some 20), none, .load1 (.t 19)⟩,
              .row ⟨(some 21), none, .move (.t 1)⟩,
              .row ⟨(some 22), none, .move (.t 5)⟩,
              .row ⟨(some 23), none, .idxV 2 (.t 21) (.t 22)⟩,
              .row ⟨(some 24), none, .fieldAddr 0 (.t 23)⟩,
              .row ⟨(some 25), none, .load1 (.t 24)⟩,
              .stage [⟨(some 25), none, .load1 (.t 24)⟩, ⟨(some 20), none, .load1 (.t 19)⟩],
              .row ⟨(some 26), none, .callV (.c (.func (.func f_ref07_texts) [] [])) [(.t 20), (.t 25)]⟩,
              .row ⟨(some 6), none, .move (.t 26)⟩])
             (.seq
              (.ops [
               .row ⟨(some 27), none, .move (.t 6)⟩,
               .row ⟨(some 28), none, .bin .neq t_int true (.t 27) (.c (.int .i64 0))⟩])
              (.cond (.t 28)
               (.seq
                (.ops [
                 .row ⟨(some 29), none, .move (.t 6)⟩,
                 .row ⟨(some 4), none, .move (.t 29)⟩])
                .ret)
               .skip)))
            (.seq
             (.ops [
              .row ⟨(some 30), none, .move (.t 0)⟩,
              .row ⟨(some 31), none, .move (.t 5)⟩,
              .row ⟨(some 32), none, .idxV 2 (.t 30) (.t 31)⟩,
              .row ⟨(some 33), none, .fieldAddr 1 (.t 32)⟩,
              .row ⟨(some 34), none, .load1 (.t 33)⟩,
              .row ⟨(some 35), none, .move (.t 1)⟩,
              .row ⟨(some 36), none, .move (.t 5)⟩,
              .row ⟨(some 37), none, .idxV 2 (.t 35) (.t 36)⟩,
              .row ⟨(some 38), none, .fieldAddr 1 (.t 37)⟩,
              .row ⟨(some 39), none, .load1 (.t 38)⟩,
              .stage [⟨(some 39), none, .load1 (.t 38)⟩, ⟨(some 34), none, .load1 (.t 33)⟩],
              .row ⟨(some 40), none, .callV (.c (.func (.func f_ref07_texts) [] [])) [(.t 34), (.t 39)]⟩,
              .row ⟨(some 7), none, .move (.t 40)⟩])
             (.seq
              (.ops [
               .row ⟨(some 41), none, .move (.t 7)⟩,
               .row ⟨(some 42), none, .bin .neq t_int true (.t 41) (.c (.int .i64 0))⟩])
              (.cond (.t 42)
               (.seq
                (.ops [
                 .row ⟨(some 43), none, .move (.t 7)⟩,
                 .row ⟨(some 4), none, .move (.t 43)⟩])
                .ret)
               .skip))))))
         (.ops [
          .row ⟨(some 44), none, .bin .add t_int true (.t 13) (.c (.int .i64 1))⟩,
          .row ⟨(some 13), none, .move (.t 44)⟩])))))))
   (.seq
    (.block 2
     (.seq
      (.ops [
       .row ⟨(some 46), none, .move (.t 0)⟩,
       .row ⟨(some 47), none, .lenV (.t 46)⟩,
       .row ⟨(some 48), none, .move (.t 1)⟩,
       .row ⟨(some 49), none, .lenV (.t 48)⟩,
       .row ⟨(some 50), none, .bin .lss t_int false (.t 47) (.t 49)⟩,
       .row ⟨(some 45), none, .move (.t 50)⟩])
      (.cond (.t 45)
       (.seq
        (.ops [
         .row ⟨(some 4), none, .move (.c (.int .i64 (-1)))⟩])
        .ret)
       (.seq
        (.ops [
         .row ⟨(some 52), none, .move (.t 0)⟩,
         .row ⟨(some 53), none, .lenV (.t 52)⟩,
         .row ⟨(some 54), none, .move (.t 1)⟩,
         .row ⟨(some 55), none, .lenV (.t 54)⟩,
         .row ⟨(some 56), none, .bin .gtr t_int false (.t 53) (.t 55)⟩,
         .row ⟨(some 51), none, .move (.t 56)⟩])
        (.cond (.t 51)
         (.seq
          (.ops [
           .row ⟨(some 4), none, .move (.c (.int .i64 1))⟩])
          .ret)
         .skip)))))
    (.seq
     (.ops [
      .row ⟨(some 4), none, .move (.c (.int .i64 0))⟩])
     .ret))))

theorem k_ref07_Compare : compF P f_ref07_Compare = .ok ⟨57, [.tmp 4], c_ref07_Compare⟩ := by kernel_rfl

/-- dryrot/dryrotref07.texts, of 2 -/
noncomputable def c_ref07_texts : CC :=
 (.seq
  (.ops [
   .row ⟨(some 4), none, .move (.c (.int .i64 0))⟩])
  (.seq
   (.seq
    (.ops [
     .row ⟨(some 5), none, .move (.t 0)⟩,
     .row ⟨(some 6), none, .move (.t 1)⟩,
     .row ⟨(some 7), none, .bin .lss t_string false (.t 5) (.t 6)⟩])
    (.cond (.t 7)
     (.seq
      (.ops [
       .row ⟨(some 4), none, .move (.c (.int .i64 (-1)))⟩])
      .ret)
     .skip))
   (.seq
    (.seq
     (.ops [
      .row ⟨(some 8), none, .move (.t 0)⟩,
      .row ⟨(some 9), none, .move (.t 1)⟩,
      .row ⟨(some 10), none, .bin .gtr t_string false (.t 8) (.t 9)⟩])
     (.cond (.t 10)
      (.seq
       (.ops [
        .row ⟨(some 4), none, .move (.c (.int .i64 1))⟩])
       .ret)
      .skip))
    (.seq
     (.ops [
      .row ⟨(some 4), none, .move (.c (.int .i64 0))⟩])
     .ret))))

theorem k_ref07_texts : compF P f_ref07_texts = .ok ⟨11, [.tmp 4], c_ref07_texts⟩ := by kernel_rfl

/-- dryrot/dryrotref13.texts, of 1 -/
noncomputable def c_ref13_texts : CC :=
 (.seq
  (.ops [
   .row ⟨(some 2), none, .move (.c .nils)⟩])
  (.seq
   (.ops [
    .row ⟨(some 3), none, .move (.c .nils)⟩])
   (.seq
    (.seq
     (.ops [
      .row ⟨(some 8), none, .move (.t 0)⟩,
      .row ⟨(some 9), none, .lenV (.t 8)⟩,
      .row ⟨(some 10), none, .move (.c (.int .i64 0))⟩])
     (.block 0
      (.loop
       (.seq
        (.ops [
         .row ⟨(some 11), none, .bin .lss t_int false (.t 10) (.t 9)⟩])
        (.seq
         (.cond (.t 11)
          .skip
          (.exit 0))
         (.seq
          (.block 1
           (.seq
            (.ops [
             .row ⟨(some 12), none, .idxV 5 (.t 8) (.t 10)⟩,
             .row ⟨(some 13), none, .loadN 5 (.t 12)⟩,
             .row ⟨(some 5), none, .new [.nils, (.int .i64 0), (.int .i64 0), (.int .i64 0), (.int .i64 0)]⟩,
             .row ⟨none, none, .store 5 (.t 5) (.t 13)⟩])
            (.seq
             (.ops [
              .row ⟨(some 14), none, .fieldAddr 0 (.t 5)⟩,
              .row ⟨(some 15), none, .load1 (.t 14)⟩,
              .row ⟨(some 16), none, .lenV (.t 15)⟩,
              .row ⟨(some 17), none, .move (.c (.int .i64 0))⟩])
             (.block 2
              (.loop
               (.seq
                (.ops [
                 .row ⟨(some 18), none, .bin .lss t_int false (.t 17) (.t 16)⟩])
                (.seq
                 (.cond (.t 18)
                  .skip
                  (.exit 2))
                 (.seq
                  (.block 3
                   (.seq
                    (.ops [
                     .row ⟨(some 19), none, .idxV 2 (.t 15) (.t 17)⟩,
                     .row ⟨(some 20), none, .loadN 2 (.t 19)⟩,
                     .row ⟨(some 7), none, .new [(.str []), (.str [])]⟩,
                     .row ⟨none, none, .store 2 (.t 7) (.t 20)⟩])
                    (.ops [
                     .row ⟨(some 21), none, .move (.t 3)⟩,
                     .row ⟨(some 22), none, .fieldAddr 0 (.t 7)⟩,
                     .row ⟨(some 23), none, .load1 (.t 22)⟩,
                     .row ⟨(some 25), none, .fieldAddr 1 (.t 7)⟩,
                     .row ⟨(some 26), none, .load1 (.t 25)⟩,
                     .stage [⟨(some 26), none, .load1 (.t 25)⟩, ⟨(some 23), none, .load1 (.t 22)⟩],
                     .row ⟨(some 24), none, .callV (.c (.func (.func f_ref13_with) [] [])) [(.t 21), (.t 23)]⟩,
                     .stage [⟨(some 26), none, .load1 (.t 25)⟩],
                     .row ⟨(some 27), none, .callV (.c (.func (.func f_ref13_with) [] [])) [(.t 24), (.t 26)]⟩,
                     .row ⟨(some 3), none, .move (.t 27)⟩])))
                  (.ops [
                   .row ⟨(some 28), none, .bin .add t_int true (.t 17) (.c (.int .i64 1))⟩,
                   .row ⟨(some 17), none, .move (.t 28)⟩])))))))))
          (.ops [
           .row ⟨(some 29), none, .bin .add t_int true (.t 10) (.c (.int .i64 1))⟩,
           .row ⟨(some 10), none, .move (.t 29)⟩])))))))
    (.seq
     (.ops [
      .row ⟨(some 30), none, .move (.t 3)⟩,
      .row ⟨(some 2), none, .move (.t 30)⟩])
     .ret))))

theorem k_ref13_texts : compF P f_ref13_texts = .ok ⟨31, [.tmp 2], c_ref13_texts⟩ := by kernel_rfl

/-- dryrot/dryrotref13.with, of 2 -/
noncomputable def c_ref13_with : CC :=
 (.seq
  (.ops [
   .row ⟨(some 4), none, .move (.c .nils)⟩])
  (.seq
   (.ops [
    .row ⟨(some 6), none, .move (.t 0)⟩,
    .row ⟨(some 7), none, .lenV (.t 6)⟩,
    .row ⟨(some 5), none, .move (.t 7)⟩])
   (.seq
    (.block 0
     (.loop
      (.seq
       (.seq
        (.ops [
         .row ⟨(some 8), none, .move (.t 5)⟩,
         .row ⟨(some 9), none, .bin .gtr t_int true (.t 8) (.c (.int .i64 0))⟩,
         .row ⟨(some 10), none, .move (.t 9)⟩,
         .row ⟨(some 11), (some (10, true)), .move (.t 0)⟩,
         .row ⟨(some 12), (some (10, true)), .move (.t 5)⟩,
         .row ⟨(some 13), (some (10, true)), .bin .sub t_int true (.t 12) (.c (.int .i64 1))⟩,
         .row ⟨(some 14), (some (10, true)), .idxV 1 (.t 11) (.t 13)⟩,
         .row ⟨(some 15), (some (10, true)), .load1 (.t 14)⟩,
         .row ⟨(some 16), (some (10, true)), .move (.t 1)⟩,
         .row ⟨(some 17), (some (10, true)), .bin .geq t_string false (.t 15) (.t 16)⟩,
         .row ⟨(some 18), none, .pick (.t 10) (.t 17) (.c (.bool false))⟩])
        (.cond (.t 18)
         .skip
         (.exit 0)))
       (.block 1
        (.ops [
         .row ⟨(some 19), none, .move (.t 5)⟩,
         .row ⟨(some 20), none, .bin .sub t_int true (.t 19) (.c (.int .i64 1))⟩,
         .row ⟨(some 5), none, .move (.t 20)⟩])))))
    (.seq
     (.seq
      (.ops [
       .row ⟨(some 21), none, .move (.t 5)⟩,
       .row ⟨(some 22), none, .move (.t 0)⟩,
       .row ⟨(some 23), none, .lenV (.t 22)⟩,
       .row ⟨(some 24), none, .bin .lss t_int false (.t 21) (.t 23)⟩,
       .row ⟨(some 25), none, .move (.t 24)⟩,
       .row ⟨(some 26), (some (25, true)), .move (.t 0)⟩,
       .row ⟨(some 27), (some (25, true)), .move (.t 5)⟩,
       .row ⟨(some 28), (some (25, true)), .idxV 1 (.t 26) (.t 27)⟩,
       .row ⟨(some 29), (some (25, true)), .load1 (.t 28)⟩,
       .row ⟨(some 30), (some (25, true)), .move (.t 1)⟩,
       .row ⟨(some 31), (some (25, true)), .bin .eql t_string false (.t 29) (.t 30)⟩,
       .row ⟨(some 32), none, .pick (.t 25) (.t 31) (.c (.bool false))⟩])
      (.cond (.t 32)
       (.seq
        (.ops [
         .row ⟨(some 33), none, .move (.t 0)⟩,
         .row ⟨(some 4), none, .move (.t 33)⟩])
        .ret)
       .skip))
     (.seq
      (.ops [
       .row ⟨(some 34), none, .buildSlice 0 1 [] []⟩,
       .row ⟨(some 35), none, .move (.t 0)⟩,
       .row ⟨(some 36), none, .move (.t 5)⟩,
       .row ⟨(some 37), none, .sliceV 1 (.t 35) none (some (.t 36)) none⟩,
       .row ⟨(some 39), none, .move (.t 1)⟩,
       .row ⟨(some 40), none, .buildSlice 1 1 [(.str [])] [(0, 1, (.t 39))]⟩,
       .row ⟨(some 42), none, .move (.t 0)⟩,
       .row ⟨(some 43), none, .move (.t 5)⟩,
       .row ⟨(some 44), none, .sliceV 1 (.t 42) (some (.t 43)) none none⟩,
       .row ⟨(some 38), none, .app 1 16 (.t 34) (.t 37)⟩,
       .row ⟨(some 41), none, .app 1 16 (.t 38) (.t 40)⟩,
       .row ⟨(some 45), none, .app 1 16 (.t 41) (.t 44)⟩,
       .row ⟨(some 4), none, .move (.t 45)⟩])
      .ret)))))

theorem k_ref13_with : compF P f_ref13_with = .ok ⟨46, [.tmp 4], c_ref13_with⟩ := by kernel_rfl

/-- dryrot/dryrotref13.four, of 1 -/
noncomputable def c_ref13_four : CC :=
 (.seq
  (.ops [
   .row ⟨(some 2), none, .move (.c .nils)⟩])
  (.seq
   (.ops [
    .row ⟨(some 3), none, .move (.t 0)⟩,
    .row ⟨(some 4), none, .conv (.int .u64) (.t 3)⟩,
    .row ⟨(some 5), none, .callV (.c (.func (.func f_ref01_Put) [] [])) [(.t 4), (.c (.int .i64 4))]⟩,
    .row ⟨(some 2), none, .move (.t 5)⟩])
   .ret))

theorem k_ref13_four : compF P f_ref13_four = .ok ⟨6, [.tmp 2], c_ref13_four⟩ := by kernel_rfl

/-- dryrot/dryrotref01.Put, of 2 -/
noncomputable def c_ref01_Put : CC :=
 (.seq
  (.ops [
   .row ⟨(some 4), none, .move (.c .nils)⟩])
  (.seq
   (.ops [
    .row ⟨(some 8), none, .move (.t 1)⟩,
    .row ⟨(some 9), none, .mm true (.t 8) [(.c (.int .i64 0))]⟩,
    .row ⟨(some 10), none, .mm false (.t 9) [(.c (.int .i64 8))]⟩,
    .row ⟨(some 5), none, .move (.t 10)⟩])
   (.seq
    (.ops [
     .row ⟨(some 11), none, .move (.t 5)⟩,
     .row ⟨(some 12), none, .mkS 1 1 [(.int .u8 0)] (.t 11) (.t 11)⟩,
     .row ⟨(some 6), none, .move (.t 12)⟩])
    (.seq
     (.seq
      (.ops [
       .row ⟨(some 13), none, .move (.t 5)⟩,
       .row ⟨(some 14), none, .bin .sub t_int true (.t 13) (.c (.int .i64 1))⟩,
       .row ⟨(some 7), none, .move (.t 14)⟩])
      (.block 0
       (.loop
        (.seq
         (.seq
          (.ops [
           .row ⟨(some 15), none, .move (.t 7)⟩,
           .row ⟨(some 16), none, .bin .geq t_int true (.t 15) (.c (.int .i64 0))⟩])
          (.cond (.t 16)
           .skip
           (.exit 0)))
         (.seq
          (.block 1
           (.seq
            (.ops [
             .row ⟨(some 19), none, .move (.t 6)⟩,
             .row ⟨(some 20), none, .move (.t 7)⟩,
             .row ⟨(some 21), none, .move (.t 0)⟩,
             .row ⟨(some 22), none, .bin .rem t_uint64 true (.t 21) (.c (.int .u64 256))⟩,
             .row ⟨(some 23), none, .conv (.int .u8) (.t 22)⟩,
             .row ⟨(some 24), none, .idxV 1 (.t 19) (.t 20)⟩,
             .row ⟨none, none, .store 1 (.t 24) (.t 23)⟩])
            (.ops [
             .row ⟨(some 25), none, .move (.t 0)⟩,
             .row ⟨(some 26), none, .bin .quo t_uint64 true (.t 25) (.c (.int .u64 256))⟩,
             .row ⟨(some 0), none, .move (.t 26)⟩])))
          (.ops [
           .row ⟨(some 17), none, .move (.t 7)⟩,
           .row ⟨(some 18), none, .bin .sub t_int true (.t 17) (.c (.int .i64 1))⟩,
           .row ⟨(some 7), none, .move (.t 18)⟩]))))))
     (.seq
      (.ops [
       .row ⟨(some 27), none, .move (.t 6)⟩,
       .row ⟨(some 4), none, .move (.t 27)⟩])
      .ret)))))

theorem k_ref01_Put : compF P f_ref01_Put = .ok ⟨28, [.tmp 4], c_ref01_Put⟩ := by kernel_rfl

/-- dryrot/dryrotref13.entry, of 2 -/
noncomputable def c_ref13_entry : CC :=
 (.seq
  (.ops [
   .row ⟨(some 3), none, .box (.t 1)⟩,
   .row ⟨(some 4), none, .move (.c .nils)⟩])
  (.seq
   (.ops [
    .row ⟨(some 8), none, .fieldAddr 0 (.t 3)⟩,
    .row ⟨(some 9), none, .load1 (.t 8)⟩,
    .row ⟨(some 10), none, .lenV (.t 9)⟩,
    .row ⟨(some 11), none, .conv (.int .u8) (.t 10)⟩,
    .row ⟨(some 12), none, .buildSlice 1 1 [(.int .u8 0)] [(0, 1, (.t 11))]⟩,
    .row ⟨(some 5), none, .move (.t 12)⟩])
   (.seq
    (.seq
     (.ops [
      .row ⟨(some 13), none, .fieldAddr 0 (.t 3)⟩,
      .row ⟨(some 14), none, .load1 (.t 13)⟩,
      .row ⟨(some 15), none, .lenV (.t 14)⟩,
      .row ⟨(some 16), none, .move (.c (.int .i64 0))⟩])
     (.block 0
      (.loop
       (.seq
        (.ops [
         .row ⟨(some 17), none, .bin .lss t_int false (.t 16) (.t 15)⟩])
        (.seq
         (.cond (.t 17)
          .skip
          (.exit 0))
         (.seq
          (.block 1
           (.seq
            (.ops [
             .row ⟨(some 18), none, .idxV 2 (.t 14) (.t 16)⟩,
             .row ⟨(some 19), none, .loadN 2 (.t 18)⟩,
             .row ⟨(some 7), none, .new [(.str []), (.str [])]⟩,
             .row ⟨none, none, .store 2 (.t 7) (.t 19)⟩])
            (.ops [
             .row ⟨(some 20), none, .move (.t 5)⟩,
             .row ⟨(some 21), none, .move (.t 0)⟩,
             .row ⟨(some 22), none, .fieldAddr 0 (.t 7)⟩,
             .row ⟨(some 23), none, .load1 (.t 22)⟩,
             .row ⟨(some 27), none, .move (.t 0)⟩,
             .row ⟨(some 28), none, .fieldAddr 1 (.t 7)⟩,
             .row ⟨(some 29), none, .load1 (.t 28)⟩,
             .stage [⟨(some 29), none, .load1 (.t 28)⟩, ⟨(some 23), none, .load1 (.t 22)⟩],
             .row ⟨(some 24), none, .callV (.c (.func (.func f_ref13_place) [] [])) [(.t 21), (.t 23)]⟩,
             .stage [⟨(some 29), none, .load1 (.t 28)⟩],
             .row ⟨(some 25), none, .callV (.c (.func (.func f_ref13_four) [] [])) [(.t 24)]⟩,
             .stage [⟨(some 29), none, .load1 (.t 28)⟩],
             .row ⟨(some 26), none, .app 1 1 (.t 20) (.t 25)⟩,
             .stage [⟨(some 29), none, .load1 (.t 28)⟩],
             .row ⟨(some 30), none, .callV (.c (.func (.func f_ref13_place) [] [])) [(.t 27), (.t 29)]⟩,
             .row ⟨(some 31), none, .callV (.c (.func (.func f_ref13_four) [] [])) [(.t 30)]⟩,
             .row ⟨(some 32), none, .app 1 1 (.t 26) (.t 31)⟩,
             .row ⟨(some 5), none, .move (.t 32)⟩])))
          (.ops [
           .row ⟨(some 33), none, .bin .add t_int true (.t 16) (.c (.int .i64 1))⟩,
           .row ⟨(some 16), none, .move (.t 33)⟩])))))))
    (.seq
     (.ops [
      .row ⟨(some 34), none, .move (.t 5)⟩,
      .row ⟨(some 35), none, .fieldAddr 2 (.t 3)⟩,
      .row ⟨(some 36), none, .load1 (.t 35)⟩,
      .row ⟨(some 39), none, .fieldAddr 3 (.t 3)⟩,
      .row ⟨(some 40), none, .load1 (.t 39)⟩,
      .row ⟨(some 43), none, .fieldAddr 4 (.t 3)⟩,
      .row ⟨(some 44), none, .load1 (.t 43)⟩,
      .stage [⟨(some 44), none, .load1 (.t 43)⟩, ⟨(some 40), none, .load1 (.t 39)⟩, ⟨(some 36), none, .load1 (.t 35)⟩],
      .row ⟨(some 37), none, .callV (.c (.func (.func f_ref13_four) [] [])) [(.t 36)]⟩,
      .stage [⟨(some 44), none, .load1 (.t 43)⟩, ⟨(some 40), none, .load1 (.t 39)⟩],
      .row ⟨(some 38), none, .app 1 1 (.t 34) (.t 37)⟩,
      .stage [⟨(some 44), none, .load1 (.t 43)⟩, ⟨(some 40), none, .load1 (.t 39)⟩],
      .row ⟨(some 41), none, .callV (.c (.func (.func f_ref10_Big) [] [])) [(.t 40)]⟩,
      .stage [⟨(some 44), none, .load1 (.t 43)⟩],
      .row ⟨(some 42), none, .app 1 1 (.t 38) (.t 41)⟩,
      .stage [⟨(some 44), none, .load1 (.t 43)⟩],
      .row ⟨(some 45), none, .callV (.c (.func (.func f_ref10_Big) [] [])) [(.t 44)]⟩,
      .row ⟨(some 46), none, .app 1 1 (.t 42) (.t 45)⟩,
      .row ⟨(some 4), none, .move (.t 46)⟩])
     .ret))))

theorem k_ref13_entry : compF P f_ref13_entry = .ok ⟨47, [.tmp 4], c_ref13_entry⟩ := by kernel_rfl

/-- dryrot/dryrotref13.place, of 2 -/
noncomputable def c_ref13_place : CC :=
 (.seq
  (.ops [
   .row ⟨(some 4), none, .move (.c (.int .i64 0))⟩])
  (.seq
   (.seq
    (.ops [
     .row ⟨(some 7), none, .move (.t 0)⟩,
     .row ⟨(some 8), none, .lenV (.t 7)⟩,
     .row ⟨(some 9), none, .move (.c (.int .i64 0))⟩])
    (.block 0
     (.loop
      (.seq
       (.ops [
        .row ⟨(some 10), none, .bin .lss t_int false (.t 9) (.t 8)⟩])
       (.seq
        (.cond (.t 10)
         .skip
         (.exit 0))
        (.seq
         (.block 1
          (.seq
           (.ops [
            .row ⟨(some 11), none, .move (.t 9)⟩,
            .row ⟨(some 12), none, .idxV 1 (.t 7) (.t 9)⟩,
            .row ⟨(some 13), none, .load1 (.t 12)⟩,
            .row ⟨(some 5), none, .move (.t 11)⟩,
            .row ⟨(some 6), none, .move (.t 13)⟩])
           (.seq
            (.ops [
             .row ⟨(some 14), none, .move (.t 6)⟩,
             .row ⟨(some 15), none, .move (.t 1)⟩,
             .row ⟨(some 16), none, .bin .eql t_string false (.t 14) (.t 15)⟩])
            (.cond (.t 16)
             (.seq
              (.ops [
               .row ⟨(some 17), none, .move (.t 5)⟩,
               .row ⟨(some 4), none, .move (.t 17)⟩])
              .ret)
             .skip))))
         (.ops [
          .row ⟨(some 18), none, .bin .add t_int true (.t 9) (.c (.int .i64 1))⟩,
          .row ⟨(some 9), none, .move (.t 18)⟩])))))))
   (.seq
    (.ops [
     .row ⟨(some 4), none, .move (.c (.int .i64 (-1)))⟩])
    .ret)))

theorem k_ref13_place : compF P f_ref13_place = .ok ⟨19, [.tmp 4], c_ref13_place⟩ := by kernel_rfl


end Go.Dk

namespace Go.Dk
open Go Go.Dr
set_option maxRecDepth 100000

-- reached: 153
/-- dryrot/dryrotref10.Big, of 1 -/
noncomputable def c_ref10_Big : CC :=
 (.seq
  (.ops [
   .row ⟨(some 2), none, .move (.c .nils)⟩])
  (.seq
   (.ops [
    .row ⟨(some 3), none, .move (.t 0)⟩,
    .row ⟨(some 4), none, .conv (.int .u64) (.t 3)⟩,
    .row ⟨(some 5), none, .callV (.c (.func (.func f_ref01_Put) [] [])) [(.t 4), (.c (.int .i64 8))]⟩,
    .row ⟨(some 2), none, .move (.t 5)⟩])
   .ret))

theorem k_ref10_Big : compF P f_ref10_Big = .ok ⟨6, [.tmp 2], c_ref10_Big⟩ := by kernel_rfl

/-- dryrot/dryrotref13.postings, of 2 -/
noncomputable def c_ref13_postings : CC :=
 (.seq
  (.ops [
   .row ⟨(some 4), none, .move (.c .nils)⟩])
  (.seq
   (.ops [
    .row ⟨(some 5), none, .move (.c .nils)⟩])
   (.seq
    (.seq
     (.ops [
      .row ⟨(some 14), none, .move (.t 0)⟩,
      .row ⟨(some 15), none, .lenV (.t 14)⟩,
      .row ⟨(some 16), none, .move (.c (.int .i64 0))⟩])
     (.block 0
      (.loop
       (.seq
        (.ops [
         .row ⟨(some 17), none, .bin .lss t_int false (.t 16) (.t 15)⟩])
        (.seq
         (.cond (.t 17)
          .skip
          (.exit 0))
         (.seq
          (.block 1
           (.seq
            (.ops [
             .row ⟨(some 18), none, .idxV 1 (.t 14) (.t 16)⟩,
             .row ⟨(some 19), none, .load1 (.t 18)⟩,
             .row ⟨(some 7), none, .move (.t 19)⟩])
            (.seq
             (.ops [
              .row ⟨(some 20), none, .move (.t 0)⟩,
              .row ⟨(some 21), none, .lenV (.t 20)⟩,
              .row ⟨(some 22), none, .move (.c (.int .i64 0))⟩])
             (.block 2
              (.loop
               (.seq
                (.ops [
                 .row ⟨(some 23), none, .bin .lss t_int false (.t 22) (.t 21)⟩])
                (.seq
                 (.cond (.t 23)
                  .skip
                  (.exit 2))
                 (.seq
                  (.block 3
                   (.seq
                    (.ops [
                     .row ⟨(some 24), none, .idxV 1 (.t 20) (.t 22)⟩,
                     .row ⟨(some 25), none, .load1 (.t 24)⟩,
                     .row ⟨(some 9), none, .move (.t 25)⟩])
                    (.seq
                     (.ops [
                      .row ⟨(some 10), none, .move (.c .nils)⟩])
                     (.seq
                      (.ops [
                       .row ⟨(some 11), none, .move (.c (.int .i64 0))⟩])
                      (.seq
                       (.seq
                        (.ops [
                         .row ⟨(some 26), none, .move (.t 1)⟩,
                         .row ⟨(some 27), none, .lenV (.t 26)⟩,
                         .row ⟨(some 28), none, .move (.c (.int .i64 0))⟩])
                        (.block 4
                         (.loop
                          (.seq
                           (.ops [
                            .row ⟨(some 29), none, .bin .lss t_int false (.t 28) (.t 27)⟩])
                           (.seq
                            (.cond (.t 29)
                             .skip
                             (.exit 4))
                            (.seq
                             (.block 5
                              (.seq
                               (.ops [
                                .row ⟨(some 30), none, .move (.t 28)⟩,
                                .row ⟨(some 31), none, .idxV 5 (.t 26) (.t 28)⟩,
                                .row ⟨(some 32), none, .loadN 5 (.t 31)⟩,
                                .row ⟨(some 13), none, .new [.nils, (.int .i64 0), (.int .i64 0), (.int .i64 0), (.int .i64 0)]⟩,
                                .row ⟨(some 12), none, .move (.t 30)⟩,
                                .row ⟨none, none, .store 5 (.t 13) (.t 32)⟩])
                               (.seq
                                (.ops [
                                 .row ⟨(some 33), none, .fieldAddr 0 (.t 13)⟩,
                                 .row ⟨(some 34), none, .load1 (.t 33)⟩,
                                 .row ⟨(some 35), none, .move (.t 7)⟩,
                                 .row ⟨(some 36), none, .callV (.c (.func (.func f_ref07_Get) [] [])) [(.t 34), (.t 35)]⟩,
                                 .row ⟨(some 37), none, .move (.t 9)⟩,
                                 .row ⟨(some 38), none, .bin .eql t_string false (.t 36) (.t 37)⟩])
                                (.cond (.t 38)
                                 (.seq
                                  (.ops [
                                   .row ⟨(some 39), none, .move (.t 10)⟩,
                                   .row ⟨(some 40), none, .move (.t 12)⟩,
                                   .row ⟨(some 41), none, .callV (.c (.func (.func f_ref13_four) [] [])) [(.t 40)]⟩,
                                   .row ⟨(some 42), none, .app 1 1 (.t 39) (.t 41)⟩,
                                   .row ⟨(some 10), none, .move (.t 42)⟩])
                                  (.ops [
                                   .row ⟨(some 43), none, .move (.t 11)⟩,
                                   .row ⟨(some 44), none, .bin .add t_int true (.t 43) (.c (.int .i64 1))⟩,
                                   .row ⟨(some 11), none, .move (.t 44)⟩]))
                                 .skip))))
                             (.ops [
                              .row ⟨(some 45), none, .bin .add t_int true (.t 28) (.c (.int .i64 1))⟩,
                              .row ⟨(some 28), none, .move (.t 45)⟩])))))))
                       (.seq
                        (.ops [
                         .row ⟨(some 46), none, .move (.t 11)⟩,
                         .row ⟨(some 47), none, .bin .gtr t_int true (.t 46) (.c (.int .i64 0))⟩])
                        (.cond (.t 47)
                         (.ops [
                          .row ⟨(some 48), none, .move (.t 5)⟩,
                          .row ⟨(some 49), none, .move (.t 0)⟩,
                          .row ⟨(some 50), none, .move (.t 7)⟩,
                          .row ⟨(some 51), none, .callV (.c (.func (.func f_ref13_place) [] [])) [(.t 49), (.t 50)]⟩,
                          .row ⟨(some 52), none, .callV (.c (.func (.func f_ref13_four) [] [])) [(.t 51)]⟩,
                          .row ⟨(some 53), none, .app 1 1 (.t 48) (.t 52)⟩,
                          .row ⟨(some 54), none, .move (.t 0)⟩,
                          .row ⟨(some 55), none, .move (.t 9)⟩,
                          .row ⟨(some 56), none, .callV (.c (.func (.func f_ref13_place) [] [])) [(.t 54), (.t 55)]⟩,
                          .row ⟨(some 57), none, .callV (.c (.func (.func f_ref13_four) [] [])) [(.t 56)]⟩,
                          .row ⟨(some 58), none, .app 1 1 (.t 53) (.t 57)⟩,
                          .row ⟨(some 59), none, .move (.t 11)⟩,
                          .row ⟨(some 60), none, .callV (.c (.func (.func f_ref13_four) [] [])) [(.t 59)]⟩,
                          .row ⟨(some 61), none, .app 1 1 (.t 58) (.t 60)⟩,
                          .row ⟨(some 62), none, .move (.t 10)⟩,
                          .row ⟨(some 63), none, .app 1 1 (.t 61) (.t 62)⟩,
                          .row ⟨(some 5), none, .move (.t 63)⟩])
                         .skip)))))))
                  (.ops [
                   .row ⟨(some 64), none, .bin .add t_int true (.t 22) (.c (.int .i64 1))⟩,
                   .row ⟨(some 22), none, .move (.t 64)⟩])))))))))
          (.ops [
           .row ⟨(some 65), none, .bin .add t_int true (.t 16) (.c (.int .i64 1))⟩,
           .row ⟨(some 16), none, .move (.t 65)⟩])))))))
    (.seq
     (.ops [
      .row ⟨(some 66), none, .move (.t 5)⟩,
      .row ⟨(some 4), none, .move (.t 66)⟩])
     .ret))))

theorem k_ref13_postings : compF P f_ref13_postings = .ok ⟨67, [.tmp 4], c_ref13_postings⟩ := by kernel_rfl

/-- dryrot/dryrotref07.Get, of 2 -/
noncomputable def c_ref07_Get : CC :=
 (.seq
  (.ops [
   .row ⟨(some 4), none, .move (.c (.str []))⟩])
  (.seq
   (.seq
    (.ops [
     .row ⟨(some 7), none, .move (.t 0)⟩,
     .row ⟨(some 8), none, .lenV (.t 7)⟩,
     .row ⟨(some 9), none, .move (.c (.int .i64 0))⟩])
    (.block 0
     (.loop
      (.seq
       (.ops [
        .row ⟨(some 10), none, .bin .lss t_int false (.t 9) (.t 8)⟩])
       (.seq
        (.cond (.t 10)
         .skip
         (.exit 0))
        (.seq
         (.block 1
          (.seq
           (.ops [
            .row ⟨(some 11), none, .idxV 2 (.t 7) (.t 9)⟩,
            .row ⟨(some 12), none, .loadN 2 (.t 11)⟩,
            .row ⟨(some 6), none, .new [(.str []), (.str [])]⟩,
            .row ⟨none, none, .store 2 (.t 6) (.t 12)⟩])
           (.seq
            (.ops [
             .row ⟨(some 13), none, .fieldAddr 0 (.t 6)⟩,
             .row ⟨(some 14), none, .load1 (.t 13)⟩,
             .row ⟨(some 15), none, .move (.t 1)⟩,
             .row ⟨(some 16), none, .bin .eql t_string false (.t 14) (.t 15)⟩])
            (.cond (.t 16)
             (.seq
              (.ops [
               .row ⟨(some 17), none, .fieldAddr 1 (.t 6)⟩,
               .row ⟨(some 18), none, .load1 (.t 17)⟩,
               .row ⟨(some 4), none, .move (.t 18)⟩])
              .ret)
             .skip))))
         (.ops [
          .row ⟨(some 19), none, .bin .add t_int true (.t 9) (.c (.int .i64 1))⟩,
          .row ⟨(some 9), none, .move (.t 19)⟩])))))))
   (.seq
    (.ops [
     .row ⟨(some 4), none, .move (.c (.str []))⟩])
    .ret)))

theorem k_ref07_Get : compF P f_ref07_Get = .ok ⟨20, [.tmp 4], c_ref07_Get⟩ := by kernel_rfl

/-- slices.Equal[[]byte,byte], of 2 -/
noncomputable def c_slices_Equal_byte_byte : CC :=
 (.seq
  (.ops [
   .row ⟨(some 4), none, .move (.c (.bool false))⟩])
  (.seq
   (.seq
    (.ops [
     .row ⟨(some 6), none, .move (.t 0)⟩,
     .row ⟨(some 7), none, .lenV (.t 6)⟩,
     .row ⟨(some 8), none, .move (.t 1)⟩,
     .row ⟨(some 9), none, .lenV (.t 8)⟩,
     .row ⟨(some 10), none, .bin .neq t_int false (.t 7) (.t 9)⟩])
    (.cond (.t 10)
     (.seq
      (.ops [
       .row ⟨(some 4), none, .move (.c (.bool false))⟩])
      .ret)
     .skip))
   (.seq
    (.seq
     (.ops [
      .row ⟨(some 11), none, .move (.t 0)⟩,
      .row ⟨(some 12), none, .lenV (.t 11)⟩,
      .row ⟨(some 13), none, .move (.c (.int .i64 0))⟩])
     (.block 0
      (.loop
       (.seq
        (.ops [
         .row ⟨(some 14), none, .bin .lss t_int false (.t 13) (.t 12)⟩])
        (.seq
         (.cond (.t 14)
          .skip
          (.exit 0))
         (.seq
          (.block 1
           (.seq
            (.ops [
             .row ⟨(some 15), none, .move (.t 13)⟩,
             .row ⟨(some 5), none, .move (.t 15)⟩])
            (.seq
             (.ops [
              .row ⟨(some 16), none, .move (.t 0)⟩,
              .row ⟨(some 17), none, .move (.t 5)⟩,
              .row ⟨(some 18), none, .idxV 1 (.t 16) (.t 17)⟩,
              .row ⟨(some 19), none, .load1 (.t 18)⟩,
              .row ⟨(some 20), none, .move (.t 1)⟩,
              .row ⟨(some 21), none, .move (.t 5)⟩,
              .row ⟨(some 22), none, .idxV 1 (.t 20) (.t 21)⟩,
              .row ⟨(some 23), none, .load1 (.t 22)⟩,
              .row ⟨(some 24), none, .bin .neq t_uint8 false (.t 19) (.t 23)⟩,
              .stage [⟨(some 23), none, .load1 (.t 22)⟩, ⟨(some 19), none, .load1 (.t 18)⟩]])
             (.cond (.t 24)
              (.seq
               (.ops [
                .row ⟨(some 4), none, .move (.c (.bool false))⟩])
               .ret)
              .skip))))
          (.ops [
           .row ⟨(some 25), none, .bin .add t_int true (.t 13) (.c (.int .i64 1))⟩,
           .row ⟨(some 13), none, .move (.t 25)⟩])))))))
    (.seq
     (.ops [
      .row ⟨(some 4), none, .move (.c (.bool true))⟩])
     .ret))))

theorem k_slices_Equal_byte_byte : compF P f_slices_Equal_byte_byte = .ok ⟨26, [.tmp 4], c_slices_Equal_byte_byte⟩ := by kernel_rfl

/-- slices.Clone[[]byte,byte], of 1 -/
noncomputable def c_slices_Clone_byte_byte : CC :=
 (.seq
  (.ops [
   .row ⟨(some 2), none, .move (.c .nils)⟩])
  (.seq
   (.seq
    (.ops [
     .row ⟨(some 3), none, .move (.t 0)⟩,
     .row ⟨(some 4), none, .bin .eql t_sl_uint8 true (.t 3) (.c .nils)⟩])
    (.cond (.t 4)
     (.seq
      (.ops [
       .row ⟨(some 2), none, .move (.c .nils)⟩])
      .ret)
     .skip))
   (.seq
    (.ops [
     .row ⟨(some 5), none, .buildSlice 0 1 [] []⟩,
     .row ⟨(some 6), none, .move (.t 0)⟩,
     .row ⟨(some 7), none, .app 1 1 (.t 5) (.t 6)⟩,
     .row ⟨(some 2), none, .move (.t 7)⟩])
    .ret)))

theorem k_slices_Clone_byte_byte : compF P f_slices_Clone_byte_byte = .ok ⟨8, [.tmp 2], c_slices_Clone_byte_byte⟩ := by kernel_rfl

/-- dryrot/crc.Get, of 1 -/
noncomputable def c_crc_Get : CC :=
 (.seq
  (.ops [
   .row ⟨(some 2), none, .move (.c (.int .u64 0))⟩,
   .row ⟨(some 3), none, .move (.c (.bool false))⟩])
  (.seq
   (.seq
    (.ops [
     .row ⟨(some 7), none, .move (.t 0)⟩,
     .row ⟨(some 8), none, .lenV (.t 7)⟩,
     .row ⟨(some 9), none, .bin .eql t_int true (.t 8) (.c (.int .i64 0))⟩,
     .row ⟨(some 10), none, .move (.t 9)⟩,
     .row ⟨(some 11), (some (10, false)), .move (.t 0)⟩,
     .row ⟨(some 12), (some (10, false)), .lenV (.t 11)⟩,
     .row ⟨(some 13), (some (10, false)), .bin .gtr t_int true (.t 12) (.c (.int .i64 8))⟩,
     .row ⟨(some 14), none, .pick (.t 10) (.c (.bool true)) (.t 13)⟩])
    (.cond (.t 14)
     (.seq
      (.ops [
       .row ⟨(some 2), none, .move (.c (.int .u64 0))⟩,
       .row ⟨(some 3), none, .move (.c (.bool false))⟩])
      .ret)
     .skip))
   (.seq
    (.ops [
     .row ⟨(some 4), none, .move (.c (.int .u64 0))⟩])
    (.seq
     (.seq
      (.ops [
       .row ⟨(some 15), none, .move (.t 0)⟩,
       .row ⟨(some 16), none, .lenV (.t 15)⟩,
       .row ⟨(some 17), none, .move (.c (.int .i64 0))⟩])
      (.block 0
       (.loop
        (.seq
         (.ops [
          .row ⟨(some 18), none, .bin .lss t_int false (.t 17) (.t 16)⟩])
         (.seq
          (.cond (.t 18)
           .skip
           (.exit 0))
          (.seq
           (.block 1
            (.seq
             (.ops [
              .row ⟨(some 19), none, .idxV 1 (.t 15) (.t 17)⟩,
              .row ⟨(some 20), none, .load1 (.t 19)⟩,
              .row ⟨(some 6), none, .move (.t 20)⟩])
             (.ops [
              .row ⟨(some 21), none, .move (.t 4)⟩,
              .row ⟨(some 22), none, .bin .shl t_uint64 true (.t 21) (.c (.int .u64 8))⟩,
              .row ⟨(some 23), none, .move (.t 6)⟩,
              .row ⟨(some 24), none, .conv (.int .u64) (.t 23)⟩,
              .row ⟨(some 25), none, .bin .or t_uint64 false (.t 22) (.t 24)⟩,
              .row ⟨(some 4), none, .move (.t 25)⟩])))
           (.ops [
            .row ⟨(some 26), none, .bin .add t_int true (.t 17) (.c (.int .i64 1))⟩,
            .row ⟨(some 17), none, .move (.t 26)⟩])))))))
     (.seq
      (.ops [
       .row ⟨(some 27), none, .move (.t 4)⟩,
       .row ⟨(some 2), none, .move (.t 27)⟩,
       .row ⟨(some 3), none, .move (.c (.bool true))⟩])
      .ret)))))

theorem k_crc_Get : compF P f_crc_Get = .ok ⟨28, [.tmp 2, .tmp 3], c_crc_Get⟩ := by kernel_rfl

/-- bytes.Equal, of 2 -/
noncomputable def c_bytes_Equal : CC :=
 (.seq
  (.ops [
   .row ⟨(some 4), none, .move (.c (.bool false))⟩])
  (.seq
   (.ops [
    .row ⟨(some 5), none, .move (.t 0)⟩,
    .row ⟨(some 6), none, .conv .strB (.t 5)⟩,
    .row ⟨(some 7), none, .move (.t 1)⟩,
    .row ⟨(some 8), none, .conv .strB (.t 7)⟩,
    .row ⟨(some 9), none, .bin .eql t_string false (.t 6) (.t 8)⟩,
    .row ⟨(some 4), none, .move (.t 9)⟩])
   .ret))

theorem k_bytes_Equal : compF P f_bytes_Equal = .ok ⟨10, [.tmp 4], c_bytes_Equal⟩ := by kernel_rfl

end Go.Dk
