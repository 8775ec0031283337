/-
  Texts joined: DrWq, DrSq, DrArg, DrClosed, DrSort, LxA, LxC1, IxP, LxInts1, LxS, LxInts2, LxInts3, LxInts4, LxInts5, LxInts6, LxInts7, DrTy, LxLists, LxJ, TryzSort0, LxI.
-/
import Derived.Test.YthkoheaklmgonaaGreatDoorT3
import Derived.ProofKit
import Derived.Sort.OwnSortedInts
import Derived.Test.YthkoheaklmgonaaGreatDoorRows
import Derived.Test.YthkoheaklmgonaaGreatDoorCards
import Derived.Test.YthkoheaklmgonaaGreatDoorTie
import Derived.Test.YthkoheaklmgonaaGreatDoorT2
import Derived.Lib.LaidIn
import Derived.SevenTiedAt
import Derived.SizedLaws
import Derived.Shelf.Sort.Plain
import Derived.Shelf.Slices.In.SortNone
import Derived.Test.YthkoheaklmgonaaGreatDoorProg

/-
  What a piece of code makes sure of in all its ends: maps are gone through in any order.
-/
namespace Go.Dr

inductive DC where
  | skip
  | ops (l : List CEnt)
  | drawn (l : List CEnt)
  | seq (x y : DC)
  | cond (c : CO) (x y : DC)
  | block (id : Nat) (c : DC)
  | loop (c : DC)
  | exit (id : Nat)
  | ret
  | go (n : Nat) (f : CO) (params : Array Tmp) (assign body : Code)
  deriving Inhabited

structure DF where
  n : Nat
  res : List CRes
  c : DC
  deriving Inhabited

section
variable (P : Program)

def nextC : COp → Option CO
  | .next it false => some it
  | _ => none

def agreeN (o : Oper) (c : COp) : Bool :=
  match nextOf o.op with
  | some _ => true
  | none => match nextC c with | some _ => false | none => true

def compRowsD (n : Nat) (rd : Bool) (ops : Array Oper) : List Oper → R (List CEnt)
  | [] => .ok []
  | o :: l => match compRow P n rd ops o with
    | .ok r => bif agreeN o r.c then match compRowsD n rd ops l with
      | .ok l => .ok (.row r :: l)
      | .error e => .error e
      else .error "row: next"
    | .error e => .error e

def compD (n : Nat) (rd : Bool) : Code → R DC
  | .skip => .ok .skip
  | .label _ => .ok .skip
  | .region _ ops draw => bif draw then (match plan P ops with
      | .ok l => match compEnts P n rd ops l with | .ok l => .ok (.drawn l) | .error e => .error e
      | .error e => .error e)
    else match compRowsD P n rd ops ops.toList with | .ok l => .ok (.ops l) | .error e => .error e
  | .seq x y => match compD n rd x with
    | .ok a => match compD n rd y with | .ok b => .ok (.seq a b) | .error e => .error e
    | .error e => .error e
  | .cond c x y => match cO P c with
    | .ok c => match compD n rd x with
      | .ok a => match compD n rd y with | .ok b => .ok (.cond c a b) | .error e => .error e
      | .error e => .error e
    | .error e => .error e
  | .block id c => match compD n rd c with | .ok a => .ok (.block id a) | .error e => .error e
  | .loop c => match compD n rd c with | .ok a => .ok (.loop a) | .error e => .error e
  | .exit id => .ok (.exit id)
  | .ret => .ok .ret
  | .scope c => compD n rd c
  | .rangeFunc f params assign body => match cO P f with
    | .ok f => bif rd then .error "rangeFunc in a round" else .ok (.go n f params assign body)
    | .error e => .error e
  | .goto _ => .error "goto"
  | .refuse why => .error why

def compFD (f : FuncId) : R DF :=
  match P.funcs[f]? with
  | some fn => match fn.body with
    | some c => match compD P fn.ntmps false c with
      | .ok cc => match compRes P fn.results.toList with
        | .ok r => .ok ⟨fn.ntmps, r, cc⟩
        | .error e => .error e
      | .error e => .error e
    | none => .error "no body"
  | none => .error "no function"

end

section
variable (P : Program) (S : Sums)

def clN (N : Nat) : CallD := evCallN P S N N

/-- a call comes out with K, in all its ends -/
def EvN (t : Tgt) (args : List AV) (h : AH) (K : AV → AH → Prop) : Prop := ∃ N l, clN P S N t args h = .ok l ∧ ∀ x ∈ l, K x.1 x.2

def wqR (r : RN) (K : AV → AH → Prop) (D : ADef → AH → Prop) : Prop :=
  match r with
  | .ok (n, h) => match n with
    | .value v => K v h
    | .skip => K aundef h
    | .enter f args => EvN P S (.fn f) args h K
    | .yield l args => EvN P S (.yield l) args h K
    | .defer d => D d h
  | .error _ => False

def wqNext (r : RL (AV × AH)) (K : AV → AH → Prop) : Prop :=
  match r with
  | .ok l => ∀ x ∈ l, K x.1 x.2
  | .error _ => False

def wqE (c : COp) (σ : Sg) (h : AH) (K : AV → AH → Prop) (D : ADef → AH → Prop) : Prop :=
  match nextC c with
  | some it => wqNext (nextD h (it.evS σ)) K
  | none => wqR P S (evS P c σ h) K D

def wqOps : List CEnt → Post → Sg → List ADef → AH → Prop
  | [], Q, σ, ds, h => Q .normal σ ds h
  | .row r :: l, Q, σ, ds, h => match r.g with
    | none => wqE P S r.c σ h (fun v h => wqOps l Q (upd σ r.d v) ds h) (fun df h => wqOps l Q (upd σ r.d aundef) (df :: ds) h)
    | some (t, w) => wpGu (σ t) w (wqE P S r.c σ h (fun v h => wqOps l Q (upd σ r.d v) ds h) (fun df h => wqOps l Q (upd σ r.d aundef) (df :: ds) h))
        (wqOps l Q (upd σ r.d aundef) ds h)
  | .stage _ :: _, _, _, _, _ => False

def wqGo (f : AV) (n : Nat) (params : Array Tmp) (assign body : Code) (Q : Post) (σ : Sg) (ds : List ADef) (h : AH) : Prop :=
  match f with
  | .func (.func g) first captured => ∀ tmps : PT AV, (∀ i, valT tmps i = σ i) →
      EvN P S (.fn g) (first ++ (.func (.yield (h.next + 1)) [] [] :: captured))
        ((h.push (.deferred (some []))).push (.loop { state := .ready, pending := none, n := n, tmps := tmps, params, assign, body })) (Kgo Q σ ds h.next)
  | _ => False

def wqC : DC → Post → Sg → List ADef → AH → Prop
  | .skip, Q, σ, ds, h => Q .normal σ ds h
  | .ops l, Q, σ, ds, h => wqOps P S l Q σ ds h
  | .drawn l, Q, σ, ds, h => wpOps P S l Q σ ds h
  | .seq x y, Q, σ, ds, h => wqC x (fun r σ ds h => match r with | .normal => wqC y Q σ ds h | r => Q r σ ds h) σ ds h
  | .cond c x y, Q, σ, ds, h => wpG (c.evS σ) true (wqC x Q σ ds h) (wqC y Q σ ds h)
  | .block id c, Q, σ, ds, h => wqC c (Kblk id Q) σ ds h
  | .loop c, Q, σ, ds, h => ∃ (I : Inv) (k : Nat), I k σ ds h ∧ ∀ k σ ds h, I k σ ds h → wqC c (Kloop I k Q) σ ds h
  | .exit id, Q, σ, ds, h => Q (.exit id) σ ds h
  | .ret, Q, σ, ds, h => Q .ret σ ds h
  | .go n f params assign body, Q, σ, ds, h => wqGo P S (f.evS σ) n params assign body Q σ ds h

def KseqQ (y : DC) (Q : Post) : Post := fun r σ ds h => match r with | .normal => wqC P S y Q σ ds h | r => Q r σ ds h

end

/-! ### soundness -/

section
variable {P : Program} {S : Sums}

theorem clN_mono {N N' : Nat} (h : N ≤ N') : CallDLe (clN P S N) (clN P S N') := evCallN_mono h h

theorem EvN.mono {t : Tgt} {args : List AV} {h : AH} {K K' : AV → AH → Prop} (e : EvN P S t args h K) (hk : ∀ v h', K v h' → K' v h') : EvN P S t args h K' := by
  obtain ⟨N, l, e, k⟩ := e
  exact ⟨N, l, e, fun x hx => hk _ _ (k x hx)⟩

/-- what has one end -/
theorem Ev.toN {t : Tgt} {args : List AV} {h : AH} {K : AV → AH → Prop} (e : Ev P S t args h K) : EvN P S t args h K := by
  obtain ⟨N, v, h', e, k⟩ := e
  exact ⟨N, [(v, h')], evCall_sub _ _ _ _ e, fun x hx => by rw [List.mem_singleton.1 hx]; exact k⟩

theorem bindD_ok {α β : Type} {f : Nat → α → RL β} (hm : ∀ N N', N ≤ N' → ∀ x r, f N x = .ok r → f N' x = .ok r) {Φ : β → Prop} : ∀ (l : List α), (∀ x ∈ l, ∃ N r, f N x = .ok r ∧ ∀ y ∈ r, Φ y) →
    ∃ N r, bindD (f N) l = .ok r ∧ ∀ y ∈ r, Φ y
  | [], _ => ⟨0, [], rfl, fun y hy => by cases hy⟩
  | x :: l, h => by
    obtain ⟨N1, r1, e1, k1⟩ := h x (by simp)
    obtain ⟨N2, r2, e2, k2⟩ := bindD_ok hm l fun y hy => h y (List.mem_cons_of_mem _ hy)
    refine ⟨max N1 N2, r1 ++ r2, ?_, fun y hy => ?_⟩
    · simp only [bindD, hm _ _ (Nat.le_max_left N1 N2) _ _ e1, bindD_mono (hm _ _ (Nat.le_max_right N1 N2)) e2]
    · rcases List.mem_append.1 hy with hy | hy
      · exact k1 y hy
      · exact k2 y hy

theorem nextC_ok {c : COp} {it : CO} (h : nextC c = some it) : c = .next it false := by
  unfold nextC at h
  split at h
  · cases h; rfl
  · cases h

/-- after an operation -/
def AftOp (n : Nat) (rd : Bool) (o : Oper) (a : AAct) (K : AV → AH → Prop) (D : ADef → AH → Prop) (x : AAct × AH) : Prop :=
  Keep n rd x.1 ∧ ((∃ v, x.1.val = upd a.val o.dst v ∧ x.1.ds = a.ds ∧ K v x.2) ∨ (∃ df, x.1.val = upd a.val o.dst aundef ∧ x.1.ds = df :: a.ds ∧ D df x.2))

theorem operD_ok {n : Nat} {rd : Bool} {o : Oper} {c : COp} {a : AAct} {h : AH} {K : AV → AH → Prop} {D : ADef → AH → Prop} (hc' : c = compOr P o) (hk : Keep n rd a) (hd : dstOk n o.dst = true)
    (hrd : rd = true → c.isDefer = false) (hag : agreeN o c = true) (hw : wqE P S c a.val h K D) :
    ∃ N r, evOperD P (clN P S N) o a h = .ok r ∧ ∀ x ∈ r, AftOp n rd o a K D x := by
  have hd' : dstOk a.n o.dst = true := by rw [hk.n]; exact hd
  have hval : ∀ v, (a.put o.dst v).val = upd a.val o.dst v := fun v => a.put_val _ _ hd'
  have hds : ∀ v, (a.put o.dst v).ds = a.ds := fun v => (a.put_same _ _).2.1
  have aft : ∀ v h', K v h' → AftOp n rd o a K D (putD a o.dst (v, h')) := fun v h' k => by
    simp only [putD, forceV_eq]
    exact ⟨hk.put _ _, .inl ⟨v, hval v, hds v, k⟩⟩
  have hstuck : ∀ c', c' = stuckOp → nextC c' = none → ¬ wqR P S (evS P c' a.val h) K D := by
    rintro _ rfl _ hw
    exact hw.elim
  unfold evOperD
  cases hno : nextOf o.op with
  | some x =>
    have hop := nextOf_ok hno
    have hcomp : comp P o = with1 P x fun a => .ok (.next a false) := by simp only [comp, hop]
    simp only
    unfold compOr at hc'
    rw [hcomp] at hc'
    unfold with1 at hc'
    cases hx : cO P x with
    | error e =>
      rw [hx] at hc'
      simp only at hc'
      subst hc'
      exact hw.elim
    | ok ca =>
      rw [hx] at hc'
      simp only at hc'
      subst hc'
      simp only [wqE, nextC] at hw
      simp only [evNextD, CO.ev_eq]
      unfold wqNext at hw
      split at hw
      · rename_i l hl
        simp only [hl]
        refine ⟨0, _, rfl, fun y hy => ?_⟩
        obtain ⟨z, hz, rfl⟩ := List.mem_map.1 hy
        exact aft _ _ (hw z hz)
      · exact hw.elim
  | none =>
    unfold agreeN at hag
    rw [hno] at hag
    simp only at hag
    unfold wqE at hw
    split at hw
    · rename_i it hit; rw [hit] at hag; cases hag
    · simp only
      have hc : comp P o = .ok c := by
        unfold compOr at hc'
        split at hc'
        · rename_i c1 e; rw [e, hc']
        · subst hc'; exact hw.elim
      simp only [hc, evC_eq]
      generalize hres : evS P c a.val h = res at hw
      unfold wqR at hw
      unfold evCD
      cases res with
      | error e => exact hw.elim
      | ok p =>
        obtain ⟨m, h1⟩ := p
        cases m with
        | value v => exact ⟨0, _, rfl, fun x hx => by rw [List.mem_singleton.1 hx]; exact aft _ _ hw⟩
        | skip => exact ⟨0, _, rfl, fun x hx => by rw [List.mem_singleton.1 hx]; exact ⟨hk.put _ _, .inl ⟨_, hval _, hds _, hw⟩⟩⟩
        | enter f args =>
          obtain ⟨N, l, e, k⟩ := hw
          refine ⟨N, l.map (putD a o.dst), by simp only [e], fun x hx => ?_⟩
          obtain ⟨z, hz, rfl⟩ := List.mem_map.1 hx
          exact aft _ _ (k z hz)
        | yield f args =>
          obtain ⟨N, l, e, k⟩ := hw
          refine ⟨N, l.map (putD a o.dst), by simp only [e], fun x hx => ?_⟩
          obtain ⟨z, hz, rfl⟩ := List.mem_map.1 hx
          exact aft _ _ (k z hz)
        | defer d =>
          have hr : a.rd = false := by
            cases e : a.rd with
            | false => rfl
            | true =>
              have := hrd (hk.rd.symm.trans e)
              rw [isDefer_of hres] at this
              cases this
          refine ⟨0, [((⟨a.n, a.ts, d :: a.ds, a.rd⟩ : AAct).put o.dst aundef, h1)], by simp only [hr, cond_false], fun x hx => ?_⟩
          rw [List.mem_singleton.1 hx]
          refine ⟨Keep.put (a := ⟨a.n, a.ts, d :: a.ds, a.rd⟩) ⟨hk.n, hk.rd⟩ _ _, .inr ⟨d, ?_, ?_, hw⟩⟩
          · exact AAct.put_val ⟨a.n, a.ts, d :: a.ds, a.rd⟩ o.dst aundef hd'
          · exact (AAct.put_same _ _ _).2.1

theorem rowsD_ok {n : Nat} {rd : Bool} {ops : Array Oper} : ∀ (l : List Oper) (l' : List CEnt), compRowsD P n rd ops l = .ok l' → ∀ {Q : Post} {a : AAct} {h : AH}, Keep n rd a → wqOps P S l' Q a.val a.ds h →
    ∃ N r, evOpsD P (clN P S N) ops l a h = .ok r ∧ ∀ x ∈ r, Keep n rd x.1 ∧ Q .normal x.1.val x.1.ds x.2
  | [], l', hc, Q, a, h, hk, hw => by
    cases hc
    exact ⟨0, _, rfl, fun x hx => by rw [List.mem_singleton.1 hx]; exact ⟨hk, hw⟩⟩
  | o :: l, l', hc, Q, a, h, hk, hw => by
    simp only [compRowsD] at hc
    split at hc
    · rename_i r hr
      cases hag : agreeN o r.c with
      | false => rw [hag] at hc; cases hc
      | true =>
        rw [hag] at hc
        simp only [cond_true] at hc
        split at hc
        · rename_i l2 hl2
          cases hc
          obtain ⟨h1, h2, h3, h4, h5⟩ := compRow_ok hr
          have goOn : wqE P S r.c a.val h (fun v h => wqOps P S l2 Q (upd a.val r.d v) a.ds h) (fun df h => wqOps P S l2 Q (upd a.val r.d aundef) (df :: a.ds) h) → wantedA ops o a = .ok true →
              ∃ N s, evOpsD P (clN P S N) ops (o :: l) a h = .ok s ∧ ∀ x ∈ s, Keep n rd x.1 ∧ Q .normal x.1.val x.1.ds x.2 := by
            intro hw hwant
            rw [h3] at hw
            obtain ⟨N1, s1, e1, k1⟩ := operD_ok h1 hk h4 h5 hag hw
            obtain ⟨N2, s2, e2, k2⟩ := bindD_ok (f := fun N (x : AAct × AH) => evOpsD P (clN P S N) ops l x.1 x.2) (fun N N' hn x r hr => evOpsD_mono (clN_mono hn) l hr)
              (Φ := fun x => Keep n rd x.1 ∧ Q .normal x.1.val x.1.ds x.2) s1 fun x hx => by
                obtain ⟨b1, b2⟩ := k1 x hx
                refine rowsD_ok l l2 hl2 b1 ?_
                rcases b2 with ⟨v, c1, c2, c3⟩ | ⟨df, c1, c2, c3⟩
                · rw [c1, c2]; exact c3
                · rw [c1, c2]; exact c3
            refine ⟨max N1 N2, s2, ?_, k2⟩
            simp only [evOpsD, hwant, evOperD_mono (clN_mono (Nat.le_max_left N1 N2)) e1]
            exact bindD_mono (fun x r hr => evOpsD_mono (clN_mono (Nat.le_max_right N1 N2)) l hr) e2
          rcases guard_wanted (a := a) h2 with ⟨g, hwant⟩ | ⟨t, w, g, hwant⟩
          · simp only [wqOps, g] at hw
            exact goOn hw hwant
          · simp only [wqOps, g] at hw
            rcases wpGu_cases hw with ⟨b, hb, hbw, hw⟩ | ⟨hno, hw⟩
            · rw [hb] at hwant
              exact goOn hw (by rw [hwant]; simp [gw, hbw])
            · rw [h3] at hw
              have hv := AAct.put_val a o.dst aundef (by rw [hk.n]; exact h4)
              have hd := (a.put_same o.dst aundef).2.1
              obtain ⟨N2, s2, e2, k2⟩ := rowsD_ok l l2 hl2 (hk.put o.dst aundef) (by rw [hv, hd]; exact hw)
              refine ⟨N2, s2, ?_, k2⟩
              simp only [evOpsD, hwant.trans hno]
              exact e2
        · cases hc
    · cases hc

/-- after a piece of code -/
abbrev AftC (n : Nat) (rd : Bool) (Q : Post) (y : AX × AAct × AH) : Prop := ∃ x : WX, y.1 = x.ax ∧ Keep n rd y.2.1 ∧ Q x y.2.1.val y.2.1.ds y.2.2

theorem loopD_ok {n : Nat} {rd : Bool} {c : Code} {cc : DC}
    (ih : ∀ {Q : Post} {a : AAct} {h : AH}, Keep n rd a → wqC P S cc Q a.val a.ds h → ∃ N r, evCodeD P (clN P S N) N c a h = .ok r ∧ ∀ y ∈ r, AftC n rd Q y)
    {I : Inv} {Q : Post} (hI : ∀ k σ ds h, I k σ ds h → wqC P S cc (Kloop I k Q) σ ds h) : ∀ (k : Nat) (a : AAct) (h : AH), Keep n rd a → I k a.val a.ds h →
    ∃ N r, (∀ lf, N ≤ lf → evLoopD (evCodeD P (clN P S lf) lf c) lf a h = .ok r) ∧ ∀ y ∈ r, AftC n rd Q y := by
  intro k
  induction k using Nat.strongRecOn with
  | _ k ihk =>
    intro a h hk hi
    obtain ⟨N, r, e, hr⟩ := ih hk (hI k _ _ _ hi)
    have hbody : ∀ lf, N ≤ lf → evCodeD P (clN P S lf) lf c a h = .ok r := fun lf hl => evCodeD_mono (clN_mono hl) hl _ e
    obtain ⟨N2, s, e2, hs⟩ := bindD_ok (α := AX × AAct × AH) (f := fun N (x : AX × AAct × AH) => match x.1 with | .normal => evLoopD (evCodeD P (clN P S N) N c) N x.2.1 x.2.2 | _ => .ok [x])
      (fun N N' hn x r hr => by
        split at hr
        · exact evLoopD_mono (fun a h r hr => evCodeD_mono (clN_mono hn) hn _ hr) hn hr
        · exact hr) (Φ := AftC n rd Q) r fun y hy => by
          obtain ⟨x, b1, b2, b3⟩ := hr y hy
          cases x with
          | normal =>
            obtain ⟨k', hlt, hi'⟩ := b3
            obtain ⟨N3, s3, e3, h3⟩ := ihk k' hlt _ _ b2 hi'
            refine ⟨N3, s3, ?_, h3⟩
            rw [b1]
            exact e3 N3 (Nat.le_refl _)
          | exit i => exact ⟨0, [y], by rw [b1]; rfl, fun z hz => by rw [List.mem_singleton.1 hz]; exact ⟨.exit i, b1, b2, b3⟩⟩
          | ret => exact ⟨0, [y], by rw [b1]; rfl, fun z hz => by rw [List.mem_singleton.1 hz]; exact ⟨.ret, b1, b2, b3⟩⟩
    refine ⟨max N N2 + 1, s, fun lf hl => ?_, hs⟩
    obtain ⟨m, rfl⟩ : ∃ m, lf = m + 1 := ⟨lf - 1, by omega⟩
    simp only [evLoopD]
    rw [hbody (m + 1) (by omega)]
    have h2 : N2 ≤ m := by omega
    refine bindD_mono (fun x r hr => ?_) e2
    obtain ⟨x1, x2⟩ := x
    cases x1 with
    | normal => exact evLoopD_mono (fun a h r hr => evCodeD_mono (clN_mono (Nat.le_succ_of_le h2)) (Nat.le_succ_of_le h2) _ hr) h2 hr
    | _ => exact hr

theorem codeD_ok {n : Nat} {rd : Bool} : ∀ (c : Code) (cc : DC), compD P n rd c = .ok cc → ∀ {Q : Post} {a : AAct} {h : AH}, Keep n rd a → wqC P S cc Q a.val a.ds h →
    ∃ N r, evCodeD P (clN P S N) N c a h = .ok r ∧ ∀ y ∈ r, AftC n rd Q y
  | .skip, cc, hc, Q, a, h, hk, hw => by cases hc; exact ⟨0, _, rfl, fun y hy => by rw [List.mem_singleton.1 hy]; exact ⟨.normal, rfl, hk, hw⟩⟩
  | .label _, cc, hc, Q, a, h, hk, hw => by cases hc; exact ⟨0, _, rfl, fun y hy => by rw [List.mem_singleton.1 hy]; exact ⟨.normal, rfl, hk, hw⟩⟩
  | .region _ ops draw, cc, hc, Q, a, h, hk, hw => by
    simp only [compD] at hc
    cases draw with
    | true =>
      simp only [cond_true] at hc
      split at hc
      · rename_i l hl
        split at hc
        · rename_i l2 hl2
          cases hc
          obtain ⟨N, a', h', e, k, q⟩ := ents_ok l l2 hl2 hk hw
          refine ⟨N, [(.normal, a', h')], ?_, fun y hy => by rw [List.mem_singleton.1 hy]; exact ⟨.normal, rfl, k, q⟩⟩
          have : evDraw P (cl P S N) ops a h = .ok (a', h') := by simp only [evDraw, hl, e]
          simp only [evCodeD, evDraw_mono (DSub.one (evCall_sub (S := S) (lf := N) (n := N))) this, clN]
        · cases hc
      · cases hc
    | false =>
      simp only [cond_false] at hc
      split at hc
      · rename_i l hl
        cases hc
        obtain ⟨N, r, e, k⟩ := rowsD_ok _ l hl hk hw
        refine ⟨N, r.map fun x => (.normal, x.1, x.2), by simp only [evCodeD, e], fun y hy => ?_⟩
        obtain ⟨z, hz, rfl⟩ := List.mem_map.1 hy
        exact ⟨.normal, rfl, k z hz⟩
      · cases hc
  | .seq x y, cc, hc, Q, a, h, hk, hw => by
    simp only [compD] at hc
    split at hc
    · rename_i c1 hx
      split at hc
      · rename_i c2 hy
        cases hc
        simp only [wqC] at hw
        obtain ⟨N1, r1, e1, k1⟩ := codeD_ok x c1 hx hk hw
        obtain ⟨N2, r2, e2, k2⟩ := bindD_ok (α := AX × AAct × AH) (f := fun N (x : AX × AAct × AH) => match x.1 with | .normal => evCodeD P (clN P S N) N y x.2.1 x.2.2 | _ => .ok [x])
          (fun N N' hn x r hr => by
            split at hr
            · exact evCodeD_mono (clN_mono hn) hn _ hr
            · exact hr) (Φ := AftC n rd Q) r1 fun z hz => by
              obtain ⟨q, b1, b2, b3⟩ := k1 z hz
              cases q with
              | normal =>
                obtain ⟨N3, r3, e3, k3⟩ := codeD_ok y c2 hy b2 b3
                exact ⟨N3, r3, by rw [b1]; exact e3, k3⟩
              | exit i => exact ⟨0, [z], by rw [b1]; rfl, fun u hu => by rw [List.mem_singleton.1 hu]; exact ⟨.exit i, b1, b2, b3⟩⟩
              | ret => exact ⟨0, [z], by rw [b1]; rfl, fun u hu => by rw [List.mem_singleton.1 hu]; exact ⟨.ret, b1, b2, b3⟩⟩
        refine ⟨max N1 N2, r2, ?_, k2⟩
        simp only [evCodeD]
        rw [evCodeD_mono (clN_mono (Nat.le_max_left N1 N2)) (Nat.le_max_left N1 N2) _ e1]
        refine bindD_mono (fun x r hr => ?_) e2
        obtain ⟨x1, x2⟩ := x
        cases x1 with
        | normal => exact evCodeD_mono (clN_mono (Nat.le_max_right N1 N2)) (Nat.le_max_right N1 N2) _ hr
        | _ => exact hr
      · cases hc
    · cases hc
  | .cond c x y, cc, hc, Q, a, h, hk, hw => by
    simp only [compD] at hc
    split at hc
    · rename_i c1 hc1
      split at hc
      · rename_i c2 hx
        split at hc
        · rename_i c3 hy
          cases hc
          simp only [wqC, wpG] at hw
          split at hw
          · rename_i b hb
            cases b with
            | true =>
              simp only [if_pos] at hw
              obtain ⟨N, r, e1, k1⟩ := codeD_ok x c2 hx hk hw
              exact ⟨N, r, by simp only [evCodeD, hc1, CO.ev_eq, hb]; exact e1, k1⟩
            | false =>
              simp only [Bool.false_eq_true, if_false] at hw
              obtain ⟨N, r, e1, k1⟩ := codeD_ok y c3 hy hk hw
              exact ⟨N, r, by simp only [evCodeD, hc1, CO.ev_eq, hb]; exact e1, k1⟩
          · exact hw.elim
        · cases hc
      · cases hc
    · cases hc
  | .block id c, cc, hc, Q, a, h, hk, hw => by
    simp only [compD] at hc
    split at hc
    · rename_i c1 hc1
      cases hc
      obtain ⟨N, r, e1, k1⟩ := codeD_ok c c1 hc1 hk hw
      refine ⟨N, r.map fun x => match x.1 with | .exit i => bif Nat.beq i id then (.normal, x.2.1, x.2.2) else x | _ => x, by simp only [evCodeD, e1]; rfl, fun y hy => ?_⟩
      obtain ⟨z, hz, rfl⟩ := List.mem_map.1 hy
      obtain ⟨x, b1, b2, b3⟩ := k1 z hz
      cases x with
      | normal => rw [b1]; exact ⟨.normal, b1, b2, b3⟩
      | ret => rw [b1]; exact ⟨.ret, b1, b2, b3⟩
      | exit i =>
        rw [b1]
        simp only [WX.ax, Kblk] at b3 ⊢
        by_cases hi : i = id
        · rw [if_pos hi] at b3
          simp only [PT.beqT hi, cond_true]
          exact ⟨.normal, rfl, b2, b3⟩
        · rw [if_neg hi] at b3
          simp only [PT.beqF hi, cond_false]
          exact ⟨.exit i, b1, b2, b3⟩
    · cases hc
  | .loop c, cc, hc, Q, a, h, hk, hw => by
    simp only [compD] at hc
    split at hc
    · rename_i c1 hc1
      cases hc
      obtain ⟨I, k, hi, hI⟩ := hw
      obtain ⟨N, r, e, hr⟩ := loopD_ok (fun hk hw => codeD_ok c c1 hc1 hk hw) hI k a h hk hi
      exact ⟨N, r, by simp only [evCodeD]; exact e N (Nat.le_refl _), hr⟩
    · cases hc
  | .exit id, cc, hc, Q, a, h, hk, hw => by cases hc; exact ⟨0, _, rfl, fun y hy => by rw [List.mem_singleton.1 hy]; exact ⟨.exit id, rfl, hk, hw⟩⟩
  | .ret, cc, hc, Q, a, h, hk, hw => by cases hc; exact ⟨0, _, rfl, fun y hy => by rw [List.mem_singleton.1 hy]; exact ⟨.ret, rfl, hk, hw⟩⟩
  | .scope c, cc, hc, Q, a, h, hk, hw => by
    obtain ⟨N, r, e, k⟩ := codeD_ok c cc hc hk hw
    exact ⟨N, r, by simp only [evCodeD, e], k⟩
  | .rangeFunc f params assign body, cc, hc, Q, a, h, hk, hw => by
    simp only [compD] at hc
    split at hc
    · rename_i f1 hf
      cases rd with
      | true => cases hc
      | false =>
        cases hc
        simp only [wqC, wqGo] at hw
        split at hw
        · rename_i g first captured hfe
          obtain ⟨N, l, e, kl⟩ := hw a.ts (fun i => rfl)
          rw [← hk.n] at e
          obtain ⟨N2, r2, e2, k2⟩ := bindD_ok (f := fun _ (x : AV × AH) => one1 (endGo h.next a x.2)) (fun _ _ _ x r hr => hr) (Φ := AftC n false Q) l fun x hx => by
            obtain ⟨r, hr, hst, hp⟩ := kl x hx
            have key : ∀ q : WX, one1 (endGo h.next a x.2) = .ok [(q.ax, ⟨a.n, a.ts, .collected h.next :: a.ds, a.rd⟩, x.2.set (h.next + 1) (.loop { r with state := .exhausted }))] →
                Q q a.val (.collected h.next :: a.ds) (x.2.set (h.next + 1) (.loop { r with state := .exhausted })) → ∃ (_ : Nat) (r : List (AX × AAct × AH)), one1 (endGo h.next a x.2) = .ok r ∧ ∀ y ∈ r, AftC n false Q y := by
              intro q h1 h2
              exact ⟨0, _, h1, fun y hy => by rw [List.mem_singleton.1 hy]; exact ⟨q, rfl, ⟨hk.n, hk.rd⟩, h2⟩⟩
            split at hp
            · rename_i hpe; refine key .normal ?_ hp; unfold endGo; simp only [hr, hpe]; cases hst' : r.state <;> first | exact absurd hst' hst | rfl
            · rename_i hpe; refine key .ret ?_ hp; unfold endGo; simp only [hr, hpe]; cases hst' : r.state <;> first | exact absurd hst' hst | rfl
            · rename_i id hpe; refine key (.exit id) ?_ hp; unfold endGo; simp only [hr, hpe]; cases hst' : r.state <;> first | exact absurd hst' hst | rfl
            · exact hp.elim
          refine ⟨N, r2, ?_, k2⟩
          simp only [evCodeD, hf, CO.ev_eq, hfe, opGoD, hk.rd, cond_false, forceN_eq, e]
          exact e2
        · exact hw.elim
    · cases hc
  | .goto _, cc, hc, Q, a, h, hk, hw => by cases hc
  | .refuse _, cc, hc, Q, a, h, hk, hw => by cases hc

/-! ### calls -/

variable (P S) in
/-- the deferred calls, and then K -/
def DefersN : List ADef → AH → (AH → Prop) → Prop
  | [], h, K => K h
  | .collected id :: l, h, K => h.get id = some (.deferred (some [])) ∧ DefersN l (h.set id (.deferred none)) K
  | .call fn captured args :: l, h, K => ∃ f args' h1, callFn fn captured args h = .ok (.enter f args', h1) ∧ S f = none ∧ EvN P S (.fn f) args' h1 fun _ h2 => DefersN l h2 K

theorem defersN_ok : ∀ (ds : List ADef) (h : AH) (K : AH → Prop), DefersN P S ds h K → ∃ N r, runDefersD (noSumD S (clN P S N)) ds h = .ok r ∧ ∀ h' ∈ r, K h'
  | [], h, K, hk => ⟨0, [h], rfl, fun h' hh => by rw [List.mem_singleton.1 hh]; exact hk⟩
  | .collected id :: l, h, K, hk => by
    obtain ⟨N, r, e, k⟩ := defersN_ok l _ K hk.2
    exact ⟨N, r, by simp only [runDefersD, hk.1, e], k⟩
  | .call fn captured args :: l, h, K, hk => by
    obtain ⟨f, args', h1, e1, hS, N1, r1, e2, hk⟩ := hk
    obtain ⟨N2, r2, e3, k⟩ := bindD_ok (f := fun N (x : AV × AH) => runDefersD (noSumD S (clN P S N)) l x.2) (fun N N' hn x r hr => runDefersD_mono (noSumD_mono (clN_mono hn)) l hr) (Φ := K) r1 fun x hx => defersN_ok l x.2 K (hk x hx)
    refine ⟨max N1 N2, r2, ?_, k⟩
    have e4 : noSumD S (clN P S (max N1 N2)) (.fn f) args' h1 = .ok r1 := by
      simp only [noSumD, hS, clN_mono (Nat.le_max_left N1 N2) _ _ _ _ e2]
    simp only [runDefersD, e1, e4]
    exact bindD_mono (fun x r hr => runDefersD_mono (noSumD_mono (clN_mono (Nat.le_max_right N1 N2))) l hr) e3

variable (P S) in
/-- after a function's body -/
def KfinN (res : List CRes) (K : AV → AH → Prop) : Post := fun x σ ds h => match x with
  | .exit _ => False
  | _ => DefersN P S ds h fun h => ∃ l, resS h σ res = .ok l ∧ K (oneOf l) h

theorem compFD_ok {f : FuncId} {cf : DF} (h : compFD P f = .ok cf) : ∃ fn c, P.funcs[f]? = some fn ∧ fn.body = some c ∧ fn.ntmps = cf.n ∧ compD P cf.n false c = .ok cf.c ∧ compRes P fn.results.toList = .ok cf.res := by
  unfold compFD at h
  split at h
  · rename_i fn hf
    split at h
    · rename_i c hb
      split at h
      · rename_i cc hcc
        split at h
        · rename_i r hr
          cases h
          exact ⟨fn, c, hf, hb, rfl, hcc, hr⟩
        · cases h
      · cases h
    · cases h
  · cases h

/-- a function's call, by its body -/
theorem evN_fn {f : FuncId} {cf : DF} {args : List AV} {h : AH} {K : AV → AH → Prop} (hc : compFD P f = .ok cf) (hS : S f = none) (hn : Nat.ble args.length cf.n = true)
    (hw : wqC P S cf.c (KfinN P S cf.res K) (argS args) [] h) : EvN P S (.fn f) args h K := by
  obtain ⟨fn, c, hf, hb, hnt, hcc, hr⟩ := compFD_ok hc
  have hval : (⟨cf.n, laid args 0 .leaf, [], false⟩ : AAct).val = argS args := by
    funext i
    simp only [AAct.val, laid_get, Nat.zero_le, true_and, Nat.zero_add, Nat.sub_zero, argS]
    by_cases hi : i < args.length
    · rw [if_pos hi]; rfl
    · rw [if_neg hi, List.getElem?_eq_none (by omega)]; rfl
  obtain ⟨N, r, e, k⟩ := codeD_ok c cf.c hcc (a := ⟨cf.n, laid args 0 .leaf, [], false⟩) ⟨rfl, rfl⟩ (by rw [hval]; exact hw)
  obtain ⟨N2, r2, e2, k2⟩ := bindD_ok (f := fun N (x : AX × AAct × AH) => leaveD P (noSumD S (clN P S N)) fn x) (Φ := fun x : AV × AH => K x.1 x.2) (fun N N' hn x r hr => by
      unfold leaveD at hr ⊢
      split at hr
      · split at hr
        · rename_i hd; simp only [runDefersD_mono (noSumD_mono (clN_mono hn)) _ hd]; exact hr
        · cases hr
      · split at hr
        · rename_i hd; simp only [runDefersD_mono (noSumD_mono (clN_mono hn)) _ hd]; exact hr
        · cases hr
      · cases hr) r fun y hy => by
        obtain ⟨x, b1, b2, b3⟩ := k y hy
        have main : (x.ax = .normal ∨ x.ax = .ret) → DefersN P S y.2.1.ds y.2.2 (fun h => ∃ l, resS h y.2.1.val cf.res = .ok l ∧ K (oneOf l) h) → ∃ N r, leaveD P (noSumD S (clN P S N)) fn y = .ok r ∧ ∀ z ∈ r, K z.1 z.2 := by
          intro hx hd
          obtain ⟨N3, r3, e3, k3⟩ := defersN_ok _ _ _ hd
          obtain ⟨_, r4, e4, k4⟩ := bindD_ok (f := fun _ h => match resultsA P h y.2.1 fn.results.toList with
            | .ok l => (.ok [(oneOf l, h)] : RL (AV × AH))
            | .error e => .error (fn.name ++ ": " ++ e)) (Φ := fun x : AV × AH => K x.1 x.2) (fun _ _ _ _ _ hr => hr) r3 fun h' hh => by
              obtain ⟨l, hl, hk⟩ := k3 h' hh
              exact ⟨0, [(oneOf l, h')], by simp only [res_ok _ _ hr l hl], fun z hz => by rw [List.mem_singleton.1 hz]; exact hk⟩
          refine ⟨N3, r4, ?_, k4⟩
          unfold leaveD
          rw [b1]
          rcases hx with hx | hx <;> simp only [hx, e3] <;> exact e4
        cases x with
        | normal => exact main (.inl rfl) b3
        | ret => exact main (.inr rfl) b3
        | exit i => exact b3.elim
  refine ⟨max N N2 + 1, r2, ?_, k2⟩
  have hle : N ≤ max N N2 + 1 := Nat.le_trans (Nat.le_max_left N N2) (Nat.le_succ _)
  have hcall : CallDLe (clN P S N) (evCallN P S (max N N2 + 1) (max N N2)) := evCallN_mono hle (Nat.le_max_left N N2)
  have hcall2 : CallDLe (clN P S N2) (evCallN P S (max N N2 + 1) (max N N2)) := evCallN_mono (Nat.le_trans (Nat.le_max_right N N2) (Nat.le_succ _)) (Nat.le_max_right N N2)
  unfold clN evCallN
  simp only [hS, hf, hb, hnt, hn, cond_true]
  rw [evCodeD_mono hcall hle c e]
  simp only [finishD]
  refine bindD_mono (fun x r hr => ?_) e2
  unfold leaveD at hr ⊢
  split at hr
  · split at hr
    · rename_i hd; simp only [runDefersD_mono (noSumD_mono hcall2) _ hd]; exact hr
    · cases hr
  · split at hr
    · rename_i hd; simp only [runDefersD_mono (noSumD_mono hcall2) _ hd]; exact hr
    · cases hr
  · cases hr

variable (P S) in
/-- after a round's words are laid -/
def KassN (l : Nat) (cb : DC) (K : AV → AH → Prop) : Post := fun x σ ds h => match x with
  | .normal => ∃ q, h.get l = some (.loop q) ∧ q.state = .ready ∧ wqC P S cb (Kend l K) σ ds (h.set l (.loop { q with state := .busy }))
  | _ => False

theorem evN_yield {l : Nat} {r : ALoop} {ca cb : DC} {args : List AV} {h : AH} {K : AV → AH → Prop} (hg : h.get l = some (.loop r)) (hn : args.length = r.params.size)
    (hp : r.params.toList.all (fun t => Nat.blt t r.n) = true) (ha : compD P r.n true r.assign = .ok ca) (hb : compD P r.n true r.body = .ok cb)
    (hw : wqC P S ca (KassN P S l cb K) (setS r.params.toList args (valT r.tmps)) [] h) : EvN P S (.yield l) args h K := by
  obtain ⟨h1, h2, h3⟩ := setS_ok r.params.toList args ⟨r.n, r.tmps, [], true⟩ ⟨rfl, rfl⟩ hp
  have hv : (⟨r.n, r.tmps, [], true⟩ : AAct).val = valT r.tmps := rfl
  rw [hv] at h1
  obtain ⟨N, s, e, k⟩ := codeD_ok r.assign ca ha (a := setParams r.params.toList args ⟨r.n, r.tmps, [], true⟩) h2 (by rw [h1, h3]; exact hw)
  have mono : ∀ N N', N ≤ N' → ∀ x t, roundBodyD P (clN P S N) N l r x = .ok t → roundBodyD P (clN P S N') N' l r x = .ok t := by
    intro N N' hn x t hr
    unfold roundBodyD at hr ⊢
    split at hr
    · split at hr
      · split at hr
        · split at hr
          · rename_i hbody; simp only [evCodeD_mono (clN_mono hn) hn _ hbody]; exact hr
          · cases hr
        · cases hr
      · cases hr
    · cases hr
  obtain ⟨N2, s2, e2, k2⟩ := bindD_ok (f := fun N (x : AX × AAct × AH) => roundBodyD P (clN P S N) N l r x) (Φ := fun x : AV × AH => K x.1 x.2) mono s fun y hy => by
    obtain ⟨x, b1, b2, b3⟩ := k y hy
    cases x with
    | exit => exact b3.elim
    | ret => exact b3.elim
    | normal =>
      obtain ⟨q', hq1, hq2, hq3⟩ := b3
      obtain ⟨N3, s3, e3, k3⟩ := codeD_ok r.body cb hb b2 hq3
      obtain ⟨_, s4, e4, k4⟩ := bindD_ok (f := fun _ (y : AX × AAct × AH) => one1 (endRound l (.ok y))) (Φ := fun x : AV × AH => K x.1 x.2) (fun _ _ _ _ _ hr => hr) s3 fun z hz => by
        obtain ⟨x, c1, c2, hds, r2, hr2, hfin⟩ := k3 z hz
        obtain ⟨z1, z2, z3⟩ := z
        simp only at c1 c2 hds hr2 hfin
        subst c1
        cases x with
        | normal => exact ⟨0, _, by simp only [endRound, hds, hr2, WX.ax]; rfl, fun u hu => by rw [List.mem_singleton.1 hu]; exact hfin⟩
        | ret => exact ⟨0, _, by simp only [endRound, hds, hr2, WX.ax]; rfl, fun u hu => by rw [List.mem_singleton.1 hu]; exact hfin⟩
        | exit i => exact ⟨0, _, by simp only [endRound, hds, hr2, WX.ax]; rfl, fun u hu => by rw [List.mem_singleton.1 hu]; exact hfin⟩
      refine ⟨N3, s4, ?_, k4⟩
      unfold roundBodyD
      rw [b1]
      simp only [WX.ax, hq1, hq2, e3]
      exact e4
  refine ⟨max N N2 + 1, s2, ?_, k2⟩
  have hle : N ≤ max N N2 + 1 := Nat.le_trans (Nat.le_max_left N N2) (Nat.le_succ _)
  have hle2 : N2 ≤ max N N2 + 1 := Nat.le_trans (Nat.le_max_right N N2) (Nat.le_succ _)
  have hcall : CallDLe (clN P S N) (evCallN P S (max N N2 + 1) (max N N2)) := evCallN_mono hle (Nat.le_max_left N N2)
  have hcall2 : CallDLe (clN P S N2) (evCallN P S (max N N2 + 1) (max N N2)) := evCallN_mono hle2 (Nat.le_max_right N N2)
  unfold clN evCallN
  simp only [hg, aRoundD, PT.beqT hn, cond_true]
  rw [evCodeD_mono hcall hle _ e]
  refine bindD_mono (fun x t hr => ?_) e2
  unfold roundBodyD at hr ⊢
  split at hr
  · split at hr
    · split at hr
      · split at hr
        · rename_i hbody; simp only [evCodeD_mono hcall2 hle2 _ hbody]; exact hr
        · cases hr
      · cases hr
    · cases hr
  · cases hr

end
end Go.Dr

/-
  Steps over code as read, in all its ends: equations for simp, and rules.
-/
namespace Go.Dr
open Go.RowKit

section
variable {P : Program} {S : Sums} {Q : Post} {σ : Sg} {ds : List ADef} {h : AH}

/-! ### pieces of code -/

@[simp] theorem wqC_skip : wqC P S .skip Q σ ds h = Q .normal σ ds h := nr rfl
@[simp] theorem wqC_ops (l : List CEnt) : wqC P S (.ops l) Q σ ds h = wqOps P S l Q σ ds h := nr rfl
@[simp] theorem wqC_drawn (l : List CEnt) : wqC P S (.drawn l) Q σ ds h = wpOps P S l Q σ ds h := nr rfl
@[simp] theorem wqC_seq (x y : DC) : wqC P S (.seq x y) Q σ ds h = wqC P S x (KseqQ P S y Q) σ ds h := nr rfl
@[simp] theorem wqC_block (id : Nat) (c : DC) : wqC P S (.block id c) Q σ ds h = wqC P S c (Kblk id Q) σ ds h := nr rfl
@[simp] theorem wqC_exit (id : Nat) : wqC P S (.exit id) Q σ ds h = Q (.exit id) σ ds h := nr rfl
@[simp] theorem wqC_ret : wqC P S .ret Q σ ds h = Q .ret σ ds h := nr rfl

variable (P S) in
def wqB (v : AV) (x y : DC) (Q : Post) (σ : Sg) (ds : List ADef) (h : AH) : Prop := wpG v true (wqC P S x Q σ ds h) (wqC P S y Q σ ds h)
@[simp] theorem wqC_cond (c : CO) (x y : DC) : wqC P S (.cond c x y) Q σ ds h = wqB P S (c.evS σ) x y Q σ ds h := nr rfl
@[simp] theorem wqB_true (x y : DC) : wqB P S (.bool true) x y Q σ ds h = wqC P S x Q σ ds h := nr rfl
@[simp] theorem wqB_false (x y : DC) : wqB P S (.bool false) x y Q σ ds h = wqC P S y Q σ ds h := nr rfl
theorem wqB_dec {p : Prop} [Decidable p] {x y : DC} (hx : p → wqC P S x Q σ ds h) (hy : ¬ p → wqC P S y Q σ ds h) : wqB P S (.bool (decide p)) x y Q σ ds h := by
  by_cases hp : p
  · simp only [hp, decide_true, wqB_true]; exact hx hp
  · simp only [hp, decide_false, wqB_false]; exact hy hp
theorem wqB_bool {b : Bool} {x y : DC} (hx : b = true → wqC P S x Q σ ds h) (hy : b = false → wqC P S y Q σ ds h) : wqB P S (.bool b) x y Q σ ds h := by
  cases b
  · exact hy rfl
  · exact hx rfl

@[simp] theorem KseqQ_normal (y : DC) : KseqQ P S y Q .normal σ ds h = wqC P S y Q σ ds h := nr rfl
@[simp] theorem KseqQ_exit (y : DC) (i : Nat) : KseqQ P S y Q (.exit i) σ ds h = Q (.exit i) σ ds h := nr rfl
@[simp] theorem KseqQ_ret (y : DC) : KseqQ P S y Q .ret σ ds h = Q .ret σ ds h := nr rfl

theorem q_loop {c : DC} (I : Inv) (k : Nat) (h0 : I k σ ds h) (hI : ∀ k σ ds h, I k σ ds h → wqC P S c (Kloop I k Q) σ ds h) : wqC P S (.loop c) Q σ ds h := ⟨I, k, h0, hI⟩

/-! ### consequence -/

theorem wqR_mono {r : RN} {K K' : AV → AH → Prop} {D D' : ADef → AH → Prop} (hw : wqR P S r K D) (hk : ∀ v h, K v h → K' v h) (hd : ∀ d h, D d h → D' d h) : wqR P S r K' D' := by
  unfold wqR at hw ⊢
  split at hw
  · split at hw
    · exact hk _ _ hw
    · exact hk _ _ hw
    · exact hw.mono hk
    · exact hw.mono hk
    · exact hd _ _ hw
  · exact hw



theorem wqE_mono {c : COp} {K K' : AV → AH → Prop} {D D' : ADef → AH → Prop} (hw : wqE P S c σ h K D) (hk : ∀ v h, K v h → K' v h) (hd : ∀ d h, D d h → D' d h) : wqE P S c σ h K' D' := by
  unfold wqE at hw ⊢
  split at hw
  · unfold wqNext at hw ⊢
    split at hw
    · exact fun x hx => hk _ _ (hw x hx)
    · exact hw
  · exact wqR_mono hw hk hd

theorem wqOps_mono {Q Q' : Post} (hq : ∀ σ ds h, Q .normal σ ds h → Q' .normal σ ds h) : ∀ (l : List CEnt) {σ : Sg} {ds : List ADef} {h : AH}, wqOps P S l Q σ ds h → wqOps P S l Q' σ ds h
  | [], _, _, _, hw => hq _ _ _ hw
  | .stage re :: l, _, _, _, hw => hw.elim
  | .row r :: l, σ, ds, h, hw => by
    simp only [wqOps] at hw ⊢
    cases hg : r.g with
    | none => rw [hg] at hw; exact wqE_mono hw (fun v h => wqOps_mono hq l) (fun d h => wqOps_mono hq l)
    | some p => rw [hg] at hw; exact wpGu_mono hw (fun hw => wqE_mono hw (fun v h => wqOps_mono hq l) (fun d h => wqOps_mono hq l)) (wqOps_mono hq l)

theorem q_mono : ∀ {c : DC} {Q Q' : Post} {σ : Sg} {ds : List ADef} {h : AH}, wqC P S c Q σ ds h → (∀ x σ ds h, Q x σ ds h → Q' x σ ds h) → wqC P S c Q' σ ds h
  | .skip, _, _, _, _, _, hw, hq => hq _ _ _ _ hw
  | .ops l, _, _, _, _, _, hw, hq => wqOps_mono (fun _ _ _ => hq _ _ _ _) l hw
  | .drawn l, _, _, _, _, _, hw, hq => wpOps_mono (fun _ _ _ => hq _ _ _ _) l hw
  | .seq x y, Q, Q', _, _, _, hw, hq => q_mono (c := x) hw fun r σ ds h k => by
    cases r with
    | normal => exact q_mono (c := y) k hq
    | exit i => exact hq _ _ _ _ k
    | ret => exact hq _ _ _ _ k
  | .cond c x y, _, _, _, _, _, hw, hq => wpG_mono hw (fun k => q_mono (c := x) k hq) (fun k => q_mono (c := y) k hq)
  | .block id c, Q, Q', _, _, _, hw, hq => q_mono (c := c) hw fun r σ ds h k => by
    cases r with
    | normal => exact hq _ _ _ _ k
    | ret => exact hq _ _ _ _ k
    | exit i =>
      simp only [Kblk] at k ⊢
      by_cases hi : i = id
      · rw [if_pos hi] at k ⊢; exact hq _ _ _ _ k
      · rw [if_neg hi] at k ⊢; exact hq _ _ _ _ k
  | .loop c, Q, Q', _, _, _, ⟨I, k, h0, hI⟩, hq => ⟨I, k, h0, fun k σ ds h hi => q_mono (c := c) (hI k σ ds h hi) fun r σ ds h q => by
    cases r with
    | normal => exact q
    | exit i => exact hq _ _ _ _ q
    | ret => exact hq _ _ _ _ q⟩
  | .exit id, _, _, _, _, _, hw, hq => hq _ _ _ _ hw
  | .ret, _, _, _, _, _, hw, hq => hq _ _ _ _ hw
  | .go n f params assign body, Q, Q', σ, ds, h, hw, hq => by
    simp only [wqC, wqGo] at hw ⊢
    split at hw
    · intro tmps ht
      refine (hw tmps ht).mono fun v h' => ?_
      rintro ⟨r, h1, h2, h3⟩
      refine ⟨r, h1, h2, ?_⟩
      split at h3
      · exact hq _ _ _ _ h3
      · exact hq _ _ _ _ h3
      · exact hq _ _ _ _ h3
      · exact h3
    · exact hw

/-! ### rows -/

variable (P S) in
def wqN (r : RN) (d : Option Nat) (l : List CEnt) (Q : Post) (σ : Sg) (ds : List ADef) : Prop :=
  wqR P S r (fun v h => wqOps P S l Q (upd σ d v) ds h) (fun df h => wqOps P S l Q (upd σ d aundef) (df :: ds) h)
variable (P S) in
def wqGd (v : AV) (w : Bool) (c : COp) (d : Option Nat) (l : List CEnt) (Q : Post) (σ : Sg) (ds : List ADef) (h : AH) : Prop :=
  wpGu v w (wqN P S (evS P c σ h) d l Q σ ds) (wqOps P S l Q (upd σ d aundef) ds h)
variable (P S) in
def KcallQ (d : Option Nat) (l : List CEnt) (Q : Post) (σ : Sg) (ds : List ADef) (v : AV) (h : AH) : Prop := wqOps P S l Q (upd σ d v) ds h

@[simp] theorem wqOps_nil : wqOps P S [] Q σ ds h = Q .normal σ ds h := nr rfl

theorem nextC_some {c : COp} (hc : nextC c = none) (K : AV → AH → Prop) (D : ADef → AH → Prop) : wqE P S c σ h K D = wqR P S (evS P c σ h) K D := by
  unfold wqE; rw [hc]
@[simp] theorem wqOps_row (d : Option Nat) (c : COp) (l : List CEnt) (hc : nextC c = none) : wqOps P S (.row ⟨d, none, c⟩ :: l) Q σ ds h = wqN P S (evS P c σ h) d l Q σ ds := by
  simp only [wqOps, wqN, nextC_some hc]
@[simp] theorem wqOps_next (d : Option Nat) (it : CO) (l : List CEnt) : wqOps P S (.row ⟨d, none, .next it false⟩ :: l) Q σ ds h = wqNext (nextD h (it.evS σ)) (fun v h => wqOps P S l Q (upd σ d v) ds h) := nr rfl
@[simp] theorem wqOps_guard (d : Option Nat) (t : Nat) (w : Bool) (c : COp) (l : List CEnt) (hc : nextC c = none) : wqOps P S (.row ⟨d, some (t, w), c⟩ :: l) Q σ ds h = wqGd P S (σ t) w c d l Q σ ds h := by
  simp only [wqOps, wqGd, wqN, nextC_some hc]
attribute [simp] nextC

@[simp] theorem wqN_value (d : Option Nat) (l : List CEnt) (v : AV) : wqN P S (.ok (.value v, h)) d l Q σ ds = wqOps P S l Q (upd σ d v) ds h := nr rfl
@[simp] theorem wqN_okV (d : Option Nat) (l : List CEnt) (v : AV) : wqN P S (okV v h) d l Q σ ds = wqOps P S l Q (upd σ d v) ds h := nr rfl
@[simp] theorem wqN_keep (d : Option Nat) (l : List CEnt) (v : AV) : wqN P S (keepH h (.ok v)) d l Q σ ds = wqOps P S l Q (upd σ d v) ds h := nr rfl
@[simp] theorem wqN_skip (d : Option Nat) (l : List CEnt) : wqN P S (skipH (.ok h)) d l Q σ ds = wqOps P S l Q (upd σ d aundef) ds h := nr rfl
@[simp] theorem wqN_enter (d : Option Nat) (l : List CEnt) (f : FuncId) (args : List AV) : wqN P S (.ok (.enter f args, h)) d l Q σ ds = EvN P S (.fn f) args h (KcallQ P S d l Q σ ds) := nr rfl
@[simp] theorem wqN_yield (d : Option Nat) (l : List CEnt) (f : Nat) (args : List AV) : wqN P S (.ok (.yield f args, h)) d l Q σ ds = EvN P S (.yield f) args h (KcallQ P S d l Q σ ds) := nr rfl
@[simp] theorem KcallQ_app (d : Option Nat) (l : List CEnt) (v : AV) : KcallQ P S d l Q σ ds v h = wqOps P S l Q (upd σ d v) ds h := nr rfl

@[simp] theorem wqGd_tt (c : COp) (d : Option Nat) (l : List CEnt) : wqGd P S (.bool true) true c d l Q σ ds h = wqN P S (evS P c σ h) d l Q σ ds := nr rfl
@[simp] theorem wqGd_ff (c : COp) (d : Option Nat) (l : List CEnt) : wqGd P S (.bool false) false c d l Q σ ds h = wqN P S (evS P c σ h) d l Q σ ds := nr rfl
@[simp] theorem wqGd_tf (c : COp) (d : Option Nat) (l : List CEnt) : wqGd P S (.bool true) false c d l Q σ ds h = wqOps P S l Q (upd σ d aundef) ds h := nr rfl
@[simp] theorem wqGd_un (w : Bool) (c : COp) (d : Option Nat) (l : List CEnt) : wqGd P S aundef w c d l Q σ ds h = wqOps P S l Q (upd σ d aundef) ds h := nr rfl
@[simp] theorem wqGd_ft (c : COp) (d : Option Nat) (l : List CEnt) : wqGd P S (.bool false) true c d l Q σ ds h = wqOps P S l Q (upd σ d aundef) ds h := nr rfl


@[simp] theorem KfinN_normal (res : List CRes) (K : AV → AH → Prop) : KfinN P S res K .normal σ [] h = resK (resS h σ res) K h := resK_eq _ _
@[simp] theorem KfinN_ret (res : List CRes) (K : AV → AH → Prop) : KfinN P S res K .ret σ [] h = resK (resS h σ res) K h := resK_eq _ _

theorem KfinN_ret_ds (res : List CRes) (K : AV → AH → Prop) : KfinN P S res K .ret σ ds h = DefersN P S ds h (fun h => resK (resS h σ res) K h) := by
  simp only [KfinN, resK_eq]
@[simp] theorem DefersN_nil (K : AH → Prop) : DefersN P S [] h K = K h := nr rfl
theorem DefersN_collected (id : Nat) (K : AH → Prop) : DefersN P S (.collected id :: ds) h K = (h.get id = some (.deferred (some [])) ∧ DefersN P S ds (h.set id (.deferred none)) K) := nr rfl
theorem wqC_go (n : Nat) (f : CO) (params : Array Tmp) (a b : Code) : wqC P S (.go n f params a b) Q σ ds h = wqGo P S (f.evS σ) n params a b Q σ ds h := nr rfl
theorem wqGo_func (g : FuncId) (first captured : List AV) (n : Nat) (params : Array Tmp) (a b : Code) : wqGo P S (.func (.func g) first captured) n params a b Q σ ds h =
    ∀ tmps : PT AV, (∀ i, valT tmps i = σ i) → EvN P S (.fn g) (first ++ (.func (.yield (h.next + 1)) [] [] :: captured))
      ((h.push (.deferred (some []))).push (.loop { state := .ready, pending := none, n := n, tmps := tmps, params := params, assign := a, body := b })) (Kgo Q σ ds h.next) := nr rfl

/-! ### loops over so many -/

/-- a loop that counts up -/
theorem q_count {b0 b1 tc ti tn n : Nat} {T : TypeId} {lit : Bool} {lim : CO} {body : DC} (hd : Nat.beq tc ti = false) (J : Nat → Sg → List ADef → AH → Prop) (hn : (n : Int) ≤ 9223372036854775807)
    (h0 : σ ti = .int .i64 0) (hJ : J 0 σ ds h)
    (hl : ∀ j σ ds h, J j σ ds h → lim.evS σ = .int .i64 (n : Int))
    (hb : ∀ j σ ds h, j < n → σ ti = .int .i64 (j : Int) → J j σ ds h →
      wqC P S body (Kblk b1 fun x σ' ds' h' => match x with
        | .normal => σ' ti = .int .i64 (j : Int) ∧ J (j + 1) (upd (upd σ' (some tn) (.int .i64 ((j : Int) + 1))) (some ti) (.int .i64 ((j : Int) + 1))) ds' h'
        | x => Q x σ' ds' h') (upd σ (some tc) (.bool true)) ds h)
    (he : ∀ σ ds h, J n σ ds h → Q (.exit b0) (upd σ (some tc) (.bool false)) ds h) :
    wqC P S (.loop (.seq (.ops [.row ⟨some tc, none, .bin .lss T lit (.t ti) lim⟩]) (.seq (.cond (.t tc) .skip (.exit b0))
      (.seq (.block b1 body) (.ops [.row ⟨some tn, none, .bin .add T true (.t ti) (.c (.int .i64 1))⟩, .row ⟨some ti, none, .move (.t tn)⟩]))))) Q σ ds h := by
  refine q_loop (fun k σ ds h => ∃ j, k + j = n ∧ σ ti = .int .i64 (j : Int) ∧ J j σ ds h) n ⟨0, by omega, by simpa using h0, hJ⟩ ?_
  rintro k σ ds h ⟨j, hk, hti, hJ⟩
  have hlim := hl _ _ _ _ hJ
  simp only [wqC_seq, wqC_ops, wqOps_row _ (.bin .lss T lit (.t ti) lim) _ rfl, evS_bin, CO.evS_t, hti, hlim, bin_lss, wqN_keep, wqOps_nil, KseqQ_normal, wqC_cond, upd_some, if_true]
  by_cases hj : j < n
  · have : ((j : Int) < (n : Int)) := by omega
    simp only [this, decide_true, wqB_true, wqC_skip, KseqQ_normal, wqC_seq, wqC_block]
    refine q_mono (hb j σ ds h hj hti hJ) ?_
    intro x σ' ds' h' hx
    have key : (σ' ti = .int .i64 (j : Int) ∧ J (j + 1) (upd (upd σ' (some tn) (.int .i64 ((j : Int) + 1))) (some ti) (.int .i64 ((j : Int) + 1))) ds' h') →
        wqC P S (.ops [.row ⟨some tn, none, .bin .add T true (.t ti) (.c (.int .i64 1))⟩, .row ⟨some ti, none, .move (.t tn)⟩]) (Kloop (fun k σ ds h => ∃ j, k + j = n ∧ σ ti = .int .i64 (j : Int) ∧ J j σ ds h) k Q) σ' ds' h' := by
      rintro ⟨h1, h2⟩
      simp only [wqC_ops, wqOps_row _ (.bin .add T true (.t ti) (.c (.int .i64 1))) _ rfl, wqOps_row _ (.move (.t tn)) _ rfl, evS_bin, evS_move, CO.evS_t, CO.evS_c, h1, bin_add, wqN_keep, wqN_okV, wqOps_nil, upd_some, if_true, wrap_i64 (show (-9223372036854775808 : Int) ≤ (j : Int) + 1 by omega) (show (j : Int) + 1 < 9223372036854775808 by omega), Kloop_normal]
      exact ⟨k - 1, by omega, j + 1, by omega, by simp, h2⟩
    cases x with
    | normal => exact key hx
    | ret => exact hx
    | exit i =>
      simp only [Kblk_exit] at hx ⊢
      by_cases hi : i = b1
      · rw [if_pos hi] at hx ⊢; exact key hx
      · rw [if_neg hi] at hx ⊢; exact hx
  · have hjn : j = n := by omega
    subst hjn
    have : ¬ ((j : Int) < (j : Int)) := by omega
    simp only [this, decide_false, wqB_false, wqC_exit, KseqQ_exit, Kloop_exit]
    exact he _ _ _ hJ


/-! ### summaries -/

/-- less said of a heap: what stands in k stands in h -/
structure Less (k h : AH) : Prop where
  next : k.next = h.next
  get : ∀ i o, i < h.next → k.get i = some o → h.get i = some o

theorem Less.refl (h : AH) : Less h h := ⟨rfl, fun _ _ _ e => e⟩

/-- what comes out the same in all ends, but for blocks that are not told of, may be told of a call -/
theorem sum_of_ends {B : Nat} {w0 : World} (hM : P.follows .mixedOrders = true) (hnum : ∀ (f : Nat) fn, P.funcs[f]? = some fn → fn.body.isSome = true → fn.name ≠ "runtime.NumGoroutine") (hS : SumOk P B w0 S)
    {f : FuncId} {args : List AV} {v : AV} {h h' : AH} (he : EvN P S (.fn f) args h fun r g => r = v ∧ Less h' g ∧ ∀ i, i < h.next → h'.get i = g.get i)
    {φ : Phi} {w : World} {args' : List Value} (ha : ConL φ args args') (hG : GlobRel P φ) (hR : Rel B w0 φ h w) :
    (∀ w, (callFunc f ⟨args'⟩).run P w = .ok (.enter f ⟨args'⟩) w) ∧
    CallsK P .normal f ⟨args'⟩ w (fun v' w' => ∃ φ', Con φ' v v' ∧ Rel B w0 φ' h' w' ∧ Ext φ h φ' h') := by
  obtain ⟨N, l, e, k⟩ := he
  obtain ⟨h1, h2⟩ := (evCallN_ok hM hnum hS N).1 _ _ _ _ e φ w args' ha hG hR
  refine ⟨h1, fun cs => ?_⟩
  obtain ⟨v', w', fr, fn, ⟨u, g, φ', hm, c, R', X⟩, r⟩ := h2 cs
  obtain ⟨e1, hL, hold⟩ := k _ hm
  simp only at e1 hL hold
  subst e1
  refine ⟨v', w', fr, fn, ⟨φ', c, R'.sub hL.next hL.get, ⟨X.le, ?_, fun i hi e => ?_⟩⟩, r⟩
  · rw [hL.next]; exact X.next
  · obtain ⟨x1, x2⟩ := X.keep i hi e
    exact ⟨x1, (hold i hi).trans x2⟩

/-- a law that comes out true, in all its ends, with what is told of calls -/
theorem law_evN (hM : P.follows .mixedOrders = true) (hnum : P.funcs.all (fun f => f.name != "runtime.NumGoroutine") = true) {W : World} (hS : SumOk P W.heap.size W S) {f : FuncId} {args : List AV} {args' : List Value} {φ : Phi}
    (he : EvN P S (.fn f) args h fun r _ => r = .bool true) (ha : ConL φ args args') (hG : GlobRel P φ) (hR : Rel W.heap.size W φ h W) :
    Calls P f ⟨args'⟩ W fun e W' => e = .returned (.bool true) ∧ Below W.heap.size W W' := by
  obtain ⟨N, l, e, k⟩ := he
  obtain ⟨_, hK⟩ := (evCallN_ok hM (noNum hnum) hS N).1 _ _ _ _ e φ W args' ha hG hR
  intro cs
  obtain ⟨v', w', fr, fn, ⟨v, h3, φ', hm, hc, hR', _⟩, hst, e1, e2, e3, e4, e5, e6⟩ := hK cs
  have := k _ hm
  simp only at this
  subst this
  cases hc
  exact ⟨.returned (.bool true), w', fr, ⟨rfl, hR'.below⟩, hst, e1, e2, e3, e4, fn, e5, e6⟩

end
end Go.Dr

/-
  What a law is given, laid into an abstract heap: numbers, texts, slices and structs of these, to any depth; only read.
-/
namespace Go.Dr
open Go.RowKit

variable {P : Program} {H : Type} {enc : TypeId × Value → H} {W : World} {base : Nat} {sp : Nat → Bool} {held : Bool}

theorem mapM_some {α β : Type} {f : α → Option β} : ∀ {l : List α} {r : List β}, l.mapM f = some r → r.length = l.length ∧ ∀ (i : Nat) (a : α), l[i]? = some a → ∃ b, r[i]? = some b ∧ f a = some b
  | [], r, h => by
    simp only [List.mapM_nil] at h
    cases h
    exact ⟨rfl, fun i a e => by simp at e⟩
  | x :: l, r, h => by
    rw [List.mapM_cons] at h
    cases hx : f x with
    | none => rw [hx] at h; cases h
    | some b =>
      cases hl : l.mapM f with
      | none => rw [hx, hl] at h; cases h
      | some bs =>
        rw [hx, hl] at h
        cases h
        obtain ⟨h1, h2⟩ := mapM_some hl
        refine ⟨by simp [h1], fun i a e => ?_⟩
        cases i with
        | zero => simp at e; subst e; exact ⟨b, rfl, hx⟩
        | succ i => exact h2 i a (by simpa using e)

/-- cells of a type, as they can be read from h -/
inductive TyV (P : Program) (h : AH) : TypeId → List AV → Prop
  | bool {t : TypeId} (ht : P.underlying t = some .bool) (b : Bool) : TyV P h t [.bool b]
  | int {t : TypeId} {k : IntKind} {n : Int} (ht : P.underlying t = some (.int k)) (hn : (Lit.int k n).wf = true) : TyV P h t [.int k n]
  | str {t : TypeId} {s : List UInt8} (ht : P.underlying t = some .string) (hs : s.length ≤ maxLen) : TyV P h t [.str s]
  | nils {t e : TypeId} (ht : P.underlying t = some (.slice e)) : TyV P h t [.nils]
  | slice {t e : TypeId} {id len cap : Nat} {vs : List AV} (ht : P.underlying t = some (.slice e)) (hi : id < h.next) (hg : h.get id = some (.cells vs true)) (hv : vs.length = len * P.cellsOf e)
      (hl : len ≤ cap) (hc : cap ≤ maxLen) (hel : ∀ i, i < len → TyV P h e ((vs.drop (i * P.cellsOf e)).take (P.cellsOf e))) : TyV P h t [.slice id 0 len cap true (P.cellsOf e)]
  | struct {t : TypeId} {fs : Array Field} {cs : List AV} (ht : P.underlying t = some (.struct fs)) (hl : cs.length = P.cellsOf t)
      (hf : ∀ f ∈ fs.toList, TyV P h f.type ((cs.drop f.offset).take (P.cellsOf f.type))) : TyV P h t cs

theorem TyV.fr {h h' : AH} (f : Fr h h') : ∀ {t : TypeId} {cs : List AV}, TyV P h t cs → TyV P h' t cs := by
  intro t cs s
  induction s with
  | bool ht b => exact .bool ht b
  | int ht hn => exact .int ht hn
  | str ht hs => exact .str ht hs
  | nils ht => exact .nils ht
  | slice ht hi hg hv hl hc _ ih => exact .slice ht (Nat.lt_of_lt_of_le hi f.next) (by rw [f.get _ hi]; exact hg) hv hl hc ih
  | struct ht hl _ ih => exact .struct ht hl ih

/-- fields that lie one after another -/
def tileOk (P : Program) : List Field → Nat → Nat → Bool
  | [], acc, tot => Nat.beq acc tot
  | f :: fs, acc, tot => Nat.beq f.offset acc && tileOk P fs (acc + P.cellsOf f.type) tot

/-- a type of such values alone -/
def plainTy (P : Program) : Nat → TypeId → Bool
  | 0, _ => false
  | d + 1, t => match P.underlying t with
    | some .bool | some (.int _) | some .string => true
    | some (.slice e) => Nat.blt 0 (P.cellsOf e) && plainTy P d e
    | some (.struct fs) => tileOk P fs.toList 0 (P.cellsOf t) && fs.toList.all fun f => plainTy P d f.type
    | _ => false

/-- nothing may be written -/
def RO (φ : Phi) (h : AH) : Prop := ∀ j q o, φ j = some q → h.get j = some o → o.writable = false

theorem cells?_get {n : Nat} {a : Addr} {cs : List Value} (h : W.cells? base a n = some cs) : cs.length = n ∧ ∀ i, i < n → W.cell? (a.add i) = cs[i]? := by
  unfold World.cells? at h
  split at h
  · obtain ⟨h1, h2⟩ := mapM_some h
    rw [List.length_range] at h1
    refine ⟨h1, fun i hi => ?_⟩
    obtain ⟨b, hb, hf⟩ := h2 i i (by rw [List.getElem?_range hi])
    rw [hb, hf]
  · cases h

/-- a block laid to be read -/
theorem rel_ro {B : Nat} {w0 w : World} {φ : Phi} {h : AH} (r : Rel B w0 φ h w) (hro : RO φ h) {p : Pl} {vs : List AV} {c : Array Value} {e : TypeId} {f : Nat × Nat} (hb : w.heap[p.blk]? = some (.cells c e f))
    (h1 : vs.length ≤ p.room) (h2 : p.off + p.room ≤ c.size) (hc : ∀ i x, vs[i]? = some x → ∃ y, c[p.off + i]? = some y ∧ Con φ x y) :
    Rel B w0 (φ.set h.next p) (h.push (.cells vs true)) w ∧ RO (φ.set h.next p) (h.push (.cells vs true)) ∧ φ.le (φ.set h.next p) := by
  have hle := Phi.le_set p r.fresh
  refine ⟨(r.promise (.cells vs true)).lay (Nat.lt_succ_self _) r.fresh (get_push_new _) ⟨c, e, f.1, f.2, hb, h1, h2, fun i x hx => ?_, fun e => by cases e⟩ (fun e => by cases e) (fun j q oj hj hg hw => ?_), fun j q o hj hg => ?_, hle⟩
  · obtain ⟨y, hy, hcon⟩ := hc i x hx
    exact ⟨y, hy, hcon.mono hle⟩
  · have hne : j ≠ h.next := fun e => by rw [e, r.fresh] at hj; cases hj
    rw [get_push_old hne] at hg
    rcases hw with hw | hw
    · cases hw
    · rw [hro j q oj hj hg] at hw; cases hw
  · by_cases hne : j = h.next
    · subst hne
      rw [get_push_new] at hg
      cases hg
      rfl
    · rw [Phi.set_other _ _ hne] at hj
      rw [get_push_old hne] at hg
      exact hro j q o hj hg

/-- several, one after another -/
theorem lay_list {B : Nat} {w0 w : World} {α : Type} (T : AH → α → List AV → Prop) (hT : ∀ h h' a l, Fr h h' → T h a l → T h' a l) : ∀ (xs : List (α × List Value)) (_ : ∀ x ∈ xs, ∀ φ h, Rel B w0 φ h w → RO φ h →
      ∃ φ' h' l, ConL φ' l x.2 ∧ Rel B w0 φ' h' w ∧ RO φ' h' ∧ φ.le φ' ∧ Fr h h' ∧ T h' x.1 l) (φ : Phi) (h : AH), Rel B w0 φ h w → RO φ h →
    ∃ (φ' : Phi) (h' : AH) (ls : List (List AV)), Rel B w0 φ' h' w ∧ RO φ' h' ∧ φ.le φ' ∧ Fr h h' ∧ ls.length = xs.length ∧ ∀ (i : Nat) (x : α × List Value), xs[i]? = some x → ∃ l, ls[i]? = some l ∧ ConL φ' l x.2 ∧ T h' x.1 l
  | [], _, φ, h, r, ro => ⟨φ, h, [], r, ro, .refl _, .refl _, rfl, fun i x e => by simp at e⟩
  | x :: xs, hx, φ, h, r, ro => by
    obtain ⟨φ1, h1, l, c1, r1, ro1, le1, f1, t1⟩ := hx x (by simp) φ h r ro
    obtain ⟨φ2, h2, ls, r2, ro2, le2, f2, hl, hall⟩ := lay_list T hT xs (fun y hy => hx y (List.mem_cons_of_mem _ hy)) φ1 h1 r1 ro1
    refine ⟨φ2, h2, l :: ls, r2, ro2, le1.trans le2, f1.trans f2, by simp [hl], fun i y e => ?_⟩
    cases i with
    | zero => simp at e; subst e; exact ⟨l, rfl, c1.mono le2, hT _ _ _ _ f2 t1⟩
    | succ i => exact hall i y (by simpa using e)

theorem flat_get {α : Type} : ∀ (ls : List (List α)) (k : Nat), (∀ l ∈ ls, l.length = k) → ls.flatten.length = ls.length * k ∧ ∀ (i : Nat) (l : List α), ls[i]? = some l → (ls.flatten.drop (i * k)).take k = l
  | [], k, _ => ⟨by simp, fun i l e => by simp at e⟩
  | x :: ls, k, h => by
    obtain ⟨h1, h2⟩ := flat_get ls k fun l hl => h l (List.mem_cons_of_mem _ hl)
    have hx := h x (by simp)
    refine ⟨by rw [List.flatten_cons, List.length_append, h1, hx, List.length_cons, Nat.add_mul, Nat.one_mul, Nat.add_comm], fun i l e => ?_⟩
    cases i with
    | zero =>
      simp at e; subst e
      rw [List.flatten_cons, Nat.zero_mul, List.drop_zero, List.take_append_of_le_length (by omega), List.take_of_length_le (by omega)]
    | succ i =>
      rw [List.flatten_cons, Nat.add_mul, Nat.one_mul, Nat.add_comm, ← List.drop_drop, ← hx, List.drop_left, hx]
      exact h2 i l (by simpa using e)

theorem flat_cell {α : Type} (ls : List (List α)) (k : Nat) (h : ∀ l ∈ ls, l.length = k) (i j : Nat) (hi : i < ls.length) (hj : j < k) : ∃ l, ls[i]? = some l ∧ ls.flatten[i * k + j]? = l[j]? := by
  obtain ⟨h1, h2⟩ := flat_get ls k h
  refine ⟨ls[i], List.getElem?_eq_getElem hi, ?_⟩
  have := h2 i _ (List.getElem?_eq_getElem hi)
  rw [← this, List.getElem?_take, if_pos hj, List.getElem?_drop]

theorem add_none {a : Addr} (h : a.spot = none) (m : Nat) : a.add m = ⟨a.block, a.off + m, none⟩ := by
  obtain ⟨b, o, s⟩ := a
  cases h
  exact Addr.add_none b o m

theorem cell_some {a : Addr} {v : Value} (h : W.cell? a = some v) : a.spot = none ∧ ∃ c e f, W.heap[a.block]? = some (.cells c e f) ∧ c[a.off]? = some v := by
  unfold World.cell? at h
  split at h
  · rename_i c e f hb
    split at h
    · cases h
    · rename_i hs
      refine ⟨by cases hs' : a.spot <;> simp_all, c, e, f, hb, h⟩
  · cases h

/-- fields, one after another -/
theorem lay_fields {B : Nat} {w0 : World} (L : TypeId → List Value → Prop)
    (hL : ∀ t cs, L t cs → ∀ φ h, Rel B w0 φ h W → RO φ h → ∃ φ' h' l, ConL φ' l cs ∧ Rel B w0 φ' h' W ∧ RO φ' h' ∧ φ.le φ' ∧ Fr h h' ∧ TyV P h' t l) (cs : List Value) :
    ∀ (fs : List Field) (acc : Nat), tileOk P fs acc cs.length = true → (∀ f ∈ fs, L f.type ((cs.drop f.offset).take (P.cellsOf f.type))) → ∀ φ h, Rel B w0 φ h W → RO φ h →
    ∃ φ' h' l, ConL φ' l (cs.drop acc) ∧ Rel B w0 φ' h' W ∧ RO φ' h' ∧ φ.le φ' ∧ Fr h h' ∧ (∀ f ∈ fs, acc ≤ f.offset ∧ TyV P h' f.type ((l.drop (f.offset - acc)).take (P.cellsOf f.type)))
  | [], acc, ht, _, φ, h, hR, hro => by
    have : acc = cs.length := Nat.eq_of_beq_eq_true ht
    subst this
    exact ⟨φ, h, [], by rw [List.drop_length]; exact .nil, hR, hro, .refl _, .refl _, fun f hf => by cases hf⟩
  | f :: fs, acc, ht, hf, φ, h, hR, hro => by
    simp only [tileOk, Bool.and_eq_true] at ht
    have ho : f.offset = acc := Nat.eq_of_beq_eq_true ht.1
    obtain ⟨φ1, h1, l1, c1, R1, ro1, le1, f1, t1⟩ := hL _ _ (hf f (by simp)) φ h hR hro
    obtain ⟨φ2, h2, l2, c2, R2, ro2, le2, f2, t2⟩ := lay_fields L hL cs fs (acc + P.cellsOf f.type) ht.2 (fun g hg => hf g (List.mem_cons_of_mem _ hg)) φ1 h1 R1 ro1
    have hle : acc + P.cellsOf f.type ≤ cs.length := by
      have : ∀ (fs : List Field) (a : Nat), tileOk P fs a cs.length = true → a ≤ cs.length := by
        intro fs
        induction fs with
        | nil => intro a h; exact Nat.le_of_eq (Nat.eq_of_beq_eq_true h)
        | cons g gs ih =>
          intro a h
          simp only [tileOk, Bool.and_eq_true] at h
          have := ih _ h.2
          omega
      exact this _ _ ht.2
    rw [ho] at c1
    have hlen : l1.length = P.cellsOf f.type := by rw [c1.length, List.length_take, List.length_drop]; omega
    refine ⟨φ2, h2, l1 ++ l2, ?_, R2, ro2, le1.trans le2, f1.trans f2, fun g hg => ?_⟩
    · have := (c1.mono le2).append c2
      rw [← List.drop_drop, List.take_append_drop] at this
      exact this
    · rcases List.mem_cons.1 hg with rfl | hg
      · refine ⟨by omega, ?_⟩
        rw [ho, Nat.sub_self, List.drop_zero, List.take_append_of_le_length (by omega), List.take_of_length_le (by omega)]
        exact t1.fr f2
      · obtain ⟨h3, h4⟩ := t2 g hg
        refine ⟨by omega, ?_⟩
        rw [show g.offset - acc = l1.length + (g.offset - (acc + P.cellsOf f.type)) from by omega, ← List.drop_drop, List.drop_left]
        exact h4

/-- where a slice of no room stands, some block of cells lies -/
def Empties (W : World) (cs : List Value) : Prop := ∀ (a : Addr) (len : Nat), Value.slice (some a) len 0 ∈ cs → ∃ (b : Nat) (c : Array Value) (e : TypeId) (f : Nat × Nat), W.heap[b]? = some (.cells c e f)

/-- cells of such a type, laid -/
theorem lay_cells {B : Nat} {w0 : World} :
    ∀ (d fuel : Nat) (t : TypeId) (cs : List Value) (x : DataW H × List MemPlace), plainTy P d t = true → DataW.trod enc P W base (fun _ => true) held fuel t cs = some x → Empties W cs →
    ∀ φ h, Rel B w0 φ h W → RO φ h → ∃ φ' h' l, ConL φ' l cs ∧ Rel B w0 φ' h' W ∧ RO φ' h' ∧ φ.le φ' ∧ Fr h h' ∧ TyV P h' t l
  | 0, fuel, t, cs, x, hp, _, _, _, _, _, _ => by cases hp
  | d + 1, fuel, t, cs, x, hp, h, hz, φ, g, hR, hro => by
    unfold plainTy at hp
    cases ht : P.underlying t with
    | none => rw [ht] at hp; cases hp
    | some td =>
      rw [ht] at hp
      cases td with
      | bool =>
        obtain ⟨b, rfl, _⟩ := DataW.trod_bool ht h
        exact ⟨φ, g, _, .cons (.bool b) .nil, hR, hro, .refl _, .refl _, .bool ht b⟩
      | int k =>
        obtain ⟨n, rfl, _, hw⟩ := DataW.trod_int ht h
        exact ⟨φ, g, _, .cons (.int k n) .nil, hR, hro, .refl _, .refl _, .int ht hw⟩
      | string =>
        obtain ⟨⟨⟨s⟩⟩, rfl, _, hs⟩ := DataW.trod_string ht h
        exact ⟨φ, g, _, .cons (.str s) .nil, hR, hro, .refl _, .refl _, .str ht hs⟩
      | struct fs =>
        simp only [Bool.and_eq_true, List.all_eq_true] at hp
        obtain ⟨hp1, hp2⟩ := hp
        obtain ⟨xs, n, _, _, hl, hlen, hf⟩ := DataW.trod_struct ht h
        obtain ⟨φ1, h1, l1, c1, R1, ro1, le1, f1, t1⟩ := lay_fields (L := fun t cs => ∃ n x, plainTy P d t = true ∧ DataW.trod enc P W base (fun _ => true) held n t cs = some x ∧ Empties W cs)
          (fun t cs ⟨n, x, h1, h2, h3⟩ => lay_cells d n t cs x h1 h2 h3) cs fs.toList 0 (by rw [hl]; exact hp1) (fun f hfm => by
            obtain ⟨i, hi⟩ := List.mem_iff_getElem?.1 hfm
            rw [Array.getElem?_toList] at hi
            have hlt : i < xs.length := by rw [hlen]; exact (Array.getElem?_eq_some_iff.1 hi).1
            exact ⟨n, xs[i], hp2 f hfm, by rw [hf i f hi]; exact List.getElem?_eq_getElem hlt, fun a len hm => hz a len (List.mem_of_mem_drop (List.mem_of_mem_take hm))⟩) φ g hR hro
        exact ⟨φ1, h1, l1, c1, R1, ro1, le1, f1, .struct ht (by rw [c1.length, List.drop_zero, hl]) fun f hf => by have := (t1 f hf).2; rwa [Nat.sub_zero] at this⟩
      | slice e =>
        simp only [Bool.and_eq_true] at hp
        obtain ⟨hp1, hp2⟩ := hp
        have hk : 0 < P.cellsOf e := Nat.le_of_ble_eq_true hp1
        rcases DataW.trod_slice ht h with ⟨rfl, _⟩ | ⟨a, len, cap, elems, rest, n, _, rfl, _, hb, hlc, hcm, hel, he1, he2, _⟩
        · exact ⟨φ, g, _, .cons .nils .nil, hR, hro, .refl _, .refl _, .nils ht⟩
        · obtain ⟨hrl, hr⟩ := he2 rfl
          have each : ∀ i, i < cap → ∃ cs y, W.cells? base (a.add (i * P.cellsOf e)) (P.cellsOf e) = some cs ∧ DataW.trod enc P W base (fun _ => true) held n e cs = some y := by
            intro i hi
            have : ∃ y, (W.cells? base (a.add (i * P.cellsOf e)) (P.cellsOf e)).bind (DataW.trod enc P W base (fun _ => true) held n e) = some y := by
              by_cases hil : i < len
              · exact ⟨elems[i], by rw [he1 i hil]; exact List.getElem?_eq_getElem (by omega)⟩
              · have hj : i - len < cap - len := by omega
                refine ⟨rest[i - len], ?_⟩
                have := hr (i - len) hj
                rw [show len + (i - len) = i from by omega] at this
                rw [this]; exact List.getElem?_eq_getElem (by omega)
            obtain ⟨y, hy⟩ := this
            obtain ⟨cs, h1, h2⟩ := Option.bind_eq_some_iff.1 hy
            exact ⟨cs, y, h1, h2⟩
          have hblk : ∃ (b : Nat) (c : Array Value) (e : TypeId) (f : Nat × Nat), W.heap[b]? = some (.cells c e f) := by
            by_cases hc0 : cap = 0
            · subst hc0; exact hz a len (by simp)
            · obtain ⟨cs, y, q1, _⟩ := each 0 (by omega)
              obtain ⟨q2, q3⟩ := cells?_get q1
              have := q3 0 hk
              rw [List.getElem?_eq_getElem (by omega)] at this
              obtain ⟨_, c, et, f, hbk, _⟩ := cell_some this
              exact ⟨_, c, et, f, hbk⟩
          -- the elements' cells
          have hcs : ∃ css : List (List Value), css.length = len ∧ ∀ i c, css[i]? = some c → W.cells? base (a.add (i * P.cellsOf e)) (P.cellsOf e) = some c ∧ ∃ y, DataW.trod enc P W base (fun _ => true) held n e c = some y := by
            refine ⟨(List.range len).map fun i => (W.cells? base (a.add (i * P.cellsOf e)) (P.cellsOf e)).getD [], by simp, fun i c hi => ?_⟩
            have hil : i < len := by have := (List.getElem?_eq_some_iff.1 hi).1; simpa using this
            obtain ⟨cs, y, h1, h2⟩ := each i (by omega)
            simp only [List.getElem?_map, List.getElem?_range hil, Option.map_some, Option.some.injEq, h1, Option.getD_some] at hi
            subst hi
            exact ⟨h1, y, h2⟩
          obtain ⟨css, hcl, hcs⟩ := hcs
          obtain ⟨φ1, h1, ls, R1, ro1, le1, f1, hll, hls⟩ := lay_list (B := B) (w0 := w0) (w := W) (fun (h : AH) (_ : Unit) l => TyV P h e l) (fun h h' _ l f t => t.fr f) (css.map fun c => ((), c)) (fun x hx φ h hR hro => by
            obtain ⟨c, hc, rfl⟩ := List.mem_map.1 hx
            obtain ⟨i, hi⟩ := List.mem_iff_getElem?.1 hc
            obtain ⟨_, y, hy⟩ := hcs i c hi
            exact lay_cells d n e c y hp2 hy (fun _ _ _ => hblk) φ h hR hro) φ g hR hro
          rw [List.length_map, hcl] at hll
          have hlens : ∀ l ∈ ls, l.length = P.cellsOf e := by
            intro l hl
            obtain ⟨i, hi⟩ := List.mem_iff_getElem?.1 hl
            have hil : i < css.length := by rw [hcl, ← hll]; exact (List.getElem?_eq_some_iff.1 hi).1
            obtain ⟨l', h1, h2, _⟩ := hls i ((), css[i]) (by simp [hil])
            rw [hi] at h1
            cases h1
            rw [h2.length]
            exact (cells?_get (hcs i _ (List.getElem?_eq_getElem hil)).1).1
          obtain ⟨hfl, hfg⟩ := flat_get ls (P.cellsOf e) hlens
          by_cases hc0 : cap = 0
          · -- nothing there
            obtain ⟨b, c, et, f, hbk⟩ := hblk
            have hl0 : len = 0 := by omega
            have hv0 : ls.flatten = [] := List.length_eq_zero_iff.1 (by rw [hfl, hll, hl0, Nat.zero_mul])
            obtain ⟨R2, ro2, le2⟩ := rel_ro R1 ro1 (p := ⟨b, 0, 0⟩) (vs := []) hbk (Nat.le_refl _) (Nat.zero_le _) (fun i x hx => by simp at hx)
            refine ⟨_, _, [.slice h1.next 0 len cap true (P.cellsOf e)], .cons (.slice (Phi.set_same _ _ _) (fun _ => rfl) (Nat.le_refl _) hlc (.inl hc0)) .nil, R2, ro2, le1.trans le2, f1.push _, ?_⟩
            exact .slice ht (by simp) (get_push_new _) (by rw [hl0, Nat.zero_mul]; rfl) hlc hcm fun i hi => by omega
          · have hcp : 0 < cap := by omega
            have hk0 : ∀ i j, i < cap → j < P.cellsOf e → ∃ v, W.cell? ((a.add (i * P.cellsOf e)).add j) = some v := by
              intro i j hi hj
              obtain ⟨cs, y, q1, _⟩ := each i hi
              obtain ⟨q2, q3⟩ := cells?_get q1
              exact ⟨cs[j]'(by omega), by rw [q3 j hj]; exact List.getElem?_eq_getElem (by omega)⟩
            obtain ⟨v0, hv0⟩ := hk0 0 0 hcp hk
            have ha0 : (a.add (0 * P.cellsOf e)).add 0 = a := by simp [Addr.add]
            rw [ha0] at hv0
            obtain ⟨hsp, c, et, f, hbk, _⟩ := cell_some hv0
            have hat : ∀ i j, (a.add (i * P.cellsOf e)).add j = ⟨a.block, a.off + (i * P.cellsOf e + j), none⟩ := by
              intro i j
              rw [add_none hsp, Addr.add_none, Nat.add_assoc]
            have hcell : ∀ o, W.cell? ⟨a.block, o, none⟩ = c[o]? := fun o => cell?_of hbk
            have hsz : a.off + cap * P.cellsOf e ≤ c.size := by
              obtain ⟨v, hv⟩ := hk0 (cap - 1) (P.cellsOf e - 1) (by omega) (by omega)
              rw [hat, hcell] at hv
              have := (Array.getElem?_eq_some_iff.1 hv).1
              have e1 : (cap - 1) * P.cellsOf e + P.cellsOf e = cap * P.cellsOf e := by
                rw [← Nat.succ_mul, show (cap - 1).succ = cap from by omega]
              omega
            have hle : len * P.cellsOf e ≤ cap * P.cellsOf e := Nat.mul_le_mul_right _ hlc
            obtain ⟨R2, ro2, le2⟩ := rel_ro R1 ro1 (p := ⟨a.block, a.off, cap * P.cellsOf e⟩) (vs := ls.flatten) hbk (by rw [hfl, hll]; exact hle) hsz (fun i x hx => by
              have hi : i < len * P.cellsOf e := by rw [← hll, ← hfl]; exact (List.getElem?_eq_some_iff.1 hx).1
              have hdiv : i / P.cellsOf e < len := (Nat.div_lt_iff_lt_mul hk).2 hi
              have hmod : i % P.cellsOf e < P.cellsOf e := Nat.mod_lt _ hk
              have hdm : i / P.cellsOf e * P.cellsOf e + i % P.cellsOf e = i := by rw [Nat.mul_comm]; exact Nat.div_add_mod _ _
              obtain ⟨l, q1, q2⟩ := flat_cell ls (P.cellsOf e) hlens (i / P.cellsOf e) (i % P.cellsOf e) (by omega) hmod
              rw [hdm, hx] at q2
              have hcs' : (css.map fun c => ((), c))[i / P.cellsOf e]? = some ((), css[i / P.cellsOf e]'(by omega)) := by simp [hcl, hdiv]
              obtain ⟨l', q3, q4, _⟩ := hls _ _ hcs'
              rw [q1] at q3
              cases q3
              obtain ⟨y, q5, q6⟩ := q4.get _ _ q2.symm
              refine ⟨y, ?_, q6⟩
              obtain ⟨_, q7⟩ := cells?_get (hcs _ _ (List.getElem?_eq_getElem (by omega : i / P.cellsOf e < css.length))).1
              have q8 := q7 _ hmod
              rw [hat, hcell, hdm] at q8
              rw [q8]
              exact q5)
            refine ⟨_, _, [.slice h1.next 0 len cap true (P.cellsOf e)], .cons (.slice (p := ⟨a.block, a.off, cap * P.cellsOf e⟩) (Phi.set_same _ _ _) (fun _ => rfl) (Nat.le_refl _) hlc (.inr ⟨Nat.le_of_eq (Nat.zero_add _), ?_⟩)) .nil, R2, ro2, le1.trans le2, f1.push _, ?_⟩
            · obtain ⟨b, o, s⟩ := a
              cases hsp
              rfl
            · refine .slice ht (by simp) (get_push_new _) (by rw [hfl, hll]) hlc hcm fun i hi => ?_
              have hil : i < css.length := by omega
              obtain ⟨l, q1, _, q3⟩ := hls i ((), css[i]) (by simp [hil])
              rw [hfg i l q1]
              exact q3.fr ((Fr.refl _).push _)
      | _ => cases hp

theorem shape_cells {b : Nat} {x : TypeId × Nat} (h : W.shape? b = some x) : ∃ (c : Array Value) (e : TypeId) (f : Nat × Nat), W.heap[b]? = some (.cells c e f) := by
  unfold World.shape? at h
  split at h
  · rename_i c e f hb; exact ⟨c, e, f, hb⟩
  · cases h

theorem cell_empty {b0 : Nat} {t : TypeId} {a : Addr} {len cap : Nat} (h : Cell.okWide P W .any b0 t (.slice (some a) len cap)) : ∃ (b : Nat) (c : Array Value) (e : TypeId) (f : Nat × Nat), W.heap[b]? = some (.cells c e f) := by
  unfold Cell.okWide at h
  split at h
  case h_8 =>
    unfold Cell.ok at h
    split at h <;> first | contradiction | skip
    all_goals (rename_i heq; first | cases heq | skip)
    obtain ⟨_, _, hh⟩ := h
    unfold World.has at hh
    obtain ⟨_, _, row, cells, hs, _⟩ := hh
    obtain ⟨c, e, f, hb⟩ := shape_cells hs
    exact ⟨_, c, e, f, hb⟩
  all_goals (rename_i heq; cases heq)

/-- a slice that is given -/
theorem lay_slice {B : Nat} {w0 : World} {b0 : Nat} {d : Nat} {t e : TypeId} {v : Value} {dd : DataW H} {ps : List MemPlace} (ht : P.underlying t = some (.slice e)) (hp : plainTy P d t = true)
    (hval : Value.okWide P W .any b0 t v) (hd : DataW.Trod enc P W base (fun _ => true) held t v dd ps) {φ : Phi} {h : AH} (hR : Rel B w0 φ h W) (hro : RO φ h) :
    ∃ φ' h' a, Con φ' a v ∧ Rel B w0 φ' h' W ∧ RO φ' h' ∧ φ.le φ' ∧ Fr h h' ∧ TyV P h' t [a] := by
  have hc : Cell.okWide P W .any b0 t v := by
    unfold Value.okWide at hval
    rw [ht] at hval
    exact hval
  have hs := okWide_scalar hc
  have hcells : v.cells.toList = [v] := by cases v <;> first | rfl | cases hs
  obtain ⟨fuel, hd⟩ := hd
  rw [hcells] at hd
  obtain ⟨φ', h', l, c1, R1, ro1, le1, f1, t1⟩ := lay_cells d fuel t [v] _ hp hd (fun a len hm => by
    simp only [List.mem_singleton] at hm
    rw [← hm] at hc
    exact cell_empty hc) φ h hR hro
  cases c1 with
  | cons c1 c2 =>
    cases c2
    exact ⟨φ', h', _, c1, R1, ro1, le1, f1, t1⟩

/-- a struct that is given -/
theorem lay_struct {B : Nat} {w0 : World} {b0 : Nat} {d : Nat} {t : TypeId} {fs : Array Field} {v : Value} {dd : DataW H} {ps : List MemPlace} (ht : P.underlying t = some (.struct fs)) (hp : plainTy P d t = true)
    (hval : Value.okWide P W .any b0 t v) (hd : DataW.Trod enc P W base (fun _ => true) held t v dd ps) {φ : Phi} {h : AH} (hR : Rel B w0 φ h W) (hro : RO φ h) :
    ∃ φ' h' l, Con φ' (.agg l) v ∧ Rel B w0 φ' h' W ∧ RO φ' h' ∧ φ.le φ' ∧ Fr h h' ∧ TyV P h' t l := by
  unfold Value.okWide at hval
  rw [ht] at hval
  obtain ⟨⟨cs⟩, rfl, _, ts, _, _, hall⟩ := hval
  obtain ⟨fuel, hd⟩ := hd
  obtain ⟨φ', h', l, c1, R1, ro1, le1, f1, t1⟩ := lay_cells d fuel t cs _ hp hd (fun a len hm => by
    obtain ⟨i, hi⟩ := List.mem_iff_getElem?.1 hm
    obtain ⟨u, _, hu⟩ := hall i _ (by simpa using hi)
    exact cell_empty hu) φ h hR hro
  exact ⟨φ', h', l, .agg c1, R1, ro1, le1, f1, t1⟩

theorem ro0 (φ : Phi) (n : Nat) : RO φ ⟨n, .leaf⟩ := fun _ _ _ _ e => by cases e

/-- a law that comes out true -/
theorem law_ev (hM : P.follows .mixedOrders = true) (hnum : P.funcs.all (fun f => f.name != "runtime.NumGoroutine") = true) {f : FuncId} {args : List AV} {args' : List Value} {φ : Phi} {h : AH}
    (he : Ev P (fun _ => none) (.fn f) args h fun r _ => r = .bool true) (ha : ConL φ args args') (hG : GlobRel P φ) (hR : Rel W.heap.size W φ h W) :
    Calls P f ⟨args'⟩ W fun e W' => e = .returned (.bool true) ∧ Below W.heap.size W W' := by
  obtain ⟨N, v, h', he, rfl⟩ := he
  refine (calls_of_ev hM (noNum hnum) sumOk_none he ha hG hR).mono fun e W' hh => ?_
  cases e with
  | returned v =>
    obtain ⟨φ', h1, h2, _⟩ := hh
    cases h1
    exact ⟨rfl, h2.below⟩
  | panicked c => exact hh.elim
  | outgrown => exact hh.elim

theorem GlobRel.le {φ ψ : Phi} (h : GlobRel P φ) (hle : φ.le ψ) : GlobRel P ψ := fun g hg => let ⟨n, e⟩ := h g hg; ⟨n, hle _ _ e⟩

/-! ### what cells of a type are -/

variable {h : AH}

theorem TyV.int_inv {t : TypeId} {k : IntKind} {l : List AV} (ht : P.underlying t = some (.int k)) (s : TyV P h t l) : ∃ n, l = [.int k n] ∧ (Lit.int k n).wf = true := by
  cases s with
  | int ht' hn => rw [ht] at ht'; cases ht'; exact ⟨_, rfl, hn⟩
  | bool ht' => rw [ht] at ht'; cases ht'
  | str ht' => rw [ht] at ht'; cases ht'
  | nils ht' => rw [ht] at ht'; cases ht'
  | slice ht' => rw [ht] at ht'; cases ht'
  | struct ht' => rw [ht] at ht'; cases ht'

theorem TyV.str_inv {t : TypeId} {l : List AV} (ht : P.underlying t = some .string) (s : TyV P h t l) : ∃ x, l = [.str x] ∧ x.length ≤ maxLen := by
  cases s with
  | str ht' hs => exact ⟨_, rfl, hs⟩
  | int ht' => rw [ht] at ht'; cases ht'
  | bool ht' => rw [ht] at ht'; cases ht'
  | nils ht' => rw [ht] at ht'; cases ht'
  | slice ht' => rw [ht] at ht'; cases ht'
  | struct ht' => rw [ht] at ht'; cases ht'

theorem TyV.slice_inv {t e : TypeId} {k : Nat} {l : List AV} (ht : P.underlying t = some (.slice e)) (hk : P.cellsOf e = k) (s : TyV P h t l) :
    ∃ v n vs, l = [v] ∧ n ≤ maxLen ∧ Sl h k n v vs ∧ ∀ i, i < n → TyV P h e ((vs.drop (i * k)).take k) := by
  subst hk
  cases s with
  | nils ht' => exact ⟨_, 0, [], rfl, Nat.zero_le _, Sl.nil _, fun i hi => absurd hi (by omega)⟩
  | @slice _ e' id len cap vs ht' hi hg hv hl hc hel =>
    rw [ht] at ht'
    cases ht'
    exact ⟨_, len, vs, rfl, Nat.le_trans hl hc, ⟨hv, .inr ⟨id, 0, cap, true, vs, true, rfl, hi, hl, hg, by omega, by rw [List.drop_zero, List.take_of_length_le (by omega)]⟩⟩, hel⟩
  | int ht' => rw [ht] at ht'; cases ht'
  | bool ht' => rw [ht] at ht'; cases ht'
  | str ht' => rw [ht] at ht'; cases ht'
  | struct ht' => rw [ht] at ht'; cases ht'

def structOf (P : Program) (t : TypeId) : List (TypeId × Nat) := match P.underlying t with
  | some (.struct fs) => fs.toList.map fun f => (f.type, f.offset)
  | _ => []

theorem TyV.struct_inv {t : TypeId} {l : List AV} {ts : List (TypeId × Nat)} (ht : structOf P t = ts) (hne : ts ≠ []) (s : TyV P h t l) :
    l.length = P.cellsOf t ∧ ∀ u o, (u, o) ∈ ts → TyV P h u ((l.drop o).take (P.cellsOf u)) := by
  subst ht
  unfold structOf at hne ⊢
  cases s with
  | struct ht' hl hf =>
    rw [ht']
    refine ⟨hl, fun u o hm => ?_⟩
    simp only [List.mem_map, Prod.mk.injEq] at hm
    obtain ⟨f, hf', rfl, rfl⟩ := hm
    exact hf f hf'
  | int ht' => rw [ht'] at hne; exact absurd rfl hne
  | bool ht' => rw [ht'] at hne; exact absurd rfl hne
  | str ht' => rw [ht'] at hne; exact absurd rfl hne
  | nils ht' => rw [ht'] at hne; exact absurd rfl hne
  | slice ht' => rw [ht'] at hne; exact absurd rfl hne

/-- elements told one by one -/
theorem elems_of {α : Type} (g : α → List AV) (p : α → Prop) (k : Nat) : ∀ (n : Nat) (vs : List AV), vs.length = n * k → (∀ i, i < n → ∃ x, (vs.drop (i * k)).take k = g x ∧ p x) → ∃ xs : List α, xs.length = n ∧ vs = (xs.map g).flatten ∧ ∀ x ∈ xs, p x
  | 0, vs, hl, _ => ⟨[], rfl, List.length_eq_zero_iff.1 (by omega), fun x hx => by cases hx⟩
  | n + 1, vs, hl, he => by
    obtain ⟨x, h1, h2⟩ := he 0 (by omega)
    rw [Nat.zero_mul, List.drop_zero] at h1
    rw [Nat.add_mul, Nat.one_mul] at hl
    obtain ⟨xs, h3, h4, h5⟩ := elems_of g p k n (vs.drop k) (by rw [List.length_drop]; omega) fun i hi => by
      obtain ⟨y, q1, q2⟩ := he (i + 1) (by omega)
      refine ⟨y, ?_, q2⟩
      rw [List.drop_drop, show k + i * k = (i + 1) * k from by rw [Nat.add_mul, Nat.one_mul, Nat.add_comm]]
      exact q1
    refine ⟨x :: xs, by simp [h3], ?_, fun y hy => ?_⟩
    · rw [List.map_cons, List.flatten_cons, ← h4, ← h1, List.take_append_drop]
    · rcases List.mem_cons.1 hy with rfl | hy
      · exact h2
      · exact h5 y hy

end Go.Dr

/-
  A call that reads nothing it is given and comes out true, told by one run.
-/
namespace Go.Dr
open Go.RowKit

variable {P : Program}

/-- the summary of one closed call -/
def closedS (f : FuncId) : Sums := fun g => if g = f then some (fun args h => match args with | [] => .ok (.bool true, h) | _ => .error "arguments") else none

theorem closed_ok {lf n : Nat} {f : FuncId} (hM : P.follows .mixedOrders = true) (hnum : P.funcs.all (fun f => f.name != "runtime.NumGoroutine") = true)
    (hrun : okTrue (evCall P (fun _ => none) lf n (.fn f) [] ⟨P.globals.size, .leaf⟩) = true) (B : Nat) (w0 : World) : SumOk P B w0 (closedS f) := by
  intro g s hs args h v h' he φ w args' ha hG hR
  unfold closedS at hs
  split at hs
  · rename_i e
    subst e
    cases hs
    cases args with
    | cons a l => cases he
    | nil =>
      cases he
      cases ha
      obtain ⟨hh, hr⟩ := okTrue_ok hrun
      obtain ⟨h1, h2⟩ := (run_ok (B := w.heap.size) (w0 := w) hM (noNum hnum) sumOk_none n).1 _ _ _ _ _ hr (phi0 P.globals.size) w [] .nil (glob0 P) (rel0 w _)
      refine ⟨h1, fun cs => ?_⟩
      obtain ⟨v', w', fr, fn', ⟨φ', hv, hR', _⟩, rest⟩ := h2 cs
      refine ⟨v', w', fr, fn', ⟨φ, ?_, ?_, .refl _ _⟩, rest⟩
      · cases hv; exact .bool true
      · exact hR.world (hR'.below.mono hR.size) fun i p o hi ho => hR'.below.block _ (hR.obj i p o hi ho).lt
  · cases hs

theorem ev_closed (f : FuncId) (h : AH) (K : AV → AH → Prop) : Ev P (closedS f) (.fn f) [] h K = K (.bool true) h :=
  Ev.eq ⟨1, .bool true, h, by simp [cl, evCall, closedS], rfl, rfl⟩ K

/-- a law that comes out true, with what is told of calls -/
theorem law_evS {S : Sums} (hM : P.follows .mixedOrders = true) (hnum : P.funcs.all (fun f => f.name != "runtime.NumGoroutine") = true) {W : World} (hS : SumOk P W.heap.size W S) {f : FuncId} {args : List AV} {args' : List Value} {φ : Phi} {h : AH}
    (he : Ev P S (.fn f) args h fun r _ => r = .bool true) (ha : ConL φ args args') (hG : GlobRel P φ) (hR : Rel W.heap.size W φ h W) :
    Calls P f ⟨args'⟩ W fun e W' => e = .returned (.bool true) ∧ Below W.heap.size W W' := by
  obtain ⟨N, v, h', he, rfl⟩ := he
  refine (calls_of_ev hM (noNum hnum) hS he ha hG hR).mono fun e W' hh => ?_
  cases e with
  | returned v =>
    obtain ⟨φ', h1, h2, _⟩ := hh
    cases h1
    exact ⟨rfl, h2.below⟩
  | panicked c => exact hh.elim
  | outgrown => exact hh.elim

end Go.Dr

/-
  The library's sort of a slice of integers, told of the abstract run.
-/
namespace Go.Dr
open Go.RowKit

variable {P : Program} {B : Nat} {w0 w w' : World} {φ : Phi} {h h' : AH}

theorem CallsK.of_calls {f : FuncId} {args : Array Value} {R : Ending → World → Prop} {K : Value → World → Prop} (hc : Calls P f args w R) (hr : ∀ e w', R e w' → ∃ v, e = .returned v ∧ K v w') : CallsK P .normal f args w K := by
  intro cs
  obtain ⟨e, w', fr, hR, hst, hf, hl⟩ := hc cs
  obtain ⟨v, rfl, hk⟩ := hr _ _ hR
  obtain ⟨hm, hd, hkd, fn, hfn, hres⟩ := hl
  exact ⟨v, w', fr, fn, hk, hst, hf, hm, hd, hkd, hfn, hres⟩

def intsOf : List AV → Option (List Int)
  | [] => some []
  | .int .i64 n :: l => match intsOf l with
    | some r => some (n :: r)
    | none => none
  | _ => none

theorem intsOf_ok : ∀ {l : List AV} {z : List Int}, intsOf l = some z → l = z.map (AV.int .i64)
  | [], z, he => by cases he; rfl
  | v :: l, z, he => by
    unfold intsOf at he
    split at he
    · rename_i h; cases h
    · rename_i n l' h
      cases h
      split at he
      · rename_i r hr; cases he; rw [intsOf_ok hr]; rfl
      · cases he
    · cases he

theorem intsOf_map (z : List Int) : intsOf (z.map (AV.int .i64)) = some z := by
  induction z with
  | nil => rfl
  | cons n z ih => simp only [List.map_cons, intsOf, ih]

def sorted (zs : List Int) : List Int := zs.mergeSort fun x y => decide (x ≤ y)

/-- what sorting a slice of integers does -/
def sortG (args : List AV) (h : AH) : R (AV × AH) :=
  match args with
  | [.nils] => .ok (.tuple [], h)
  | [.slice id off len _ _ es] => match h.get id with
    | some (.cells vs false) => match intsOf ((vs.drop off).take len) with
      | some zs => if es = 1 ∧ 0 < len ∧ off + len ≤ vs.length ∧ len < 4611686018427387904 then .ok (.tuple [], h.set id (.cells (splice vs off ((sorted zs).map (AV.int .i64))) false)) else .error "sort"
      | none => .error "sort"
    | _ => .error "sort"
  | _ => .error "sort"

/-- the kit's two contracts of slices.Sort at []int -/
structure SortIs (P : Program) (f : FuncId) : Prop where
  some : ∀ (blk off cap : Nat) (zs : List Int) (w : World), Sort.Holds (Value.int .i64) w blk off zs.toArray → blk < w.heap.size → zs.length < 4611686018427387904 →
    Calls P f #[.slice (some ⟨blk, off, none⟩) zs.length cap] w fun e w' =>
      e = .returned (.tuple #[]) ∧ ∃ n os, w' = Sort.grow (Sort.putRow (Value.int .i64) (Sort.ahead w n) blk off (zs.mergeSort fun x y => decide (x ≤ y)).toArray) os
  none : ∀ (p : Option Addr) (cap : Nat) (w : World), Calls P f #[.slice p 0 cap] w fun e w' => e = .returned (.tuple #[]) ∧ w' = w
  enter : ∀ args w, (callFunc f args).run P w = .ok (.enter f args) w

theorem putRow_heap {b n off : Nat} {cur : Array Value} {e : TypeId} {fr : Nat × Nat} (d : Array Int) (hb : w.heap[b]? = some (.cells cur e fr)) :
    (Sort.putRow (Value.int .i64) (Sort.ahead w n) b off d).heap[b]? = some (.cells (Sort.putCells (Value.int .i64) off d cur) e fr) := by
  simp [Sort.putRow, Sort.mapBlock, Sort.ahead, Array.getElem?_modify, hb, Sort.onCells]

theorem putRow_other {b n off k : Nat} (d : Array Int) (hk : k ≠ b) : (Sort.putRow (Value.int .i64) (Sort.ahead w n) b off d).heap[k]? = w.heap[k]? := by
  have : b ≠ k := fun e => hk e.symm
  simp [Sort.putRow, Sort.mapBlock, Sort.ahead, Array.getElem?_modify, this]

theorem sort_ok {f : FuncId} (hs : SortIs P f) {args : List AV} {v : AV} (he : sortG args h = .ok (v, h')) {args' : List Value} (ha : ConL φ args args') (hR : Rel B w0 φ h w) :
    (∀ w, (callFunc f ⟨args'⟩).run P w = .ok (.enter f ⟨args'⟩) w) ∧ CallsK P .normal f ⟨args'⟩ w (fun v' w' => ∃ φ', Con φ' v v' ∧ Rel B w0 φ' h' w' ∧ Ext φ h φ' h') := by
  refine ⟨fun w => hs.enter _ _, ?_⟩
  unfold sortG at he
  split at he
  · cases he
    cases ha with
    | cons h1 h2 =>
      cases h2
      cases h1
      exact .of_calls (hs.none _ _ w) fun e w' hh => ⟨_, hh.1, φ, .tuple .nil, by rw [hh.2]; exact hR, .refl _ _⟩
  · rename_i id off len cap x es
    split at he
    · rename_i vs hg
      split at he
      · rename_i zs hz
        split at he
        · rename_i hcond
          obtain ⟨rfl, h0, hle, hbig⟩ := hcond
          cases he
          have hz := intsOf_ok hz
          have hlen : zs.length = len := by
            have := congrArg List.length hz
            simp only [List.length_take, List.length_drop, List.length_map] at this
            omega
          have hget : ∀ j, j < zs.length → vs[off + j]? = some (.int .i64 (zs.getD j 0)) := by
            intro j hj
            have : ((vs.drop off).take len)[j]? = (zs.map (AV.int .i64))[j]? := by rw [hz]
            rw [List.getElem?_take_of_lt (by omega), List.getElem?_drop] at this
            rw [this]
            simp [List.getD, List.getElem?_eq_getElem hj]
          cases ha with
          | cons h1 h2 =>
            cases h2
            cases h1 with
            | @slice _ _ _ _ c _ _ p ad hp hx hcap hl hr =>
              obtain ⟨c0, e, lo, hi, g1, g2, g3, g4, g5⟩ := hR.obj _ _ _ hp hg
              rcases hr with hr | ⟨hr, rfl⟩
              · omega
              have hH : Sort.Holds (Value.int .i64) w p.blk (p.off + off) zs.toArray := by
                intro j hj
                have hj' : j < zs.length := by simpa using hj
                obtain ⟨y, hy, hc⟩ := g4 _ _ (hget j hj')
                cases hc
                refine ⟨?_, ?_⟩
                · rw [cell?_of g1, show p.off + off + j = p.off + (off + j) from by omega, hy]
                  simp [List.getD, List.getElem?_eq_getElem hj', hj']
                · have := g5 rfl (p.off + off + j) (by omega) (by omega)
                  simp only [World.frozen?, g1, Bool.and_eq_false_iff, decide_eq_false_iff_not]
                  omega
              have hB := hR.own _ _ _ hp hg rfl
              have hlt := (hR.obj _ _ _ hp hg).lt
              have hsl : (zs.mergeSort fun x y => decide (x ≤ y)).length = zs.length := List.length_mergeSort zs
              have hcalls := hs.some p.blk (p.off + off) c zs w hH hlt (by omega)
              rw [hlen] at hcalls
              refine .of_calls hcalls fun e' w' hh => ⟨_, hh.1, φ, .tuple .nil, ?_, .write hp _⟩
              obtain ⟨n, os, rfl⟩ := hh.2
              have hb1 : Below B w (Sort.putRow (Value.int .i64) (Sort.ahead w n) p.blk (p.off + off) (zs.mergeSort fun x y => decide (x ≤ y)).toArray) :=
                ⟨rfl, rfl, rfl, by simp [Sort.putRow, Sort.mapBlock, Sort.ahead], fun k hk => putRow_other _ (by omega)⟩
              have hR1 : Rel B w0 φ (h.set id (.cells (splice vs off ((sorted zs).map (AV.int .i64))) false)) (Sort.putRow (Value.int .i64) (Sort.ahead w n) p.blk (p.off + off) (zs.mergeSort fun x y => decide (x ≤ y)).toArray) := by
                refine hR.write hp hg rfl rfl hb1 (fun k hk => putRow_other _ hk) ?_
                refine ⟨_, e, lo, hi, putRow_heap _ g1, ?_, ?_, fun i x hx => ?_, g5⟩
                · rw [splice_length _ _ _ (by simp only [List.length_map, sorted]; omega)]; exact g2
                · simp only [Sort.putCells, Array.size_mapIdx]; exact g3
                · rw [splice_get _ _ _ _ (by simp only [List.length_map, sorted]; omega)] at hx
                  simp only [List.length_map, sorted] at hx
                  simp only [Sort.putCells, Array.getElem?_mapIdx, List.size_toArray]
                  split at hx
                  · rename_i hin
                    obtain ⟨y, hy, _⟩ := g4 _ _ (hget (i - off) (by omega))
                    rw [show p.off + i = p.off + (off + (i - off)) from by omega, hy]
                    simp only [Option.map_some]
                    rw [if_pos (by omega)]
                    refine ⟨_, rfl, ?_⟩
                    rw [List.getElem?_map, List.getElem?_eq_getElem (by omega)] at hx
                    cases hx
                    rw [show p.off + (off + (i - off)) - (p.off + off) = i - off from by omega]
                    have hlt2 : i - off < (zs.mergeSort fun x y => decide (x ≤ y)).length := by omega
                    rw [show (zs.mergeSort fun x y => decide (x ≤ y)).toArray[i - off]! = (zs.mergeSort fun x y => decide (x ≤ y))[i - off] from by simp [List.getElem?_eq_getElem hlt2]]
                    exact .int _ _
                  · rename_i hout
                    obtain ⟨y, hy, hc⟩ := g4 _ _ hx
                    rw [hy]
                    simp only [Option.map_some]
                    rw [if_neg (by omega)]
                    exact ⟨_, rfl, hc⟩
              refine hR1.world ⟨rfl, rfl, rfl, by simp [Sort.grow], fun k hk => Sort.heap_grow_old _ _ ?_⟩ fun i q o e1 e2 => Sort.heap_grow_old _ _ (hR1.obj _ _ _ e1 e2).lt
              exact Nat.lt_of_lt_of_le hk hR1.size
        · cases he
      · cases he
    · cases he
  · cases he

end Go.Dr

namespace Go.Dk
open Go Go.Dr
set_option maxRecDepth 100000

noncomputable abbrev P : Program := Go.Proofs.Tryz.prog
def f_law13_IndexLists : FuncId := 3
def f_slices_Clone_int_int : FuncId := 7
def f_index_Union : FuncId := 9
def f_slices_Concat_int_int : FuncId := 29
def f_slices_Grow_int_int : FuncId := 59
def f_index_rising : FuncId := 28
def f_slices_Values_int_int : FuncId := 58
def f_slices_Values_int_int_1 : FuncId := 95
def f_slices_Sorted_int : FuncId := 57
def f_slices_Collect_int : FuncId := 93
def f_slices_AppendSeq_int_int : FuncId := 123
def f_slices_Sort_int_int : FuncId := 94
def f_slices_Compact_int_int : FuncId := 56
def f_ref13_Union : FuncId := 10
def f_ref13_set : FuncId := 30
def f_ref13_has : FuncId := 60
def f_slices_Equal_int_int : FuncId := 8
def f_index_Meet : FuncId := 11
def f_index_Meet_1 : FuncId := 32
def f_slices_Contains_int_int : FuncId := 33
def f_slices_Index_int_int : FuncId := 62
def f_slices_DeleteFunc_int_int : FuncId := 31
def f_slices_IndexFunc_int_int : FuncId := 61
def f_ref13_Meet : FuncId := 12
def f_index_Minus : FuncId := 13
def f_index_Minus_1 : FuncId := 34
def f_ref13_Minus : FuncId := 14
def f_law13_awake : FuncId := 15
def t_sl_int : TypeId := 22
def t_int : TypeId := 3
def t_string : TypeId := 9
def t_bool : TypeId := 4
def t_sl_sl_int : TypeId := 99
def t_iter_Seq_int : TypeId := 97
def t_func_int_bool : TypeId := 54
@[simp] theorem und_sl_int : P.underlying t_sl_int = some (.slice t_int) := nr (by kernel_rfl)
@[simp] theorem und_int : P.underlying t_int = some (.int .i64) := nr (by kernel_rfl)
@[simp] theorem und_string : P.underlying t_string = some .string := nr (by kernel_rfl)
@[simp] theorem und_bool : P.underlying t_bool = some .bool := nr (by kernel_rfl)
@[simp] theorem und_sl_sl_int : P.underlying t_sl_sl_int = some (.slice t_sl_int) := nr (by kernel_rfl)

/-- the ranges over functions in a code -/
noncomputable def gos : Code → List (Code × Code)
  | .seq x y => gos x ++ gos y
  | .cond _ x y => gos x ++ gos y
  | .block _ c => gos c
  | .loop c => gos c
  | .scope c => gos c
  | .rangeFunc _ _ a b => [(a, b)]
  | _ => []
noncomputable def gosOf (f : FuncId) : List (Code × Code) := match P.funcs[f]? with
  | some fn => match fn.body with | some c => gos c | none => []
  | none => []
noncomputable def goAssign (f k : Nat) : Code := match (gosOf f)[k]? with | some p => p.1 | none => .skip
noncomputable def goBody (f k : Nat) : Code := match (gosOf f)[k]? with | some p => p.2 | none => .skip

end Go.Dk

namespace Go.Dk
open Go Go.Dr
set_option maxRecDepth 100000

-- reached: 28
/-- dryrot/dryrotlaw13.IndexLists, of 2 -/
noncomputable def c_law13_IndexLists : CC :=
 (.seq
  (.ops [
   .row ⟨(some 4), none, .move (.c (.bool false))⟩])
  (.seq
   (.ops [
    .row ⟨(some 7), none, .move (.t 0)⟩,
    .row ⟨(some 8), none, .move (.t 0)⟩,
    .row ⟨(some 9), none, .lenV (.t 8)⟩,
    .row ⟨(some 10), none, .mm false (.t 9) [(.c (.int .i64 40))]⟩,
    .row ⟨(some 11), none, .sliceV 1 (.t 7) none (some (.t 10)) none⟩,
    .row ⟨(some 12), none, .move (.t 1)⟩,
    .row ⟨(some 13), none, .move (.t 1)⟩,
    .row ⟨(some 14), none, .lenV (.t 13)⟩,
    .row ⟨(some 15), none, .mm false (.t 14) [(.c (.int .i64 40))]⟩,
    .row ⟨(some 16), none, .sliceV 1 (.t 12) none (some (.t 15)) none⟩,
    .row ⟨(some 0), none, .move (.t 11)⟩,
    .row ⟨(some 1), none, .move (.t 16)⟩])
   (.seq
    (.ops [
     .row ⟨(some 17), none, .move (.t 0)⟩,
     .row ⟨(some 18), none, .callV (.c (.func (.func f_slices_Clone_int_int) [] [])) [(.t 17)]⟩,
     .row ⟨(some 19), none, .move (.t 1)⟩,
     .row ⟨(some 20), none, .callV (.c (.func (.func f_slices_Clone_int_int) [] [])) [(.t 19)]⟩,
     .row ⟨(some 5), none, .move (.t 18)⟩,
     .row ⟨(some 6), none, .move (.t 20)⟩])
    (.seq
     (.ops [
      .row ⟨(some 21), none, .move (.t 5)⟩,
      .row ⟨(some 22), none, .move (.t 6)⟩,
      .row ⟨(some 23), none, .callV (.c (.func (.func f_index_Union) [] [])) [(.t 21), (.t 22)]⟩,
      .row ⟨(some 24), none, .move (.t 0)⟩,
      .row ⟨(some 25), none, .move (.t 1)⟩,
      .row ⟨(some 26), none, .callV (.c (.func (.func f_ref13_Union) [] [])) [(.t 24), (.t 25)]⟩,
      .row ⟨(some 27), none, .callV (.c (.func (.func f_slices_Equal_int_int) [] [])) [(.t 23), (.t 26)]⟩,
      .row ⟨(some 28), none, .move (.t 27)⟩,
      .row ⟨(some 29), (some (28, true)), .move (.t 5)⟩,
      .row ⟨(some 30), (some (28, true)), .move (.t 6)⟩,
      .row ⟨(some 31), (some (28, true)), .callV (.c (.func (.func f_index_Meet) [] [])) [(.t 29), (.t 30)]⟩,
      .row ⟨(some 32), (some (28, true)), .move (.t 0)⟩,
      .row ⟨(some 33), (some (28, true)), .move (.t 1)⟩,
      .row ⟨(some 34), (some (28, true)), .callV (.c (.func (.func f_ref13_Meet) [] [])) [(.t 32), (.t 33)]⟩,
      .row ⟨(some 35), (some (28, true)), .callV (.c (.func (.func f_slices_Equal_int_int) [] [])) [(.t 31), (.t 34)]⟩,
      .row ⟨(some 36), none, .pick (.t 28) (.t 35) (.c (.bool false))⟩,
      .row ⟨(some 37), none, .move (.t 36)⟩,
      .row ⟨(some 38), (some (37, true)), .move (.t 5)⟩,
      .row ⟨(some 39), (some (37, true)), .move (.t 6)⟩,
      .row ⟨(some 40), (some (37, true)), .callV (.c (.func (.func f_index_Minus) [] [])) [(.t 38), (.t 39)]⟩,
      .row ⟨(some 41), (some (37, true)), .move (.t 0)⟩,
      .row ⟨(some 42), (some (37, true)), .move (.t 1)⟩,
      .row ⟨(some 43), (some (37, true)), .callV (.c (.func (.func f_ref13_Minus) [] [])) [(.t 41), (.t 42)]⟩,
      .row ⟨(some 44), (some (37, true)), .callV (.c (.func (.func f_slices_Equal_int_int) [] [])) [(.t 40), (.t 43)]⟩,
      .row ⟨(some 45), none, .pick (.t 37) (.t 44) (.c (.bool false))⟩,
      .row ⟨(some 46), none, .move (.t 45)⟩,
      .row ⟨(some 47), (some (46, true)), .move (.t 5)⟩,
      .row ⟨(some 48), (some (46, true)), .move (.t 0)⟩,
      .row ⟨(some 49), (some (46, true)), .callV (.c (.func (.func f_slices_Equal_int_int) [] [])) [(.t 47), (.t 48)]⟩,
      .row ⟨(some 50), none, .pick (.t 46) (.t 49) (.c (.bool false))⟩,
      .row ⟨(some 51), none, .move (.t 50)⟩,
      .row ⟨(some 52), (some (51, true)), .move (.t 6)⟩,
      .row ⟨(some 53), (some (51, true)), .move (.t 1)⟩,
      .row ⟨(some 54), (some (51, true)), .callV (.c (.func (.func f_slices_Equal_int_int) [] [])) [(.t 52), (.t 53)]⟩,
      .row ⟨(some 55), none, .pick (.t 51) (.t 54) (.c (.bool false))⟩,
      .row ⟨(some 56), none, .move (.t 55)⟩,
      .row ⟨(some 57), (some (56, true)), .callV (.c (.func (.func f_law13_awake) [] [])) []⟩,
      .row ⟨(some 58), none, .pick (.t 56) (.t 57) (.c (.bool false))⟩,
      .row ⟨(some 4), none, .move (.t 58)⟩])
     .ret))))

theorem k_law13_IndexLists : compF P f_law13_IndexLists = .ok ⟨59, [.tmp 4], c_law13_IndexLists⟩ := by kernel_rfl

/-- slices.Clone[[]int,int], of 1 -/
noncomputable def c_slices_Clone_int_int : CC :=
 (.seq
  (.ops [
   .row ⟨(some 2), none, .move (.c .nils)⟩])
  (.seq
   (.seq
    (.ops [
     .row ⟨(some 3), none, .move (.t 0)⟩,
     .row ⟨(some 4), none, .bin .eql t_sl_int true (.t 3) (.c .nils)⟩])
    (.cond (.t 4)
     (.seq
      (.ops [
       .row ⟨(some 2), none, .move (.c .nils)⟩])
      .ret)
     .skip))
   (.seq
    (.ops [
     .row ⟨(some 5), none, .buildSlice 0 1 [] []⟩,
     .row ⟨(some 6), none, .move (.t 0)⟩,
     .row ⟨(some 7), none, .app 1 8 (.t 5) (.t 6)⟩,
     .row ⟨(some 2), none, .move (.t 7)⟩])
    .ret)))

theorem k_slices_Clone_int_int : compF P f_slices_Clone_int_int = .ok ⟨8, [.tmp 2], c_slices_Clone_int_int⟩ := by kernel_rfl

/-- dryrot/index.Union, of 2 -/
noncomputable def c_index_Union : CC :=
 (.seq
  (.ops [
   .row ⟨(some 4), none, .move (.c .nils)⟩])
  (.seq
   (.ops [
    .row ⟨(some 5), none, .move (.t 0)⟩,
    .row ⟨(some 6), none, .move (.t 1)⟩,
    .row ⟨(some 7), none, .buildSlice 2 1 [.nils, .nils] [(0, 1, (.t 5)), (1, 1, (.t 6))]⟩,
    .row ⟨(some 8), none, .callV (.c (.func (.func f_slices_Concat_int_int) [] [])) [(.t 7)]⟩,
    .row ⟨(some 9), none, .callV (.c (.func (.func f_index_rising) [] [])) [(.t 8)]⟩,
    .row ⟨(some 4), none, .move (.t 9)⟩])
   .ret))

theorem k_index_Union : compF P f_index_Union = .ok ⟨10, [.tmp 4], c_index_Union⟩ := by kernel_rfl

/-- slices.Concat[[]int,int], of 1 -/
noncomputable def c_slices_Concat_int_int : CC :=
 (.seq
  (.ops [
   .row ⟨(some 2), none, .move (.c .nils)⟩])
  (.seq
   (.ops [
    .row ⟨(some 3), none, .move (.c (.int .i64 0))⟩])
   (.seq
    (.seq
     (.ops [
      .row ⟨(some 9), none, .move (.t 0)⟩,
      .row ⟨(some 10), none, .lenV (.t 9)⟩,
      .row ⟨(some 11), none, .move (.c (.int .i64 0))⟩])
     (.block 0
      (.loop
       (.seq
        (.ops [
         .row ⟨(some 12), none, .bin .lss t_int false (.t 11) (.t 10)⟩])
        (.seq
         (.cond (.t 12)
          .skip
          (.exit 0))
         (.seq
          (.block 1
           (.seq
            (.ops [
             .row ⟨(some 13), none, .idxV 1 (.t 9) (.t 11)⟩,
             .row ⟨(some 14), none, .load1 (.t 13)⟩,
             .row ⟨(some 5), none, .move (.t 14)⟩])
            (.seq
             (.ops [
              .row ⟨(some 15), none, .move (.t 3)⟩,
              .row ⟨(some 16), none, .move (.t 5)⟩,
              .row ⟨(some 17), none, .lenV (.t 16)⟩,
              .row ⟨(some 18), none, .bin .add t_int false (.t 15) (.t 17)⟩,
              .row ⟨(some 3), none, .move (.t 18)⟩])
             (.seq
              (.ops [
               .row ⟨(some 19), none, .move (.t 3)⟩,
               .row ⟨(some 20), none, .bin .lss t_int true (.t 19) (.c (.int .i64 0))⟩])
              (.cond (.t 20)
               (.ops [
                .row ⟨(some 21), none, .mkI t_string (.c (.str [108, 101, 110, 32, 111, 117, 116, 32, 111, 102, 32, 114, 97, 110, 103, 101]))⟩,
                .row ⟨none, none, .extract (.c .nilp) 0⟩])
               .skip)))))
          (.ops [
           .row ⟨(some 22), none, .bin .add t_int true (.t 11) (.c (.int .i64 1))⟩,
           .row ⟨(some 11), none, .move (.t 22)⟩])))))))
    (.seq
     (.ops [
      .row ⟨(some 23), none, .move (.t 3)⟩,
      .row ⟨(some 24), none, .callV (.c (.func (.func f_slices_Grow_int_int) [] [])) [(.c .nils), (.t 23)]⟩,
      .row ⟨(some 6), none, .move (.t 24)⟩])
     (.seq
      (.seq
       (.ops [
        .row ⟨(some 25), none, .move (.t 0)⟩,
        .row ⟨(some 26), none, .lenV (.t 25)⟩,
        .row ⟨(some 27), none, .move (.c (.int .i64 0))⟩])
       (.block 2
        (.loop
         (.seq
          (.ops [
           .row ⟨(some 28), none, .bin .lss t_int false (.t 27) (.t 26)⟩])
          (.seq
           (.cond (.t 28)
            .skip
            (.exit 2))
           (.seq
            (.block 3
             (.seq
              (.ops [
               .row ⟨(some 29), none, .idxV 1 (.t 25) (.t 27)⟩,
               .row ⟨(some 30), none, .load1 (.t 29)⟩,
               .row ⟨(some 8), none, .move (.t 30)⟩])
              (.ops [
               .row ⟨(some 31), none, .move (.t 6)⟩,
               .row ⟨(some 32), none, .move (.t 8)⟩,
               .row ⟨(some 33), none, .app 1 8 (.t 31) (.t 32)⟩,
               .row ⟨(some 6), none, .move (.t 33)⟩])))
            (.ops [
             .row ⟨(some 34), none, .bin .add t_int true (.t 27) (.c (.int .i64 1))⟩,
             .row ⟨(some 27), none, .move (.t 34)⟩])))))))
      (.seq
       (.ops [
        .row ⟨(some 35), none, .move (.t 6)⟩,
        .row ⟨(some 2), none, .move (.t 35)⟩])
       .ret))))))

theorem k_slices_Concat_int_int : compF P f_slices_Concat_int_int = .ok ⟨36, [.tmp 2], c_slices_Concat_int_int⟩ := by kernel_rfl

/-- slices.Grow[[]int,int], of 2 -/
noncomputable def c_slices_Grow_int_int : CC :=
 (.seq
  (.ops [
   .row ⟨(some 4), none, .move (.c .nils)⟩])
  (.seq
   (.seq
    (.ops [
     .row ⟨(some 5), none, .move (.t 1)⟩,
     .row ⟨(some 6), none, .bin .lss t_int true (.t 5) (.c (.int .i64 0))⟩])
    (.cond (.t 6)
     (.ops [
      .row ⟨(some 7), none, .mkI t_string (.c (.str [99, 97, 110, 110, 111, 116, 32, 98, 101, 32, 110, 101, 103, 97, 116, 105, 118, 101]))⟩,
      .row ⟨none, none, .extract (.c .nilp) 0⟩])
     .skip))
   (.seq
    (.seq
     (.ops [
      .row ⟨(some 8), none, .move (.t 1)⟩,
      .row ⟨(some 9), none, .move (.t 0)⟩,
      .row ⟨(some 10), none, .capV (.t 9)⟩,
      .row ⟨(some 11), none, .move (.t 0)⟩,
      .row ⟨(some 12), none, .lenV (.t 11)⟩,
      .row ⟨(some 13), none, .bin .sub t_int false (.t 10) (.t 12)⟩,
      .row ⟨(some 14), none, .bin .sub t_int false (.t 8) (.t 13)⟩,
      .row ⟨(some 1), none, .move (.t 14)⟩])
     (.seq
      (.ops [
       .row ⟨(some 15), none, .move (.t 1)⟩,
       .row ⟨(some 16), none, .bin .gtr t_int true (.t 15) (.c (.int .i64 0))⟩])
      (.cond (.t 16)
       (.ops [
        .row ⟨(some 17), none, .move (.t 0)⟩,
        .row ⟨(some 18), none, .move (.t 0)⟩,
        .row ⟨(some 19), none, .capV (.t 18)⟩,
        .row ⟨(some 20), none, .sliceV 1 (.t 17) none (some (.t 19)) none⟩,
        .row ⟨(some 21), none, .move (.t 1)⟩,
        .row ⟨(some 22), none, .appZ 1 8 [(.int .i64 0)] (.t 20) (.t 21)⟩,
        .row ⟨(some 23), none, .move (.t 0)⟩,
        .row ⟨(some 24), none, .lenV (.t 23)⟩,
        .row ⟨(some 25), none, .sliceV 1 (.t 22) none (some (.t 24)) none⟩,
        .row ⟨(some 0), none, .move (.t 25)⟩])
       .skip)))
    (.seq
     (.ops [
      .row ⟨(some 26), none, .move (.t 0)⟩,
      .row ⟨(some 4), none, .move (.t 26)⟩])
     .ret))))

theorem k_slices_Grow_int_int : compF P f_slices_Grow_int_int = .ok ⟨27, [.tmp 4], c_slices_Grow_int_int⟩ := by kernel_rfl

/-- dryrot/index.rising, of 1 -/
noncomputable def c_index_rising : CC :=
 (.seq
  (.ops [
   .row ⟨(some 2), none, .move (.c .nils)⟩])
  (.seq
   (.ops [
    .row ⟨(some 3), none, .move (.t 0)⟩,
    .row ⟨(some 4), none, .callV (.c (.func (.func f_slices_Values_int_int) [] [])) [(.t 3)]⟩,
    .row ⟨(some 5), none, .callV (.c (.func (.func f_slices_Sorted_int) [] [])) [(.t 4)]⟩,
    .row ⟨(some 6), none, .callV (.c (.func (.func f_slices_Compact_int_int) [] [])) [(.t 5)]⟩,
    .row ⟨(some 2), none, .move (.t 6)⟩])
   .ret))

theorem k_index_rising : compF P f_index_rising = .ok ⟨7, [.tmp 2], c_index_rising⟩ := by kernel_rfl

/-- slices.Values[[]int,int], of 1 -/
noncomputable def c_slices_Values_int_int : CC :=
 (.seq
  (.ops [
   .row ⟨(some 1), none, .box (.t 0)⟩,
   .row ⟨(some 2), none, .move (.c .nilf)⟩])
  (.seq
   (.ops [
    .row ⟨(some 3), none, .mkF f_slices_Values_int_int_1 [] [(.t 1)]⟩,
    .row ⟨(some 2), none, .move (.t 3)⟩])
   .ret))

theorem k_slices_Values_int_int : compF P f_slices_Values_int_int = .ok ⟨4, [.tmp 2], c_slices_Values_int_int⟩ := by kernel_rfl

/-- slices.Values[[]int,int]$1, of 1 -/
noncomputable def c_slices_Values_int_int_1 : CC :=
 (.seq
  (.ops [
   .row ⟨(some 5), none, .load1 (.t 1)⟩,
   .row ⟨(some 6), none, .lenV (.t 5)⟩,
   .row ⟨(some 7), none, .move (.c (.int .i64 0))⟩])
  (.block 0
   (.loop
    (.seq
     (.ops [
      .row ⟨(some 8), none, .bin .lss t_int false (.t 7) (.t 6)⟩])
     (.seq
      (.cond (.t 8)
       .skip
       (.exit 0))
      (.seq
       (.block 1
        (.seq
         (.ops [
          .row ⟨(some 9), none, .idxV 1 (.t 5) (.t 7)⟩,
          .row ⟨(some 10), none, .load1 (.t 9)⟩,
          .row ⟨(some 4), none, .move (.t 10)⟩])
         (.seq
          (.ops [
           .row ⟨(some 11), none, .move (.t 0)⟩,
           .row ⟨(some 12), none, .move (.t 4)⟩,
           .row ⟨(some 13), none, .callV (.t 11) [(.t 12)]⟩,
           .row ⟨(some 14), none, .un .not (.t 13)⟩])
          (.cond (.t 14)
           .ret
           .skip))))
       (.ops [
        .row ⟨(some 15), none, .bin .add t_int true (.t 7) (.c (.int .i64 1))⟩,
        .row ⟨(some 7), none, .move (.t 15)⟩])))))))

theorem k_slices_Values_int_int_1 : compF P f_slices_Values_int_int_1 = .ok ⟨16, [], c_slices_Values_int_int_1⟩ := by kernel_rfl

/-- slices.Sorted[int], of 1 -/
noncomputable def c_slices_Sorted_int : CC :=
 (.seq
  (.ops [
   .row ⟨(some 2), none, .move (.c .nils)⟩])
  (.seq
   (.ops [
    .row ⟨(some 4), none, .move (.t 0)⟩,
    .row ⟨(some 5), none, .callV (.c (.func (.func f_slices_Collect_int) [] [])) [(.t 4)]⟩,
    .row ⟨(some 3), none, .move (.t 5)⟩])
   (.seq
    (.ops [
     .row ⟨(some 6), none, .move (.t 3)⟩,
     .row ⟨(some 7), none, .callV (.c (.func (.func f_slices_Sort_int_int) [] [])) [(.t 6)]⟩])
    (.seq
     (.ops [
      .row ⟨(some 8), none, .move (.t 3)⟩,
      .row ⟨(some 2), none, .move (.t 8)⟩])
     .ret))))

theorem k_slices_Sorted_int : compF P f_slices_Sorted_int = .ok ⟨9, [.tmp 2], c_slices_Sorted_int⟩ := by kernel_rfl

/-- slices.Collect[int], of 1 -/
noncomputable def c_slices_Collect_int : CC :=
 (.seq
  (.ops [
   .row ⟨(some 2), none, .move (.c .nils)⟩])
  (.seq
   (.ops [
    .row ⟨(some 3), none, .move (.t 0)⟩,
    .row ⟨(some 4), none, .callV (.c (.func (.func f_slices_AppendSeq_int_int) [] [])) [(.c .nils), (.t 3)]⟩,
    .row ⟨(some 2), none, .move (.t 4)⟩])
   .ret))

theorem k_slices_Collect_int : compF P f_slices_Collect_int = .ok ⟨5, [.tmp 2], c_slices_Collect_int⟩ := by kernel_rfl

/-- slices.AppendSeq[[]int,int], of 2 -/
noncomputable def c_slices_AppendSeq_int_int : CC :=
 (.seq
  (.ops [
   .row ⟨(some 2), none, .box (.t 0)⟩,
   .row ⟨(some 4), none, .move (.c .nils)⟩])
  (.seq
   (.seq
    (.ops [
     .row ⟨(some 6), none, .move (.t 1)⟩])
    (.block 0
     (.go 13 (.t 6) #[7] (goAssign f_slices_AppendSeq_int_int 0) (goBody f_slices_AppendSeq_int_int 0))))
   (.seq
    (.ops [
     .row ⟨(some 12), none, .load1 (.t 2)⟩,
     .row ⟨(some 4), none, .move (.t 12)⟩])
    .ret)))

theorem k_slices_AppendSeq_int_int : compF P f_slices_AppendSeq_int_int = .ok ⟨13, [.tmp 4], c_slices_AppendSeq_int_int⟩ := by kernel_rfl

noncomputable def goAssignC_slices_AppendSeq_int_int_0 : CC :=
 (.ops [
  .row ⟨(some 5), none, .move (.t 7)⟩])

theorem goAssignK_slices_AppendSeq_int_int_0 : compC P 13 true (goAssign f_slices_AppendSeq_int_int 0) = .ok goAssignC_slices_AppendSeq_int_int_0 := by kernel_rfl

noncomputable def goBodyC_slices_AppendSeq_int_int_0 : CC :=
 (.block 1
  (.ops [
   .row ⟨(some 8), none, .load1 (.t 2)⟩,
   .row ⟨(some 9), none, .move (.t 5)⟩,
   .row ⟨(some 10), none, .buildSlice 1 1 [(.int .i64 0)] [(0, 1, (.t 9))]⟩,
   .row ⟨(some 11), none, .app 1 8 (.t 8) (.t 10)⟩,
   .row ⟨none, none, .store 1 (.t 2) (.t 11)⟩]))

theorem goBodyK_slices_AppendSeq_int_int_0 : compC P 13 true (goBody f_slices_AppendSeq_int_int 0) = .ok goBodyC_slices_AppendSeq_int_int_0 := by kernel_rfl

/-- slices.Compact[[]int,int], of 1 -/
noncomputable def c_slices_Compact_int_int : CC :=
 (.seq
  (.ops [
   .row ⟨(some 2), none, .move (.c .nils)⟩])
  (.seq
   (.seq
    (.ops [
     .row ⟨(some 6), none, .move (.t 0)⟩,
     .row ⟨(some 7), none, .lenV (.t 6)⟩,
     .row ⟨(some 8), none, .bin .lss t_int true (.t 7) (.c (.int .i64 2))⟩])
    (.cond (.t 8)
     (.seq
      (.ops [
       .row ⟨(some 9), none, .move (.t 0)⟩,
       .row ⟨(some 2), none, .move (.t 9)⟩])
      .ret)
     .skip))
   (.seq
    (.seq
     (.ops [
      .row ⟨(some 3), none, .move (.c (.int .i64 1))⟩])
     (.block 0
      (.loop
       (.seq
        (.seq
         (.ops [
          .row ⟨(some 10), none, .move (.t 3)⟩,
          .row ⟨(some 11), none, .move (.t 0)⟩,
          .row ⟨(some 12), none, .lenV (.t 11)⟩,
          .row ⟨(some 13), none, .bin .lss t_int false (.t 10) (.t 12)⟩])
         (.cond (.t 13)
          .skip
          (.exit 0)))
        (.seq
         (.block 1
          (.seq
           (.ops [
            .row ⟨(some 16), none, .move (.t 0)⟩,
            .row ⟨(some 17), none, .move (.t 3)⟩,
            .row ⟨(some 18), none, .idxV 1 (.t 16) (.t 17)⟩,
            .row ⟨(some 19), none, .load1 (.t 18)⟩,
            .row ⟨(some 20), none, .move (.t 0)⟩,
            .row ⟨(some 21), none, .move (.t 3)⟩,
            .row ⟨(some 22), none, .bin .sub t_int true (.t 21) (.c (.int .i64 1))⟩,
            .row ⟨(some 23), none, .idxV 1 (.t 20) (.t 22)⟩,
            .row ⟨(some 24), none, .load1 (.t 23)⟩,
            .row ⟨(some 25), none, .bin .eql t_int false (.t 19) (.t 24)⟩,
            .stage [⟨(some 24), none, .load1 (.t 23)⟩, ⟨(some 19), none, .load1 (.t 18)⟩]])
           (.cond (.t 25)
            (.seq
             (.ops [
              .row ⟨(some 26), none, .move (.t 0)⟩,
              .row ⟨(some 27), none, .move (.t 3)⟩,
              .row ⟨(some 28), none, .sliceV 1 (.t 26) (some (.t 27)) none none⟩,
              .row ⟨(some 4), none, .move (.t 28)⟩])
             (.seq
              (.seq
               (.ops [
                .row ⟨(some 5), none, .move (.c (.int .i64 1))⟩])
               (.block 2
                (.loop
                 (.seq
                  (.seq
                   (.ops [
                    .row ⟨(some 29), none, .move (.t 5)⟩,
                    .row ⟨(some 30), none, .move (.t 4)⟩,
                    .row ⟨(some 31), none, .lenV (.t 30)⟩,
                    .row ⟨(some 32), none, .bin .lss t_int false (.t 29) (.t 31)⟩])
                   (.cond (.t 32)
                    .skip
                    (.exit 2)))
                  (.seq
                   (.block 3
                    (.seq
                     (.ops [
                      .row ⟨(some 35), none, .move (.t 4)⟩,
                      .row ⟨(some 36), none, .move (.t 5)⟩,
                      .row ⟨(some 37), none, .idxV 1 (.t 35) (.t 36)⟩,
                      .row ⟨(some 38), none, .load1 (.t 37)⟩,
                      .row ⟨(some 39), none, .move (.t 4)⟩,
                      .row ⟨(some 40), none, .move (.t 5)⟩,
                      .row ⟨(some 41), none, .bin .sub t_int true (.t 40) (.c (.int .i64 1))⟩,
                      .row ⟨(some 42), none, .idxV 1 (.t 39) (.t 41)⟩,
                      .row ⟨(some 43), none, .load1 (.t 42)⟩,
                      .row ⟨(some 44), none, .bin .neq t_int false (.t 38) (.t 43)⟩,
                      .stage [⟨(some 43), none, .load1 (.t 42)⟩, ⟨(some 38), none, .load1 (.t 37)⟩]])
                     (.cond (.t 44)
                      (.seq
                       (.ops [
                        .row ⟨(some 45), none, .move (.t 0)⟩,
                        .row ⟨(some 46), none, .move (.t 3)⟩,
                        .row ⟨(some 47), none, .move (.t 4)⟩,
                        .row ⟨(some 48), none, .move (.t 5)⟩,
                        .row ⟨(some 49), none, .idxV 1 (.t 47) (.t 48)⟩,
                        .row ⟨(some 50), none, .load1 (.t 49)⟩,
                        .row ⟨(some 51), none, .idxV 1 (.t 45) (.t 46)⟩,
                        .row ⟨none, none, .store 1 (.t 51) (.t 50)⟩])
                       (.ops [
                        .row ⟨(some 52), none, .move (.t 3)⟩,
                        .row ⟨(some 53), none, .bin .add t_int true (.t 52) (.c (.int .i64 1))⟩,
                        .row ⟨(some 3), none, .move (.t 53)⟩]))
                      .skip)))
                   (.ops [
                    .row ⟨(some 33), none, .move (.t 5)⟩,
                    .row ⟨(some 34), none, .bin .add t_int true (.t 33) (.c (.int .i64 1))⟩,
                    .row ⟨(some 5), none, .move (.t 34)⟩]))))))
              (.seq
               (.ops [
                .row ⟨(some 54), none, .move (.t 0)⟩,
                .row ⟨(some 55), none, .move (.t 3)⟩,
                .row ⟨(some 56), none, .sliceV 1 (.t 54) (some (.t 55)) none none⟩,
                .row ⟨none, none, .clear 1 [(.int .i64 0)] (.t 56)⟩])
               (.seq
                (.ops [
                 .row ⟨(some 57), none, .move (.t 0)⟩,
                 .row ⟨(some 58), none, .move (.t 3)⟩,
                 .row ⟨(some 59), none, .sliceV 1 (.t 57) none (some (.t 58)) none⟩,
                 .row ⟨(some 2), none, .move (.t 59)⟩])
                .ret))))
            .skip)))
         (.ops [
          .row ⟨(some 14), none, .move (.t 3)⟩,
          .row ⟨(some 15), none, .bin .add t_int true (.t 14) (.c (.int .i64 1))⟩,
          .row ⟨(some 3), none, .move (.t 15)⟩]))))))
    (.seq
     (.ops [
      .row ⟨(some 60), none, .move (.t 0)⟩,
      .row ⟨(some 2), none, .move (.t 60)⟩])
     .ret))))

theorem k_slices_Compact_int_int : compF P f_slices_Compact_int_int = .ok ⟨61, [.tmp 2], c_slices_Compact_int_int⟩ := by kernel_rfl

/-- dryrot/dryrotref13.Union, of 2 -/
noncomputable def c_ref13_Union : CC :=
 (.seq
  (.ops [
   .row ⟨(some 4), none, .move (.c .nils)⟩])
  (.seq
   (.ops [
    .row ⟨(some 5), none, .buildSlice 0 1 [] []⟩,
    .row ⟨(some 6), none, .move (.t 0)⟩,
    .row ⟨(some 7), none, .app 1 8 (.t 5) (.t 6)⟩,
    .row ⟨(some 8), none, .move (.t 1)⟩,
    .row ⟨(some 9), none, .app 1 8 (.t 7) (.t 8)⟩,
    .row ⟨(some 10), none, .callV (.c (.func (.func f_ref13_set) [] [])) [(.t 9), (.c .nils), (.c (.bool false))]⟩,
    .row ⟨(some 4), none, .move (.t 10)⟩])
   .ret))

theorem k_ref13_Union : compF P f_ref13_Union = .ok ⟨11, [.tmp 4], c_ref13_Union⟩ := by kernel_rfl

/-- dryrot/dryrotref13.set, of 3 -/
noncomputable def c_ref13_set : CC :=
 (.seq
  (.ops [
   .row ⟨(some 6), none, .move (.c .nils)⟩])
  (.seq
   (.ops [
    .row ⟨(some 7), none, .move (.c .nils)⟩])
   (.seq
    (.seq
     (.ops [
      .row ⟨(some 11), none, .move (.t 0)⟩,
      .row ⟨(some 12), none, .lenV (.t 11)⟩,
      .row ⟨(some 13), none, .move (.c (.int .i64 0))⟩])
     (.block 0
      (.loop
       (.seq
        (.ops [
         .row ⟨(some 14), none, .bin .lss t_int false (.t 13) (.t 12)⟩])
        (.seq
         (.cond (.t 14)
          .skip
          (.exit 0))
         (.seq
          (.block 1
           (.seq
            (.ops [
             .row ⟨(some 15), none, .idxV 1 (.t 11) (.t 13)⟩,
             .row ⟨(some 16), none, .load1 (.t 15)⟩,
             .row ⟨(some 9), none, .move (.t 16)⟩])
            (.seq
             (.seq
              (.ops [
               .row ⟨(some 17), none, .move (.t 1)⟩,
               .row ⟨(some 18), none, .move (.t 9)⟩,
               .row ⟨(some 19), none, .callV (.c (.func (.func f_ref13_has) [] [])) [(.t 17), (.t 18)]⟩,
               .row ⟨(some 20), none, .move (.t 2)⟩,
               .row ⟨(some 21), none, .bin .neq t_bool false (.t 19) (.t 20)⟩,
               .row ⟨(some 22), none, .move (.t 21)⟩,
               .row ⟨(some 23), (some (22, false)), .move (.t 7)⟩,
               .row ⟨(some 24), (some (22, false)), .move (.t 9)⟩,
               .row ⟨(some 25), (some (22, false)), .callV (.c (.func (.func f_ref13_has) [] [])) [(.t 23), (.t 24)]⟩,
               .row ⟨(some 26), none, .pick (.t 22) (.c (.bool true)) (.t 25)⟩])
              (.cond (.t 26)
               (.exit 1)
               .skip))
             (.seq
              (.ops [
               .row ⟨(some 27), none, .move (.t 7)⟩,
               .row ⟨(some 28), none, .lenV (.t 27)⟩,
               .row ⟨(some 10), none, .move (.t 28)⟩])
              (.seq
               (.block 2
                (.loop
                 (.seq
                  (.seq
                   (.ops [
                    .row ⟨(some 29), none, .move (.t 10)⟩,
                    .row ⟨(some 30), none, .bin .gtr t_int true (.t 29) (.c (.int .i64 0))⟩,
                    .row ⟨(some 31), none, .move (.t 30)⟩,
                    .row ⟨(some 32), (some (31, true)), .move (.t 7)⟩,
                    .row ⟨(some 33), (some (31, true)), .move (.t 10)⟩,
                    .row ⟨(some 34), (some (31, true)), .bin .sub t_int true (.t 33) (.c (.int .i64 1))⟩,
                    .row ⟨(some 35), (some (31, true)), .idxV 1 (.t 32) (.t 34)⟩,
                    .row ⟨(some 36), (some (31, true)), .load1 (.t 35)⟩,
                    .row ⟨(some 37), (some (31, true)), .move (.t 9)⟩,
                    .row ⟨(some 38), (some (31, true)), .bin .gtr t_int false (.t 36) (.t 37)⟩,
                    .row ⟨(some 39), none, .pick (.t 31) (.t 38) (.c (.bool false))⟩])
                   (.cond (.t 39)
                    .skip
                    (.exit 2)))
                  (.block 3
                   (.ops [
                    .row ⟨(some 40), none, .move (.t 10)⟩,
                    .row ⟨(some 41), none, .bin .sub t_int true (.t 40) (.c (.int .i64 1))⟩,
                    .row ⟨(some 10), none, .move (.t 41)⟩])))))
               (.ops [
                .row ⟨(some 42), none, .buildSlice 0 1 [] []⟩,
                .row ⟨(some 43), none, .move (.t 7)⟩,
                .row ⟨(some 44), none, .move (.t 10)⟩,
                .row ⟨(some 45), none, .sliceV 1 (.t 43) none (some (.t 44)) none⟩,
                .row ⟨(some 47), none, .move (.t 9)⟩,
                .row ⟨(some 48), none, .buildSlice 1 1 [(.int .i64 0)] [(0, 1, (.t 47))]⟩,
                .row ⟨(some 50), none, .move (.t 7)⟩,
                .row ⟨(some 51), none, .move (.t 10)⟩,
                .row ⟨(some 52), none, .sliceV 1 (.t 50) (some (.t 51)) none none⟩,
                .row ⟨(some 46), none, .app 1 8 (.t 42) (.t 45)⟩,
                .row ⟨(some 49), none, .app 1 8 (.t 46) (.t 48)⟩,
                .row ⟨(some 53), none, .app 1 8 (.t 49) (.t 52)⟩,
                .row ⟨(some 7), none, .move (.t 53)⟩]))))))
          (.ops [
           .row ⟨(some 54), none, .bin .add t_int true (.t 13) (.c (.int .i64 1))⟩,
           .row ⟨(some 13), none, .move (.t 54)⟩])))))))
    (.seq
     (.ops [
      .row ⟨(some 55), none, .move (.t 7)⟩,
      .row ⟨(some 6), none, .move (.t 55)⟩])
     .ret))))

theorem k_ref13_set : compF P f_ref13_set = .ok ⟨56, [.tmp 6], c_ref13_set⟩ := by kernel_rfl

/-- dryrot/dryrotref13.has, of 2 -/
noncomputable def c_ref13_has : CC :=
 (.seq
  (.ops [
   .row ⟨(some 4), none, .move (.c (.bool false))⟩])
  (.seq
   (.seq
    (.ops [
     .row ⟨(some 7), none, .move (.t 0)⟩,
     .row ⟨(some 8), none, .lenV (.t 7)⟩,
     .row ⟨(some 9), none, .move (.c (.int .i64 0))⟩])
    (.block 0
     (.loop
      (.seq
       (.ops [
        .row ⟨(some 10), none, .bin .lss t_int false (.t 9) (.t 8)⟩])
       (.seq
        (.cond (.t 10)
         .skip
         (.exit 0))
        (.seq
         (.block 1
          (.seq
           (.ops [
            .row ⟨(some 11), none, .idxV 1 (.t 7) (.t 9)⟩,
            .row ⟨(some 12), none, .load1 (.t 11)⟩,
            .row ⟨(some 6), none, .move (.t 12)⟩])
           (.seq
            (.ops [
             .row ⟨(some 13), none, .move (.t 6)⟩,
             .row ⟨(some 14), none, .move (.t 1)⟩,
             .row ⟨(some 15), none, .bin .eql t_int false (.t 13) (.t 14)⟩])
            (.cond (.t 15)
             (.seq
              (.ops [
               .row ⟨(some 4), none, .move (.c (.bool true))⟩])
              .ret)
             .skip))))
         (.ops [
          .row ⟨(some 16), none, .bin .add t_int true (.t 9) (.c (.int .i64 1))⟩,
          .row ⟨(some 9), none, .move (.t 16)⟩])))))))
   (.seq
    (.ops [
     .row ⟨(some 4), none, .move (.c (.bool false))⟩])
    .ret)))

theorem k_ref13_has : compF P f_ref13_has = .ok ⟨17, [.tmp 4], c_ref13_has⟩ := by kernel_rfl

/-- slices.Equal[[]int,int], of 2 -/
noncomputable def c_slices_Equal_int_int : CC :=
 (.seq
  (.ops [
   .row ⟨(some 4), none, .move (.c (.bool false))⟩])
  (.seq
   (.seq
    (.ops [
     .row ⟨(some 6), none, .move (.t 0)⟩,
     .row ⟨(some 7), none, .lenV (.t 6)⟩,
     .row ⟨(some 8), none, .move (.t 1)⟩,
     .row ⟨(some 9), none, .lenV (.t 8)⟩,
     .row ⟨(some 10), none, .bin .neq t_int false (.t 7) (.t 9)⟩])
    (.cond (.t 10)
     (.seq
      (.ops [
       .row ⟨(some 4), none, .move (.c (.bool false))⟩])
      .ret)
     .skip))
   (.seq
    (.seq
     (.ops [
      .row ⟨(some 11), none, .move (.t 0)⟩,
      .row ⟨(some 12), none, .lenV (.t 11)⟩,
      .row ⟨(some 13), none, .move (.c (.int .i64 0))⟩])
     (.block 0
      (.loop
       (.seq
        (.ops [
         .row ⟨(some 14), none, .bin .lss t_int false (.t 13) (.t 12)⟩])
        (.seq
         (.cond (.t 14)
          .skip
          (.exit 0))
         (.seq
          (.block 1
           (.seq
            (.ops [
             .row ⟨(some 15), none, .move (.t 13)⟩,
             .row ⟨(some 5), none, .move (.t 15)⟩])
            (.seq
             (.ops [
              .row ⟨(some 16), none, .move (.t 0)⟩,
              .row ⟨(some 17), none, .move (.t 5)⟩,
              .row ⟨(some 18), none, .idxV 1 (.t 16) (.t 17)⟩,
              .row ⟨(some 19), none, .load1 (.t 18)⟩,
              .row ⟨(some 20), none, .move (.t 1)⟩,
              .row ⟨(some 21), none, .move (.t 5)⟩,
              .row ⟨(some 22), none, .idxV 1 (.t 20) (.t 21)⟩,
              .row ⟨(some 23), none, .load1 (.t 22)⟩,
              .row ⟨(some 24), none, .bin .neq t_int false (.t 19) (.t 23)⟩,
              .stage [⟨(some 23), none, .load1 (.t 22)⟩, ⟨(some 19), none, .load1 (.t 18)⟩]])
             (.cond (.t 24)
              (.seq
               (.ops [
                .row ⟨(some 4), none, .move (.c (.bool false))⟩])
               .ret)
              .skip))))
          (.ops [
           .row ⟨(some 25), none, .bin .add t_int true (.t 13) (.c (.int .i64 1))⟩,
           .row ⟨(some 13), none, .move (.t 25)⟩])))))))
    (.seq
     (.ops [
      .row ⟨(some 4), none, .move (.c (.bool true))⟩])
     .ret))))

theorem k_slices_Equal_int_int : compF P f_slices_Equal_int_int = .ok ⟨26, [.tmp 4], c_slices_Equal_int_int⟩ := by kernel_rfl

/-- dryrot/index.Meet, of 2 -/
noncomputable def c_index_Meet : CC :=
 (.seq
  (.ops [
   .row ⟨(some 3), none, .box (.t 1)⟩,
   .row ⟨(some 4), none, .move (.c .nils)⟩])
  (.seq
   (.ops [
    .row ⟨(some 5), none, .move (.t 0)⟩,
    .row ⟨(some 6), none, .callV (.c (.func (.func f_index_rising) [] [])) [(.t 5)]⟩,
    .row ⟨(some 7), none, .mkF f_index_Meet_1 [] [(.t 3)]⟩,
    .row ⟨(some 8), none, .callV (.c (.func (.func f_slices_DeleteFunc_int_int) [] [])) [(.t 6), (.t 7)]⟩,
    .row ⟨(some 4), none, .move (.t 8)⟩])
   .ret))

theorem k_index_Meet : compF P f_index_Meet = .ok ⟨9, [.tmp 4], c_index_Meet⟩ := by kernel_rfl

/-- dryrot/index.Meet$1, of 1 -/
noncomputable def c_index_Meet_1 : CC :=
 (.seq
  (.ops [
   .row ⟨(some 3), none, .move (.c (.bool false))⟩])
  (.seq
   (.ops [
    .row ⟨(some 4), none, .load1 (.t 1)⟩,
    .row ⟨(some 5), none, .move (.t 0)⟩,
    .row ⟨(some 6), none, .callV (.c (.func (.func f_slices_Contains_int_int) [] [])) [(.t 4), (.t 5)]⟩,
    .row ⟨(some 7), none, .un .not (.t 6)⟩,
    .row ⟨(some 3), none, .move (.t 7)⟩])
   .ret))

theorem k_index_Meet_1 : compF P f_index_Meet_1 = .ok ⟨8, [.tmp 3], c_index_Meet_1⟩ := by kernel_rfl

/-- slices.Contains[[]int,int], of 2 -/
noncomputable def c_slices_Contains_int_int : CC :=
 (.seq
  (.ops [
   .row ⟨(some 4), none, .move (.c (.bool false))⟩])
  (.seq
   (.ops [
    .row ⟨(some 5), none, .move (.t 0)⟩,
    .row ⟨(some 6), none, .move (.t 1)⟩,
    .row ⟨(some 7), none, .callV (.c (.func (.func f_slices_Index_int_int) [] [])) [(.t 5), (.t 6)]⟩,
    .row ⟨(some 8), none, .bin .geq t_int true (.t 7) (.c (.int .i64 0))⟩,
    .row ⟨(some 4), none, .move (.t 8)⟩])
   .ret))

theorem k_slices_Contains_int_int : compF P f_slices_Contains_int_int = .ok ⟨9, [.tmp 4], c_slices_Contains_int_int⟩ := by kernel_rfl

/-- slices.Index[[]int,int], of 2 -/
noncomputable def c_slices_Index_int_int : CC :=
 (.seq
  (.ops [
   .row ⟨(some 4), none, .move (.c (.int .i64 0))⟩])
  (.seq
   (.seq
    (.ops [
     .row ⟨(some 6), none, .move (.t 0)⟩,
     .row ⟨(some 7), none, .lenV (.t 6)⟩,
     .row ⟨(some 8), none, .move (.c (.int .i64 0))⟩])
    (.block 0
     (.loop
      (.seq
       (.ops [
        .row ⟨(some 9), none, .bin .lss t_int false (.t 8) (.t 7)⟩])
       (.seq
        (.cond (.t 9)
         .skip
         (.exit 0))
        (.seq
         (.block 1
          (.seq
           (.ops [
            .row ⟨(some 10), none, .move (.t 8)⟩,
            .row ⟨(some 5), none, .move (.t 10)⟩])
           (.seq
            (.ops [
             .row ⟨(some 11), none, .move (.t 1)⟩,
             .row ⟨(some 12), none, .move (.t 0)⟩,
             .row ⟨(some 13), none, .move (.t 5)⟩,
             .row ⟨(some 14), none, .idxV 1 (.t 12) (.t 13)⟩,
             .row ⟨(some 15), none, .load1 (.t 14)⟩,
             .row ⟨(some 16), none, .bin .eql t_int false (.t 11) (.t 15)⟩])
            (.cond (.t 16)
             (.seq
              (.ops [
               .row ⟨(some 17), none, .move (.t 5)⟩,
               .row ⟨(some 4), none, .move (.t 17)⟩])
              .ret)
             .skip))))
         (.ops [
          .row ⟨(some 18), none, .bin .add t_int true (.t 8) (.c (.int .i64 1))⟩,
          .row ⟨(some 8), none, .move (.t 18)⟩])))))))
   (.seq
    (.ops [
     .row ⟨(some 4), none, .move (.c (.int .i64 (-1)))⟩])
    .ret)))

theorem k_slices_Index_int_int : compF P f_slices_Index_int_int = .ok ⟨19, [.tmp 4], c_slices_Index_int_int⟩ := by kernel_rfl

/-- slices.DeleteFunc[[]int,int], of 2 -/
noncomputable def c_slices_DeleteFunc_int_int : CC :=
 (.seq
  (.ops [
   .row ⟨(some 4), none, .move (.c .nils)⟩])
  (.seq
   (.ops [
    .row ⟨(some 8), none, .move (.t 0)⟩,
    .row ⟨(some 9), none, .move (.t 1)⟩,
    .row ⟨(some 10), none, .callV (.c (.func (.func f_slices_IndexFunc_int_int) [] [])) [(.t 8), (.t 9)]⟩,
    .row ⟨(some 5), none, .move (.t 10)⟩])
   (.seq
    (.seq
     (.ops [
      .row ⟨(some 11), none, .move (.t 5)⟩,
      .row ⟨(some 12), none, .bin .eql t_int true (.t 11) (.c (.int .i64 (-1)))⟩])
     (.cond (.t 12)
      (.seq
       (.ops [
        .row ⟨(some 13), none, .move (.t 0)⟩,
        .row ⟨(some 4), none, .move (.t 13)⟩])
       .ret)
      .skip))
    (.seq
     (.seq
      (.ops [
       .row ⟨(some 14), none, .move (.t 5)⟩,
       .row ⟨(some 15), none, .bin .add t_int true (.t 14) (.c (.int .i64 1))⟩,
       .row ⟨(some 6), none, .move (.t 15)⟩])
      (.block 0
       (.loop
        (.seq
         (.seq
          (.ops [
           .row ⟨(some 16), none, .move (.t 6)⟩,
           .row ⟨(some 17), none, .move (.t 0)⟩,
           .row ⟨(some 18), none, .lenV (.t 17)⟩,
           .row ⟨(some 19), none, .bin .lss t_int false (.t 16) (.t 18)⟩])
          (.cond (.t 19)
           .skip
           (.exit 0)))
         (.seq
          (.block 1
           (.seq
            (.ops [
             .row ⟨(some 22), none, .move (.t 0)⟩,
             .row ⟨(some 23), none, .move (.t 6)⟩,
             .row ⟨(some 24), none, .idxV 1 (.t 22) (.t 23)⟩,
             .row ⟨(some 25), none, .load1 (.t 24)⟩,
             .row ⟨(some 7), none, .move (.t 25)⟩])
            (.seq
             (.ops [
              .row ⟨(some 26), none, .move (.t 1)⟩,
              .row ⟨(some 27), none, .move (.t 7)⟩,
              .row ⟨(some 28), none, .callV (.t 26) [(.t 27)]⟩,
              .row ⟨(some 29), none, .un .not (.t 28)⟩])
             (.cond (.t 29)
              (.seq
               (.ops [
                .row ⟨(some 30), none, .move (.t 0)⟩,
                .row ⟨(some 31), none, .move (.t 5)⟩,
                .row ⟨(some 32), none, .move (.t 7)⟩,
                .row ⟨(some 33), none, .idxV 1 (.t 30) (.t 31)⟩,
                .row ⟨none, none, .store 1 (.t 33) (.t 32)⟩])
               (.ops [
                .row ⟨(some 34), none, .move (.t 5)⟩,
                .row ⟨(some 35), none, .bin .add t_int true (.t 34) (.c (.int .i64 1))⟩,
                .row ⟨(some 5), none, .move (.t 35)⟩]))
              .skip))))
          (.ops [
           .row ⟨(some 20), none, .move (.t 6)⟩,
           .row ⟨(some 21), none, .bin .add t_int true (.t 20) (.c (.int .i64 1))⟩,
           .row ⟨(some 6), none, .move (.t 21)⟩]))))))
     (.seq
      (.ops [
       .row ⟨(some 36), none, .move (.t 0)⟩,
       .row ⟨(some 37), none, .move (.t 5)⟩,
       .row ⟨(some 38), none, .sliceV 1 (.t 36) (some (.t 37)) none none⟩,
       .row ⟨none, none, .clear 1 [(.int .i64 0)] (.t 38)⟩])
      (.seq
       (.ops [
        .row ⟨(some 39), none, .move (.t 0)⟩,
        .row ⟨(some 40), none, .move (.t 5)⟩,
        .row ⟨(some 41), none, .sliceV 1 (.t 39) none (some (.t 40)) none⟩,
        .row ⟨(some 4), none, .move (.t 41)⟩])
       .ret))))))

theorem k_slices_DeleteFunc_int_int : compF P f_slices_DeleteFunc_int_int = .ok ⟨42, [.tmp 4], c_slices_DeleteFunc_int_int⟩ := by kernel_rfl

/-- slices.IndexFunc[[]int,int], of 2 -/
noncomputable def c_slices_IndexFunc_int_int : CC :=
 (.seq
  (.ops [
   .row ⟨(some 4), none, .move (.c (.int .i64 0))⟩])
  (.seq
   (.seq
    (.ops [
     .row ⟨(some 6), none, .move (.t 0)⟩,
     .row ⟨(some 7), none, .lenV (.t 6)⟩,
     .row ⟨(some 8), none, .move (.c (.int .i64 0))⟩])
    (.block 0
     (.loop
      (.seq
       (.ops [
        .row ⟨(some 9), none, .bin .lss t_int false (.t 8) (.t 7)⟩])
       (.seq
        (.cond (.t 9)
         .skip
         (.exit 0))
        (.seq
         (.block 1
          (.seq
           (.ops [
            .row ⟨(some 10), none, .move (.t 8)⟩,
            .row ⟨(some 5), none, .move (.t 10)⟩])
           (.seq
            (.ops [
             .row ⟨(some 11), none, .move (.t 1)⟩,
             .row ⟨(some 12), none, .move (.t 0)⟩,
             .row ⟨(some 13), none, .move (.t 5)⟩,
             .row ⟨(some 14), none, .idxV 1 (.t 12) (.t 13)⟩,
             .row ⟨(some 15), none, .load1 (.t 14)⟩,
             .row ⟨(some 16), none, .callV (.t 11) [(.t 15)]⟩])
            (.cond (.t 16)
             (.seq
              (.ops [
               .row ⟨(some 17), none, .move (.t 5)⟩,
               .row ⟨(some 4), none, .move (.t 17)⟩])
              .ret)
             .skip))))
         (.ops [
          .row ⟨(some 18), none, .bin .add t_int true (.t 8) (.c (.int .i64 1))⟩,
          .row ⟨(some 8), none, .move (.t 18)⟩])))))))
   (.seq
    (.ops [
     .row ⟨(some 4), none, .move (.c (.int .i64 (-1)))⟩])
    .ret)))

theorem k_slices_IndexFunc_int_int : compF P f_slices_IndexFunc_int_int = .ok ⟨19, [.tmp 4], c_slices_IndexFunc_int_int⟩ := by kernel_rfl

/-- dryrot/dryrotref13.Meet, of 2 -/
noncomputable def c_ref13_Meet : CC :=
 (.seq
  (.ops [
   .row ⟨(some 4), none, .move (.c .nils)⟩])
  (.seq
   (.ops [
    .row ⟨(some 5), none, .move (.t 0)⟩,
    .row ⟨(some 6), none, .move (.t 1)⟩,
    .row ⟨(some 7), none, .callV (.c (.func (.func f_ref13_set) [] [])) [(.t 5), (.t 6), (.c (.bool true))]⟩,
    .row ⟨(some 4), none, .move (.t 7)⟩])
   .ret))

theorem k_ref13_Meet : compF P f_ref13_Meet = .ok ⟨8, [.tmp 4], c_ref13_Meet⟩ := by kernel_rfl

/-- dryrot/index.Minus, of 2 -/
noncomputable def c_index_Minus : CC :=
 (.seq
  (.ops [
   .row ⟨(some 3), none, .box (.t 1)⟩,
   .row ⟨(some 4), none, .move (.c .nils)⟩])
  (.seq
   (.ops [
    .row ⟨(some 5), none, .move (.t 0)⟩,
    .row ⟨(some 6), none, .callV (.c (.func (.func f_index_rising) [] [])) [(.t 5)]⟩,
    .row ⟨(some 7), none, .mkF f_index_Minus_1 [] [(.t 3)]⟩,
    .row ⟨(some 8), none, .callV (.c (.func (.func f_slices_DeleteFunc_int_int) [] [])) [(.t 6), (.t 7)]⟩,
    .row ⟨(some 4), none, .move (.t 8)⟩])
   .ret))

theorem k_index_Minus : compF P f_index_Minus = .ok ⟨9, [.tmp 4], c_index_Minus⟩ := by kernel_rfl

/-- dryrot/index.Minus$1, of 1 -/
noncomputable def c_index_Minus_1 : CC :=
 (.seq
  (.ops [
   .row ⟨(some 3), none, .move (.c (.bool false))⟩])
  (.seq
   (.ops [
    .row ⟨(some 4), none, .load1 (.t 1)⟩,
    .row ⟨(some 5), none, .move (.t 0)⟩,
    .row ⟨(some 6), none, .callV (.c (.func (.func f_slices_Contains_int_int) [] [])) [(.t 4), (.t 5)]⟩,
    .row ⟨(some 3), none, .move (.t 6)⟩])
   .ret))

theorem k_index_Minus_1 : compF P f_index_Minus_1 = .ok ⟨7, [.tmp 3], c_index_Minus_1⟩ := by kernel_rfl

/-- dryrot/dryrotref13.Minus, of 2 -/
noncomputable def c_ref13_Minus : CC :=
 (.seq
  (.ops [
   .row ⟨(some 4), none, .move (.c .nils)⟩])
  (.seq
   (.ops [
    .row ⟨(some 5), none, .move (.t 0)⟩,
    .row ⟨(some 6), none, .move (.t 1)⟩,
    .row ⟨(some 7), none, .callV (.c (.func (.func f_ref13_set) [] [])) [(.t 5), (.t 6), (.c (.bool false))]⟩,
    .row ⟨(some 4), none, .move (.t 7)⟩])
   .ret))

theorem k_ref13_Minus : compF P f_ref13_Minus = .ok ⟨8, [.tmp 4], c_ref13_Minus⟩ := by kernel_rfl


end Go.Dk

/-
  Lists of numbers, rising, each once: plain laws.
-/
namespace Go.Dr

/-- neighbours that are the same, once -/
def compact : List Int → List Int
  | [] => []
  | [x] => [x]
  | x :: y :: l => if x = y then compact (y :: l) else x :: compact (y :: l)

theorem mem_compact : ∀ (l : List Int) (x : Int), x ∈ compact l ↔ x ∈ l
  | [], x => Iff.rfl
  | [y], x => Iff.rfl
  | a :: b :: l, x => by
    unfold compact
    have ih := mem_compact (b :: l) x
    split
    · rename_i e
      subst e
      rw [ih]
      simp
    · rw [List.mem_cons, ih, List.mem_cons (a := x) (b := a)]

theorem compact_ne_nil : ∀ (x : Int) (l : List Int), compact (x :: l) ≠ []
  | x, [] => by simp [compact]
  | x, y :: l => by
    unfold compact
    split
    · exact compact_ne_nil y l
    · simp

theorem compact_last : ∀ (x : Int) (l : List Int), (compact (x :: l)).getLast? = (x :: l).getLast?
  | x, [] => rfl
  | x, y :: l => by
    unfold compact
    have ih := compact_last y l
    split
    · rw [ih]; simp [List.getLast?_cons_cons]
    · have hne := compact_ne_nil y l
      rw [List.getLast?_cons_cons, ← ih]
      cases hc : compact (y :: l) with
      | nil => exact absurd hc hne
      | cons a m => rw [List.getLast?_cons_cons]

/-- one more at the end -/
theorem compact_snoc : ∀ (l : List Int) (x : Int), compact (l ++ [x]) = if l.getLast? = some x then compact l else compact l ++ [x]
  | [], x => by simp [compact]
  | [a], x => by
    simp only [List.cons_append, List.nil_append, compact, List.getLast?_singleton, Option.some.injEq]
    split
    · rename_i e; subst e; rfl
    · rfl
  | a :: b :: l, x => by
    have ih := compact_snoc (b :: l) x
    rw [List.cons_append] at ih
    simp only [List.cons_append, compact, List.getLast?_cons_cons]
    rw [ih]
    by_cases hx : (b :: l).getLast? = some x
    · simp only [hx, if_true]
    · simp only [hx, if_false]
      split
      · rfl
      · rfl

def rise (l : List Int) : List Int := compact (sorted l)

theorem mem_rise (l : List Int) (x : Int) : x ∈ rise l ↔ x ∈ l := by
  unfold rise sorted
  rw [mem_compact, List.mem_mergeSort]

def Rising (l : List Int) : Prop := l.Pairwise (· < ·)

theorem compact_rising : ∀ (l : List Int), l.Pairwise (· ≤ ·) → Rising (compact l)
  | [], _ => .nil
  | [x], _ => by simp [compact, Rising]
  | a :: b :: l, h => by
    unfold compact
    have h2 := (List.pairwise_cons.1 h)
    have ih := compact_rising (b :: l) h2.2
    split
    · exact ih
    · rename_i hne
      refine List.pairwise_cons.2 ⟨fun y hy => ?_, ih⟩
      rw [mem_compact] at hy
      have hb := h2.1 b (by simp)
      rcases List.mem_cons.1 hy with rfl | hy
      · omega
      · have := (List.pairwise_cons.1 h2.2).1 y hy
        omega

theorem rise_rising (l : List Int) : Rising (rise l) := by
  refine compact_rising _ ?_
  have := List.pairwise_mergeSort (le := fun x y : Int => decide (x ≤ y)) (fun a b c h1 h2 => by simp at *; omega) (fun a b => by simp; omega) l
  exact this.imp fun h => by simpa using h

theorem rising_ext : ∀ {a b : List Int}, Rising a → Rising b → (∀ x, x ∈ a ↔ x ∈ b) → a = b
  | [], [], _, _, _ => rfl
  | [], y :: b, _, _, h => by have := (h y).2 (by simp); simp at this
  | x :: a, [], _, _, h => by have := (h x).1 (by simp); simp at this
  | x :: a, y :: b, ha, hb, h => by
    have ha := List.pairwise_cons.1 ha
    have hb := List.pairwise_cons.1 hb
    have hxy : x = y := by
      have h1 := (h x).1 (by simp)
      have h2 := (h y).2 (by simp)
      rcases List.mem_cons.1 h1 with e | h1
      · exact e
      · rcases List.mem_cons.1 h2 with e | h2
        · exact e.symm
        · have := ha.1 y h2; have := hb.1 x h1; omega
    subst hxy
    rw [rising_ext ha.2 hb.2 fun z => ?_]
    constructor
    · intro hz
      have := (h z).1 (by simp [hz])
      rcases List.mem_cons.1 this with e | h3
      · subst e; have := ha.1 z hz; omega
      · exact h3
    · intro hz
      have := (h z).2 (by simp [hz])
      rcases List.mem_cons.1 this with e | h3
      · subst e; have := hb.1 z hz; omega
      · exact h3

theorem rise_ext {a b : List Int} (h : ∀ x, x ∈ a ↔ x ∈ b) : rise a = rise b :=
  rising_ext (rise_rising a) (rise_rising b) fun x => by rw [mem_rise, mem_rise, h]

/-- what is in a and in b; what is in a alone -/
def meet (a b : List Int) : List Int := (rise a).filter fun n => decide (n ∈ b)
def minus (a b : List Int) : List Int := (rise a).filter fun n => !decide (n ∈ b)

theorem mem_meet (a b : List Int) (x : Int) : x ∈ meet a b ↔ x ∈ a ∧ x ∈ b := by simp [meet, mem_rise]
theorem mem_minus (a b : List Int) (x : Int) : x ∈ minus a b ↔ x ∈ a ∧ ¬ x ∈ b := by simp [minus, mem_rise]

theorem filter_rising {l : List Int} {p : Int → Bool} (h : Rising l) : Rising (l.filter p) := h.filter p

theorem parts1 (a b : List Int) : rise (minus a b ++ meet a b) = rise (a ++ []) := rise_ext fun x => by
  simp only [List.mem_append, mem_meet, mem_minus, List.append_nil]
  by_cases hx : x ∈ b <;> simp [hx]

theorem parts2 (a b : List Int) : rise (rise (minus a b ++ meet a b) ++ minus b a) = rise (a ++ b) := rise_ext fun x => by
  simp only [List.mem_append, mem_rise, mem_meet, mem_minus]
  by_cases hx : x ∈ b <;> by_cases hy : x ∈ a <;> simp [hx, hy]

theorem parts3 (a b : List Int) : meet (minus a b) (minus b a) = [] := by
  rw [List.eq_nil_iff_forall_not_mem]
  intro x hx
  simp only [mem_meet, mem_minus] at hx
  exact hx.2.2 hx.1.1

theorem parts4 (a b : List Int) : meet b a = meet a b :=
  rising_ext (filter_rising (rise_rising b)) (filter_rising (rise_rising a)) fun x => by simp only [mem_meet]; exact And.comm

end Go.Dr

namespace Go.Dk
open Go Go.Dr
set_option maxRecDepth 100000

/-- numbers as cells -/
def iv (l : List Int) : List AV := l.map (AV.int .i64)
@[simp] theorem iv_length (l : List Int) : (iv l).length = l.length := by simp [iv]
theorem iv_get (l : List Int) (i : Nat) : (iv l)[i]? = (l[i]?).map (AV.int .i64) := by simp [iv]
theorem iv_append (l r : List Int) : iv (l ++ r) = iv l ++ iv r := by simp [iv]
theorem iv_take (l : List Int) (n : Nat) : (iv l).take n = iv (l.take n) := by simp [iv]
theorem iv_drop (l : List Int) (n : Nat) : (iv l).drop n = iv (l.drop n) := by simp [iv]
theorem iv_set (l : List Int) (n : Nat) (x : Int) : (iv l).set n (.int .i64 x) = iv (l.set n x) := by simp [iv, List.map_set]
theorem iv_scalar : ∀ (l : List Int), allScalar (iv l) = true
  | [] => rfl
  | x :: l => by
    show (AV.scalar (.int .i64 x) && allScalar (iv l)) = true
    rw [iv_scalar l]; rfl

theorem ev_sum {P : Program} {S : Sums} {f : FuncId} {g : List AV → AH → R (AV × AH)} {args : List AV} {h h' : AH} {v : AV} {K : AV → AH → Prop} (hs : S f = some g) (hg : g args h = .ok (v, h')) (hk : K v h') : Ev P S (.fn f) args h K :=
  ⟨1, v, h', by simp [cl, evCall, hs, hg], hk⟩

/-- a slice of numbers that is ours from block B on; there may be spare places -/
def Wr (B : Nat) (h : AH) (n : Nat) (v : AV) (l : List AV) : Prop :=
  l.length = n ∧ ((v = .nils ∧ n = 0) ∨ ∃ id off cap x vs, v = .slice id off n cap x 1 ∧ B ≤ id ∧ id < h.next ∧ n ≤ cap ∧ h.get id = some (.cells vs false) ∧ off + n ≤ vs.length ∧ (vs.drop off).take n = l)

theorem Wr.sl {B n : Nat} {h : AH} {v : AV} {l : List AV} (s : Wr B h n v l) : Sl h 1 n v l := by
  refine ⟨by rw [s.1]; omega, ?_⟩
  rcases s.2 with e | ⟨id, off, cap, x, vs, e1, e2, e3, e4, e5, e6, e7⟩
  · exact .inl e
  · exact .inr ⟨id, off, cap, x, vs, false, e1, e3, e4, e5, by omega, by rw [Nat.mul_one]; exact e7⟩

theorem Own.wr {B n : Nat} {h : AH} {v : AV} {l : List AV} (s : Own B h 1 n v l) : Wr B h n v l := by
  refine ⟨by rw [s.1]; omega, ?_⟩
  rcases s.2 with e | ⟨id, off, x, vs, e1, e2, e3, e4, e5, e6⟩
  · exact .inl e
  · exact .inr ⟨id, off, n, x, vs, e1, e2, e3, Nat.le_refl _, e4, by omega, by rw [Nat.mul_one] at e6; exact e6⟩

theorem Wr.base {B B' n : Nat} {h : AH} {v : AV} {l : List AV} (s : Wr B h n v l) (hb : B' ≤ B) : Wr B' h n v l := by
  refine ⟨s.1, ?_⟩
  rcases s.2 with e | ⟨id, off, cap, x, vs, e1, e2, e⟩
  · exact .inl e
  · exact .inr ⟨id, off, cap, x, vs, e1, by omega, e⟩

theorem Wr.fr {B n : Nat} {h h' : AH} {v : AV} {l : List AV} (s : Wr B h n v l) (f : Fr h h') : Wr B h' n v l := by
  refine ⟨s.1, ?_⟩
  rcases s.2 with e | ⟨id, off, cap, x, vs, e1, e2, e3, e4, e5, e6⟩
  · exact .inl e
  · exact .inr ⟨id, off, cap, x, vs, e1, e2, Nat.lt_of_lt_of_le e3 f.next, e4, by rw [f.get id e3]; exact e5, e6⟩

/-- an element is written -/
theorem Wr.store {B n : Nat} {h : AH} {v : AV} {l : List AV} (s : Wr B h n v l) {j : Nat} (hj : j < n) {x : AV} (hx : x.scalar = true) :
    ∃ id o h', opIdxV 1 v (.int .i64 (j : Int)) = .ok (.ptr id o) ∧ storeN h id o [x] = .ok h' ∧ Wr B h' n v (l.set j x) ∧ FrB B h h' ∧ h'.next = h.next := by
  rcases s.2 with ⟨rfl, rfl⟩ | ⟨id, off, cap, x', vs, rfl, e2, e3, e4, e5, e6, rfl⟩
  · omega
  · refine ⟨id, off + j, h.set id (.cells (vs.set (off + j) x) false), by rw [opIdxV_slice _ _ _ _ _ _ _ _ ⟨by omega, by omega⟩, Int.toNat_natCast, Nat.mul_one], ?_, ⟨?_, .inr ⟨id, off, cap, x', vs.set (off + j) x, rfl, e2, e3, e4, get_set_new _ _, by rw [List.length_set]; exact e6, ?_⟩⟩, ⟨Nat.le_refl _, fun i hi => get_set_old (by omega)⟩, rfl⟩
    · rw [storeN_one e5 (by omega) hx, splice_set _ _ _ (by omega)]
    · rw [List.length_set]; exact s.1
    · rw [List.drop_set, if_neg (by omega), List.take_set, show off + j - off = j from by omega]

/-- the places from k on are cleared, and the rest is what is left -/
theorem Wr.cut {B n : Nat} {h : AH} {v : AV} {l : List AV} (s : Wr B h n v l) {k : Nat} (hk : k ≤ n) :
    ∃ u r h', opSliceV 1 v (some (.int .i64 (k : Int))) none none = .ok u ∧ opClear 1 [.int .i64 0] u h = okV (.tuple []) h' ∧ opSliceV 1 v none (some (.int .i64 (k : Int))) none = .ok r ∧ Wr B h' k r (l.take k) ∧ FrB B h h' := by
  rcases s.2 with ⟨rfl, rfl⟩ | ⟨id, off, cap, x, vs, rfl, e2, e3, e4, e5, e6, rfl⟩
  · obtain rfl : k = 0 := by omega
    refine ⟨.nils, .nils, h, by simp [opSliceV, boundsA, boundO, boundA], rfl, by simp [opSliceV, boundsA, boundO, boundA], ⟨by simp, .inl ⟨rfl, rfl⟩⟩, .refl _ _⟩
  · have hA : ∀ (c m : Nat), c ≤ m → boundA (.int .i64 (c : Int)) m = .ok c := by
      intro c m hc
      simp only [boundA]
      rw [if_pos ⟨by omega, by omega⟩, Int.toNat_natCast]
    have o1 : opSliceV 1 (.slice id off n cap x 1) (some (.int .i64 (k : Int))) none none = .ok (.slice id (off + k) (n - k) (cap - k) x 1) := by
      have hn : boundA (.int .i64 (k : Int)) n = .ok k := hA k n hk
      simp [opSliceV, boundsA, boundO, hn]
    have o2 : opSliceV 1 (.slice id off n cap x 1) none (some (.int .i64 (k : Int))) none = .ok (.slice id off k cap x 1) := by
      have hn : boundA (.int .i64 (k : Int)) cap = .ok k := hA k cap (by omega)
      simp [opSliceV, boundsA, boundO, hn]
    by_cases h0 : n - k = 0
    · refine ⟨_, _, h, o1, by simp [opClear, h0], o2, ⟨?_, .inr ⟨id, off, cap, x, vs, rfl, e2, e3, by omega, e5, by omega, ?_⟩⟩, .refl _ _⟩
      · rw [List.length_take, s.1]; omega
      · rw [List.take_take, Nat.min_eq_left hk]
    · obtain ⟨m, hm⟩ : ∃ m, n - k = m + 1 := ⟨n - k - 1, by omega⟩
      have hrl : (repl [AV.int .i64 0] (n - k)).length = n - k := by rw [repl_one, List.length_replicate]
      have hst : storeN h id (off + k) (repl [.int .i64 0] (n - k)) = .ok (h.set id (.cells (splice vs (off + k) (repl [.int .i64 0] (n - k))) false)) := by
        have hsc : allScalar (repl [AV.int .i64 0] (n - k)) = true := by
          rw [repl_one]
          induction (n - k) with
          | zero => rfl
          | succ m ih => rw [List.replicate_succ, allScalar_cons, ih]; rfl
        rw [hm] at hrl hsc ⊢
        have : repl [AV.int .i64 0] (m + 1) = .int .i64 0 :: repl [AV.int .i64 0] m := rfl
        rw [this] at hrl hsc ⊢
        have hb : Nat.ble (off + k + (AV.int .i64 0 :: repl [AV.int .i64 0] m).length) vs.length = true := Nat.ble_eq_true_of_le (by omega)
        simp only [storeN, e5, hb, hsc, Bool.and_self, cond_true]
      refine ⟨_, _, h.set id (.cells (splice vs (off + k) (repl [.int .i64 0] (n - k))) false), o1, by simp only [opClear, if_true, h0, if_false, hst], o2, ⟨?_, .inr ⟨id, off, cap, x, _, rfl, e2, e3, by omega, get_set_new _ _, ?_, ?_⟩⟩, ⟨Nat.le_refl _, fun i hi => get_set_old (by omega)⟩⟩
      · rw [List.length_take, s.1]; omega
      · rw [splice_length _ _ _ (by omega)]; omega
      · rw [List.take_take, Nat.min_eq_left hk]
        apply List.ext_getElem?
        intro i
        by_cases hi : i < k
        · rw [List.getElem?_take_of_lt hi, List.getElem?_take_of_lt hi, List.getElem?_drop, List.getElem?_drop, splice_get _ _ _ _ (by omega), if_neg (by omega)]
        · rw [List.getElem?_take_eq_none (by omega), List.getElem?_take_eq_none (by omega)]

end Go.Dk

namespace Go.Dk
open Go Go.Dr

/-- what is told of calls: the library's sort; the closed call -/
abbrev SI : Sums := fun g => if g = f_slices_Sort_int_int then some sortG else closedS f_law13_awake g

theorem ev_awake (h : AH) (K : AV → AH → Prop) : Ev P SI (.fn f_law13_awake) [] h K = K (.bool true) h :=
  Ev.eq ⟨1, .bool true, h, by simp [cl, evCall, SI, closedS, f_law13_awake, f_slices_Sort_int_int], rfl, rfl⟩ K

end Go.Dk

namespace Go.Dk
open Go Go.Dr
set_option maxRecDepth 100000

theorem index70 {h : AH} {v : AV} {l : List Int} {n : Nat} (hv : Sl h 1 n v (iv l)) (hn : n < 2 ^ 62) (x : Int) : Ev P SI (.fn f_slices_Index_int_int) [v, .int .i64 x] h fun r g => g = h ∧ ∃ p : Int, r = .int .i64 p ∧ (0 ≤ p ↔ x ∈ l) := by
  refine ev_fn k_slices_Index_int_int rfl rfl ?_
  have hl : l.length = n := by have := hv.1; simpa using this
  simp [c_slices_Index_int_int, hv.len]
  refine w_count (n := n) (by rfl) (fun j σ ds h' => ds = [] ∧ σ 0 = v ∧ σ 1 = .int .i64 x ∧ σ 7 = .int .i64 (n : Int) ∧ h' = h ∧ ∀ i, i < j → l[i]? ≠ some x) (by omega) (by simp) (by simp) (fun j σ ds h' hJ => by simp [hJ.2.2.2.1]) ?_ ?_
  · rintro j σ ds h' hj hi ⟨rfl, e0, e1, e7, rfl, hno⟩
    have hjl : j < l.length := by omega
    obtain ⟨id, o, g1, g2, _⟩ := hv.get1 (k := .i64) (i := (j : Int)) rfl hj (x := .int .i64 l[j]) (by rw [iv_get, List.getElem?_eq_getElem hjl]; rfl)
    by_cases hx : x = l[j]
    · simp [e0, e1, e7, hi, g1, g2, hx]
    · simp [e0, e1, e7, hi, g1, g2, hx]
      intro i hij
      by_cases e : i = j
      · subst e; rw [List.getElem?_eq_getElem hjl]; intro h; exact hx (Option.some.inj h).symm
      · exact hno i (by omega)
  · rintro σ ds h' ⟨rfl, e0, e1, e7, rfl, hno⟩
    have : x ∉ l := fun hx => by
      obtain ⟨i, hi⟩ := List.mem_iff_getElem?.1 hx
      have : i < l.length := (List.getElem?_eq_some_iff.1 hi).1
      exact hno i (by omega) hi
    simp [this]

theorem contains43 {h : AH} {v : AV} {l : List Int} {n : Nat} (hv : Sl h 1 n v (iv l)) (hn : n < 2 ^ 62) (x : Int) (K : AV → AH → Prop) : Ev P SI (.fn f_slices_Contains_int_int) [v, .int .i64 x] h K = K (.bool (decide (x ∈ l))) h := by
  refine Ev.eq (ev_fn k_slices_Contains_int_int rfl rfl ?_) K
  simp [c_slices_Contains_int_int]
  refine (index70 hv hn x).mono ?_
  rintro r g ⟨rfl, p, rfl, hp⟩
  simp [hp]

theorem minus42 {h : AH} {b : Nat} {v : AV} {l : List Int} {n : Nat} (hv : Sl h 1 n v (iv l)) (hb : load1 h b 0 = .ok v) (hn : n < 2 ^ 62) (x : Int) (K : AV → AH → Prop) : Ev P SI (.fn f_index_Minus_1) [.int .i64 x, .ptr b 0] h K = K (.bool (decide (x ∈ l))) h := by
  refine Ev.eq (ev_fn k_index_Minus_1 rfl rfl ?_) K
  simp [c_index_Minus_1, hb, contains43 hv hn]

theorem meet44 {h : AH} {b : Nat} {v : AV} {l : List Int} {n : Nat} (hv : Sl h 1 n v (iv l)) (hb : load1 h b 0 = .ok v) (hn : n < 2 ^ 62) (x : Int) (K : AV → AH → Prop) : Ev P SI (.fn f_index_Meet_1) [.int .i64 x, .ptr b 0] h K = K (.bool (!decide (x ∈ l))) h := by
  refine Ev.eq (ev_fn k_index_Meet_1 rfl rfl ?_) K
  simp [c_index_Meet_1, hb, contains43 hv hn]

theorem equal19 {h : AH} {v u : AV} {l : List Int} {n m : Nat} (hv : Sl h 1 n v (iv l)) (hu : Sl h 1 m u (iv l)) (hn : n < 2 ^ 62) (K : AV → AH → Prop) : Ev P SI (.fn f_slices_Equal_int_int) [v, u] h K = K (.bool true) h := by
  refine Ev.eq (ev_fn k_slices_Equal_int_int rfl rfl ?_) K
  have hl : l.length = n := by have := hv.1; simpa using this
  have hm : m = n := by have := hu.1; simp at this; omega
  subst hm
  simp [c_slices_Equal_int_int, hv.len, hu.len]
  refine w_count (n := m) (by rfl) (fun j σ ds h' => ds = [] ∧ σ 0 = v ∧ σ 1 = u ∧ σ 12 = .int .i64 (m : Int) ∧ h' = h) (by omega) (by simp) (by simp) (fun j σ ds h' hJ => by simp [hJ.2.2.2.1]) ?_ ?_
  · rintro j σ ds h' hj hi ⟨rfl, e0, e1, e12, rfl⟩
    have hjl : j < l.length := by omega
    obtain ⟨id, o, g1, g2, _⟩ := hv.get1 (k := .i64) (i := (j : Int)) rfl hj (x := .int .i64 l[j]) (by rw [iv_get, List.getElem?_eq_getElem hjl]; rfl)
    obtain ⟨id', o', g1', g2', _⟩ := hu.get1 (k := .i64) (i := (j : Int)) rfl hj (x := .int .i64 l[j]) (by rw [iv_get, List.getElem?_eq_getElem hjl]; rfl)
    simp [e0, e1, e12, hi, g1, g2, g1', g2']
  · rintro σ ds h' ⟨rfl, e0, e1, e12, rfl⟩
    simp

/-- the first place where a predicate holds -/
theorem indexFunc66 {h : AH} {B n : Nat} {v : AV} {l : List Int} {f : FuncId} {c : Nat} {p : Int → Bool} (hv : Sl h 1 n v (iv l)) (hn : n < 2 ^ 62)
    (hp : ∀ g, FrB B h g → ∀ x K, Ev P SI (.fn f) [.int .i64 x, .ptr c 0] g K = K (.bool (p x)) g) (K : AV → AH → Prop) :
    Ev P SI (.fn f_slices_IndexFunc_int_int) [v, .func (.func f) [] [.ptr c 0]] h K = K (.int .i64 (match l.findIdx? p with | some i => (i : Int) | none => -1)) h := by
  refine Ev.eq (ev_fn k_slices_IndexFunc_int_int rfl rfl ?_) K
  have hl : l.length = n := by have := hv.1; simpa using this
  simp [c_slices_IndexFunc_int_int, hv.len]
  refine w_count (n := n) (by rfl) (fun j σ ds h' => ds = [] ∧ σ 0 = v ∧ σ 1 = .func (.func f) [] [.ptr c 0] ∧ σ 7 = .int .i64 (n : Int) ∧ h' = h ∧ ∀ i y, i < j → l[i]? = some y → p y = false) (by omega) (by simp) (by simp) (fun j σ ds h' hJ => by simp [hJ.2.2.2.1]) ?_ ?_
  · rintro j σ ds h' hj hi ⟨rfl, e0, e1, e7, rfl, hno⟩
    have hjl : j < l.length := by omega
    obtain ⟨id, o, g1, g2, _⟩ := hv.get1 (k := .i64) (i := (j : Int)) rfl hj (x := .int .i64 l[j]) (by rw [iv_get, List.getElem?_eq_getElem hjl]; rfl)
    have hc := hp h' (.refl _ _) l[j]
    cases hx : p l[j] with
    | true =>
      rw [hx] at hc
      have hf : l.findIdx? p = some j := by
        rw [List.findIdx?_eq_some_iff_getElem]
        refine ⟨hjl, hx, fun i hi => ?_⟩
        have := hno i l[i] hi (List.getElem?_eq_getElem (by omega))
        simp [this]
      simp [e0, e1, e7, hi, g1, g2, hc, hf]
    | false =>
      rw [hx] at hc
      simp [e0, e1, e7, hi, g1, g2, hc]
      intro i y hij hy
      by_cases e : i = j
      · subst e; rw [List.getElem?_eq_getElem hjl] at hy; cases hy; exact hx
      · exact hno i y (by omega) hy
  · rintro σ ds h' ⟨rfl, e0, e1, e7, rfl, hno⟩
    have hf : l.findIdx? p = none := by
      rw [List.findIdx?_eq_none_iff]
      intro x hx
      obtain ⟨i, hi⟩ := List.mem_iff_getElem?.1 hx
      have : i < l.length := (List.getElem?_eq_some_iff.1 hi).1
      exact hno i x (by omega) hi
    simp [hf]

end Go.Dk

namespace Go.Dk
open Go Go.Dr
set_option maxRecDepth 100000

theorem take_succ_snoc {α : Type} (l : List α) (j : Nat) (x : α) (h : l[j]? = some x) : l.take (j + 1) = l.take j ++ [x] := by
  rw [List.take_add_one, h]; rfl

theorem take_set_snoc (m : List Int) (k : Nat) (x : Int) (h : k < m.length) : (m.set k x).take (k + 1) = m.take k ++ [x] := by
  rw [take_succ_snoc (m.set k x) k x (by simp [h]), List.take_set, List.set_eq_of_length_le (by simp; omega)]

def DInv (B n : Nat) (h : AH) (v : AV) (l : List Int) (p : Int → Bool) (F : AV) (r : Nat) (σ : Sg) (ds : List ADef) (g : AH) : Prop :=
  ∃ (j k : Nat) (m : List Int), r + j = n ∧ ds = [] ∧ σ 0 = v ∧ σ 1 = F ∧ σ 5 = .int .i64 (k : Int) ∧ σ 6 = .int .i64 (j : Int) ∧ k < j ∧ j ≤ n ∧ Wr B g n v (iv m) ∧
      m.take k = (l.take j).filter (fun x => !p x) ∧ m.drop j = l.drop j ∧ FrB B h g

theorem deleteFunc40 {h : AH} {B n : Nat} {v : AV} {l : List Int} {f : FuncId} {c : Nat} {p : Int → Bool} (hv : Wr B h n v (iv l)) (hn : n < 2 ^ 62)
    (hp : ∀ g, FrB B h g → ∀ x K, Ev P SI (.fn f) [.int .i64 x, .ptr c 0] g K = K (.bool (p x)) g) :
    Ev P SI (.fn f_slices_DeleteFunc_int_int) [v, .func (.func f) [] [.ptr c 0]] h fun r g => ∃ m, Wr B g m r (iv (l.filter fun x => !p x)) ∧ m ≤ n ∧ FrB B h g := by
  refine ev_fn k_slices_DeleteFunc_int_int rfl rfl ?_
  have hl : l.length = n := by have := hv.1; simpa using this
  cases hf : l.findIdx? p with
  | none =>
    rw [List.findIdx?_eq_none_iff] at hf
    have e : l.filter (fun x => !p x) = l := by
      rw [List.filter_eq_self]
      intro x hx
      have := hf x hx
      simp [this]
    have hf' : l.findIdx? p = none := by rw [List.findIdx?_eq_none_iff]; exact hf
    simp [c_slices_DeleteFunc_int_int, indexFunc66 hv.sl hn hp, hf', e]
    exact ⟨n, hv, Nat.le_refl _, .refl _ _⟩
  | some i0 =>
    have hf2 := hf
    rw [List.findIdx?_eq_some_iff_getElem] at hf2
    obtain ⟨hi0, hpi, hno⟩ := hf2
    have c1 : ¬ ((i0 : Int) = -1) := by omega
    have w0 : wrapF .i64 ((i0 : Int) + 1) = ((i0 + 1 : Nat) : Int) := by rw [wrap_i64 (by omega) (by omega)]; omega
    simp [c_slices_DeleteFunc_int_int, indexFunc66 hv.sl hn hp, hf, c1, w0]
    refine w_loop (DInv B n h v l p (.func (.func f) [] [.ptr c 0])) (n - (i0 + 1)) ⟨i0 + 1, i0, l, by omega, rfl, by simp, by simp, by simp, by simp, by omega, by omega, hv, ?_, rfl, .refl _ _⟩ ?_
    · rw [take_succ_snoc l i0 l[i0] (List.getElem?_eq_getElem hi0), List.filter_append]
      have e : (l.take i0).filter (fun x => !p x) = l.take i0 := by
        rw [List.filter_eq_self]
        intro x hx
        obtain ⟨i, hi⟩ := List.mem_iff_getElem?.1 hx
        have hlt : i < i0 := by
          have := (List.getElem?_eq_some_iff.1 hi).1
          rw [List.length_take] at this; omega
        rw [List.getElem?_take_of_lt hlt, List.getElem?_eq_getElem (by omega)] at hi
        cases hi
        have := hno i hlt
        simpa using this
      rw [e]
      simp [hpi]
    · rintro r σ ds g ⟨j, k, m, hr, rfl, e0, e1, e5, e6, hkj, hjn, hw, ht, hd, hF⟩
      have hml : m.length = n := by have := hw.1; simpa using this
      by_cases hj : j < n
      · have c2 : (j : Int) < (n : Int) := by omega
        have hjl : j < l.length := by omega
        have hmj : m[j]? = some l[j] := by
          have : (m.drop j)[0]? = (l.drop j)[0]? := by rw [hd]
          simpa [List.getElem?_drop, List.getElem?_eq_getElem hjl] using this
        obtain ⟨id, o, g1, g2, _⟩ := hw.sl.get1 (k := .i64) (i := (j : Int)) rfl hj (x := .int .i64 l[j]) (by rw [iv_get, hmj]; rfl)
        have hc := hp g hF l[j]
        have w1 : wrapF .i64 ((j : Int) + 1) = ((j + 1 : Nat) : Int) := by rw [wrap_i64 (by omega) (by omega)]; omega
        have w2 : wrapF .i64 ((k : Int) + 1) = ((k + 1 : Nat) : Int) := by rw [wrap_i64 (by omega) (by omega)]; omega
        have hd1 : m.drop (j + 1) = l.drop (j + 1) := by rw [← List.drop_drop, ← List.drop_drop, hd]
        have ht1 : l.take (j + 1) = l.take j ++ [l[j]] := take_succ_snoc l j _ (List.getElem?_eq_getElem hjl)
        cases hx : p l[j] with
        | true =>
          rw [hx] at hc
          simp [e0, e1, e5, e6, hw.sl.len, hj, g1, g2, hc, w1, Kloop_normal]
          refine ⟨r - 1, by omega, j + 1, k, m, by omega, rfl, by simp [e0], by simp [e1], by simp [e5], by simp, by omega, by omega, hw, ?_, hd1, hF⟩
          rw [ht, ht1, List.filter_append]
          simp [hx]
        | false =>
          rw [hx] at hc
          obtain ⟨id', o', g', s1, s2, s3, s4, s5⟩ := hw.store (j := k) (by omega) (x := .int .i64 l[j]) rfl
          simp [e0, e1, e5, e6, hw.sl.len, hj, g1, g2, hc, s1, s2, w1, w2, Kloop_normal]
          refine ⟨r - 1, by omega, j + 1, k + 1, m.set k l[j], by omega, rfl, by simp [e0], by simp [e1], by simp, by simp, by omega, by omega, by rw [iv_set] at s3; exact s3, ?_, ?_, hF.trans s4⟩
          · rw [take_set_snoc _ _ _ (by omega), ht, ht1, List.filter_append]
            simp [hx]
          · rw [List.drop_set, if_pos (by omega)]; exact hd1
      · have hjN : j = n := by omega
        subst hjN
        obtain ⟨u, r', h', o1, o2, o3, o4, o5⟩ := hw.cut (k := k) (by omega)
        simp [e0, e1, e5, e6, hw.sl.len, o1, o2, o3]
        refine ⟨k, ?_, by omega, hF.trans o5⟩
        rw [iv_take, ht, List.take_of_length_le (by omega)] at o4
        exact o4

def CInv1 (n : Nat) (h : AH) (v : AV) (l : List Int) (r : Nat) (σ : Sg) (ds : List ADef) (g : AH) : Prop :=
  ∃ j : Nat, r + j = n ∧ ds = [] ∧ σ 0 = v ∧ σ 3 = .int .i64 (j : Int) ∧ 1 ≤ j ∧ compact (l.take j) = l.take j ∧ g = h

def CInv2 (B n J : Nat) (h : AH) (v u : AV) (l : List Int) (r : Nat) (σ : Sg) (ds : List ADef) (g : AH) : Prop :=
  ∃ (i k : Nat) (m : List Int), r + i = n - J ∧ ds = [] ∧ σ 0 = v ∧ σ 4 = u ∧ σ 3 = .int .i64 (k : Int) ∧ σ 5 = .int .i64 (i : Int) ∧ 1 ≤ i ∧ J + i ≤ n ∧ k < J + i ∧ Wr B g n v (iv m) ∧
    m.take k = compact (l.take (J + i)) ∧ m.drop (J + i - 1) = l.drop (J + i - 1) ∧ FrB B h g

theorem compact67 {h : AH} {B n : Nat} {v : AV} {l : List Int} (hv : Wr B h n v (iv l)) (hn : n < 2 ^ 62) :
    Ev P SI (.fn f_slices_Compact_int_int) [v] h fun r g => ∃ m, Wr B g m r (iv (compact l)) ∧ m ≤ n ∧ FrB B h g := by
  refine ev_fn k_slices_Compact_int_int rfl rfl ?_
  have hl : l.length = n := by have := hv.1; simpa using this
  by_cases h2 : n < 2
  · have c1 : (n : Int) < 2 := by omega
    have e : compact l = l := by
      match l, hl with
      | [], _ => rfl
      | [x], _ => rfl
      | _ :: _ :: _, h => simp at h; omega
    simp [c_slices_Compact_int_int, hv.sl.len, c1, e]
    exact ⟨n, hv, Nat.le_refl _, .refl _ _⟩
  have c1 : ¬ (n : Int) < 2 := by omega
  simp [c_slices_Compact_int_int, hv.sl.len, c1]
  refine w_loop (CInv1 n h v l) (n - 1) ⟨1, by omega, rfl, by simp, by simp, by omega, ?_, rfl⟩ ?_
  · match l, hl with
    | [], h => simp at h; omega
    | x :: l, _ => simp [compact]
  rintro r σ ds g ⟨j, hr, rfl, e0, e3, hj1, hcp, rfl⟩
  by_cases hj : j < n
  case neg =>
    have hjN : j = n := by omega
    subst hjN
    have e : compact l = l := by rw [List.take_of_length_le (by omega)] at hcp; exact hcp
    simp [e0, e3, hv.sl.len, e]
    exact ⟨j, hv, Nat.le_refl _, .refl _ _⟩
  have hjl : j < l.length := by omega
  obtain ⟨q, rfl⟩ : ∃ q, j = q + 1 := ⟨j - 1, by omega⟩
  obtain ⟨id, o, g1, g2, _⟩ := hv.sl.get1 (k := .i64) (i := ((q + 1 : Nat) : Int)) rfl hj (x := .int .i64 l[q + 1]) (by rw [iv_get, List.getElem?_eq_getElem hjl]; rfl)
  obtain ⟨id', o', g1', g2', _⟩ := hv.sl.get1 (k := .i64) (i := (q : Int)) rfl (by omega) (x := .int .i64 l[q]) (by rw [iv_get, List.getElem?_eq_getElem (by omega)]; rfl)
  have w0 : wrapF .i64 (q : Int) = (q : Int) := wrap_i64 (by omega) (by omega)
  have w1 : wrapF .i64 ((q : Int) + 1 + 1) = ((q + 1 + 1 : Nat) : Int) := by rw [wrap_i64 (by omega) (by omega)]; omega
  have hlast : (l.take (q + 1)).getLast? = some l[q] := by
    rw [take_succ_snoc l q l[q] (List.getElem?_eq_getElem (by omega)), List.getLast?_append]; rfl
  have ht1 : l.take (q + 1 + 1) = l.take (q + 1) ++ [l[q + 1]] := take_succ_snoc l (q + 1) _ (List.getElem?_eq_getElem hjl)
  have c2 : (q : Int) + 1 < (n : Int) := by omega
  push_cast at g1
  by_cases hx : l[q + 1] = l[q]
  case neg =>
    have hx' : ¬ l[q] = l[q + 1] := fun e => hx e.symm
    simp [e0, e3, hv.sl.len, c2, g1, g2, w0, g1', g2', hx, w1, Kloop_normal]
    refine ⟨r - 1, by omega, q + 1 + 1, by omega, rfl, by simp [e0], by simp, by omega, ?_, rfl⟩
    rw [ht1, compact_snoc, hlast, if_neg (fun e => hx' (Option.some.inj e)), hcp]
  simp [e0, e3, hv.sl.len, c2, g1, g2, w0, g1', g2', hx]
  have tail : ∃ u, opSliceV 1 v (some (.int .i64 ((q : Int) + 1))) none none = .ok u ∧ ∀ g' m, Wr B g' n v (iv m) → Sl g' 1 (n - (q + 1)) u (iv (m.drop (q + 1))) := by
    obtain ⟨u, f1, _⟩ := hv.sl.slice (lo := some (.int .i64 ((q + 1 : Nat) : Int))) (hi := none) (a := q + 1) (b := n) (.inr ⟨.i64, rfl⟩) (.inl ⟨rfl, rfl⟩) (by omega) (Nat.le_refl _)
    refine ⟨u, by simpa using f1, fun g' m hw => ?_⟩
    have hml : m.length = n := by have := hw.1; simpa using this
    obtain ⟨u', f2, s2⟩ := hw.sl.slice (lo := some (.int .i64 ((q + 1 : Nat) : Int))) (hi := none) (a := q + 1) (b := n) (.inr ⟨.i64, rfl⟩) (.inl ⟨rfl, rfl⟩) (by omega) (Nat.le_refl _)
    rw [f1] at f2
    cases f2
    rw [Nat.mul_one, Nat.mul_one, iv_drop, iv_take, List.take_of_length_le (by simp; omega)] at s2
    exact s2
  obtain ⟨u, fu, hu⟩ := tail
  simp [fu]
  refine w_loop (CInv2 B n (q + 1) g v u l) (n - (q + 1) - 1) ⟨1, q + 1, l, by omega, rfl, by simp [e0], by simp, by simp [e3], by simp, by omega, by omega, by omega, hv, ?_, rfl, .refl _ _⟩ ?_
  · rw [ht1, compact_snoc, hlast, if_pos (by rw [hx]), hcp]
  rintro r2 σ2 ds2 g' ⟨i, k, m, hr2, rfl, a0, a4, a3, a5, hi1, hin, hki, hw, ht, hd, hF⟩
  have hml : m.length = n := by have := hw.1; simpa using this
  have us := hu _ _ hw
  have hkl : k ≤ m.length := by omega
  by_cases hi : i < n - (q + 1)
  case neg =>
    have hiN : q + 1 + i = n := by omega
    have c3 : ¬ ((i : Int) < ((n - (q + 1) : Nat) : Int)) := by omega
    obtain ⟨u2, r', h', o1, o2, o3, o4, o5⟩ := hw.cut (k := k) (by omega)
    simp [a0, a4, a3, a5, us.len, hi, o1, o2, o3]
    refine ⟨k, ?_, by omega, hF.trans o5⟩
    rw [iv_take, ht, List.take_of_length_le (by omega)] at o4
    exact o4
  obtain ⟨s, rfl⟩ : ∃ s, i = s + 1 := ⟨i - 1, by omega⟩
  have hdg : ∀ c, m[q + 1 + (s + 1) - 1 + c]? = l[q + 1 + (s + 1) - 1 + c]? := by
    intro c
    have : (m.drop (q + 1 + (s + 1) - 1))[c]? = (l.drop (q + 1 + (s + 1) - 1))[c]? := by rw [hd]
    simpa [List.getElem?_drop] using this
  have hb1 : q + 1 + s + 1 < l.length := by omega
  have hb0 : q + 1 + s < l.length := by omega
  have v1 : (iv (m.drop (q + 1)))[s + 1]? = some (.int .i64 l[q + 1 + s + 1]) := by
    have := hdg 1
    rw [show q + 1 + (s + 1) - 1 + 1 = q + 1 + (s + 1) from by omega] at this
    rw [iv_get, List.getElem?_drop, this, show q + 1 + (s + 1) = q + 1 + s + 1 from by omega, List.getElem?_eq_getElem hb1]; rfl
  have v0 : (iv (m.drop (q + 1)))[s]? = some (.int .i64 l[q + 1 + s]) := by
    have := hdg 0
    rw [show q + 1 + (s + 1) - 1 + 0 = q + 1 + s from by omega] at this
    rw [iv_get, List.getElem?_drop, this, List.getElem?_eq_getElem hb0]; rfl
  obtain ⟨id1, o1, x1, x2, _⟩ := us.get1 (k := .i64) (i := ((s + 1 : Nat) : Int)) rfl hi v1
  obtain ⟨id0, o0, y1, y2, _⟩ := us.get1 (k := .i64) (i := (s : Int)) rfl (by omega) v0
  push_cast at x1
  have u0 : wrapF .i64 (s : Int) = (s : Int) := wrap_i64 (by omega) (by omega)
  have u1 : wrapF .i64 ((s : Int) + 1 + 1) = ((s + 1 + 1 : Nat) : Int) := by rw [wrap_i64 (by omega) (by omega)]; omega
  have u2 : wrapF .i64 ((k : Int) + 1) = ((k + 1 : Nat) : Int) := by rw [wrap_i64 (by omega) (by omega)]; omega
  have c3 : (s : Int) + 1 < ((n - (q + 1) : Nat) : Int) := by omega
  have hlast2 : (l.take (q + 1 + (s + 1))).getLast? = some l[q + 1 + s] := by
    rw [show q + 1 + (s + 1) = q + 1 + s + 1 from by omega, take_succ_snoc l (q + 1 + s) _ (List.getElem?_eq_getElem hb0), List.getLast?_append]; rfl
  have ht2 : l.take (q + 1 + (s + 1 + 1)) = l.take (q + 1 + (s + 1)) ++ [l[q + 1 + s + 1]] := by
    rw [show q + 1 + (s + 1 + 1) = q + 1 + (s + 1) + 1 from by omega]
    exact take_succ_snoc l _ _ (by rw [show q + 1 + (s + 1) = q + 1 + s + 1 from by omega]; exact List.getElem?_eq_getElem hb1)
  have hd2 : m.drop (q + 1 + (s + 1 + 1) - 1) = l.drop (q + 1 + (s + 1 + 1) - 1) := by
    rw [show q + 1 + (s + 1 + 1) - 1 = (q + 1 + (s + 1) - 1) + 1 from by omega, ← List.drop_drop, ← List.drop_drop, hd]
  by_cases hy : l[q + 1 + s + 1] = l[q + 1 + s]
  · simp [a0, a4, a3, a5, us.len, c3, x1, x2, u0, y1, y2, hy, u1, Kloop_normal]
    refine ⟨r2 - 1, by omega, s + 1 + 1, k, m, by omega, rfl, by simp [a0], by simp [a4], by simp [a3], by simp, by omega, by omega, by omega, hw, ?_, hd2, hF⟩
    rw [ht, ht2, compact_snoc, hlast2, if_pos (by rw [hy])]
  · obtain ⟨id', o', g2, s1, s2, s3, s4, s5⟩ := hw.store (j := k) (by omega) (x := .int .i64 l[q + 1 + s + 1]) rfl
    simp [a0, a4, a3, a5, us.len, c3, x1, x2, u0, y1, y2, hy, s1, s2, u1, u2, Kloop_normal]
    refine ⟨r2 - 1, by omega, s + 1 + 1, k + 1, m.set k l[q + 1 + s + 1], by omega, rfl, by simp [a0], by simp [a4], by simp, by simp, by omega, by omega, by omega, by rw [iv_set] at s3; exact s3, ?_, ?_, hF.trans s4⟩
    · rw [take_set_snoc _ _ _ (by omega), ht, ht2, compact_snoc, hlast2, if_neg (fun e => hy (Option.some.inj e).symm)]
    · rw [List.drop_set, if_pos (by omega)]; exact hd2

end Go.Dk

namespace Go.Dk
open Go Go.Dr
set_option maxRecDepth 100000

def VInv (n : Nat) (ly b : Nat) (Inv : Nat → AH → Prop) (v : AV) (r : Nat) (σ : Sg) (ds : List ADef) (g : AH) : Prop :=
  ∃ j, r + j = n ∧ ds = [] ∧ σ 0 = .func (.yield ly) [] [] ∧ σ 5 = v ∧ σ 6 = .int .i64 (n : Int) ∧ σ 7 = .int .i64 (j : Int) ∧ Inv j g

theorem values93 {h : AH} {v : AV} {l : List Int} {n b ly : Nat} (hn : n < 2 ^ 62) (Inv : Nat → AH → Prop)
    (hi : ∀ j g, Inv j g → load1 g b 0 = .ok v ∧ Sl g 1 n v (iv l))
    (hy : ∀ j g x, l[j]? = some x → Inv j g → Ev P SI (.yield ly) [.int .i64 x] g fun r g' => r = .bool true ∧ Inv (j + 1) g') (h0 : Inv 0 h) :
    Ev P SI (.fn f_slices_Values_int_int_1) [.func (.yield ly) [] [], .ptr b 0] h fun _ g => Inv n g := by
  refine ev_fn k_slices_Values_int_int_1 rfl rfl ?_
  obtain ⟨l0, s0⟩ := hi 0 h h0
  have hl : l.length = n := by have := s0.1; simpa using this
  simp [c_slices_Values_int_int_1, l0, s0.len]
  refine w_count (n := n) (by rfl) (fun j σ ds g => ds = [] ∧ σ 0 = .func (.yield ly) [] [] ∧ σ 5 = v ∧ σ 6 = .int .i64 (n : Int) ∧ Inv j g) (by omega) (by simp) (by simp [h0]) (fun j σ ds h' hJ => by simp [hJ.2.2.2.1]) ?_ ?_
  · rintro j σ ds g hj hij ⟨rfl, e0, e5, e6, hI⟩
    have hjl : j < l.length := by omega
    obtain ⟨_, s⟩ := hi j g hI
    obtain ⟨id, o, g1, g2, _⟩ := s.get1 (k := .i64) (i := (j : Int)) rfl hj (x := .int .i64 l[j]) (by rw [iv_get, List.getElem?_eq_getElem hjl]; rfl)
    simp [e0, e5, e6, hij, g1, g2]
    refine (hy j g _ (List.getElem?_eq_getElem hjl) hI).mono ?_
    rintro r g' ⟨rfl, hI'⟩
    simp [e0, e5, e6, hij, hI']
  · rintro σ ds g ⟨rfl, e0, e5, e6, hI⟩
    simp [hI]

/-- what stands in the heap as numbers are collected -/
structure RInv (h : AH) (l : List Int) (tmps : PT AV) (j : Nat) (g : AH) : Prop where
  fr : Fr h g
  cell : ∃ x, g.get h.next = some (.cells [x] false) ∧ Own (h.next + 3) g 1 j x (iv (l.take j)) ∧ (j = 0 → x = .nils)
  did : g.get (h.next + 1) = some (.deferred (some []))
  lid : g.get (h.next + 2) = some (.loop { state := .ready, pending := none, n := 13, tmps := tmps, params := #[7], assign := goAssign f_slices_AppendSeq_int_int 0, body := goBody f_slices_AppendSeq_int_int 0 })
  next : h.next + 3 ≤ g.next

theorem round114 {h : AH} {l : List Int} {tmps : PT AV} {j : Nat} {x : Int} {g : AH} (h2 : valT tmps 2 = .ptr h.next 0) (hx : l[j]? = some x) (hl : l.length ≤ 2 ^ 30) (hI : RInv h l tmps j g) :
    Ev P SI (.yield (h.next + 2)) [.int .i64 x] g fun r g' => r = .bool true ∧ RInv h l tmps (j + 1) g' := by
  obtain ⟨hF, ⟨y, hc, oy, _⟩, hdid, hlid, hnext⟩ := hI
  have hj : j < l.length := (List.getElem?_eq_some_iff.1 hx).1
  refine ev_yield hlid rfl rfl goAssignK_slices_AppendSeq_int_int_0 goBodyK_slices_AppendSeq_int_int_0 ?_
  simp only [goAssignC_slices_AppendSeq_int_int_0, wpC_ops, wpOps_row, evS_move, CO.evS_t, wpN_okV, wpOps_nil, setS, Kass]
  refine ⟨_, hlid, rfl, ?_⟩
  generalize hgb : g.set (h.next + 2) _ = gb
  have nb : gb.next = g.next := by rw [← hgb]; rfl
  have gbo : ∀ i, i ≠ h.next + 2 → gb.get i = g.get i := fun i hi => by rw [← hgb]; exact get_set_old hi
  have gbl : gb.get (h.next + 2) = some (.loop { state := .busy, pending := none, n := 13, tmps := tmps, params := #[7], assign := goAssign f_slices_AppendSeq_int_int 0, body := goBody f_slices_AppendSeq_int_int 0 }) := by rw [← hgb]; exact get_set_new _ _
  have oyb : Own (h.next + 3) gb 1 j y (iv (l.take j)) := by rw [← hgb]; exact oy.set _ (oy.ne (by omega))
  have ly : load1 gb h.next 0 = .ok y := by
    rw [load1_of (vs := [y]) (ro := false) (by rw [gbo _ (by omega)]; exact hc)]; rfl
  have fp := Fr.push (.refl gb) (.cells [.int .i64 x] false)
  have oy2 := oyb.fr fp
  have hsl : Sl (gb.push (.cells [.int .i64 x] false)) 1 1 (.slice gb.next 0 1 1 true 1) [.int .i64 x] :=
    (Own.fresh (B := 0) (h := gb) true (Nat.zero_le _) rfl).sl
  obtain ⟨x', h3, a1, a2, a3, a4, a5⟩ := oy2.append (bytes := 8) hsl (by simp; omega) rfl (by omega) (by omega)
  have low : ∀ i, i < h.next + 3 → h3.get i = gb.get i := fun i hi => by
    rw [a3.get i hi, get_push_old (by omega)]
  have hn3 : gb.next + 1 ≤ h3.next := by have := a3.next; simpa using this
  have st : storeN h3 h.next 0 [x'] = .ok (h3.set h.next (.cells [x'] false)) := by
    rw [storeN_one (vs := [y]) (by rw [low _ (by omega), gbo _ (by omega)]; exact hc) (by simp) a2.sl.oneCell.2]; rfl
  have fin : Own (h.next + 3) ((h3.set h.next (.cells [x'] false)).set (h.next + 2) (.loop { state := .ready, pending := none, n := 13, tmps := tmps, params := #[7], assign := goAssign f_slices_AppendSeq_int_int 0, body := goBody f_slices_AppendSeq_int_int 0 })) 1 (j + 1) x' (iv (l.take (j + 1))) := by
    have e : iv (l.take (j + 1)) = iv (l.take j) ++ [.int .i64 x] := by rw [take_succ_snoc l j x hx, iv_append]; rfl
    rw [e]
    exact (a2.set _ (a2.ne (by omega))).set _ (a2.ne (by omega))
  have hcl := a2.sl.oneCell.1
  simp [goBodyC_slices_AppendSeq_int_int_0, h2, ly, splice_eq, a1, hcl, st, Kend]
  refine ⟨_, (get_set_old (by omega)).trans ((low _ (by omega)).trans gbl), ?_⟩
  have g4 : ∀ i, i < h.next + 2 → i ≠ h.next → ((h3.set h.next (.cells [x'] false)).set (h.next + 2) (.loop { state := .ready, pending := none, n := 13, tmps := tmps, params := #[7], assign := goAssign f_slices_AppendSeq_int_int 0, body := goBody f_slices_AppendSeq_int_int 0 })).get i = g.get i := fun i h1 h2 => by
    rw [get_set_old (by omega), get_set_old h2, low _ (by omega), gbo _ (by omega)]
  refine ⟨⟨by simp; omega, fun i hi => (g4 i (by omega) (by omega)).trans (hF.get i hi)⟩, ⟨x', ?_, fin, by omega⟩, ?_, ?_, by simp; omega⟩
  · rw [get_set_old (by omega), get_set_new]
  · rw [g4 _ (by omega) (by omega)]; exact hdid
  · exact get_set_new _ _

end Go.Dk

namespace Go.Dk
open Go Go.Dr
set_option maxRecDepth 100000

/-- the numbers of a slice, collected -/
theorem appendSeq114 {h : AH} {v : AV} {l : List Int} {n b : Nat} (hv : Sl h 1 n v (iv l)) (hb : b < h.next) (hl1 : load1 h b 0 = .ok v) (hn : n ≤ 2 ^ 30) :
    Ev P SI (.fn f_slices_AppendSeq_int_int) [.nils, .func (.func f_slices_Values_int_int_1) [] [.ptr b 0]] h fun r g => Own h.next g 1 n r (iv l) ∧ Fr h g ∧ (n = 0 → r = .nils) := by
  have hl : l.length = n := by have := hv.1; simpa using this
  refine ev_fn k_slices_AppendSeq_int_int rfl rfl ?_
  simp [c_slices_AppendSeq_int_int]
  rw [wpC_go]
  simp only [CO.evS_t, upd_some, Nat.reduceEqDiff, if_true, if_false, wpGo_func, List.nil_append, AH.next_push]
  intro tmps ht
  have h2 : valT tmps 2 = .ptr h.next 0 := by rw [ht]; rfl
  simp only [Nat.add_assoc, Nat.reduceAdd]
  generalize hg0 : ((h.push (.cells [.nils] false)).push (.deferred (some []))).push (.loop _) = g0
  have hI0 : RInv h l tmps 0 g0 := by
    subst hg0
    refine ⟨((Fr.push (.refl h) _).push _).push _, ⟨.nils, ?_, by simpa [iv] using Own.nil _ _, fun _ => rfl⟩, ?_, ?_, by simp⟩
    · rw [get_push_old (by simp <;> omega), get_push_old (by simp), get_push_new]
    · rw [get_push_old (by simp)]; exact get_push_new _
    · exact get_push_new _
  have ld : ∀ g, Fr h g → load1 g b 0 = .ok v := fun g f => by
    unfold load1 at hl1 ⊢
    rw [f.get b hb]; exact hl1
  refine (values93 (by omega) (RInv h l tmps) (fun j g hI => ⟨ld g hI.fr, hv.fr hI.fr⟩) (fun j g x hx hI => round114 h2 hx (by omega) hI) hI0).mono ?_
  rintro _ g ⟨hF, ⟨x, hc, ox, hx0⟩, hdid, hlid, hnext⟩
  refine ⟨_, by simpa only [Nat.add_assoc, Nat.reduceAdd] using hlid, by simp, ?_⟩
  simp
  simp only [show h.next + 1 + 1 = h.next + 2 from rfl]
  generalize hg1 : g.set (h.next + 2) _ = g1
  have o1 : ∀ i, i ≠ h.next + 2 → g1.get i = g.get i := fun i hi => by rw [← hg1]; exact get_set_old hi
  have n1 : g1.next = g.next := by rw [← hg1]; rfl
  rw [List.take_of_length_le (by omega)] at ox
  have ox1 : Own (h.next + 3) g1 1 n x (iv l) := by rw [← hg1]; exact ox.set _ (ox.ne (by omega))
  have lx : load1 g1 h.next 0 = .ok x := by
    rw [load1_of (vs := [x]) (ro := false) (by rw [o1 _ (by omega)]; exact hc)]; rfl
  have hF1 : Fr h g1 := ⟨by rw [n1]; exact hF.next, fun i hi => (o1 i (by omega)).trans (hF.get i hi)⟩
  have hd2 : g1.get (h.next + 1) = some (.deferred (some [])) := by rw [o1 _ (by omega)]; exact hdid
  have hF2 : Fr h (g1.set (h.next + 1) (.deferred none)) := hF1.set _ (by omega)
  have ox2 : Own h.next (g1.set (h.next + 1) (.deferred none)) 1 n x (iv l) := (ox1.set _ (ox1.ne (by omega))).base (by omega)
  simp [lx, Kfin_ret_ds, Defers_collected, hd2, hF2, ox2]
  exact hx0

theorem collect91 {h : AH} {v : AV} {l : List Int} {n b : Nat} (hv : Sl h 1 n v (iv l)) (hb : b < h.next) (hl1 : load1 h b 0 = .ok v) (hn : n ≤ 2 ^ 30) :
    Ev P SI (.fn f_slices_Collect_int) [.func (.func f_slices_Values_int_int_1) [] [.ptr b 0]] h fun r g => Own h.next g 1 n r (iv l) ∧ Fr h g ∧ (n = 0 → r = .nils) := by
  refine ev_fn k_slices_Collect_int rfl rfl ?_
  simp [c_slices_Collect_int]
  refine (appendSeq114 hv hb hl1 hn).mono ?_
  rintro r g ⟨a1, a2, a3⟩
  simp [a1, a2]
  exact a3

theorem sort92 {B : Nat} {h : AH} {v : AV} {l : List Int} {n : Nat} (hv : Own B h 1 n v (iv l)) (h0 : n = 0 → v = .nils) (hn : n ≤ 2 ^ 30) :
    Ev P SI (.fn f_slices_Sort_int_int) [v] h fun r g => r = .tuple [] ∧ Own B g 1 n v (iv (sorted l)) ∧ FrB B h g := by
  have hl : l.length = n := by have := hv.1; simpa using this
  have hsl : (sorted l).length = n := by rw [sorted, List.length_mergeSort]; exact hl
  rcases hv.2 with ⟨rfl, rfl⟩ | ⟨id, off, x, vs, rfl, e2, e3, e4, e5, e6⟩
  · obtain rfl : l = [] := List.length_eq_zero_iff.1 hl
    exact ev_sum (g := sortG) (v := .tuple []) (h' := h) rfl rfl ⟨rfl, by simpa [sorted, iv] using hv, .refl _ _⟩
  · have hpos : 0 < n := by
      rcases Nat.eq_zero_or_pos n with e | e
      · have := h0 e; cases this
      · exact e
    rw [Nat.mul_one] at e5 e6
    have hs : sortG [.slice id off n n x 1] h = .ok (.tuple [], h.set id (.cells (splice vs off (iv (sorted l))) false)) := by
      simp only [sortG, e4, e6, iv, intsOf_map]
      rw [if_pos ⟨trivial, hpos, e5, by omega⟩]
    refine ev_sum (g := sortG) (v := .tuple []) rfl hs ⟨rfl, ⟨?_, .inr ⟨id, off, x, _, rfl, e2, e3, get_set_new _ _, ?_, ?_⟩⟩, ⟨Nat.le_refl _, fun i hi => get_set_old (by omega)⟩⟩
    · rw [iv_length]; omega
    · rw [splice_length _ _ _ (by rw [iv_length]; omega)]; omega
    · apply List.ext_getElem?
      intro i
      by_cases hi : i < n
      · rw [List.getElem?_take_of_lt (by omega), List.getElem?_drop, splice_get _ _ _ _ (by rw [iv_length]; omega), if_pos (by rw [iv_length]; omega), show off + i - off = i from by omega]
      · rw [List.getElem?_take_eq_none (by omega), List.getElem?_eq_none (by rw [iv_length]; omega)]

theorem sorted68 {h : AH} {v : AV} {l : List Int} {n b : Nat} (hv : Sl h 1 n v (iv l)) (hb : b < h.next) (hl1 : load1 h b 0 = .ok v) (hn : n ≤ 2 ^ 30) :
    Ev P SI (.fn f_slices_Sorted_int) [.func (.func f_slices_Values_int_int_1) [] [.ptr b 0]] h fun r g => Own h.next g 1 n r (iv (sorted l)) ∧ Fr h g := by
  refine ev_fn k_slices_Sorted_int rfl rfl ?_
  simp [c_slices_Sorted_int]
  refine (collect91 hv hb hl1 hn).mono ?_
  rintro r g ⟨a1, a2, a3⟩
  simp
  refine (sort92 a1 a3 hn).mono ?_
  rintro _ g2 ⟨rfl, b1, b2⟩
  simp [b1]
  exact ⟨Nat.le_trans a2.next b2.next, fun i hi => (b2.get i hi).trans (a2.get i hi)⟩

theorem rising41 {h : AH} {v : AV} {l : List Int} {n : Nat} (hv : Sl h 1 n v (iv l)) (hn : n ≤ 2 ^ 30) :
    Ev P SI (.fn f_index_rising) [v] h fun r g => ∃ m, Wr h.next g m r (iv (rise l)) ∧ m ≤ n ∧ Fr h g := by
  refine ev_fn k_index_rising rfl rfl ?_
  have v69 : ∀ K : AV → AH → Prop, Ev P SI (.fn f_slices_Values_int_int) [v] h K = K (.func (.func f_slices_Values_int_int_1) [] [.ptr h.next 0]) (h.push (.cells [v] false)) := fun K => by
    refine Ev.eq (ev_fn k_slices_Values_int_int rfl rfl ?_) K
    simp [c_slices_Values_int_int, hv.oneCell.1]
  simp [c_index_rising, v69]
  have f0 := Fr.push (.refl h) (.cells [v] false)
  refine (sorted68 (hv.fr f0) (b := h.next) (by simp) (by simp) hn).mono ?_
  rintro r g ⟨a1, a2⟩
  have hF := f0.trans a2
  simp
  refine (compact67 (B := h.next) (n := n) (l := sorted l) (Own.wr (Own.base a1 (by simp))) (by omega)).mono ?_
  rintro r2 g2 ⟨m, b1, b2, b3⟩
  simp
  exact ⟨m, b1, b2, ⟨Nat.le_trans hF.next b3.next, fun i hi => (b3.get i hi).trans (hF.get i hi)⟩⟩

end Go.Dk

namespace Go.Dk
open Go Go.Dr
set_option maxRecDepth 100000

theorem grow71 {h : AH} {n : Nat} (hn : n ≤ 2 ^ 30) (K : AV → AH → Prop) : Ev P SI (.fn f_slices_Grow_int_int) [.nils, .int .i64 (n : Int)] h K =
    if n = 0 then K .nils h else K (.slice h.next 0 0 n false 1) (h.push (.cells (List.replicate n (.int .i64 0)) false)) := by
  by_cases h0 : n = 0
  · subst h0
    rw [if_pos rfl]
    refine Ev.eq (ev_fn k_slices_Grow_int_int rfl rfl ?_) K
    have w0 : wrapF .i64 0 = 0 := wrap_i64 (by omega) (by omega)
    simp [c_slices_Grow_int_int, opLenV, opCapV, w0]
  · rw [if_neg h0]
    refine Ev.eq (ev_fn k_slices_Grow_int_int rfl rfl ?_) K
    have c1 : ¬ ((n : Int) < 0) := by omega
    have c2 : (0 : Int) < (n : Int) := by omega
    have w0 : wrapF .i64 0 = 0 := wrap_i64 (by omega) (by omega)
    have w1 : wrapF .i64 (n : Int) = n := wrap_i64 (by omega) (by omega)
    have z : opAppZ 1 8 [.int .i64 0] .nils (.int .i64 (n : Int)) h = okV (.slice h.next 0 n n false 1) (h.push (.cells (List.replicate n (.int .i64 0)) false)) := by
      simp only [opAppZ, Int.toNat_natCast]
      rw [if_pos ⟨by omega, by omega, by omega⟩]
      simp only [appTo]
      rw [if_neg h0, if_pos ⟨by omega, by omega⟩, repl_one]
    have s0 : opSliceV 1 (.nils) none (some (.int .i64 0)) none = .ok .nils := by simp [opSliceV, boundsA, boundO, boundA]
    have s1 : opSliceV 1 (.slice h.next 0 n n false 1) none (some (.int .i64 0)) none = .ok (.slice h.next 0 0 n false 1) := by
      simp [opSliceV, boundsA, boundO, boundA]
    simp [c_slices_Grow_int_int, opLenV, opCapV, w0, w1, c1, c2, h0, s0, z, s1, Nat.pos_of_ne_zero h0]

def sz (na nb : Nat) : Nat → Nat
  | 0 => 0
  | 1 => na
  | _ => na + nb

def CC1 (h : AH) (na nb : Nat) (sl : AV) (j : Nat) (σ : Sg) (ds : List ADef) (g : AH) : Prop :=
  ds = [] ∧ σ 0 = sl ∧ σ 3 = .int .i64 (sz na nb j : Int) ∧ σ 9 = sl ∧ σ 10 = .int .i64 2 ∧ g = h

def CC2 (h : AH) (na nb : Nat) (l : List AV) (sl : AV) (j : Nat) (σ : Sg) (ds : List ADef) (g : AH) : Prop :=
  ds = [] ∧ σ 25 = sl ∧ σ 26 = .int .i64 2 ∧ ((na + nb = 0 ∧ σ 6 = .nils ∧ g = h) ∨
    (0 < na + nb ∧ σ 6 = .slice h.next 0 (sz na nb j) (na + nb) false 1 ∧ ∃ vs, g = h.push (.cells vs false) ∧ vs.length = na + nb ∧ vs.take (sz na nb j) = l.take (sz na nb j)))

theorem app_part {h : AH} {T k m : Nat} {vs : List AV} {u : AV} {l : List AV} (hk : k + m ≤ T) (hv : vs.length = T) (hu : Sl (h.push (.cells vs false)) 1 m u l) (hs : allScalar l = true) :
    ∃ vs', opApp 1 8 (.slice h.next 0 k T false 1) u (h.push (.cells vs false)) = okV (.slice h.next 0 (k + m) T false 1) (h.push (.cells vs' false)) ∧ vs'.length = T ∧ vs'.take (k + m) = vs.take k ++ l := by
  have hl : l.length = m := by have := hu.1; omega
  unfold opApp
  rw [hu.cells]
  simp only [appTo, ne_eq, not_true, if_false, forceN_eq, Nat.ble_eq_true_of_le hk, cond_true, Nat.mul_one, Nat.zero_add]
  cases l with
  | nil =>
    obtain rfl : m = 0 := by simpa using hl.symm
    exact ⟨vs, by simp [storeN], hv, by simp⟩
  | cons x l =>
    refine ⟨splice vs k (x :: l), ?_, by rw [splice_length _ _ _ (by omega)]; exact hv, ?_⟩
    · have hb : Nat.ble (k + (x :: l).length) vs.length = true := Nat.ble_eq_true_of_le (by omega)
      simp only [storeN, get_push_new, hb, hs, Bool.and_self, cond_true, AH.set_push]
    · rw [splice, ← hl, ← List.append_assoc, List.take_left' (by rw [List.length_append, List.length_take]; omega)]

theorem ite_wp {P : Program} {S : Sums} {c : Prop} [Decidable c] {C : CC} {Q : Post} {σ1 σ2 : Sg} {ds : List ADef} {h1 h2 : AH} (J : Sg → List ADef → AH → Prop) (a1 : c → J σ1 ds h1) (a2 : ¬ c → J σ2 ds h2)
    (h : ∀ σ ds h, J σ ds h → wpC P S C Q σ ds h) : if c then wpC P S C Q σ1 ds h1 else wpC P S C Q σ2 ds h2 := by
  split
  · exact h _ _ _ (a1 ‹_›)
  · exact h _ _ _ (a2 ‹_›)

theorem concat45 {h : AH} {s : Nat} {va vb : AV} {a b : List Int} {na nb : Nat} (hg : h.get s = some (.cells [va, vb] false)) (hs : s < h.next) (ha : Sl h 1 na va (iv a)) (hb : Sl h 1 nb vb (iv b)) (hn : na + nb ≤ 2 ^ 30) :
    Ev P SI (.fn f_slices_Concat_int_int) [.slice s 0 2 2 true 1] h fun r g => Sl g 1 (na + nb) r (iv (a ++ b)) ∧ Fr h g := by
  refine ev_fn k_slices_Concat_int_int rfl rfl ?_
  have hla : a.length = na := by have := ha.1; simpa using this
  have hlb : b.length = nb := by have := hb.1; simpa using this
  have elem : ∀ g, Fr h g → ∀ j : Nat, j < 2 → ∃ id o, opIdxV 1 (.slice s 0 2 2 true 1) (.int .i64 (j : Int)) = .ok (.ptr id o) ∧ load1 g id o = .ok (if j = 0 then va else vb) := by
    intro g f j hj
    refine ⟨s, 0 + j, by rw [opIdxV_slice _ _ _ _ _ _ _ _ ⟨by omega, by omega⟩, Int.toNat_natCast, Nat.mul_one], ?_⟩
    rw [load1_of (vs := [va, vb]) (ro := false) (by rw [f.get s hs]; exact hg)]
    rcases j with _ | _ | j
    · rfl
    · rfl
    · omega
  have hlen : opLenV (.slice s 0 2 2 true 1) = .ok (.int .i64 2) := rfl
  simp [c_slices_Concat_int_int, hlen]
  refine w_count (n := 2) (by rfl) (CC1 h na nb (.slice s 0 2 2 true 1)) (by omega) (by simp) ⟨rfl, by simp, by simp [sz], by simp, by simp, rfl⟩ (fun j σ ds h' hJ => by simp [hJ.2.2.2.2.1]) ?_ ?_
  · rintro j σ ds g hj hi ⟨rfl, e0, e3, e9, e10, rfl⟩
    obtain ⟨id, o, g1, g2⟩ := elem g (.refl _) j hj
    have hlenj : opLenV (if j = 0 then va else vb) = .ok (.int .i64 ((if j = 0 then na else nb : Nat) : Int)) := by
      split
      · exact ha.len
      · exact hb.len
    have hsz : (sz na nb j : Int) + ((if j = 0 then na else nb : Nat) : Int) = (sz na nb (j + 1) : Int) := by
      rcases j with _ | _ | j
      · simp [sz]
      · simp [sz]
      · omega
    have hle : sz na nb (j + 1) ≤ na + nb := by
      rcases j with _ | _ | j <;> simp [sz]
    have w1 : wrapF .i64 (sz na nb (j + 1) : Int) = (sz na nb (j + 1) : Int) := wrap_i64 (by omega) (by omega)
    have c1 : ¬ ((sz na nb (j + 1) : Int) < 0) := by omega
    generalize (if j = 0 then va else vb) = vj at *
    generalize (if j = 0 then na else nb) = nj at *
    simp only [CC1]
    simp [e0, e3, e9, e10, hi, g1, g2, hlenj, hsz, w1, c1]
  · rintro σ ds g ⟨rfl, e0, e3, e9, e10, rfl⟩
    have e3' : σ 3 = .int .i64 ((na + nb : Nat) : Int) := e3
    simp only [Int.natCast_add] at e3'
    have gr := grow71 (h := g) hn
    simp only [Int.natCast_add] at gr
    simp [e0, e3', gr]
    have hll : (iv a ++ iv b).length = na + nb := by simp [hla, hlb]
    refine ite_wp (fun σ ds g' => CC2 g na nb (iv a ++ iv b) (.slice s 0 2 2 true 1) 0 σ ds g' ∧ σ 27 = .int .i64 0) (fun hc => ?_) (fun hc => ?_) ?_
    · exact ⟨⟨rfl, by simp, by simp, .inl ⟨by omega, by simp, rfl⟩⟩, by simp⟩
    · exact ⟨⟨rfl, by simp, by simp, .inr ⟨by omega, by simp [sz], _, rfl, by simp, by simp [sz]⟩⟩, by simp⟩
    · rintro σ ds g0 ⟨hJ0, h27⟩
      refine w_count (n := 2) (by rfl) (CC2 g na nb (iv a ++ iv b) (.slice s 0 2 2 true 1)) (by omega) h27 hJ0 (fun j σ ds h' hJ => by simp [hJ.2.2.1]) ?_ ?_
      · rintro j σ ds g' hj hi ⟨rfl, f25, f26, hh⟩
        have hF : Fr g g' := by
          rcases hh with ⟨_, _, rfl⟩ | ⟨_, _, vs, rfl, _⟩
          · exact .refl _
          · exact Fr.push (.refl g) _
        obtain ⟨id, o, g1, g2⟩ := elem g' hF j hj
        have hu : Sl g' 1 (if j = 0 then na else nb) (if j = 0 then va else vb) (iv (if j = 0 then a else b)) := by
          split
          · exact ha.fr hF
          · exact hb.fr hF
        have hk : sz na nb j + (if j = 0 then na else nb) = sz na nb (j + 1) := by
          rcases j with _ | _ | j
          · simp [sz]
          · simp [sz]
          · omega
        have hle : sz na nb (j + 1) ≤ na + nb := by
          rcases j with _ | _ | j <;> simp [sz]
        have htk : (iv a ++ iv b).take (sz na nb j) ++ iv (if j = 0 then a else b) = (iv a ++ iv b).take (sz na nb (j + 1)) := by
          rcases j with _ | _ | j
          · simp [sz, ← hla]
          · have e1 : (iv a).length = na := by simp [hla]
            have e2 : (iv a ++ iv b).take (na + nb) = iv a ++ iv b := List.take_of_length_le (by omega)
            simp [sz, e2, List.take_left' e1]
          · omega
        generalize (if j = 0 then va else vb) = vj at *
        generalize (if j = 0 then na else nb) = nj at *
        generalize (if j = 0 then a else b) = lj at *
        rcases hh with ⟨hz, f6, rfl⟩ | ⟨hz, f6, vs, rfl, hvl, hvt⟩
        · have hnj : nj = 0 := by omega
          subst hnj
          have ap : opApp 1 8 .nils vj g' = okV .nils g' := by
            unfold opApp
            rw [hu.cells]
            simp [appTo]
          simp only [CC2]
          simp [f25, f26, f6, hi, g1, g2, ap, show na = 0 from by omega, show nb = 0 from by omega]
        · obtain ⟨vs', ap, b1, b2⟩ := app_part (k := sz na nb j) (T := na + nb) (by omega) hvl hu (iv_scalar _)
          rw [hk] at ap b2
          rw [hvt, htk] at b2
          simp only [CC2]
          simp [f25, f26, f6, hi, g1, g2, ap]
          exact ⟨by omega, vs', rfl, b1, b2⟩
      · rintro σ ds g' ⟨rfl, f25, f26, hh⟩
        rcases hh with ⟨hz, f6, rfl⟩ | ⟨hz, f6, vs, rfl, hvl, hvt⟩
        · have ea : a = [] := List.length_eq_zero_iff.1 (by omega)
          have eb : b = [] := List.length_eq_zero_iff.1 (by omega)
          subst ea eb
          simp [f6, Fr.refl, hz]
          exact Sl.nil 1
        · simp [f6, Fr.push, Fr.refl]
          have e2 : (iv a ++ iv b).take (na + nb) = iv a ++ iv b := List.take_of_length_le (by omega)
          have hvt' : vs = iv (a ++ b) := by
            have : vs.take (na + nb) = (iv a ++ iv b).take (na + nb) := hvt
            rw [e2, List.take_of_length_le (by omega)] at this
            rw [this, iv_append]
          subst hvt'
          exact (Own.fresh (B := 0) (es := 1) (n := na + nb) false (Nat.zero_le _) (by simp; omega)).sl

end Go.Dk

namespace Go.Dk
open Go Go.Dr
set_option maxRecDepth 100000

/-- a list of numbers that stands from h on -/
def Lst (h : AH) (r : AV) (l : List Int) (N : Nat) (g : AH) : Prop := ∃ m, Sl g 1 m r (iv l) ∧ m ≤ N ∧ Fr h g

theorem Lst.mk' {h g : AH} {B m N : Nat} {r : AV} {l : List Int} (s : Wr B g m r (iv l)) (hm : m ≤ N) (f : Fr h g) : Lst h r l N g := ⟨m, s.sl, hm, f⟩

theorem FrB.fr' {h g g' : AH} {B : Nat} (f : Fr h g) (b : FrB B g g') (hB : h.next ≤ B) : Fr h g' := ⟨Nat.le_trans f.next b.next, fun i hi => (b.get i (by omega)).trans (f.get i hi)⟩

theorem union20 {h : AH} {va vb : AV} {a b : List Int} {na nb : Nat} (ha : Sl h 1 na va (iv a)) (hb : Sl h 1 nb vb (iv b)) (hn : na + nb ≤ 2 ^ 30) :
    Ev P SI (.fn f_index_Union) [va, vb] h fun r g => Lst h r (rise (a ++ b)) (na + nb) g := by
  refine ev_fn k_index_Union rfl rfl ?_
  have f0 := Fr.push (.refl h) (.cells [va, vb] false)
  simp [c_index_Union, ha.oneCell.1, hb.oneCell.1, splice_eq]
  refine (concat45 (get_push_new _) (by simp) (ha.fr f0) (hb.fr f0) hn).mono ?_
  rintro r g ⟨a1, a2⟩
  simp
  refine (rising41 a1 hn).mono ?_
  rintro r2 g2 ⟨m, b1, b2, b3⟩
  simp
  exact Lst.mk' b1 b2 ((f0.trans a2).trans b3)

theorem minus17 {h : AH} {va vb : AV} {a b : List Int} {na nb : Nat} (ha : Sl h 1 na va (iv a)) (hb : Sl h 1 nb vb (iv b)) (hn : na ≤ 2 ^ 30) (hnb : nb ≤ 2 ^ 30) :
    Ev P SI (.fn f_index_Minus) [va, vb] h fun r g => Lst h r (minus a b) na g := by
  refine ev_fn k_index_Minus rfl rfl ?_
  have f0 := Fr.push (.refl h) (.cells [vb] false)
  simp [c_index_Minus, hb.oneCell.1]
  refine (rising41 (ha.fr f0) hn).mono ?_
  rintro r g ⟨m, a1, a2, a3⟩
  simp
  have fg := f0.trans a3
  refine (deleteFunc40 a1 (by omega) (p := fun x => decide (x ∈ b)) (fun g' hg' x K => ?_)).mono ?_
  · have fg' := FrB.fr' fg hg' (by simp)
    refine minus42 (hb.fr fg') ?_ (by omega) x K
    rw [load1_of (vs := [vb]) (ro := false) (by rw [hg'.get _ (by simp), a3.get _ (by simp)]; exact get_push_new _)]; rfl
  · rintro r2 g2 ⟨m2, b1, b2, b3⟩
    simp
    exact Lst.mk' b1 (by omega) (FrB.fr' fg b3 (by simp))

theorem meet18 {h : AH} {va vb : AV} {a b : List Int} {na nb : Nat} (ha : Sl h 1 na va (iv a)) (hb : Sl h 1 nb vb (iv b)) (hn : na ≤ 2 ^ 30) (hnb : nb ≤ 2 ^ 30) :
    Ev P SI (.fn f_index_Meet) [va, vb] h fun r g => Lst h r (meet a b) na g := by
  refine ev_fn k_index_Meet rfl rfl ?_
  have f0 := Fr.push (.refl h) (.cells [vb] false)
  simp [c_index_Meet, hb.oneCell.1]
  refine (rising41 (ha.fr f0) hn).mono ?_
  rintro r g ⟨m, a1, a2, a3⟩
  simp
  have fg := f0.trans a3
  refine (deleteFunc40 a1 (by omega) (p := fun x => !decide (x ∈ b)) (fun g' hg' x K => ?_)).mono ?_
  · have fg' := FrB.fr' fg hg' (by simp)
    refine meet44 (hb.fr fg') ?_ (by omega) x K
    rw [load1_of (vs := [vb]) (ro := false) (by rw [hg'.get _ (by simp), a3.get _ (by simp)]; exact get_push_new _)]; rfl
  · rintro r2 g2 ⟨m2, b1, b2, b3⟩
    simp
    have e : (rise a).filter (fun x => !(!decide (x ∈ b))) = meet a b := by simp [meet]
    rw [e] at b1
    exact Lst.mk' b1 (by omega) (FrB.fr' fg b3 (by simp))

end Go.Dk

/-
  Equations for operations that look at a type; slices put together.
-/
namespace Go.Dr

section
variable {P : Program} {S : Sums} {Q : Post} {σ : Sg} {ds : List ADef} {h : AH}

@[simp] theorem bin_eql_bool {t : TypeId} (ht : P.underlying t = some .bool) (lit a b : Bool) : opBin P .eql t lit (.bool a) (.bool b) = .ok (.bool (a == b)) := by
  simp [opBin, binSlow, eqAt, und, ht, ofO, fitsScalar, eqScalar, eqNeq]
@[simp] theorem bin_neq_bool {t : TypeId} (ht : P.underlying t = some .bool) (lit a b : Bool) : opBin P .neq t lit (.bool a) (.bool b) = .ok (.bool (!(a == b))) := by
  simp [opBin, binSlow, eqAt, und, ht, ofO, fitsScalar, eqScalar, eqNeq]
@[simp] theorem bin_eql_str (t : TypeId) (lit : Bool) (a b : List UInt8) : opBin P .eql t lit (.str a) (.str b) = .ok (.bool (decide (a = b))) := by
  simp only [opBin, strOp]
  congr 2
  by_cases h : a = b <;> simp [h]
@[simp] theorem bin_neq_str (t : TypeId) (lit : Bool) (a b : List UInt8) : opBin P .neq t lit (.str a) (.str b) = .ok (.bool (decide (¬ a = b))) := by
  simp only [opBin, strOp]
  congr 2
  by_cases h : a = b <;> simp [h]
@[simp] theorem bin_eql_pnil {t e : TypeId} (ht : P.underlying t = some (.pointer e)) (lit : Bool) : opBin P .eql t lit .nilp .nilp = .ok (.bool true) := by
  simp [opBin, binSlow, eqAt, und, ht, ofO, fitsScalar, eqScalar, eqNeq]
@[simp] theorem bin_eql_ptr {t e : TypeId} (ht : P.underlying t = some (.pointer e)) (lit : Bool) (i o : Nat) : opBin P .eql t lit (.ptr i o) .nilp = .ok (.bool false) := by
  simp [opBin, binSlow, eqAt, und, ht, ofO, fitsScalar, eqScalar, eqNeq]
@[simp] theorem bin_neq_pnil {t e : TypeId} (ht : P.underlying t = some (.pointer e)) (lit : Bool) : opBin P .neq t lit .nilp .nilp = .ok (.bool false) := by
  simp [opBin, binSlow, eqAt, und, ht, ofO, fitsScalar, eqScalar, eqNeq]
@[simp] theorem bin_neq_ptr {t e : TypeId} (ht : P.underlying t = some (.pointer e)) (lit : Bool) (i o : Nat) : opBin P .neq t lit (.ptr i o) .nilp = .ok (.bool true) := by
  simp [opBin, binSlow, eqAt, und, ht, ofO, fitsScalar, eqScalar, eqNeq]
@[simp] theorem bin_eql_nils {t e : TypeId} (ht : P.underlying t = some (.slice e)) (lit : Bool) : opBin P .eql t lit .nils .nils = .ok (.bool true) := by
  simp [opBin, binSlow, eqAt, und, ht, ofO, fitsScalar, eqScalar, eqNeq]
@[simp] theorem bin_eql_slice {t e : TypeId} (ht : P.underlying t = some (.slice e)) (lit : Bool) (id off n cap : Nat) (x : Bool) (es : Nat) :
    opBin P .eql t lit (.slice id off n cap x es) .nils = .ok (.bool false) := by
  simp [opBin, binSlow, eqAt, und, ht, ofO, fitsScalar, eqScalar, eqNeq]
@[simp] theorem bin_neq_nils {t e : TypeId} (ht : P.underlying t = some (.slice e)) (lit : Bool) : opBin P .neq t lit .nils .nils = .ok (.bool false) := by
  simp [opBin, binSlow, eqAt, und, ht, ofO, fitsScalar, eqScalar, eqNeq]
@[simp] theorem bin_neq_slice {t e : TypeId} (ht : P.underlying t = some (.slice e)) (lit : Bool) (id off n cap : Nat) (x : Bool) (es : Nat) :
    opBin P .neq t lit (.slice id off n cap x es) .nils = .ok (.bool true) := by
  simp [opBin, binSlow, eqAt, und, ht, ofO, fitsScalar, eqScalar, eqNeq]

/-- a slice holds itself against nil -/
theorem Sl.isNil {es n : Nat} {v : AV} {l : List AV} (s : Sl h es n v l) {t e : TypeId} (ht : P.underlying t = some (.slice e)) (lit : Bool) :
    ∃ b, opBin P .eql t lit v .nils = .ok (.bool b) ∧ (b = true → v = .nils ∧ n = 0 ∧ l = []) := by
  obtain ⟨hl, s⟩ := s
  rcases s with ⟨rfl, rfl⟩ | ⟨id, off, cap, x, vs, ro, rfl, _⟩
  · exact ⟨true, bin_eql_nils ht lit, fun _ => ⟨rfl, rfl, by simpa using hl⟩⟩
  · exact ⟨false, bin_eql_slice ht lit _ _ _ _ _ _, fun e => by cases e⟩

/-- append(append(append([]T{}, l[:at]...), x), l[at:]...) -/
theorem ins3 {es n bytes at' : Nat} {v : AV} {l x : List AV} (s : Sl h es n v l) (hat : at' ≤ n) (hx : x.length = es) (hs : allScalar (l ++ x) = true) (h1 : (n + 1) * bytes ≤ 2 ^ 40) (h2 : n + 1 ≤ 2 ^ 40) (k1 k2 : IntKind) :
    ∃ a b v1 g1 v2 g2 v3 g3, opSliceV es v none (some (.int k1 (at' : Int))) none = .ok a ∧ opSliceV es v (some (.int k2 (at' : Int))) none none = .ok b ∧
      opApp es bytes (.slice h.next 0 0 0 true es) a ((h.push (.cells [] false)).push (.cells x false)) = okV v1 g1 ∧ opApp es bytes v1 (.slice (h.next + 1) 0 1 1 true es) g1 = okV v2 g2 ∧ opApp es bytes v2 b g2 = okV v3 g3 ∧
      Own h.next g3 es (n + 1) v3 (l.take (at' * es) ++ x ++ l.drop (at' * es)) ∧ Fr h g3 := by
  have happ : ∀ a b : List AV, allScalar (a ++ b) = (allScalar a && allScalar b) := by
    intro a b
    induction a with
    | nil => simp
    | cons v a ih => simp [ih, Bool.and_assoc]
  rw [happ] at hs
  obtain ⟨hs1, hs2⟩ : allScalar l = true ∧ allScalar x = true := by simpa using hs
  have hst : allScalar (l.take (at' * es)) = true ∧ allScalar (l.drop (at' * es)) = true := by
    have := happ (l.take (at' * es)) (l.drop (at' * es))
    rw [List.take_append_drop, hs1] at this
    simpa using this.symm
  have hl := s.1
  obtain ⟨a, ea, _⟩ := s.slice (lo := none) (hi := some (.int k1 (at' : Int))) (a := 0) (b := at') (.inl ⟨rfl, rfl⟩) (.inr ⟨k1, rfl⟩) (Nat.zero_le _) hat
  obtain ⟨b, eb, _⟩ := s.slice (lo := some (.int k2 (at' : Int))) (hi := none) (a := at') (b := n) (.inr ⟨k2, rfl⟩) (.inl ⟨rfl, rfl⟩) hat (Nat.le_refl _)
  generalize hg0 : (h.push (.cells [] false)).push (.cells x false) = g0
  have f0 : Fr h g0 := by rw [← hg0]; exact ((Fr.refl h).push _).push _
  have n0 : g0.next = h.next + 2 := by rw [← hg0]; rfl
  have sa : ∀ g, Fr h g → Sl g es at' a (l.take (at' * es)) := by
    intro g f
    obtain ⟨a', ea', sa⟩ := (s.fr f).slice (lo := none) (hi := some (.int k1 (at' : Int))) (a := 0) (b := at') (.inl ⟨rfl, rfl⟩) (.inr ⟨k1, rfl⟩) (Nat.zero_le _) hat
    rw [ea] at ea'; cases ea'
    simpa using sa
  have sb : ∀ g, Fr h g → Sl g es (n - at') b (l.drop (at' * es)) := by
    intro g f
    obtain ⟨b', eb', sb⟩ := (s.fr f).slice (lo := some (.int k2 (at' : Int))) (hi := none) (a := at') (b := n) (.inr ⟨k2, rfl⟩) (.inl ⟨rfl, rfl⟩) hat (Nat.le_refl _)
    rw [eb] at eb'; cases eb'
    rw [List.take_of_length_le (by rw [List.length_drop, hl, Nat.sub_mul]; omega)] at sb
    exact sb
  have o0 : Own h.next g0 es 0 (.slice h.next 0 0 0 true es) [] := by
    refine ⟨by simp, .inr ⟨h.next, 0, true, [], rfl, Nat.le_refl _, by omega, ?_, by simp, by simp⟩⟩
    rw [← hg0, get_push_old (by simp), get_push_new]
  obtain ⟨v1, g1, e1, o1, f1, p1, q1⟩ := o0.append (bytes := bytes) (sa g0 f0) (by omega) hst.1 (by rw [Nat.zero_add]; exact Nat.le_trans (Nat.mul_le_mul_right _ (show at' ≤ n + 1 by omega)) h1) (by omega)
  have fr1 : Fr h g1 := ⟨Nat.le_trans f0.next f1.next, fun i hi => (f1.get i hi).trans (f0.get i hi)⟩
  have n1 : h.next + 2 ≤ g1.next := by have := f1.next; omega
  have sx : Sl g1 es 1 (.slice (h.next + 1) 0 1 1 true es) x := by
    refine ⟨by omega, .inr ⟨h.next + 1, 0, 1, true, x, false, rfl, by omega, Nat.le_refl _, ?_, by omega, by rw [List.drop_zero, List.take_of_length_le (by omega)]⟩⟩
    rw [p1 _ (by omega) (by simp [idOf]), ← hg0]
    exact get_push_new _
  obtain ⟨v2, g2, e2, o2, f2, p2, q2⟩ := o1.append (bytes := bytes) sx (by omega) hs2 (by rw [Nat.zero_add]; exact Nat.le_trans (Nat.mul_le_mul_right _ (show at' + 1 ≤ n + 1 by omega)) h1) (by omega)
  have fr2 : Fr h g2 := ⟨Nat.le_trans fr1.next f2.next, fun i hi => (f2.get i hi).trans (fr1.get i hi)⟩
  obtain ⟨v3, g3, e3, o3, f3, p3, q3⟩ := o2.append (bytes := bytes) (sb g2 fr2) (by have := f2.next; omega) hst.2 (by rw [show 0 + at' + 1 + (n - at') = n + 1 from by omega]; exact h1) (by omega)
  rw [show 0 + at' + 1 + (n - at') = n + 1 from by omega] at o3
  refine ⟨a, b, v1, g1, v2, g2, v3, g3, ea, eb, e1, e2, e3, by simpa using o3, ⟨Nat.le_trans fr2.next f3.next, fun i hi => (f3.get i hi).trans (fr2.get i hi)⟩⟩

end
end Go.Dr

namespace Go.Dk
open Go Go.Dr
set_option maxRecDepth 100000

theorem ref13_has {h : AH} {v : AV} {l : List Int} {n : Nat} (hv : Sl h 1 n v (iv l)) (hn : n < 2 ^ 62) (x : Int) (K : AV → AH → Prop) : Ev P SI (.fn f_ref13_has) [v, .int .i64 x] h K = K (.bool (decide (x ∈ l))) h := by
  refine Ev.eq (ev_fn k_ref13_has rfl rfl ?_) K
  have hl : l.length = n := by have := hv.1; simpa using this
  simp [c_ref13_has, hv.len]
  refine w_count (n := n) (by rfl) (fun j σ ds h' => ds = [] ∧ σ 1 = .int .i64 x ∧ σ 7 = v ∧ σ 8 = .int .i64 (n : Int) ∧ h' = h ∧ ∀ i, i < j → l[i]? ≠ some x) (by omega) (by simp) (by simp) (fun j σ ds h' hJ => by simp [hJ.2.2.2.1]) ?_ ?_
  · rintro j σ ds h' hj hi ⟨rfl, e1, e7, e8, rfl, hno⟩
    have hjl : j < l.length := by omega
    obtain ⟨id, o, g1, g2, _⟩ := hv.get1 (k := .i64) (i := (j : Int)) rfl hj (x := .int .i64 l[j]) (by rw [iv_get, List.getElem?_eq_getElem hjl]; rfl)
    by_cases hx : l[j] = x
    · have : x ∈ l := by rw [← hx]; exact List.getElem_mem hjl
      simp [e1, e7, e8, hi, g1, g2, hx, this]
    · simp [e1, e7, e8, hi, g1, g2, hx]
      intro i hij
      by_cases e : i = j
      · subst e; rw [List.getElem?_eq_getElem hjl]; intro h; exact hx (Option.some.inj h)
      · exact hno i (by omega)
  · rintro σ ds h' ⟨rfl, e1, e7, e8, rfl, hno⟩
    have : x ∉ l := fun hx => by
      obtain ⟨i, hi⟩ := List.mem_iff_getElem?.1 hx
      have : i < l.length := (List.getElem?_eq_some_iff.1 hi).1
      exact hno i (by omega) hi
    simp [this]

theorem rising_insert {l : List Int} {k : Nat} {x : Int} (h : Rising l) (h1 : ∀ i y, i < k → l[i]? = some y → y < x) (h2 : ∀ i y, k ≤ i → l[i]? = some y → x < y) : Rising (l.take k ++ [x] ++ l.drop k) := by
  unfold Rising at *
  rw [List.append_assoc, List.pairwise_append]
  have ht := h.sublist (List.take_sublist k l)
  have hd := h.sublist (List.drop_sublist k l)
  have m1 : ∀ y ∈ l.take k, y < x := fun y hy => by
    obtain ⟨i, hi⟩ := List.mem_iff_getElem?.1 hy
    have hik : i < k := by have := (List.getElem?_eq_some_iff.1 hi).1; rw [List.length_take] at this; omega
    rw [List.getElem?_take_of_lt hik] at hi
    exact h1 i y hik hi
  have m2 : ∀ y ∈ l.drop k, x < y := fun y hy => by
    obtain ⟨i, hi⟩ := List.mem_iff_getElem?.1 hy
    rw [List.getElem?_drop] at hi
    exact h2 _ y (by omega) hi
  refine ⟨ht, ?_, fun a ha b hb => ?_⟩
  · rw [List.singleton_append, List.pairwise_cons]
    exact ⟨m2, hd⟩
  · rw [List.singleton_append, List.mem_cons] at hb
    rcases hb with rfl | hb
    · exact m1 a ha
    · have := m1 a ha; have := m2 b hb; omega

/-- the state of the reference's set -/
def SetInv (h : AH) (vl vo : AV) (l other : List Int) (w : Bool) (n : Nat) (j : Nat) (σ : Sg) (ds : List ADef) (g : AH) : Prop :=
  ∃ (k : Nat) (v : AV) (acc : List Int), ds = [] ∧ σ 1 = vo ∧ σ 2 = .bool w ∧ σ 11 = vl ∧ σ 12 = .int .i64 (n : Int) ∧ σ 7 = v ∧ Sl g 1 k v (iv acc) ∧ k ≤ j ∧ Fr h g ∧ Rising acc ∧
    ∀ x, x ∈ acc ↔ x ∈ l.take j ∧ (decide (x ∈ other) = w)

theorem ref13_set {h : AH} {vl vo : AV} {l other : List Int} {n m : Nat} (w : Bool) (hv : Sl h 1 n vl (iv l)) (ho : Sl h 1 m vo (iv other)) (hn : n ≤ 2 ^ 30) (hm : m ≤ 2 ^ 30) :
    Ev P SI (.fn f_ref13_set) [vl, vo, .bool w] h fun r g => ∃ acc, Lst h r acc n g ∧ Rising acc ∧ ∀ x, x ∈ acc ↔ x ∈ l ∧ (decide (x ∈ other) = w) := by
  refine ev_fn k_ref13_set rfl rfl ?_
  have hl : l.length = n := by have := hv.1; simpa using this
  simp [c_ref13_set, hv.len]
  refine w_count (n := n) (by rfl) (SetInv h vl vo l other w n) (by omega) (by simp) ⟨0, .nils, [], rfl, by simp, by simp, by simp, by simp, by simp, Sl.nil 1, by omega, .refl _, .nil, by simp⟩
    (fun j σ ds h' ⟨k, v, acc, hh⟩ => by simp [hh.2.2.2.2.1]) ?_ ?_
  · rintro j σ ds g hj hi ⟨k, v, acc, rfl, e1, e2, e11, e12, e7, sv, hk, hF, hR, hmem⟩
    have hjl : j < l.length := by omega
    obtain ⟨id, o, g1, g2, _⟩ := (hv.fr hF).get1 (k := .i64) (i := (j : Int)) rfl hj (x := .int .i64 l[j]) (by rw [iv_get, List.getElem?_eq_getElem hjl]; rfl)
    have hal : acc.length = k := by have := sv.1; simpa using this
    have ht1 : l.take (j + 1) = l.take j ++ [l[j]] := take_succ_snoc l j _ (List.getElem?_eq_getElem hjl)
    by_cases c1 : decide (l[j] ∈ other) = w
    case neg =>
      have c1' : ((decide (l[j] ∈ other)) == w) = false := by simpa using c1
      simp [e1, e2, e7, e11, e12, hi, g1, g2, ref13_has (ho.fr hF) (show m < 2 ^ 62 by omega), c1']
      refine ⟨k, v, acc, rfl, by simp [e1], by simp [e2], by simp [e11], by simp [e12], by simp [e7], sv, by omega, hF, hR, fun x => ?_⟩
      rw [hmem, ht1, List.mem_append, List.mem_singleton]
      constructor
      · rintro ⟨a, b⟩; exact ⟨.inl a, b⟩
      · rintro ⟨a | a, b⟩
        · exact ⟨a, b⟩
        · subst a; exact absurd b c1
    have c1' : ((decide (l[j] ∈ other)) == w) = true := by simpa using c1
    by_cases c2 : l[j] ∈ acc
    case pos =>
      simp [e1, e2, e7, e11, e12, hi, g1, g2, ref13_has (ho.fr hF) (show m < 2 ^ 62 by omega), c1', ref13_has sv (show k < 2 ^ 62 by omega), c2]
      refine ⟨k, v, acc, rfl, by simp [e1], by simp [e2], by simp [e11], by simp [e12], by simp [e7], sv, by omega, hF, hR, fun x => ?_⟩
      rw [hmem, ht1, List.mem_append, List.mem_singleton]
      constructor
      · rintro ⟨a, b⟩; exact ⟨.inl a, b⟩
      · rintro ⟨a | a, b⟩
        · exact ⟨a, b⟩
        · subst a; exact (hmem _).1 c2
    simp [e1, e2, e7, e11, e12, hi, g1, g2, ref13_has (ho.fr hF) (show m < 2 ^ 62 by omega), c1', ref13_has sv (show k < 2 ^ 62 by omega), c2, sv.len]
    refine w_loop (fun q σ ds g' => q ≤ k ∧ ds = [] ∧ σ 1 = vo ∧ σ 2 = .bool w ∧ σ 11 = vl ∧ σ 12 = .int .i64 (n : Int) ∧ σ 13 = .int .i64 (j : Int) ∧ σ 7 = v ∧ σ 9 = .int .i64 l[j] ∧ σ 10 = .int .i64 (q : Int) ∧ g' = g ∧
        ∀ i y, q ≤ i → acc[i]? = some y → l[j] < y) k ⟨Nat.le_refl _, rfl, by simp [e1], by simp [e2], by simp [e11], by simp [e12], by simp [hi], by simp [e7], by simp, by simp, rfl, fun i y hi hy => ?_⟩ ?_
    · have := (List.getElem?_eq_some_iff.1 hy).1; omega
    rintro q σ ds g' ⟨hq, rfl, a1, a2, a11, a12, a13, a7, a9, a10, rfl, hgt⟩
    have fin : ∀ v3 g3 σ'', (∀ i y, i < q → acc[i]? = some y → y < l[j]) → Own g'.next g3 1 (k + 1) v3 ((iv acc).take (q * 1) ++ [.int .i64 l[j]] ++ (iv acc).drop (q * 1)) → Fr g' g3 →
        σ'' 1 = vo → σ'' 2 = .bool w → σ'' 11 = vl → σ'' 12 = .int .i64 (n : Int) → σ'' 7 = v3 → SetInv h vl vo l other w n (j + 1) σ'' [] g3 := by
      intro v3 g3 σ'' hlt f6 f7 b1 b2 b11 b12 b7
      refine ⟨k + 1, v3, acc.take q ++ [l[j]] ++ acc.drop q, rfl, b1, b2, b11, b12, b7, ?_, by omega, hF.trans f7, rising_insert hR hlt hgt, fun x => ?_⟩
      · have := f6.sl
        rw [Nat.mul_one, iv_take, iv_drop] at this
        rw [iv_append, iv_append]; exact this
      · have hm2 : x ∈ acc.take q ++ [l[j]] ++ acc.drop q ↔ x ∈ acc ∨ x = l[j] := by
          have : x ∈ acc ↔ x ∈ acc.take q ∨ x ∈ acc.drop q := by rw [← List.mem_append, List.take_append_drop]
          rw [this]; simp only [List.mem_append, List.mem_singleton]
          constructor
          · rintro ((a | a) | a)
            · exact .inl (.inl a)
            · exact .inr a
            · exact .inl (.inr a)
          · rintro ((a | a) | a)
            · exact .inl (.inl a)
            · exact .inr a
            · exact .inl (.inr a)
        rw [hm2, hmem, ht1, List.mem_append, List.mem_singleton]
        constructor
        · rintro (⟨a, b⟩ | a)
          · exact ⟨.inl a, b⟩
          · subst a; exact ⟨.inr rfl, c1⟩
        · rintro ⟨a | a, b⟩
          · exact .inl ⟨a, b⟩
          · exact .inr a
    obtain ⟨a, b, v1, g1, v2, g2, v3, g3, f1, f2, f3, f4, f5, f6, f7⟩ := ins3 (x := [.int .i64 l[j]]) (bytes := 8) sv hq rfl (by rw [show iv acc ++ [AV.int .i64 l[j]] = iv (acc ++ [l[j]]) from by rw [iv_append]; rfl]; exact iv_scalar _) (by omega) (by omega) .i64 .i64
    cases q with
    | zero =>
      rw [show ((0 : Nat) : Int) = 0 from rfl] at f1 f2 a10
      simp [a7, a9, a10, f1, f2, splice_eq, f3, f4, f5, a13]
      exact fin v3 g3 _ (fun i y hi => by omega) f6 f7 (by simp [a1]) (by simp [a2]) (by simp [a11]) (by simp [a12]) (by simp)
    | succ q =>
      have hql : q < acc.length := by omega
      obtain ⟨id2, o2, x1, x2, _⟩ := sv.get1 (k := .i64) (i := (q : Int)) rfl (by omega) (x := .int .i64 acc[q]) (by rw [iv_get, List.getElem?_eq_getElem hql]; rfl)
      have w0 : wrapF .i64 (q : Int) = (q : Int) := wrap_i64 (by omega) (by omega)
      have c0 : (0 : Int) < (q : Int) + 1 := by omega
      push_cast at f1 f2 a10
      by_cases c3 : l[j] < acc[q]
      · simp [a7, a9, a10, c0, w0, x1, x2, c3, Kloop_normal]
        refine ⟨q, by omega, by omega, a1, a2, a11, a12, a13, rfl, fun i y hi hy => ?_⟩
        by_cases e : i = q
        · subst e; rw [List.getElem?_eq_getElem hql] at hy; cases hy; exact c3
        · exact hgt i y (by omega) hy
      · simp [a7, a9, a10, c0, w0, x1, x2, c3, f1, f2, splice_eq, f3, f4, f5, a13]
        refine fin v3 g3 _ (fun i y hi hy => ?_) f6 f7 (by simp [a1]) (by simp [a2]) (by simp [a11]) (by simp [a12]) (by simp)
        have hil : i < acc.length := (List.getElem?_eq_some_iff.1 hy).1
        rw [List.getElem?_eq_getElem hil] at hy
        cases hy
        have hne : acc[q] ≠ l[j] := fun e => c2 (by rw [← e]; exact List.getElem_mem hql)
        by_cases e : i = q
        · subst e; omega
        · have := List.pairwise_iff_getElem.1 hR i q hil hql (by omega)
          omega
  · rintro σ ds g ⟨k, v, acc, rfl, e1, e2, e11, e12, e7, sv, hk, hF, hR, hmem⟩
    simp [e7]
    exact ⟨acc, ⟨k, sv, hk, hF⟩, hR, fun x => by rw [hmem, List.take_of_length_le (by omega)]⟩

theorem clone_ints {h : AH} {v : AV} {l : List Int} {n : Nat} (hv : Sl h 1 n v (iv l)) (hn : n ≤ 2 ^ 30) : Ev P SI (.fn f_slices_Clone_int_int) [v] h fun r g => Sl g 1 n r (iv l) ∧ Fr h g := by
  refine ev_fn k_slices_Clone_int_int rfl rfl ?_
  obtain ⟨b, hb, hb2⟩ := hv.isNil und_sl_int true
  cases b with
  | true =>
    obtain ⟨rfl, rfl, hl⟩ := hb2 rfl
    simp [c_slices_Clone_int_int]
    exact ⟨hv, .refl _⟩
  | false =>
    have o0 : Own h.next (h.push (.cells [] false)) 1 0 (.slice h.next 0 0 0 true 1) [] := ⟨by simp, .inr ⟨h.next, 0, true, [], rfl, Nat.le_refl _, by simp, get_push_new _, by simp, by simp⟩⟩
    have f0 := Fr.push (.refl h) (.cells [] false)
    obtain ⟨v1, g1, e1, o1, fb, _⟩ := o0.append (bytes := 8) (hv.fr f0) (by simp) (iv_scalar _) (by omega) (by omega)
    simp [c_slices_Clone_int_int, hb, e1]
    rw [Nat.zero_add, List.nil_append] at o1
    exact ⟨o1.sl, ⟨Nat.le_trans f0.next fb.next, fun i hi => (fb.get i hi).trans (f0.get i hi)⟩⟩

theorem ref13_Union {h : AH} {va vb : AV} {a b : List Int} {na nb : Nat} (ha : Sl h 1 na va (iv a)) (hb : Sl h 1 nb vb (iv b)) (hn : na + nb ≤ 2 ^ 30) :
    Ev P SI (.fn f_ref13_Union) [va, vb] h fun r g => Lst h r (rise (a ++ b)) (na + nb) g := by
  refine ev_fn k_ref13_Union rfl rfl ?_
  have o0 : Own h.next (h.push (.cells [] false)) 1 0 (.slice h.next 0 0 0 true 1) [] := ⟨by simp, .inr ⟨h.next, 0, true, [], rfl, Nat.le_refl _, by simp, get_push_new _, by simp, by simp⟩⟩
  have f0 := Fr.push (.refl h) (.cells [] false)
  obtain ⟨v1, g1, e1, o1, fb1, _⟩ := o0.append (bytes := 8) (ha.fr f0) (by simp) (iv_scalar _) (by omega) (by omega)
  have f1 : Fr h g1 := ⟨Nat.le_trans f0.next fb1.next, fun i hi => (fb1.get i hi).trans (f0.get i hi)⟩
  obtain ⟨v2, g2, e2, o2, fb2, _⟩ := o1.append (bytes := 8) (hb.fr f1) f1.next (iv_scalar _) (by omega) (by omega)
  have f2 : Fr h g2 := ⟨Nat.le_trans f1.next fb2.next, fun i hi => (fb2.get i hi).trans (f1.get i hi)⟩
  simp [c_ref13_Union, e1, e2]
  rw [Nat.zero_add, List.nil_append, ← iv_append] at o2
  refine (ref13_set (m := 0) (other := []) false o2.sl (Sl.nil 1) (by omega) (by omega)).mono ?_
  rintro r g ⟨acc, ⟨m, s, hm, f⟩, hR, hmem⟩
  have : acc = rise (a ++ b) := rising_ext hR (rise_rising _) fun x => by rw [hmem, mem_rise]; simp
  subst this
  simp
  exact ⟨m, s, hm, f2.trans f⟩

theorem ref13_Meet {h : AH} {va vb : AV} {a b : List Int} {na nb : Nat} (ha : Sl h 1 na va (iv a)) (hb : Sl h 1 nb vb (iv b)) (hn : na ≤ 2 ^ 30) (hnb : nb ≤ 2 ^ 30) :
    Ev P SI (.fn f_ref13_Meet) [va, vb] h fun r g => Lst h r (meet a b) na g := by
  refine ev_fn k_ref13_Meet rfl rfl ?_
  simp [c_ref13_Meet]
  refine (ref13_set true ha hb hn hnb).mono ?_
  rintro r g ⟨acc, s, hR, hmem⟩
  have : acc = meet a b := rising_ext hR (filter_rising (rise_rising _)) fun x => by rw [hmem, mem_meet]; simp
  subst this
  simp
  exact s

theorem ref13_Minus {h : AH} {va vb : AV} {a b : List Int} {na nb : Nat} (ha : Sl h 1 na va (iv a)) (hb : Sl h 1 nb vb (iv b)) (hn : na ≤ 2 ^ 30) (hnb : nb ≤ 2 ^ 30) :
    Ev P SI (.fn f_ref13_Minus) [va, vb] h fun r g => Lst h r (minus a b) na g := by
  refine ev_fn k_ref13_Minus rfl rfl ?_
  simp [c_ref13_Minus]
  refine (ref13_set false ha hb hn hnb).mono ?_
  rintro r g ⟨acc, s, hR, hmem⟩
  have : acc = minus a b := rising_ext hR (filter_rising (rise_rising _)) fun x => by rw [hmem, mem_minus]; simp
  subst this
  simp
  exact s

theorem law_IndexLists {h : AH} {va vb : AV} {a b : List Int} {na nb : Nat} (ha : Sl h 1 na va (iv a)) (hb : Sl h 1 nb vb (iv b)) :
    Ev P SI (.fn f_law13_IndexLists) [va, vb] h fun r _ => r = .bool true := by
  refine ev_fn k_law13_IndexLists rfl rfl ?_
  have cut : ∀ {v : AV} {l : List Int} {n : Nat}, Sl h 1 n v (iv l) → ∃ u k, opSliceV 1 v none (some (.int .i64 (min (n : Int) 40))) none = .ok u ∧ Sl h 1 k u (iv (l.take k)) ∧ k ≤ 40 := by
    intro v l n hv
    obtain ⟨u, f1, s1⟩ := hv.slice (lo := none) (hi := some (.int .i64 ((min n 40 : Nat) : Int))) (a := 0) (b := min n 40) (.inl ⟨rfl, rfl⟩) (.inr ⟨.i64, rfl⟩) (by omega) (by omega)
    refine ⟨u, min n 40, ?_, ?_, by omega⟩
    · rw [show ((min n 40 : Nat) : Int) = min (n : Int) 40 from by omega] at f1; exact f1
    · simpa [iv_take] using s1
  obtain ⟨ua, ka, fa, sa, la⟩ := cut ha
  obtain ⟨ub, kb, fb, sb, lb⟩ := cut hb
  simp [c_law13_IndexLists, ha.len, hb.len, fa, fb]
  generalize a.take ka = A at *
  generalize b.take kb = C at *
  refine (clone_ints sa (by omega)).mono ?_
  rintro x g1 ⟨p1, f1⟩
  simp
  refine (clone_ints (sb.fr f1) (by omega)).mono ?_
  rintro y g2 ⟨p2, f2⟩
  have F2 := f1.trans f2
  have px := p1.fr f2
  simp
  refine (union20 px p2 (by omega)).mono ?_
  rintro r3 g3 ⟨m3, p3, q3, f3⟩
  have F3 := F2.trans f3
  simp
  refine (ref13_Union (sa.fr F3) (sb.fr F3) (by omega)).mono ?_
  rintro r4 g4 ⟨m4, p4, q4, f4⟩
  have F4 := F3.trans f4
  have G4 := f3.trans f4
  simp [equal19 (p3.fr f4) p4 (by omega)]
  refine (meet18 (px.fr G4) (p2.fr G4) (by omega) (by omega)).mono ?_
  rintro r5 g5 ⟨m5, p5, q5, f5⟩
  have F5 := F4.trans f5
  simp
  refine (ref13_Meet (sa.fr F5) (sb.fr F5) (by omega) (by omega)).mono ?_
  rintro r6 g6 ⟨m6, p6, q6, f6⟩
  have F6 := F5.trans f6
  have G6 := (G4.trans f5).trans f6
  simp [equal19 (p5.fr f6) p6 (by omega)]
  refine (minus17 (px.fr G6) (p2.fr G6) (by omega) (by omega)).mono ?_
  rintro r7 g7 ⟨m7, p7, q7, f7⟩
  have F7 := F6.trans f7
  simp
  refine (ref13_Minus (sa.fr F7) (sb.fr F7) (by omega) (by omega)).mono ?_
  rintro r8 g8 ⟨m8, p8, q8, f8⟩
  have F8 := F7.trans f8
  have G8 := (G6.trans f7).trans f8
  simp [equal19 (p7.fr f8) p8 (by omega), equal19 (px.fr G8) (sa.fr F8) (by omega), equal19 (p2.fr G8) (sb.fr F8) (by omega), ev_awake]

end Go.Dk

namespace Go.Proofs.YthkoheaklmgonaaGreatDoor
open Go Go.Dr Go.RowKit Go.ChangeShapes Go.WideShapes Go.ChangeAt Go.Lib
set_option maxRecDepth 100000

theorem ownLx : ownKnob Tryz.prog.godebug = none := by kernel_rfl
theorem laidOutLx : laidOutB Tryz.prog = true := by kernel_rfl
theorem numLx : Tryz.prog.funcs.all (fun f => f.name != "runtime.NumGoroutine") = true := by kernel_rfl

def firstCellsLx : List Int := List.replicate 128 240 ++ (List.replicate 66 241 ++ (List.replicate 30 2 ++ ([19] ++ (List.replicate 12 3 ++ ([35, 3, 3, 52, 4, 4, 4, 68] ++ List.replicate 11 241)))))
def intsLx (k : IntKind) (l : List Int) : Array Value := (l.map fun z => Value.int k z).toArray

/-- a world that fits: the settled one, the listed variables' cells laid -/
noncomputable def laidWorldLx (os : Os) : World :=
  let w0 := World.holding Tryz.prog os ⟨#[], #[], []⟩
  let put (h : Array Obj) (g : Nat) (cs : Array Value) : Array Obj := h.modify g fun
    | .cells _ t frozen => .cells cs t frozen
    | o => o
  let h := w0.heap
  let h := put h 0 (intsLx .u8 [0, 1, 56, 2, 57, 49, 28, 3, 61, 58, 42, 50, 38, 29, 17, 4, 62, 47, 59, 36, 45, 43, 51, 22, 53, 39, 33, 30, 24, 18, 12, 5, 63, 55, 48, 27, 60, 41, 37, 16, 46, 35, 44, 21, 52, 32, 23, 11, 54, 26, 40, 15, 34, 20, 31, 10, 25, 14, 19, 9, 13, 8, 7, 6])
  { w0 with heap := h }

theorem laidRunLx (os : Os) (args : Array Value) : LaidIn Tryz.prog ((laidWorldLx os).forCall (fun _ _ => 0) ⟨#[], args, []⟩).memory (Rows.indexListsRow.laid.filter fun x => x.2.handleName?.isNone) [0] :=
  LaidIn.of_run _ 8 (by kernel_rfl) (by kernel_rfl) (by kernel_rfl) (by kernel_rfl)

theorem laidMetLx (os : Os) (args : Array Value) : laidMetH Tryz.prog Rows.indexListsRow.laid ((laidWorldLx os).forCall (fun _ _ => 0) ⟨#[], args, []⟩).memory :=
  laidMetH_of_parts (laidRunLx os args).met (by kernel_rfl)

end Go.Proofs.YthkoheaklmgonaaGreatDoor

/-
  DERIVED: THE SHELF's CONTRACTS AT THIS DUMP, IN PLAIN WORDS (tools/lay-plain.mjs out of 'TryzSort0.lean', which tools/lay-shelf.mjs wrote): THE SAME DECLARATIONS UNDER THE SAME NAMES: 'import', 'namespace', 'open', 'def', 'theorem' AND NOTHING ELSE: no command of the shelf's: FOR A HAND-IN. Each laying: the table of numbers ('.._ren') and one theorem, a field a fact of the dump's own or the kernel's comparison; each contract: ONE APPLICATION.
-/
namespace Go.Proofs
open Go.Shelf
def Tryz.lays189_ren : Go.Shelf.Ren := ⟨fun | 189 => 94 | 125 => 120 | 257 => 124 | 128 => 151 | 129 => 152 | 294 => 153 | 295 => 154 | 296 => 155 | 297 => 156 | 298 => 157 | 299 => 158 | 216 => 159 | 300 => 160 | 301 => 161 | 328 => 184 | 329 => 180 | 330 => 181 | 331 => 185 | 332 => 186 | 215 => 121 | 343 => 204 | n => n, fun | 28 => 22 | 3 => 3 | 46 => 169 | 0 => 0 | 51 => 205 | 53 => 61 | 4 => 4 | 183 => 199 | 182 => 198 | 131 => 119 | 5 => 5 | 9 => 9 | 218 => 237 | 222 => 240 | 228 => 263 | 229 => 264 | n => n, fun | n => n⟩
theorem Tryz.lays189 : Go.Proofs.Lays.n189 Tryz.prog Tryz.lays189_ren := {
  mixed := by kernel_rfl
  f125 := Tryz.func120.trans (congrArg some (by kernel_rfl))
  f128 := Tryz.func151.trans (congrArg some (by kernel_rfl))
  f129 := Tryz.func152.trans (congrArg some (by kernel_rfl))
  f189 := Tryz.func94.trans (congrArg some (by kernel_rfl))
  f215 := Tryz.func121.trans (congrArg some (by kernel_rfl))
  f216 := Tryz.func159.trans (congrArg some (by kernel_rfl))
  f257 := Tryz.func124.trans (congrArg some (by kernel_rfl))
  f294 := Tryz.func153.trans (congrArg some (by kernel_rfl))
  f295 := Tryz.func154.trans (congrArg some (by kernel_rfl))
  f296 := Tryz.func155.trans (congrArg some (by kernel_rfl))
  f297 := Tryz.func156.trans (congrArg some (by kernel_rfl))
  f298 := Tryz.func157.trans (congrArg some (by kernel_rfl))
  f299 := Tryz.func158.trans (congrArg some (by kernel_rfl))
  f300 := Tryz.func160.trans (congrArg some (by kernel_rfl))
  f301 := Tryz.func161.trans (congrArg some (by kernel_rfl))
  f328 := Tryz.func184.trans (congrArg some (by kernel_rfl))
  f329 := Tryz.func180.trans (congrArg some (by kernel_rfl))
  f330 := Tryz.func181.trans (congrArg some (by kernel_rfl))
  f331 := Tryz.func185.trans (congrArg some (by kernel_rfl))
  f332 := Tryz.func186.trans (congrArg some (by kernel_rfl))
  f343 := Tryz.func204.trans (congrArg some (by kernel_rfl))
  t0 := Tryz.underlying0
  a0 := Tryz.isAgg0
  z0 := Tryz.sizeOf0
  v0 := Tryz.zeroValue0
  t3 := Tryz.underlying3
  a3 := Tryz.isAgg3
  z3 := Tryz.sizeOf3
  v3 := Tryz.zeroValue3
  t4 := Tryz.underlying4
  a4 := Tryz.isAgg4
  z4 := Tryz.sizeOf4
  v4 := Tryz.zeroValue4
  t5 := Tryz.underlying5
  a5 := Tryz.isAgg5
  z5 := Tryz.sizeOf5
  v5 := Tryz.zeroValue5
  t9 := Tryz.underlying9
  a9 := Tryz.isAgg9
  z9 := Tryz.sizeOf9
  v9 := Tryz.zeroValue9
  t28 := Tryz.underlying22
  a28 := Tryz.isAgg22
  z28 := Tryz.sizeOf22
  v28 := Tryz.zeroValue22
  t46 := Tryz.underlying169
  a46 := Tryz.isAgg169
  z46 := Tryz.sizeOf169
  v46 := Tryz.zeroValue169
  t51 := Tryz.underlying205
  a51 := Tryz.isAgg205
  z51 := Tryz.sizeOf205
  v51 := Tryz.zeroValue205
  t53 := Tryz.underlying61
  a53 := Tryz.isAgg61
  z53 := Tryz.sizeOf61
  v53 := Tryz.zeroValue61
  t131 := Tryz.underlying119
  a131 := Tryz.isAgg119
  z131 := Tryz.sizeOf119
  v131 := Tryz.zeroValue119
  t182 := Tryz.underlying198
  a182 := Tryz.isAgg198
  z182 := Tryz.sizeOf198
  v182 := Tryz.zeroValue198
  t183 := Tryz.underlying199
  a183 := Tryz.isAgg199
  z183 := Tryz.sizeOf199
  v183 := Tryz.zeroValue199
  t218 := Tryz.underlying237
  a218 := Tryz.isAgg237
  z218 := Tryz.sizeOf237
  v218 := Tryz.zeroValue237
  t222 := Tryz.underlying240
  a222 := Tryz.isAgg240
  z222 := Tryz.sizeOf240
  v222 := Tryz.zeroValue240
  t228 := Tryz.underlying263
  a228 := Tryz.isAgg263
  z228 := Tryz.sizeOf263
  v228 := Tryz.zeroValue263
  t229 := Tryz.underlying264
  a229 := Tryz.isAgg264
  z229 := Tryz.sizeOf264
  v229 := Tryz.zeroValue264 }
open Go.Sort Go.RowKit in
theorem Tryz.slices_Sort_int (blk off cap : Nat) (zs : List Int) (w : World) (hH : Holds (Value.int .i64) w blk off zs.toArray) (hblk : blk < w.heap.size) (hsz : zs.length < 4611686018427387904) :
    Calls Tryz.prog 94 #[.slice (some ⟨blk, off, none⟩) zs.length cap] w fun e w' =>
      e = .returned (.tuple #[]) ∧ ∃ n os, w' = grow (putRow (Value.int .i64) (Sort.ahead w n) blk off (zs.mergeSort fun x y => decide (x ≤ y)).toArray) os := Any.slices_Sort_int Tryz.lays189 blk off cap zs w hH hblk hsz
theorem Tryz.slices_Sort_int_none (p : Option Addr) (cap : Nat) (w : World) : Calls Tryz.prog 94 #[.slice p 0 cap] w fun e w' => e = .returned (.tuple #[]) ∧ w' = w := Any.slices_Sort_int_none Tryz.lays189 p cap w
end Go.Proofs

namespace Go.Proofs.YthkoheaklmgonaaGreatDoor
open Go Go.Dr Go.Dk Go.RowKit Go.ChangeShapes Go.WideShapes Go.ChangeAt Go.Lib
set_option maxRecDepth 100000

theorem runLx : okTrue (evCall Tryz.prog (fun _ => none) 100000 1000 (.fn f_law13_awake) [] ⟨Tryz.prog.globals.size, .leaf⟩) = true := by kernel_rfl

theorem bodyLx : Tryz.f94.body.isSome = true := by kernel_rfl

theorem sortIsLx : SortIs Tryz.prog f_slices_Sort_int_int where
  some := Tryz.slices_Sort_int
  none := Tryz.slices_Sort_int_none
  enter := fun _ w => callFn_run (noNum numLx) Tryz.func94 bodyLx w

theorem sumLx (B : Nat) (w0 : World) : SumOk Tryz.prog B w0 SI := by
  intro f g hs args h v h' he φ w args' ha hG hR
  unfold SI at hs
  split at hs
  · rename_i e
    subst e
    cases hs
    exact sort_ok sortIsLx he ha hR
  · exact closed_ok Tryz.checked.mixed numLx runLx B w0 f g hs args h v h' he φ w args' ha hG hR

theorem cellsLx : Tryz.prog.cellsOf 3 = 1 := by kernel_rfl
theorem undLx3 : Tryz.prog.underlying 3 = some (.int .i64) := by kernel_rfl
theorem undLx22 : Tryz.prog.underlying 22 = some (.slice 3) := by kernel_rfl
theorem plainLx22 : plainTy Tryz.prog 5 22 = true := by kernel_rfl

theorem iv_flatLx : ∀ bs : List Int, (bs.map fun x : Int => [AV.int .i64 x]).flatten = iv bs
  | [] => rfl
  | b :: bs => by rw [List.map_cons, List.flatten_cons, iv_flatLx bs]; rfl

theorem ints_ofLx {h : AH} {l : List AV} (s : TyV Tryz.prog h 22 l) : ∃ v ps, l = [v] ∧ Sl h 1 ps.length v (iv ps) := by
  obtain ⟨v, n, vs, rfl, _, hs, he⟩ := s.slice_inv undLx22 cellsLx
  obtain ⟨ps, h1, h2, _⟩ := elems_of (fun x : Int => [AV.int .i64 x]) (fun _ => True) 1 n vs hs.1 fun i hi => by
    obtain ⟨z, e, _⟩ := (he i hi).int_inv undLx3
    exact ⟨z, e, trivial⟩
  have h4 : vs = iv ps := by rw [h2, iv_flatLx]
  subst h4
  exact ⟨v, ps, rfl, by rw [h1]; exact hs⟩

/-- the law IndexLists, run by the machine -/
theorem calls_IndexLists {H : Type} {enc : TypeId × Value → H} {held : Bool} {W : World} {base : Nat} {b0 b1 : Nat} {v0 v1 : Value} {d0 d1 : DataW H} {p0 p1 : List MemPlace}
    (hv0 : Value.okWide Tryz.prog W .any b0 22 v0) (hv1 : Value.okWide Tryz.prog W .any b1 22 v1)
    (h0 : DataW.Trod enc Tryz.prog W base (fun _ => true) held 22 v0 d0 p0) (h1 : DataW.Trod enc Tryz.prog W base (fun _ => true) held 22 v1 d1 p1) :
    Calls Tryz.prog 3 #[v0, v1] W fun e W' => e = .returned (.bool true) ∧ Below W.heap.size W W' := by
  obtain ⟨φ1, g1, a0, c0, R1, ro1, le1, f1, t0⟩ := lay_slice (B := W.heap.size) (w0 := W) undLx22 plainLx22 hv0 h0 (rel0 W Tryz.prog.globals.size (ρ := fun _ => .pointer none)) (ro0 _ _)
  obtain ⟨φ2, g2, a1, c1, R2, ro2, le2, f2, t1⟩ := lay_slice (B := W.heap.size) (w0 := W) undLx22 plainLx22 hv1 h1 R1 ro1
  obtain ⟨u, ps, e1, s1⟩ := ints_ofLx (t0.fr f2)
  obtain ⟨u2, qs, e2, s2⟩ := ints_ofLx t1
  cases e1
  cases e2
  exact law_evS (f := f_law13_IndexLists) (args' := [v0, v1]) Tryz.checked.mixed numLx (sumLx _ _) (law_IndexLists s1 s2) (.cons (c0.mono le2) (.cons c1 .nil)) (((glob0 Tryz.prog).le le1).le le2) R2

end Go.Proofs.YthkoheaklmgonaaGreatDoor
