/-
  Texts joined: DrWp, DrSim, DrBe, DrKit, DrNdE, DrNd, DrNd2, DrNq, DrNq2.
-/
import Derived.Test.YtkbddcapcjdenaaGreatDoorT2
import Derived.Test.YtkbddcapcjdenaaGreatDoorT1

/-
  What a piece of code makes sure of: code as read, and its weakest preconditions; no fuel in sight.
-/
namespace Go.Dr

/-! ### code, read -/

/-- a row: where it goes, its guard, what it does -/
structure CRow where
  d : Option Nat
  g : Option (Nat × Bool)
  c : COp
  deriving Inhabited

inductive CEnt where
  | row (r : CRow)
  | stage (l : List CRow)
  deriving Inhabited

inductive CC where
  | skip
  | ops (l : List CEnt)
  | seq (x y : CC)
  | cond (c : CO) (x y : CC)
  | block (id : Nat) (c : CC)
  | loop (c : CC)
  | exit (id : Nat)
  | ret
  | go (n : Nat) (f : CO) (params : Array Tmp) (assign body : Code)
  deriving Inhabited

inductive CRes where
  | tmp (t : Nat)
  | one (p : Nat)
  | many (p n : Nat)
  deriving Inhabited

structure CF where
  n : Nat
  res : List CRes
  c : CC
  deriving Inhabited

section
variable (P : Program)

def COp.isDefer : COp → Bool
  | .defer _ _ => true
  | _ => false

def guardOf (ops : Array Oper) (o : Oper) : R (Option (Nat × Bool)) :=
  match o.guard with
  | none => .ok none
  | some (j, w) => match (ops[j]?).bind (·.dst) with
    | some d => .ok (some (d, w))
    | none => .error "guard"

def dstOk (n : Nat) : Option Tmp → Bool
  | some d => Nat.blt d n
  | none => true

/-- an operation that never comes out -/
def stuckOp : COp := .extract (.c .nilp) 0

def compOr (o : Oper) : COp := match comp P o with | .ok c => c | .error _ => stuckOp

def compRow (n : Nat) (rd : Bool) (ops : Array Oper) (o : Oper) : R CRow :=
  match guardOf ops o with
  | .ok g => bif Bool.and (dstOk n o.dst) (Bool.not (Bool.and rd (compOr P o).isDefer)) then .ok ⟨o.dst, g, compOr P o⟩ else .error "row"
  | .error e => .error e

def compRows (n : Nat) (rd : Bool) (ops : Array Oper) : List Oper → R (List CEnt)
  | [] => .ok []
  | o :: l => match compRow P n rd ops o with
    | .ok r => match compRows n rd ops l with
      | .ok l => .ok (.row r :: l)
      | .error e => .error e
    | .error e => .error e

def compAgain (ops : Array Oper) : List DRow → R (List CRow)
  | [] => .ok []
  | r :: l => match guardOf ops r.o with
    | .ok g => match compAgain ops l with
      | .ok l => .ok (⟨r.o.dst, g, r.c⟩ :: l)
      | .error e => .error e
    | .error e => .error e

def compEnts (n : Nat) (rd : Bool) (ops : Array Oper) : List DEnt → R (List CEnt)
  | [] => .ok []
  | .op o :: l => match compRow P n rd ops o with
    | .ok r => match compEnts n rd ops l with
      | .ok l => .ok (.row r :: l)
      | .error e => .error e
    | .error e => .error e
  | .stage re :: l => match compAgain ops re with
    | .ok re => match compEnts n rd ops l with
      | .ok l => .ok (match re with | [] => l | re => .stage re :: l)
      | .error e => .error e
    | .error e => .error e

def compC (n : Nat) (rd : Bool) : Code → R CC
  | .skip => .ok .skip
  | .label _ => .ok .skip
  | .region _ ops draw => bif draw then (match plan P ops with
      | .ok l => match compEnts P n rd ops l with | .ok l => .ok (.ops l) | .error e => .error e
      | .error e => .error e)
    else match compRows P n rd ops ops.toList with | .ok l => .ok (.ops l) | .error e => .error e
  | .seq x y => match compC n rd x with
    | .ok a => match compC n rd y with | .ok b => .ok (.seq a b) | .error e => .error e
    | .error e => .error e
  | .cond c x y => match cO P c with
    | .ok c => match compC n rd x with
      | .ok a => match compC n rd y with | .ok b => .ok (.cond c a b) | .error e => .error e
      | .error e => .error e
    | .error e => .error e
  | .block id c => match compC n rd c with | .ok a => .ok (.block id a) | .error e => .error e
  | .loop c => match compC n rd c with | .ok a => .ok (.loop a) | .error e => .error e
  | .exit id => .ok (.exit id)
  | .ret => .ok .ret
  | .scope c => compC n rd c
  | .rangeFunc f params assign body => match cO P f with
    | .ok f => bif rd then .error "rangeFunc in a round" else .ok (.go n f params assign body)
    | .error e => .error e
  | .goto _ => .error "goto"
  | .refuse why => .error why

def compRes : List ResultVar → R (List CRes)
  | [] => .ok []
  | .tmp t :: l => match compRes l with | .ok r => .ok (.tmp t :: r) | .error e => .error e
  | .cell p t :: l => match compRes l with
    | .ok r => match aggT P t, szOf P t with
      | .ok true, .ok n => .ok (.many p n :: r)
      | .ok false, _ => .ok (.one p :: r)
      | _, _ => .error "results"
    | .error e => .error e

/-- a function, read -/
def compF (f : FuncId) : R CF :=
  match P.funcs[f]? with
  | some fn => match fn.body with
    | some c => match compC P fn.ntmps false c with
      | .ok cc => match compRes P fn.results.toList with
        | .ok r => .ok ⟨fn.ntmps, r, cc⟩
        | .error e => .error e
      | .error e => .error e
    | none => .error "no body"
  | none => .error "no function"

end

/-! ### operations over what the variables hold -/

abbrev Sg := Nat → AV

def upd (σ : Sg) (d : Option Nat) (v : AV) : Sg :=
  match d with
  | some d => fun i => if i = d then v else σ i
  | none => σ

theorem nr0 {α : Sort _} {a b : α} (h : a = b) : a = b := h
@[simp] theorem upd_none (σ : Sg) (v : AV) : upd σ none v = σ := nr0 rfl
@[simp] theorem upd_some (σ : Sg) (d : Nat) (v : AV) (i : Nat) : upd σ (some d) v i = if i = d then v else σ i := nr0 rfl

def CO.evS (σ : Sg) : CO → AV
  | .t i => σ i
  | .c v => v

@[simp] theorem CO.evS_t (σ : Sg) (i : Nat) : (CO.t i).evS σ = σ i := nr0 rfl
@[simp] theorem CO.evS_c (σ : Sg) (v : AV) : (CO.c v).evS σ = v := nr0 rfl

def evLS (σ : Sg) : List CO → List AV
  | [] => []
  | x :: l => x.evS σ :: evLS σ l

def evOS (σ : Sg) : Option CO → Option AV
  | none => none
  | some x => some (x.evS σ)

@[simp] theorem evLS_nil (σ : Sg) : evLS σ [] = [] := nr0 rfl
@[simp] theorem evLS_cons (σ : Sg) (x : CO) (l : List CO) : evLS σ (x :: l) = x.evS σ :: evLS σ l := nr0 rfl
@[simp] theorem evOS_none (σ : Sg) : evOS σ none = none := nr0 rfl
@[simp] theorem evOS_some (σ : Sg) (x : CO) : evOS σ (some x) = some (x.evS σ) := nr0 rfl

def fillS (σ : Sg) (cells : List AV) : List (Nat × Nat × CO) → R (List AV)
  | [] => .ok cells
  | (off, size, x) :: rest =>
    let l := (x.evS σ).cells
    bif Nat.beq l.length size && Nat.ble (off + l.length) cells.length then fillS σ (splice cells off l) rest else .error "fill"

def opBuildS (z : List AV) (pl : List (Nat × Nat × CO)) (σ : Sg) : R AV := match fillS σ z pl with | .ok l => .ok (.agg l) | .error e => .error e
def opBuildSliceS (len es : Nat) (z : List AV) (pl : List (Nat × Nat × CO)) (σ : Sg) (h : AH) : RN :=
  match fillS σ z pl with
  | .ok l => okV (.slice h.next 0 len len true es) (h.push (.cells l false))
  | .error e => .error e

section
variable (P : Program)

/-- an operation's run, by what the variables hold -/
def evS (c : COp) (s : Sg) (h : AH) : RN :=
  match c with
  | .move x => okV (x.evS s) h
  | .pick c x y => keepH h (opPick (c.evS s) (x.evS s) (y.evS s))
  | .new z => opNew z h
  | .box x => opNew (x.evS s).cells h
  | .build z pl => keepH h (opBuildS z pl s)
  | .buildSlice len es z pl => opBuildSliceS len es z pl s h
  | .load1 x => opLoad1 (x.evS s) h
  | .loadN n x => opLoadN n (x.evS s) h
  | .store n x y => opStore n (x.evS s) (y.evS s) h
  | .nilCheck x => opNilCheck (x.evS s) h
  | .bin op t lit x y => keepH h (opBin P op t lit (x.evS s) (y.evS s))
  | .un op x => keepH h (opUn op (x.evS s))
  | .conv c x => opConv c (x.evS s) h
  | .mkI t x => okV (.iface t (x.evS s)) h
  | .mkF f first captured => okV (.func (.func f) (evLS s first) (evLS s captured)) h
  | .mkM r => opMkM (evOS s r) h
  | .mkS es bytes z l c => opMkS es bytes z (l.evS s) (c.evS s) h
  | .sliceS x lo hi => keepH h (opSliceS (x.evS s) (evOS s lo) (evOS s hi))
  | .sliceV es x lo hi mx => keepH h (opSliceV es (x.evS s) (evOS s lo) (evOS s hi) (evOS s mx))
  | .sliceA n es x lo hi mx => keepH h (opSliceA n es h (x.evS s) (evOS s lo) (evOS s hi) (evOS s mx))
  | .fieldAddr off x => keepH h (opFieldAddr off (x.evS s))
  | .field1 off x => keepH h (aggOne (x.evS s) off)
  | .fieldN off n x => keepH h (aggPart (x.evS s) off n)
  | .idxA len es x i => keepH h (opIdxA len es (x.evS s) (i.evS s))
  | .idxV es x i => keepH h (opIdxV es (x.evS s) (i.evS s))
  | .index1 len es x i => keepH h (opIndex true len es (x.evS s) (i.evS s))
  | .indexN len es x i => keepH h (opIndex false len es (x.evS s) (i.evS s))
  | .indexS x i => keepH h (opIndexS (x.evS s) (i.evS s))
  | .lookup kt z ok x k => keepH h (opLookup P kt z ok h (x.evS s) (k.evS s))
  | .upd kt m k v => skipH (opUpd P kt h (m.evS s) (k.evS s) (v.evS s))
  | .mapEntry kt z m k => opMapEntry P kt z h (m.evS s) (k.evS s)
  | .entryStore m t v => skipH (opEntryStore h (m.evS s) (t.evS s) (v.evS s))
  | .rangeS x => opRangeS h (x.evS s)
  | .rangeM x => opRangeM h (x.evS s)
  | .next it b => opNext h (it.evS s) b
  | .entry it => keepH h (opEntry h (it.evS s))
  | .tassert x t ok => keepH h (opTypeAssert P (x.evS s) t ok)
  | .extract x i => keepH h (opExtract (x.evS s) i)
  | .app es bytes x y => opApp es bytes (x.evS s) (y.evS s) h
  | .appZ es bytes z x y => opAppZ es bytes z (x.evS s) (y.evS s) h
  | .lenK n => okV (.int .i64 (.ofNat n)) h
  | .lenS x => keepH h (opLenS (x.evS s))
  | .lenV x => keepH h (opLenV (x.evS s))
  | .lenM x => keepH h (opLenM h (x.evS s))
  | .capV x => keepH h (opCapV (x.evS s))
  | .copy es d x => opCopy es (d.evS s) (x.evS s) h
  | .delete kt m k => opDelete P kt (m.evS s) (k.evS s) h
  | .clear es z x => opClear es z (x.evS s) h
  | .mm isMax x l => keepH h (foldMM isMax (x.evS s) (evLS s l))
  | .callV f args => callVal (f.evS s) (evLS s args) h
  | .callM r name args => callMeth P (r.evS s) name (evLS s args) h
  | .defer f args => opDefer (f.evS s) (evLS s args) h

end

theorem CO.ev_eq (a : AAct) (x : CO) : x.ev a = x.evS a.val := by cases x <;> rfl
theorem evL_eq (a : AAct) : ∀ l : List CO, evL a l = evLS a.val l
  | [] => rfl
  | x :: l => by rw [evL, evLS, evL_eq a l, CO.ev_eq]
theorem evOO_eq (a : AAct) (x : Option CO) : evOO a x = evOS a.val x := by cases x <;> simp [evOO, evOS, CO.ev_eq]
theorem fill_eq (a : AAct) : ∀ (l : List (Nat × Nat × CO)) (c : List AV), fillA a c l = fillS a.val c l
  | [], _ => rfl
  | (off, size, x) :: rest, c => by
    rw [fillA, fillS, CO.ev_eq]
    simp only [fill_eq a rest]

theorem evC_eq (P : Program) (c : COp) (a : AAct) (h : AH) : evC P c a h = evS P c a.val h := by
  cases c <;> simp only [evC, evS, CO.ev_eq, evL_eq, evOO_eq, opBuild, opBuildS, opBuildSlice, opBuildSliceS, fill_eq] <;> rfl

theorem AAct.put_val (a : AAct) (d : Option Tmp) (v : AV) (h : dstOk a.n d = true) : (a.put d v).val = upd a.val d v := by
  cases d with
  | none => rfl
  | some d =>
    have h' : Nat.blt d a.n = true := h
    funext i
    simp only [AAct.put, h', cond_true, AAct.val, PT.get_set, upd]
    by_cases e : i = d
    · simp [e]
    · simp [e]

theorem AAct.put_same (a : AAct) (d : Option Tmp) (v : AV) : (a.put d v).n = a.n ∧ (a.put d v).ds = a.ds ∧ (a.put d v).rd = a.rd := by
  cases d with
  | none => exact ⟨rfl, rfl, rfl⟩
  | some d =>
    simp only [AAct.put]
    cases Nat.blt d a.n <;> exact ⟨rfl, rfl, rfl⟩

/-! ### what code makes sure of -/

inductive WX where
  | normal
  | exit (id : Nat)
  | ret
  deriving Inhabited

def WX.ax : WX → AX
  | .normal => .normal
  | .exit i => .exit i
  | .ret => .ret

abbrev Post := WX → Sg → List ADef → AH → Prop
abbrev Sums := FuncId → Option (List AV → AH → R (AV × AH))

section
variable (P : Program) (S : Sums)

def cl (N : Nat) : CallF := evCall P S N N

/-- a call comes out with R -/
def Ev (t : Tgt) (args : List AV) (h : AH) (K : AV → AH → Prop) : Prop := ∃ N v h', cl P S N t args h = .ok (v, h') ∧ K v h'

def wpR (r : RN) (K : AV → AH → Prop) (D : ADef → AH → Prop) : Prop :=
  match r with
  | .ok (n, h) => match n with
    | .value v => K v h
    | .skip => K aundef h
    | .enter f args => Ev P S (.fn f) args h K
    | .yield l args => Ev P S (.yield l) args h K
    | .defer d => D d h
  | .error _ => False

def wpG (v : AV) (w : Bool) (x y : Prop) : Prop :=
  match v with
  | .bool b => if b = w then x else y
  | _ => False

/-- a guard: what is not there is not wanted -/
def wpGu (v : AV) (w : Bool) (x y : Prop) : Prop :=
  match v with
  | .bool b => if b = w then x else y
  | .raw _ => False
  | _ => y

def wpAgain : List CRow → Sg → AH → Prop
  | [], _, _ => True
  | r :: l, σ, h =>
    (match r.g with
      | none => ∃ v h', evS P r.c σ h = .ok (.value v, h') ∧ ∀ d, r.d = some d → eqAV 12 v (σ d) = true
      | some (t, w) => wpGu (σ t) w (∃ v h', evS P r.c σ h = .ok (.value v, h') ∧ ∀ d, r.d = some d → eqAV 12 v (σ d) = true) True) ∧ wpAgain l σ h

def wpOps : List CEnt → Post → Sg → List ADef → AH → Prop
  | [], Q, σ, ds, h => Q .normal σ ds h
  | .row r :: l, Q, σ, ds, h => match r.g with
    | none => wpR P S (evS P r.c σ h) (fun v h => wpOps l Q (upd σ r.d v) ds h) (fun df h => wpOps l Q (upd σ r.d aundef) (df :: ds) h)
    | some (t, w) => wpGu (σ t) w (wpR P S (evS P r.c σ h) (fun v h => wpOps l Q (upd σ r.d v) ds h) (fun df h => wpOps l Q (upd σ r.d aundef) (df :: ds) h))
        (wpOps l Q (upd σ r.d aundef) ds h)
  | .stage re :: l, Q, σ, ds, h => wpAgain P re σ h ∧ wpOps l Q σ ds h

def Kblk (id : Nat) (Q : Post) : Post := fun x σ ds h => match x with
  | .exit i => if i = id then Q .normal σ ds h else Q (.exit i) σ ds h
  | x => Q x σ ds h

abbrev Inv := Nat → Sg → List ADef → AH → Prop

def Kloop (I : Inv) (k : Nat) (Q : Post) : Post := fun x σ ds h => match x with
  | .normal => ∃ k', k' < k ∧ I k' σ ds h
  | x => Q x σ ds h

def valT (t : PT AV) (i : Nat) : AV := match t.get i with | some v => v | none => aundef

/-- after a range over a function -/
def Kgo (Q : Post) (σ : Sg) (ds : List ADef) (did : Nat) : AV → AH → Prop := fun _ h =>
  ∃ r, h.get (did + 1) = some (.loop r) ∧ r.state ≠ .busy ∧ match r.pending with
    | none => Q .normal σ (.collected did :: ds) (h.set (did + 1) (.loop { r with state := .exhausted }))
    | some .ret => Q .ret σ (.collected did :: ds) (h.set (did + 1) (.loop { r with state := .exhausted }))
    | some (.exit id) => Q (.exit id) σ (.collected did :: ds) (h.set (did + 1) (.loop { r with state := .exhausted }))
    | some _ => False

def wpGo (f : AV) (n : Nat) (params : Array Tmp) (assign body : Code) (Q : Post) (σ : Sg) (ds : List ADef) (h : AH) : Prop :=
  match f with
  | .func (.func g) first captured => ∀ tmps : PT AV, (∀ i, valT tmps i = σ i) →
      Ev P S (.fn g) (first ++ (.func (.yield (h.next + 1)) [] [] :: captured))
        ((h.push (.deferred (some []))).push (.loop { state := .ready, pending := none, n := n, tmps := tmps, params, assign, body })) (Kgo Q σ ds h.next)
  | _ => False

def wpC : CC → Post → Sg → List ADef → AH → Prop
  | .skip, Q, σ, ds, h => Q .normal σ ds h
  | .ops l, Q, σ, ds, h => wpOps P S l Q σ ds h
  | .seq x y, Q, σ, ds, h => wpC x (fun r σ ds h => match r with | .normal => wpC y Q σ ds h | r => Q r σ ds h) σ ds h
  | .cond c x y, Q, σ, ds, h => wpG (c.evS σ) true (wpC x Q σ ds h) (wpC y Q σ ds h)
  | .block id c, Q, σ, ds, h => wpC c (Kblk id Q) σ ds h
  | .loop c, Q, σ, ds, h => ∃ (I : Inv) (k : Nat), I k σ ds h ∧ ∀ k σ ds h, I k σ ds h → wpC c (Kloop I k Q) σ ds h
  | .exit id, Q, σ, ds, h => Q (.exit id) σ ds h
  | .ret, Q, σ, ds, h => Q .ret σ ds h
  | .go n f params assign body, Q, σ, ds, h => wpGo P S (f.evS σ) n params assign body Q σ ds h

def Kseq (y : CC) (Q : Post) : Post := fun r σ ds h => match r with | .normal => wpC P S y Q σ ds h | r => Q r σ ds h

end

/-! ### soundness -/

section
variable {P : Program} {S : Sums}

theorem cl_mono {N N' : Nat} (h : N ≤ N') : CallLe (cl P S N) (cl P S N') := evCall_mono h h

theorem Ev.mono {t : Tgt} {args : List AV} {h : AH} {K K' : AV → AH → Prop} (e : Ev P S t args h K) (hk : ∀ v h', K v h' → K' v h') : Ev P S t args h K' := by
  obtain ⟨N, v, h', e, k⟩ := e
  exact ⟨N, v, h', e, hk _ _ k⟩

/-- is a guarded operation wanted -/
def gw (v : AV) (w : Bool) : R Bool := match v with
  | .bool b => .ok (b == w)
  | .raw _ => .error "guard"
  | _ => .ok false

theorem guard_wanted {ops : Array Oper} {o : Oper} {a : AAct} {g : Option (Nat × Bool)} (hg : guardOf ops o = .ok g) :
    (g = none ∧ wantedA ops o a = .ok true) ∨ ∃ t w, g = some (t, w) ∧ wantedA ops o a = gw (a.val t) w := by
  unfold guardOf at hg
  unfold wantedA
  split at hg
  · rename_i e; cases hg; rw [e]; exact .inl ⟨rfl, rfl⟩
  · rename_i j w e
    rw [e]
    split at hg
    · rename_i d e2
      cases hg
      simp only [e2]
      exact .inr ⟨d, w, rfl, rfl⟩
    · cases hg

theorem wpGu_cases {v : AV} {w : Bool} {x y : Prop} (h : wpGu v w x y) : (∃ b, v = .bool b ∧ b = w ∧ x) ∨ (gw v w = .ok false ∧ y) := by
  cases v with
  | bool b =>
    simp only [wpGu] at h
    by_cases e : b = w
    · rw [if_pos e] at h; exact .inl ⟨b, rfl, e, h⟩
    · rw [if_neg e] at h; exact .inr ⟨by simp [gw, e], h⟩
  | raw => exact h.elim
  | _ => exact .inr ⟨rfl, h⟩

theorem compRow_ok {n : Nat} {rd : Bool} {ops : Array Oper} {o : Oper} {r : CRow} (h : compRow P n rd ops o = .ok r) :
    r.c = compOr P o ∧ guardOf ops o = .ok r.g ∧ r.d = o.dst ∧ dstOk n o.dst = true ∧ (rd = true → r.c.isDefer = false) := by
  unfold compRow at h
  split at h
  · rename_i g hg
    cases hb : Bool.and (dstOk n o.dst) (Bool.not (Bool.and rd (compOr P o).isDefer)) with
    | false => rw [hb] at h; cases h
    | true =>
      rw [hb] at h
      cases h
      simp only [Bool.and_eq_true, Bool.not_eq_true'] at hb
      refine ⟨rfl, hg, rfl, hb.1, fun e => ?_⟩
      have := hb.2
      rw [e] at this
      simpa using this
  · cases h

theorem isDefer_of {c : COp} {σ : Sg} {h h' : AH} {d : ADef} (e : evS P c σ h = .ok (.defer d, h')) : c.isDefer = true := by
  have key : ∀ (r : R AV) (h : AH), keepH h r = .ok (.defer d, h') → False := by
    intro r h e; unfold keepH at e; split at e <;> cases e
  have key2 : ∀ (r : R AH), skipH r = .ok (.defer d, h') → False := by
    intro r e; unfold skipH at e; split at e <;> cases e
  cases c <;> simp only [evS, okV, opNew] at e <;> first
    | rfl
    | exact (key _ _ e).elim
    | exact (key2 _ e).elim
    | cases e
    | skip
  all_goals exfalso
  case buildSlice => unfold opBuildSliceS okV at e; split at e <;> cases e
  case load1 => unfold opLoad1 at e; split at e; exact key _ _ e; cases e
  case loadN => unfold opLoadN okV at e; split at e; split at e <;> cases e; cases e
  case store =>
    unfold opStore at e
    split at e
    · rw [cond_eq_ite] at e
      split at e
      · exact key2 _ e
      · cases e
    · cases e
  case nilCheck => unfold opNilCheck okV at e; split at e; cases e; cases e; cases e; split at e <;> cases e; cases e
  case conv => unfold opConv okV at e; simp only [forceN_eq] at e; repeat (first | cases e | split at e)
  case mkM => unfold opMkM okV at e; split at e <;> cases e
  case mkS => unfold opMkS okV at e; repeat (first | cases e | split at e)
  case mapEntry => unfold opMapEntry okV at e; repeat (first | cases e | split at e)
  case rangeS => unfold opRangeS okV at e; split at e <;> cases e
  case rangeM => unfold opRangeM okV at e; repeat (first | cases e | split at e)
  case next =>
    unfold opNext at e
    split at e
    · split at e
      · unfold nextS okV at e
        split at e
        · rename_i s pos _
          cases hb : Nat.blt pos s.length <;> rw [hb] at e
          · cases e
          · simp only [cond_true, forceN_eq] at e; cases e
        · cases e
      · unfold nextM okV at e; repeat (first | cases e | split at e)
    · cases e
  case app =>
    unfold opApp at e
    split at e
    · unfold appTo okV at e
      simp only [forceN_eq, cond_eq_ite] at e
      repeat (first | cases e | split at e)
    · cases e
  case appZ =>
    unfold opAppZ at e
    split at e
    · split at e
      · unfold appTo okV at e
        simp only [forceN_eq, cond_eq_ite] at e
        repeat (first | cases e | split at e)
      · cases e
    · cases e
  case copy => unfold opCopy okV at e; repeat (first | cases e | split at e)
  case delete => unfold opDelete okV at e; repeat (first | cases e | split at e)
  case clear => unfold opClear okV at e; repeat (first | cases e | split at e)
  case callV => unfold callVal callFn at e; repeat (first | cases e | split at e)
  case callM => unfold callMeth callFn at e; repeat (first | cases e | split at e)

/-- what stays as a piece of code runs -/
structure Keep (n : Nat) (rd : Bool) (a : AAct) : Prop where
  n : a.n = n
  rd : a.rd = rd

theorem Keep.put {n : Nat} {rd : Bool} {a : AAct} (k : Keep n rd a) (d : Option Tmp) (v : AV) : Keep n rd (a.put d v) :=
  ⟨(a.put_same d v).1.trans k.n, (a.put_same d v).2.2.trans k.rd⟩

theorem oper_ok {n : Nat} {rd : Bool} {o : Oper} {c : COp} {a : AAct} {h : AH} {K : AV → AH → Prop} {D : ADef → AH → Prop} (hc' : c = compOr P o) (hk : Keep n rd a) (hd : dstOk n o.dst = true)
    (hrd : rd = true → c.isDefer = false) (hw : wpR P S (evS P c a.val h) K D) :
    ∃ N a' h', evOper P (cl P S N) o a h = .ok (a', h') ∧ Keep n rd a' ∧
      ((∃ v, a'.val = upd a.val o.dst v ∧ a'.ds = a.ds ∧ K v h') ∨ (∃ df, a'.val = upd a.val o.dst aundef ∧ a'.ds = df :: a.ds ∧ D df h')) := by
  have hd' : dstOk a.n o.dst = true := by rw [hk.n]; exact hd
  have hval : ∀ v, (a.put o.dst v).val = upd a.val o.dst v := fun v => a.put_val _ _ hd'
  have hds : ∀ v, (a.put o.dst v).ds = a.ds := fun v => (a.put_same _ _).2.1
  have hc : comp P o = .ok c := by
    unfold compOr at hc'
    split at hc'
    · rename_i c1 e; rw [e, hc']
    · subst hc'; exact hw.elim
  unfold evOper
  simp only [hc, evC_eq, forceV_eq]
  generalize hres : evS P c a.val h = res at hw
  unfold wpR at hw
  cases res with
  | error e => exact hw.elim
  | ok p =>
    obtain ⟨m, h1⟩ := p
    cases m with
    | value v => exact ⟨0, _, _, rfl, hk.put _ _, .inl ⟨v, hval v, hds v, hw⟩⟩
    | skip => exact ⟨0, _, _, rfl, hk.put _ _, .inl ⟨_, hval _, hds _, hw⟩⟩
    | enter f args =>
      obtain ⟨N, v, h2, e, k⟩ := hw
      exact ⟨N, a.put o.dst v, h2, by simp only [e], hk.put _ _, .inl ⟨v, hval v, hds v, k⟩⟩
    | yield f args =>
      obtain ⟨N, v, h2, e, k⟩ := hw
      exact ⟨N, a.put o.dst v, h2, by simp only [e], hk.put _ _, .inl ⟨v, hval v, hds v, k⟩⟩
    | defer d =>
      have hr : a.rd = false := by
        cases e : a.rd with
        | false => rfl
        | true =>
          have := hrd (hk.rd.symm.trans e)
          rw [isDefer_of hres] at this
          cases this
      refine ⟨0, (⟨a.n, a.ts, d :: a.ds, a.rd⟩ : AAct).put o.dst aundef, h1, by simp only [hr, cond_false], Keep.put (a := ⟨a.n, a.ts, d :: a.ds, a.rd⟩) ⟨hk.n, hk.rd⟩ _ _, .inr ⟨d, ?_, ?_, hw⟩⟩
      · exact AAct.put_val ⟨a.n, a.ts, d :: a.ds, a.rd⟩ o.dst aundef hd'
      · exact (AAct.put_same _ _ _).2.1

theorem rows_ok {n : Nat} {rd : Bool} {ops : Array Oper} : ∀ (l : List Oper) (l' : List CEnt), compRows P n rd ops l = .ok l' → ∀ {Q : Post} {a : AAct} {h : AH}, Keep n rd a → wpOps P S l' Q a.val a.ds h →
    ∃ N a' h', evOps P (cl P S N) ops l a h = .ok (a', h') ∧ Keep n rd a' ∧ Q .normal a'.val a'.ds h'
  | [], l', hc, Q, a, h, hk, hw => by
    cases hc
    exact ⟨0, a, h, rfl, hk, hw⟩
  | o :: l, l', hc, Q, a, h, hk, hw => by
    simp only [compRows] at hc
    split at hc
    · rename_i r hr
      split at hc
      · rename_i l2 hl2
        cases hc
        obtain ⟨h1, h2, h3, h4, h5⟩ := compRow_ok hr
        have goOn : wpR P S (evS P r.c a.val h) (fun v h => wpOps P S l2 Q (upd a.val r.d v) a.ds h) (fun df h => wpOps P S l2 Q (upd a.val r.d aundef) (df :: a.ds) h) → wantedA ops o a = .ok true →
            ∃ N a' h', evOps P (cl P S N) ops (o :: l) a h = .ok (a', h') ∧ Keep n rd a' ∧ Q .normal a'.val a'.ds h' := by
          intro hw hwant
          rw [h3] at hw
          obtain ⟨N1, a1, g1, e1, k1, hcase⟩ := oper_ok h1 hk h4 h5 hw
          have : wpOps P S l2 Q a1.val a1.ds g1 := by
            rcases hcase with ⟨v, b1, b2, b3⟩ | ⟨df, b1, b2, b3⟩
            · rw [b1, b2]; exact b3
            · rw [b1, b2]; exact b3
          obtain ⟨N2, a2, g2, e2, k2, q⟩ := rows_ok l l2 hl2 k1 this
          refine ⟨max N1 N2, a2, g2, ?_, k2, q⟩
          simp only [evOps, hwant, evOper_mono (cl_mono (Nat.le_max_left N1 N2)) e1]
          exact evOps_mono (cl_mono (Nat.le_max_right N1 N2)) _ e2
        rcases guard_wanted (a := a) h2 with ⟨g, hwant⟩ | ⟨t, w, g, hwant⟩
        · simp only [wpOps, g] at hw
          exact goOn hw hwant
        · simp only [wpOps, g] at hw
          rcases wpGu_cases hw with ⟨b, hb, hbw, hw⟩ | ⟨hno, hw⟩
          · rw [hb] at hwant
            exact goOn hw (by rw [hwant]; simp [gw, hbw])
          · rw [h3] at hw
            have hv := AAct.put_val a o.dst aundef (by rw [hk.n]; exact h4)
            have hd := (a.put_same o.dst aundef).2.1
            obtain ⟨N2, a2, g2, e2, k2, q⟩ := rows_ok l l2 hl2 (hk.put o.dst aundef) (by rw [hv, hd]; exact hw)
            refine ⟨N2, a2, g2, ?_, k2, q⟩
            simp only [evOps, hwant.trans hno]
            exact e2
      · cases hc
    · cases hc

theorem againS_ok {ops : Array Oper} : ∀ (re : List DRow) (l : List CRow), compAgain ops re = .ok l → ∀ {a : AAct} {h : AH}, wpAgain P l a.val h → again P ops re a h = true
  | [], l, hc, a, h, hw => rfl
  | r :: re, l, hc, a, h, hw => by
    simp only [compAgain] at hc
    split at hc
    · rename_i g hg
      split at hc
      · rename_i l2 hl2
        cases hc
        have ih := againS_ok re l2 hl2 (a := a) (h := h)
        have key : (∃ v h', evS P r.c a.val h = .ok (.value v, h') ∧ ∀ d, r.o.dst = some d → eqAV 12 v (a.val d) = true) → wantedA ops r.o a = .ok true → wpAgain P l2 a.val h → again P ops (r :: re) a h = true := by
          rintro ⟨v, h', e, hd⟩ hwant hl
          simp only [again, hwant, evC_eq, e, ih hl, Bool.and_true]
          cases hdst : r.o.dst with
          | none => rfl
          | some d => exact hd d hdst
        simp only [wpAgain] at hw
        rcases guard_wanted (a := a) hg with ⟨g', hwant⟩ | ⟨t, w, g', hwant⟩
        · subst g'
          exact key hw.1 hwant hw.2
        · subst g'
          obtain ⟨h1, h2⟩ := hw
          rcases wpGu_cases h1 with ⟨b, hb, hbw, h1⟩ | ⟨hno, _⟩
          · rw [hb] at hwant
            exact key h1 (by rw [hwant]; simp [gw, hbw]) h2
          · simp only [again, hwant.trans hno]
            exact ih h2
      · cases hc
    · cases hc

theorem ents_ok {n : Nat} {rd : Bool} {ops : Array Oper} : ∀ (l : List DEnt) (l' : List CEnt), compEnts P n rd ops l = .ok l' → ∀ {Q : Post} {a : AAct} {h : AH}, Keep n rd a → wpOps P S l' Q a.val a.ds h →
    ∃ N a' h', evEnts P (cl P S N) ops l a h = .ok (a', h') ∧ Keep n rd a' ∧ Q .normal a'.val a'.ds h'
  | [], l', hc, Q, a, h, hk, hw => by
    cases hc
    exact ⟨0, a, h, rfl, hk, hw⟩
  | .stage re :: l, l', hc, Q, a, h, hk, hw => by
    simp only [compEnts] at hc
    split at hc
    · rename_i re2 hre
      split at hc
      · rename_i l2 hl2
        have hw' : wpAgain P re2 a.val h ∧ wpOps P S l2 Q a.val a.ds h := by
          cases hc
          cases re2 with
          | nil => exact ⟨trivial, hw⟩
          | cons => exact hw
        obtain ⟨N, a', h', e, k, q⟩ := ents_ok l l2 hl2 hk hw'.2
        refine ⟨N, a', h', ?_, k, q⟩
        simp only [evEnts, againS_ok re re2 hre hw'.1, cond_true]
        exact e
      · cases hc
    · cases hc
  | .op o :: l, l', hc, Q, a, h, hk, hw => by
    simp only [compEnts] at hc
    split at hc
    · rename_i r hr
      split at hc
      · rename_i l2 hl2
        cases hc
        obtain ⟨h1, h2, h3, h4, h5⟩ := compRow_ok hr
        have goOn : wpR P S (evS P r.c a.val h) (fun v h => wpOps P S l2 Q (upd a.val r.d v) a.ds h) (fun df h => wpOps P S l2 Q (upd a.val r.d aundef) (df :: a.ds) h) → wantedA ops o a = .ok true →
            ∃ N a' h', evEnts P (cl P S N) ops (.op o :: l) a h = .ok (a', h') ∧ Keep n rd a' ∧ Q .normal a'.val a'.ds h' := by
          intro hw hwant
          rw [h3] at hw
          obtain ⟨N1, a1, g1, e1, k1, hcase⟩ := oper_ok h1 hk h4 h5 hw
          have : wpOps P S l2 Q a1.val a1.ds g1 := by
            rcases hcase with ⟨v, b1, b2, b3⟩ | ⟨df, b1, b2, b3⟩
            · rw [b1, b2]; exact b3
            · rw [b1, b2]; exact b3
          obtain ⟨N2, a2, g2, e2, k2, q⟩ := ents_ok l l2 hl2 k1 this
          refine ⟨max N1 N2, a2, g2, ?_, k2, q⟩
          simp only [evEnts, hwant, evOper_mono (cl_mono (Nat.le_max_left N1 N2)) e1]
          exact evEnts_mono (cl_mono (Nat.le_max_right N1 N2)) _ e2
        rcases guard_wanted (a := a) h2 with ⟨g, hwant⟩ | ⟨t, w, g, hwant⟩
        · simp only [wpOps, g] at hw
          exact goOn hw hwant
        · simp only [wpOps, g] at hw
          rcases wpGu_cases hw with ⟨b, hb, hbw, hw⟩ | ⟨hno, hw⟩
          · rw [hb] at hwant
            exact goOn hw (by rw [hwant]; simp [gw, hbw])
          · rw [h3] at hw
            have hv := AAct.put_val a o.dst aundef (by rw [hk.n]; exact h4)
            have hd := (a.put_same o.dst aundef).2.1
            obtain ⟨N2, a2, g2, e2, k2, q⟩ := ents_ok l l2 hl2 (hk.put o.dst aundef) (by rw [hv, hd]; exact hw)
            refine ⟨N2, a2, g2, ?_, k2, q⟩
            simp only [evEnts, hwant.trans hno]
            exact e2
      · cases hc
    · cases hc

theorem loop_ok {n : Nat} {rd : Bool} {c : Code} {cc : CC}
    (ih : ∀ {Q : Post} {a : AAct} {h : AH}, Keep n rd a → wpC P S cc Q a.val a.ds h → ∃ N x a' h', evCode P (cl P S N) N c a h = .ok (x.ax, a', h') ∧ Keep n rd a' ∧ Q x a'.val a'.ds h')
    {I : Inv} {Q : Post} (hI : ∀ k σ ds h, I k σ ds h → wpC P S cc (Kloop I k Q) σ ds h) : ∀ (k : Nat) (a : AAct) (h : AH), Keep n rd a → I k a.val a.ds h →
    ∃ N x a' h', (∀ lf, N ≤ lf → evLoop (evCode P (cl P S lf) lf c) lf a h = .ok (x.ax, a', h')) ∧ Keep n rd a' ∧ Q x a'.val a'.ds h' := by
  intro k
  induction k using Nat.strongRecOn with
  | _ k ihk =>
    intro a h hk hi
    obtain ⟨N, x, a1, h1, e, k1, q⟩ := ih hk (hI k _ _ _ hi)
    have hbody : ∀ lf, N ≤ lf → evCode P (cl P S lf) lf c a h = .ok (x.ax, a1, h1) := fun lf hl => evCode_mono (cl_mono hl) hl _ e
    cases x with
    | normal =>
      obtain ⟨k', hlt, hi'⟩ := q
      obtain ⟨N2, x2, a2, h2, e2, k2, q2⟩ := ihk k' hlt a1 h1 k1 hi'
      refine ⟨max N N2 + 1, x2, a2, h2, fun lf hl => ?_, k2, q2⟩
      obtain ⟨m, rfl⟩ : ∃ m, lf = m + 1 := ⟨lf - 1, by omega⟩
      simp only [evLoop]
      rw [hbody (m + 1) (by omega)]
      simp only [WX.ax]
      have := e2 m (by omega)
      exact evLoop_mono (fun a h r hr => evCode_mono (cl_mono (Nat.le_succ m)) (Nat.le_succ m) _ hr) (Nat.le_refl m) this
    | exit id =>
      refine ⟨N + 1, .exit id, a1, h1, fun lf hl => ?_, k1, q⟩
      obtain ⟨m, rfl⟩ : ∃ m, lf = m + 1 := ⟨lf - 1, by omega⟩
      simp only [evLoop]
      rw [hbody (m + 1) (by omega)]
      rfl
    | ret =>
      refine ⟨N + 1, .ret, a1, h1, fun lf hl => ?_, k1, q⟩
      obtain ⟨m, rfl⟩ : ∃ m, lf = m + 1 := ⟨lf - 1, by omega⟩
      simp only [evLoop]
      rw [hbody (m + 1) (by omega)]
      rfl

theorem code_ok {n : Nat} {rd : Bool} : ∀ (c : Code) (cc : CC), compC P n rd c = .ok cc → ∀ {Q : Post} {a : AAct} {h : AH}, Keep n rd a → wpC P S cc Q a.val a.ds h →
    ∃ N x a' h', evCode P (cl P S N) N c a h = .ok (x.ax, a', h') ∧ Keep n rd a' ∧ Q x a'.val a'.ds h'
  | .skip, cc, hc, Q, a, h, hk, hw => by cases hc; exact ⟨0, .normal, a, h, rfl, hk, hw⟩
  | .label _, cc, hc, Q, a, h, hk, hw => by cases hc; exact ⟨0, .normal, a, h, rfl, hk, hw⟩
  | .region _ ops draw, cc, hc, Q, a, h, hk, hw => by
    simp only [compC] at hc
    cases draw with
    | true =>
      simp only [cond_true] at hc
      split at hc
      · rename_i l hl
        split at hc
        · rename_i l2 hl2
          cases hc
          obtain ⟨N, a', h', e, k, q⟩ := ents_ok l l2 hl2 hk hw
          exact ⟨N, .normal, a', h', by simp only [evCode, cond_true, evDraw, hl, e, WX.ax], k, q⟩
        · cases hc
      · cases hc
    | false =>
      simp only [cond_false] at hc
      split at hc
      · rename_i l hl
        cases hc
        obtain ⟨N, a', h', e, k, q⟩ := rows_ok _ l hl hk hw
        exact ⟨N, .normal, a', h', by simp only [evCode, cond_false, e, WX.ax], k, q⟩
      · cases hc
  | .seq x y, cc, hc, Q, a, h, hk, hw => by
    simp only [compC] at hc
    split at hc
    · rename_i c1 hx
      split at hc
      · rename_i c2 hy
        cases hc
        simp only [wpC] at hw
        obtain ⟨N1, x1, a1, h1, e1, k1, q1⟩ := code_ok x c1 hx hk hw
        cases x1 with
        | normal =>
          obtain ⟨N2, x2, a2, h2, e2, k2, q2⟩ := code_ok y c2 hy k1 q1
          refine ⟨max N1 N2, x2, a2, h2, ?_, k2, q2⟩
          simp only [evCode]
          rw [evCode_mono (cl_mono (Nat.le_max_left N1 N2)) (Nat.le_max_left N1 N2) _ e1]
          simp only [WX.ax]
          exact evCode_mono (cl_mono (Nat.le_max_right N1 N2)) (Nat.le_max_right N1 N2) _ e2
        | exit id => exact ⟨N1, .exit id, a1, h1, by simp only [evCode, e1, WX.ax], k1, q1⟩
        | ret => exact ⟨N1, .ret, a1, h1, by simp only [evCode, e1, WX.ax], k1, q1⟩
      · cases hc
    · cases hc
  | .cond c x y, cc, hc, Q, a, h, hk, hw => by
    simp only [compC] at hc
    split at hc
    · rename_i c1 hc1
      split at hc
      · rename_i c2 hx
        split at hc
        · rename_i c3 hy
          cases hc
          simp only [wpC, wpG] at hw
          split at hw
          · rename_i b hb
            cases b with
            | true =>
              simp only [if_pos] at hw
              obtain ⟨N, x1, a1, h1, e1, k1, q1⟩ := code_ok x c2 hx hk hw
              exact ⟨N, x1, a1, h1, by simp only [evCode, hc1, CO.ev_eq, hb, evCond]; exact e1, k1, q1⟩
            | false =>
              simp only [Bool.false_eq_true, if_false] at hw
              obtain ⟨N, x1, a1, h1, e1, k1, q1⟩ := code_ok y c3 hy hk hw
              exact ⟨N, x1, a1, h1, by simp only [evCode, hc1, CO.ev_eq, hb, evCond]; exact e1, k1, q1⟩
          · exact hw.elim
        · cases hc
      · cases hc
    · cases hc
  | .block id c, cc, hc, Q, a, h, hk, hw => by
    simp only [compC] at hc
    split at hc
    · rename_i c1 hc1
      cases hc
      obtain ⟨N, x1, a1, h1, e1, k1, q1⟩ := code_ok c c1 hc1 hk hw
      cases x1 with
      | normal => exact ⟨N, .normal, a1, h1, by simp only [evCode, e1, WX.ax], k1, q1⟩
      | ret => exact ⟨N, .ret, a1, h1, by simp only [evCode, e1, WX.ax], k1, q1⟩
      | exit i =>
        simp only [Kblk] at q1
        by_cases hi : i = id
        · rw [if_pos hi] at q1
          refine ⟨N, .normal, a1, h1, ?_, k1, q1⟩
          simp only [evCode, e1, WX.ax, PT.beqT hi, cond_true]
        · rw [if_neg hi] at q1
          refine ⟨N, .exit i, a1, h1, ?_, k1, q1⟩
          simp only [evCode, e1, WX.ax, PT.beqF hi, cond_false]
    · cases hc
  | .loop c, cc, hc, Q, a, h, hk, hw => by
    simp only [compC] at hc
    split at hc
    · rename_i c1 hc1
      cases hc
      obtain ⟨I, k, hi, hI⟩ := hw
      obtain ⟨N, x, a', h', e, k', q⟩ := loop_ok (fun hk hw => code_ok c c1 hc1 hk hw) hI k a h hk hi
      exact ⟨N, x, a', h', by simp only [evCode]; exact e N (Nat.le_refl _), k', q⟩
    · cases hc
  | .exit id, cc, hc, Q, a, h, hk, hw => by cases hc; exact ⟨0, .exit id, a, h, rfl, hk, hw⟩
  | .ret, cc, hc, Q, a, h, hk, hw => by cases hc; exact ⟨0, .ret, a, h, rfl, hk, hw⟩
  | .scope c, cc, hc, Q, a, h, hk, hw => by
    obtain ⟨N, x, a', h', e, k, q⟩ := code_ok c cc hc hk hw
    exact ⟨N, x, a', h', by cases x <;> simp only [evCode, e, WX.ax], k, q⟩
  | .rangeFunc f params assign body, cc, hc, Q, a, h, hk, hw => by
    simp only [compC] at hc
    split at hc
    · rename_i f1 hf
      cases rd with
      | true => cases hc
      | false =>
        cases hc
        simp only [wpC, wpGo] at hw
        split at hw
        · rename_i g first captured hfe
          obtain ⟨N, v, h', e, r, hr, hst, hp⟩ := hw a.ts (fun i => rfl)
          rw [← hk.n] at e
          have hev : ∀ res, (match r.pending with
              | none => (.ok (.normal, ⟨a.n, a.ts, .collected h.next :: a.ds, a.rd⟩, h'.set (h.next + 1) (.loop { r with state := .exhausted })) : R (AX × AAct × AH))
              | some .ret => .ok (.ret, ⟨a.n, a.ts, .collected h.next :: a.ds, a.rd⟩, h'.set (h.next + 1) (.loop { r with state := .exhausted }))
              | some (.exit id) => .ok (.exit id, ⟨a.n, a.ts, .collected h.next :: a.ds, a.rd⟩, h'.set (h.next + 1) (.loop { r with state := .exhausted }))
              | some _ => .error "rangeFunc: jump") = res → evCode P (cl P S N) N (.rangeFunc f params assign body) a h = res := by
            intro res hres
            simp only [evCode, hf, CO.ev_eq, hfe, opGo, hk.rd, cond_false, forceN_eq, e, hr]
            rw [← hres]
            cases hst' : r.state with
            | busy => exact absurd hst' hst
            | ready => rw [hk.rd]; rfl
            | done => rw [hk.rd]; rfl
            | exhausted => rw [hk.rd]; rfl
          split at hp
          · rename_i hpe; exact ⟨N, .normal, ⟨a.n, a.ts, .collected h.next :: a.ds, a.rd⟩, h'.set (h.next + 1) (.loop { r with state := .exhausted }), hev _ (by rw [hpe]; rfl), ⟨hk.n, hk.rd⟩, hp⟩
          · rename_i hpe; exact ⟨N, .ret, ⟨a.n, a.ts, .collected h.next :: a.ds, a.rd⟩, h'.set (h.next + 1) (.loop { r with state := .exhausted }), hev _ (by rw [hpe]; rfl), ⟨hk.n, hk.rd⟩, hp⟩
          · rename_i id hpe; exact ⟨N, .exit id, ⟨a.n, a.ts, .collected h.next :: a.ds, a.rd⟩, h'.set (h.next + 1) (.loop { r with state := .exhausted }), hev _ (by rw [hpe]; rfl), ⟨hk.n, hk.rd⟩, hp⟩
          · exact hp.elim
        · exact hw.elim
    · cases hc
  | .goto _, cc, hc, Q, a, h, hk, hw => by cases hc
  | .refuse _, cc, hc, Q, a, h, hk, hw => by cases hc

/-! ### calls -/

def resS (h : AH) (σ : Sg) : List CRes → R (List AV)
  | [] => .ok []
  | .tmp t :: l => match resS h σ l with | .ok r => .ok (σ t :: r) | .error e => .error e
  | .one p :: l => match σ p with
    | .ptr id off => match load1 h id off with
      | .ok v => match resS h σ l with | .ok r => .ok (v :: r) | .error e => .error e
      | .error e => .error e
    | _ => .error "results"
  | .many p n :: l => match σ p with
    | .ptr id off => match loadN h id off n with
      | .ok v => match resS h σ l with | .ok r => .ok (.agg v :: r) | .error e => .error e
      | .error e => .error e
    | _ => .error "results"

theorem res_ok {h : AH} {a : AAct} : ∀ (l : List ResultVar) (l' : List CRes), compRes P l = .ok l' → ∀ r, resS h a.val l' = .ok r → resultsA P h a l = .ok r
  | [], l', hc, r, hr => by cases hc; exact hr
  | .tmp t :: l, l', hc, r, hr => by
    simp only [compRes] at hc
    split at hc
    · rename_i l2 hl2
      cases hc
      simp only [resS] at hr
      split at hr
      · rename_i r2 hr2; cases hr; simp only [resultsA, res_ok l l2 hl2 r2 hr2]
      · cases hr
    · cases hc
  | .cell p t :: l, l', hc, r, hr => by
    simp only [compRes] at hc
    split at hc
    · rename_i l2 hl2
      split at hc
      · rename_i n h1 h2
        cases hc
        simp only [resS] at hr
        split at hr
        · rename_i id off hp
          split at hr
          · rename_i v hv
            split at hr
            · rename_i r2 hr2; cases hr; simp only [resultsA, hp, h1, h2, hv, res_ok l l2 hl2 r2 hr2]
            · cases hr
          · cases hr
        · cases hr
      · rename_i h1
        cases hc
        simp only [resS] at hr
        split at hr
        · rename_i id off hp
          split at hr
          · rename_i v hv
            split at hr
            · rename_i r2 hr2; cases hr; simp only [resultsA, hp, h1, hv, res_ok l l2 hl2 r2 hr2]
            · cases hr
          · cases hr
        · cases hr
      · cases hc
    · cases hc

variable (P S) in
/-- the deferred calls, and then K -/
def Defers : List ADef → AH → (AH → Prop) → Prop
  | [], h, K => K h
  | .collected id :: l, h, K => h.get id = some (.deferred (some [])) ∧ Defers l (h.set id (.deferred none)) K
  | .call fn captured args :: l, h, K => ∃ f args' h1, callFn fn captured args h = .ok (.enter f args', h1) ∧ S f = none ∧ Ev P S (.fn f) args' h1 fun _ h2 => Defers l h2 K

theorem defers_ok : ∀ (ds : List ADef) (h : AH) (K : AH → Prop), Defers P S ds h K → ∃ N h', runDefers (noSum S (cl P S N)) ds h = .ok h' ∧ K h'
  | [], h, K, hk => ⟨0, h, rfl, hk⟩
  | .collected id :: l, h, K, hk => by
    obtain ⟨N, h', e, k⟩ := defers_ok l _ K hk.2
    exact ⟨N, h', by simp only [runDefers, hk.1, e], k⟩
  | .call fn captured args :: l, h, K, hk => by
    obtain ⟨f, args', h1, e1, hS, N1, v, h2, e2, hk⟩ := hk
    obtain ⟨N2, h', e3, k⟩ := defers_ok l h2 K hk
    refine ⟨max N1 N2, h', ?_, k⟩
    have e4 : noSum S (cl P S (max N1 N2)) (.fn f) args' h1 = .ok (v, h2) := by
      simp only [noSum, hS, cl_mono (Nat.le_max_left N1 N2) _ _ _ _ e2]
    simp only [runDefers, e1, e4]
    exact runDefers_mono (noSum_mono (cl_mono (Nat.le_max_right N1 N2))) _ e3

variable (P S) in
/-- after a function's body -/
def Kfin (res : List CRes) (K : AV → AH → Prop) : Post := fun x σ ds h => match x with
  | .exit _ => False
  | _ => Defers P S ds h fun h => ∃ l, resS h σ res = .ok l ∧ K (oneOf l) h

def argS (args : List AV) : Sg := fun i => match args[i]? with | some v => v | none => aundef

theorem compF_ok {f : FuncId} {cf : CF} (h : compF P f = .ok cf) : ∃ fn c, P.funcs[f]? = some fn ∧ fn.body = some c ∧ fn.ntmps = cf.n ∧ compC P cf.n false c = .ok cf.c ∧ compRes P fn.results.toList = .ok cf.res := by
  unfold compF at h
  split at h
  · rename_i fn hf
    split at h
    · rename_i c hb
      split at h
      · rename_i cc hcc
        split at h
        · rename_i r hr
          cases h
          exact ⟨fn, c, hf, hb, rfl, hcc, hr⟩
        · cases h
      · cases h
    · cases h
  · cases h

/-- a function's call, by its body -/
theorem ev_fn {f : FuncId} {cf : CF} {args : List AV} {h : AH} {K : AV → AH → Prop} (hc : compF P f = .ok cf) (hS : S f = none) (hn : Nat.ble args.length cf.n = true)
    (hw : wpC P S cf.c (Kfin P S cf.res K) (argS args) [] h) : Ev P S (.fn f) args h K := by
  obtain ⟨fn, c, hf, hb, hnt, hcc, hr⟩ := compF_ok hc
  have hval : (⟨cf.n, laid args 0 .leaf, [], false⟩ : AAct).val = argS args := by
    funext i
    simp only [AAct.val, laid_get, Nat.zero_le, true_and, Nat.zero_add, Nat.sub_zero, argS]
    by_cases hi : i < args.length
    · rw [if_pos hi]; rfl
    · rw [if_neg hi, List.getElem?_eq_none (by omega)]; rfl
  obtain ⟨N, x, a', h', e, k, q⟩ := code_ok c cf.c hcc (a := ⟨cf.n, laid args 0 .leaf, [], false⟩) ⟨rfl, rfl⟩ (by rw [hval]; exact hw)
  have main : ∀ (hx : x.ax = .normal ∨ x.ax = .ret), Defers P S a'.ds h' (fun h => ∃ l, resS h a'.val cf.res = .ok l ∧ K (oneOf l) h) → Ev P S (.fn f) args h K := by
    intro hx hd
    obtain ⟨N2, h2, e2, l, hl, hk⟩ := defers_ok _ _ _ hd
    refine ⟨max N N2 + 1, oneOf l, h2, ?_, hk⟩
    have hle : N ≤ max N N2 + 1 := Nat.le_trans (Nat.le_max_left N N2) (Nat.le_succ _)
    have hcall : CallLe (cl P S N) (evCall P S (max N N2 + 1) (max N N2)) := evCall_mono hle (Nat.le_max_left N N2)
    have hcall2 : CallLe (cl P S N2) (evCall P S (max N N2 + 1) (max N N2)) := evCall_mono (Nat.le_trans (Nat.le_max_right N N2) (Nat.le_succ _)) (Nat.le_max_right N N2)
    unfold cl evCall
    simp only [hS, hf, hb, hnt, hn, cond_true]
    rw [evCode_mono hcall hle c e]
    unfold finishCall
    rcases hx with hx | hx <;> simp only [hx, runDefers_mono (noSum_mono hcall2) _ e2, res_ok _ _ hr l hl]
  cases x with
  | normal => exact main (.inl rfl) q
  | ret => exact main (.inr rfl) q
  | exit id => exact q.elim

/-- what the parameters hold as a round begins -/
def setS : List Tmp → List AV → Sg → Sg
  | t :: ts, v :: vs, σ => setS ts vs (upd σ (some t) v)
  | _, _, σ => σ

theorem setS_ok {n : Nat} : ∀ (ts : List Tmp) (vs : List AV) (a : AAct), Keep n true a → ts.all (fun t => Nat.blt t n) = true → (setParams ts vs a).val = setS ts vs a.val ∧ Keep n true (setParams ts vs a) ∧ (setParams ts vs a).ds = a.ds
  | [], vs, a, hk, _ => ⟨rfl, hk, rfl⟩
  | t :: ts, [], a, hk, _ => ⟨rfl, hk, rfl⟩
  | t :: ts, v :: vs, a, hk, ht => by
    simp only [List.all_cons, Bool.and_eq_true] at ht
    obtain ⟨h1, h2, h3⟩ := setS_ok ts vs (a.put (some t) v) (hk.put _ _) ht.2
    have hv := a.put_val (some t) v (by rw [hk.n]; exact ht.1)
    exact ⟨by rw [setParams, h1, setS, hv], h2, by rw [setParams, h3]; exact (a.put_same _ _).2.1⟩

/-- after a round's body -/
def Kend (l : Nat) (K : AV → AH → Prop) : Post := fun x _ ds h => ds = [] ∧ ∃ r, h.get l = some (.loop r) ∧ match x with
  | .normal => K (.bool true) (h.set l (.loop { r with state := .ready, pending := none }))
  | .ret => K (.bool false) (h.set l (.loop { r with state := .done, pending := some .ret }))
  | .exit id => K (.bool false) (h.set l (.loop { r with state := .done, pending := some (.exit id) }))

variable (P S) in
/-- after a round's words are laid -/
def Kass (l : Nat) (cb : CC) (K : AV → AH → Prop) : Post := fun x σ ds h => match x with
  | .normal => ∃ q, h.get l = some (.loop q) ∧ q.state = .ready ∧ wpC P S cb (Kend l K) σ ds (h.set l (.loop { q with state := .busy }))
  | _ => False

end
end Go.Dr

/-
  Steps over code as read: equations for simp, and rules.
-/
namespace Go.Dr

/-- an equation that simp keeps as one -/
theorem nr {α : Sort _} {a b : α} (h : a = b) : a = b := h

section
variable {P : Program} {S : Sums} {Q : Post} {σ : Sg} {ds : List ADef} {h : AH}

/-! ### pieces of code -/

@[simp] theorem wpC_skip : wpC P S .skip Q σ ds h = Q .normal σ ds h := nr rfl
@[simp] theorem wpC_ops (l : List CEnt) : wpC P S (.ops l) Q σ ds h = wpOps P S l Q σ ds h := nr rfl
@[simp] theorem wpC_seq (x y : CC) : wpC P S (.seq x y) Q σ ds h = wpC P S x (Kseq P S y Q) σ ds h := nr rfl
@[simp] theorem wpC_block (id : Nat) (c : CC) : wpC P S (.block id c) Q σ ds h = wpC P S c (Kblk id Q) σ ds h := nr rfl
@[simp] theorem wpC_exit (id : Nat) : wpC P S (.exit id) Q σ ds h = Q (.exit id) σ ds h := nr rfl
@[simp] theorem wpC_ret : wpC P S .ret Q σ ds h = Q .ret σ ds h := nr rfl

variable (P S) in
def wpB (v : AV) (x y : CC) (Q : Post) (σ : Sg) (ds : List ADef) (h : AH) : Prop := wpG v true (wpC P S x Q σ ds h) (wpC P S y Q σ ds h)
@[simp] theorem wpC_cond (c : CO) (x y : CC) : wpC P S (.cond c x y) Q σ ds h = wpB P S (c.evS σ) x y Q σ ds h := nr rfl
@[simp] theorem wpB_true (x y : CC) : wpB P S (.bool true) x y Q σ ds h = wpC P S x Q σ ds h := nr rfl
@[simp] theorem wpB_false (x y : CC) : wpB P S (.bool false) x y Q σ ds h = wpC P S y Q σ ds h := nr rfl
@[simp] theorem Kseq_normal (y : CC) : Kseq P S y Q .normal σ ds h = wpC P S y Q σ ds h := nr rfl
@[simp] theorem Kseq_exit (y : CC) (i : Nat) : Kseq P S y Q (.exit i) σ ds h = Q (.exit i) σ ds h := nr rfl
@[simp] theorem Kseq_ret (y : CC) : Kseq P S y Q .ret σ ds h = Q .ret σ ds h := nr rfl
@[simp] theorem Kblk_normal (id : Nat) : Kblk id Q .normal σ ds h = Q .normal σ ds h := nr rfl
@[simp] theorem Kblk_exit (id i : Nat) : Kblk id Q (.exit i) σ ds h = if i = id then Q .normal σ ds h else Q (.exit i) σ ds h := nr rfl
@[simp] theorem Kblk_ret (id : Nat) : Kblk id Q .ret σ ds h = Q .ret σ ds h := nr rfl
theorem Kloop_normal (I : Inv) (k : Nat) : Kloop I k Q .normal σ ds h = ∃ k', k' < k ∧ I k' σ ds h := nr rfl
@[simp] theorem Kloop_exit (I : Inv) (k i : Nat) : Kloop I k Q (.exit i) σ ds h = Q (.exit i) σ ds h := nr rfl
@[simp] theorem Kloop_ret (I : Inv) (k : Nat) : Kloop I k Q .ret σ ds h = Q .ret σ ds h := nr rfl

theorem w_loop {c : CC} (I : Inv) (k : Nat) (h0 : I k σ ds h) (hI : ∀ k σ ds h, I k σ ds h → wpC P S c (Kloop I k Q) σ ds h) : wpC P S (.loop c) Q σ ds h := ⟨I, k, h0, hI⟩

/-! ### consequence -/

theorem wpR_mono {r : RN} {K K' : AV → AH → Prop} {D D' : ADef → AH → Prop} (hw : wpR P S r K D) (hk : ∀ v h, K v h → K' v h) (hd : ∀ d h, D d h → D' d h) : wpR P S r K' D' := by
  unfold wpR at hw ⊢
  split at hw
  · split at hw
    · exact hk _ _ hw
    · exact hk _ _ hw
    · exact hw.mono hk
    · exact hw.mono hk
    · exact hd _ _ hw
  · exact hw

theorem wpG_mono {v : AV} {w : Bool} {x y x' y' : Prop} (hw : wpG v w x y) (hx : x → x') (hy : y → y') : wpG v w x' y' := by
  unfold wpG at hw ⊢
  split at hw
  · split at hw
    · rename_i e; rw [if_pos e]; exact hx hw
    · rename_i e; rw [if_neg e]; exact hy hw
  · exact hw

theorem wpGu_mono {v : AV} {w : Bool} {x y x' y' : Prop} (hw : wpGu v w x y) (hx : x → x') (hy : y → y') : wpGu v w x' y' := by
  unfold wpGu at hw ⊢
  split at hw
  · split at hw
    · rename_i e; rw [if_pos e]; exact hx hw
    · rename_i e; rw [if_neg e]; exact hy hw
  · exact hw
  · exact hy hw

theorem wpOps_mono {Q Q' : Post} (hq : ∀ σ ds h, Q .normal σ ds h → Q' .normal σ ds h) : ∀ (l : List CEnt) {σ : Sg} {ds : List ADef} {h : AH}, wpOps P S l Q σ ds h → wpOps P S l Q' σ ds h
  | [], _, _, _, hw => hq _ _ _ hw
  | .stage re :: l, _, _, _, hw => ⟨hw.1, wpOps_mono hq l hw.2⟩
  | .row r :: l, σ, ds, h, hw => by
    simp only [wpOps] at hw ⊢
    cases hg : r.g with
    | none => rw [hg] at hw; exact wpR_mono hw (fun v h => wpOps_mono hq l) (fun d h => wpOps_mono hq l)
    | some p => rw [hg] at hw; exact wpGu_mono hw (fun hw => wpR_mono hw (fun v h => wpOps_mono hq l) (fun d h => wpOps_mono hq l)) (wpOps_mono hq l)

theorem w_mono : ∀ {c : CC} {Q Q' : Post} {σ : Sg} {ds : List ADef} {h : AH}, wpC P S c Q σ ds h → (∀ x σ ds h, Q x σ ds h → Q' x σ ds h) → wpC P S c Q' σ ds h
  | .skip, _, _, _, _, _, hw, hq => hq _ _ _ _ hw
  | .ops l, _, _, _, _, _, hw, hq => wpOps_mono (fun _ _ _ => hq _ _ _ _) l hw
  | .seq x y, Q, Q', _, _, _, hw, hq => w_mono (c := x) hw fun r σ ds h k => by
    cases r with
    | normal => exact w_mono (c := y) k hq
    | exit i => exact hq _ _ _ _ k
    | ret => exact hq _ _ _ _ k
  | .cond c x y, _, _, _, _, _, hw, hq => wpG_mono hw (fun k => w_mono (c := x) k hq) (fun k => w_mono (c := y) k hq)
  | .block id c, Q, Q', _, _, _, hw, hq => w_mono (c := c) hw fun r σ ds h k => by
    cases r with
    | normal => exact hq _ _ _ _ k
    | ret => exact hq _ _ _ _ k
    | exit i =>
      simp only [Kblk] at k ⊢
      by_cases hi : i = id
      · rw [if_pos hi] at k ⊢; exact hq _ _ _ _ k
      · rw [if_neg hi] at k ⊢; exact hq _ _ _ _ k
  | .loop c, Q, Q', _, _, _, ⟨I, k, h0, hI⟩, hq => ⟨I, k, h0, fun k σ ds h hi => w_mono (c := c) (hI k σ ds h hi) fun r σ ds h q => by
    cases r with
    | normal => exact q
    | exit i => exact hq _ _ _ _ q
    | ret => exact hq _ _ _ _ q⟩
  | .exit id, _, _, _, _, _, hw, hq => hq _ _ _ _ hw
  | .ret, _, _, _, _, _, hw, hq => hq _ _ _ _ hw
  | .go n f params assign body, Q, Q', σ, ds, h, hw, hq => by
    simp only [wpC, wpGo] at hw ⊢
    split at hw
    · intro tmps ht
      refine (hw tmps ht).mono fun v h' => ?_
      rintro ⟨r, h1, h2, h3⟩
      refine ⟨r, h1, h2, ?_⟩
      split at h3
      · exact hq _ _ _ _ h3
      · exact hq _ _ _ _ h3
      · exact hq _ _ _ _ h3
      · exact h3
    · exact hw


/-! ### rows -/

variable (P S) in
def wpN (r : RN) (d : Option Nat) (l : List CEnt) (Q : Post) (σ : Sg) (ds : List ADef) : Prop :=
  wpR P S r (fun v h => wpOps P S l Q (upd σ d v) ds h) (fun df h => wpOps P S l Q (upd σ d aundef) (df :: ds) h)
variable (P S) in
def wpGd (v : AV) (w : Bool) (c : COp) (d : Option Nat) (l : List CEnt) (Q : Post) (σ : Sg) (ds : List ADef) (h : AH) : Prop :=
  wpGu v w (wpN P S (evS P c σ h) d l Q σ ds) (wpOps P S l Q (upd σ d aundef) ds h)
variable (P S) in
def Kcall (d : Option Nat) (l : List CEnt) (Q : Post) (σ : Sg) (ds : List ADef) (v : AV) (h : AH) : Prop := wpOps P S l Q (upd σ d v) ds h

@[simp] theorem wpOps_nil : wpOps P S [] Q σ ds h = Q .normal σ ds h := nr rfl
@[simp] theorem wpOps_row (d : Option Nat) (c : COp) (l : List CEnt) : wpOps P S (.row ⟨d, none, c⟩ :: l) Q σ ds h = wpN P S (evS P c σ h) d l Q σ ds := nr rfl
@[simp] theorem wpOps_guard (d : Option Nat) (t : Nat) (w : Bool) (c : COp) (l : List CEnt) : wpOps P S (.row ⟨d, some (t, w), c⟩ :: l) Q σ ds h = wpGd P S (σ t) w c d l Q σ ds h := nr rfl
@[simp] theorem wpOps_stage (re : List CRow) (l : List CEnt) : wpOps P S (.stage re :: l) Q σ ds h = (wpAgain P re σ h ∧ wpOps P S l Q σ ds h) := nr rfl

@[simp] theorem wpN_value (d : Option Nat) (l : List CEnt) (v : AV) : wpN P S (.ok (.value v, h)) d l Q σ ds = wpOps P S l Q (upd σ d v) ds h := nr rfl
@[simp] theorem wpN_okV (d : Option Nat) (l : List CEnt) (v : AV) : wpN P S (okV v h) d l Q σ ds = wpOps P S l Q (upd σ d v) ds h := nr rfl
@[simp] theorem wpN_keep (d : Option Nat) (l : List CEnt) (v : AV) : wpN P S (keepH h (.ok v)) d l Q σ ds = wpOps P S l Q (upd σ d v) ds h := nr rfl
@[simp] theorem wpN_skip (d : Option Nat) (l : List CEnt) : wpN P S (skipH (.ok h)) d l Q σ ds = wpOps P S l Q (upd σ d aundef) ds h := nr rfl
@[simp] theorem wpN_enter (d : Option Nat) (l : List CEnt) (f : FuncId) (args : List AV) : wpN P S (.ok (.enter f args, h)) d l Q σ ds = Ev P S (.fn f) args h (Kcall P S d l Q σ ds) := nr rfl
@[simp] theorem wpN_yield (d : Option Nat) (l : List CEnt) (f : Nat) (args : List AV) : wpN P S (.ok (.yield f args, h)) d l Q σ ds = Ev P S (.yield f) args h (Kcall P S d l Q σ ds) := nr rfl
@[simp] theorem Kcall_app (d : Option Nat) (l : List CEnt) (v : AV) : Kcall P S d l Q σ ds v h = wpOps P S l Q (upd σ d v) ds h := nr rfl

@[simp] theorem wpGd_tt (c : COp) (d : Option Nat) (l : List CEnt) : wpGd P S (.bool true) true c d l Q σ ds h = wpN P S (evS P c σ h) d l Q σ ds := nr rfl
@[simp] theorem wpGd_ff (c : COp) (d : Option Nat) (l : List CEnt) : wpGd P S (.bool false) false c d l Q σ ds h = wpN P S (evS P c σ h) d l Q σ ds := nr rfl
@[simp] theorem wpGd_tf (c : COp) (d : Option Nat) (l : List CEnt) : wpGd P S (.bool true) false c d l Q σ ds h = wpOps P S l Q (upd σ d aundef) ds h := nr rfl
@[simp] theorem wpGd_un (w : Bool) (c : COp) (d : Option Nat) (l : List CEnt) : wpGd P S aundef w c d l Q σ ds h = wpOps P S l Q (upd σ d aundef) ds h := nr rfl
@[simp] theorem wpGd_ft (c : COp) (d : Option Nat) (l : List CEnt) : wpGd P S (.bool false) true c d l Q σ ds h = wpOps P S l Q (upd σ d aundef) ds h := nr rfl

variable (P S) in
def resK (r : R (List AV)) (K : AV → AH → Prop) (h : AH) : Prop :=
  match r with
  | .ok l => K (oneOf l) h
  | .error _ => False

@[simp] theorem resK_ok (l : List AV) (K : AV → AH → Prop) : resK (.ok l) K h = K (oneOf l) h := nr rfl

theorem resK_eq (r : R (List AV)) (K : AV → AH → Prop) : (∃ l, r = .ok l ∧ K (oneOf l) h) = resK r K h := by
  cases r with
  | error e => simp [resK]
  | ok l => simp [resK]

@[simp] theorem Kfin_normal (res : List CRes) (K : AV → AH → Prop) : Kfin P S res K .normal σ [] h = resK (resS h σ res) K h := resK_eq _ _
@[simp] theorem Kfin_ret (res : List CRes) (K : AV → AH → Prop) : Kfin P S res K .ret σ [] h = resK (resS h σ res) K h := resK_eq _ _
@[simp] theorem resS_nil : resS h σ [] = .ok [] := nr rfl
@[simp] theorem resS_tmp (t : Nat) (l : List CRes) : resS h σ (.tmp t :: l) = match resS h σ l with | .ok r => .ok (σ t :: r) | .error e => .error e := nr rfl
@[simp] theorem oneOf_one (v : AV) : oneOf [v] = v := nr rfl
@[simp] theorem oneOf_nil : oneOf [] = .tuple [] := nr rfl
@[simp] theorem oneOf_two (v u : AV) (l : List AV) : oneOf (v :: u :: l) = .tuple (v :: u :: l) := nr rfl

/-! ### operations -/

@[simp] theorem evS_move (x : _) : evS P (.move x) σ h = okV (x.evS σ) h := nr rfl
@[simp] theorem evS_pick (c : _) (x : _) (y : _) : evS P (.pick c x y) σ h = keepH h (opPick (c.evS σ) (x.evS σ) (y.evS σ)) := nr rfl
@[simp] theorem evS_new (z : _) : evS P (.new z) σ h = opNew z h := nr rfl
@[simp] theorem evS_box (x : _) : evS P (.box x) σ h = opNew (x.evS σ).cells h := nr rfl
@[simp] theorem evS_build (z : _) (pl : _) : evS P (.build z pl) σ h = keepH h (opBuildS z pl σ) := nr rfl
@[simp] theorem evS_buildSlice (len : _) (es : _) (z : _) (pl : _) : evS P (.buildSlice len es z pl) σ h = opBuildSliceS len es z pl σ h := nr rfl
@[simp] theorem evS_load1 (x : _) : evS P (.load1 x) σ h = opLoad1 (x.evS σ) h := nr rfl
@[simp] theorem evS_loadN (n : _) (x : _) : evS P (.loadN n x) σ h = opLoadN n (x.evS σ) h := nr rfl
@[simp] theorem evS_store (n : _) (x : _) (y : _) : evS P (.store n x y) σ h = opStore n (x.evS σ) (y.evS σ) h := nr rfl
@[simp] theorem evS_nilCheck (x : _) : evS P (.nilCheck x) σ h = opNilCheck (x.evS σ) h := nr rfl
@[simp] theorem evS_bin (op : _) (t : _) (lit : _) (x : _) (y : _) : evS P (.bin op t lit x y) σ h = keepH h (opBin P op t lit (x.evS σ) (y.evS σ)) := nr rfl
@[simp] theorem evS_un (op : _) (x : _) : evS P (.un op x) σ h = keepH h (opUn op (x.evS σ)) := nr rfl
@[simp] theorem evS_conv (c : _) (x : _) : evS P (.conv c x) σ h = opConv c (x.evS σ) h := nr rfl
@[simp] theorem evS_mkI (t : _) (x : _) : evS P (.mkI t x) σ h = okV (.iface t (x.evS σ)) h := nr rfl
@[simp] theorem evS_mkF (f : _) (first : _) (captured : _) : evS P (.mkF f first captured) σ h = okV (.func (.func f) (evLS σ first) (evLS σ captured)) h := nr rfl
@[simp] theorem evS_mkM (r : _) : evS P (.mkM r) σ h = opMkM (evOS σ r) h := nr rfl
@[simp] theorem evS_mkS (es : _) (bytes : _) (z : _) (l : _) (c : _) : evS P (.mkS es bytes z l c) σ h = opMkS es bytes z (l.evS σ) (c.evS σ) h := nr rfl
@[simp] theorem evS_sliceS (x : _) (lo : _) (hi : _) : evS P (.sliceS x lo hi) σ h = keepH h (opSliceS (x.evS σ) (evOS σ lo) (evOS σ hi)) := nr rfl
@[simp] theorem evS_sliceV (es : _) (x : _) (lo : _) (hi : _) (mx : _) : evS P (.sliceV es x lo hi mx) σ h = keepH h (opSliceV es (x.evS σ) (evOS σ lo) (evOS σ hi) (evOS σ mx)) := nr rfl
@[simp] theorem evS_sliceA (n : _) (es : _) (x : _) (lo : _) (hi : _) (mx : _) : evS P (.sliceA n es x lo hi mx) σ h = keepH h (opSliceA n es h (x.evS σ) (evOS σ lo) (evOS σ hi) (evOS σ mx)) := nr rfl
@[simp] theorem evS_fieldAddr (off : _) (x : _) : evS P (.fieldAddr off x) σ h = keepH h (opFieldAddr off (x.evS σ)) := nr rfl
@[simp] theorem evS_field1 (off : _) (x : _) : evS P (.field1 off x) σ h = keepH h (aggOne (x.evS σ) off) := nr rfl
@[simp] theorem evS_fieldN (off : _) (n : _) (x : _) : evS P (.fieldN off n x) σ h = keepH h (aggPart (x.evS σ) off n) := nr rfl
@[simp] theorem evS_idxA (len : _) (es : _) (x : _) (i : _) : evS P (.idxA len es x i) σ h = keepH h (opIdxA len es (x.evS σ) (i.evS σ)) := nr rfl
@[simp] theorem evS_idxV (es : _) (x : _) (i : _) : evS P (.idxV es x i) σ h = keepH h (opIdxV es (x.evS σ) (i.evS σ)) := nr rfl
@[simp] theorem evS_index1 (len : _) (es : _) (x : _) (i : _) : evS P (.index1 len es x i) σ h = keepH h (opIndex true len es (x.evS σ) (i.evS σ)) := nr rfl
@[simp] theorem evS_indexN (len : _) (es : _) (x : _) (i : _) : evS P (.indexN len es x i) σ h = keepH h (opIndex false len es (x.evS σ) (i.evS σ)) := nr rfl
@[simp] theorem evS_indexS (x : _) (i : _) : evS P (.indexS x i) σ h = keepH h (opIndexS (x.evS σ) (i.evS σ)) := nr rfl
@[simp] theorem evS_lookup (kt : _) (z : _) (ok : _) (x : _) (k : _) : evS P (.lookup kt z ok x k) σ h = keepH h (opLookup P kt z ok h (x.evS σ) (k.evS σ)) := nr rfl
@[simp] theorem evS_upd (kt : _) (m : _) (k : _) (v : _) : evS P (.upd kt m k v) σ h = skipH (opUpd P kt h (m.evS σ) (k.evS σ) (v.evS σ)) := nr rfl
@[simp] theorem evS_mapEntry (kt : _) (z : _) (m : _) (k : _) : evS P (.mapEntry kt z m k) σ h = opMapEntry P kt z h (m.evS σ) (k.evS σ) := nr rfl
@[simp] theorem evS_entryStore (m : _) (t : _) (v : _) : evS P (.entryStore m t v) σ h = skipH (opEntryStore h (m.evS σ) (t.evS σ) (v.evS σ)) := nr rfl
@[simp] theorem evS_rangeS (x : _) : evS P (.rangeS x) σ h = opRangeS h (x.evS σ) := nr rfl
@[simp] theorem evS_rangeM (x : _) : evS P (.rangeM x) σ h = opRangeM h (x.evS σ) := nr rfl
@[simp] theorem evS_next (it : _) (b : _) : evS P (.next it b) σ h = opNext h (it.evS σ) b := nr rfl
@[simp] theorem evS_entry (it : _) : evS P (.entry it) σ h = keepH h (opEntry h (it.evS σ)) := nr rfl
@[simp] theorem evS_tassert (x : _) (t : _) (ok : _) : evS P (.tassert x t ok) σ h = keepH h (opTypeAssert P (x.evS σ) t ok) := nr rfl
@[simp] theorem evS_extract (x : _) (i : _) : evS P (.extract x i) σ h = keepH h (opExtract (x.evS σ) i) := nr rfl
@[simp] theorem evS_app (es : _) (bytes : _) (x : _) (y : _) : evS P (.app es bytes x y) σ h = opApp es bytes (x.evS σ) (y.evS σ) h := nr rfl
@[simp] theorem evS_appZ (es : _) (bytes : _) (z : _) (x : _) (y : _) : evS P (.appZ es bytes z x y) σ h = opAppZ es bytes z (x.evS σ) (y.evS σ) h := nr rfl
@[simp] theorem evS_lenK (n : _) : evS P (.lenK n) σ h = okV (.int .i64 (.ofNat n)) h := nr rfl
@[simp] theorem evS_lenS (x : _) : evS P (.lenS x) σ h = keepH h (opLenS (x.evS σ)) := nr rfl
@[simp] theorem evS_lenV (x : _) : evS P (.lenV x) σ h = keepH h (opLenV (x.evS σ)) := nr rfl
@[simp] theorem evS_lenM (x : _) : evS P (.lenM x) σ h = keepH h (opLenM h (x.evS σ)) := nr rfl
@[simp] theorem evS_capV (x : _) : evS P (.capV x) σ h = keepH h (opCapV (x.evS σ)) := nr rfl
@[simp] theorem evS_copy (es : _) (d : _) (x : _) : evS P (.copy es d x) σ h = opCopy es (d.evS σ) (x.evS σ) h := nr rfl
@[simp] theorem evS_clear (es : Nat) (z : List AV) (x : _) : evS P (.clear es z x) σ h = opClear es z (x.evS σ) h := nr rfl
@[simp] theorem evS_delete (kt : _) (m : _) (k : _) : evS P (.delete kt m k) σ h = opDelete P kt (m.evS σ) (k.evS σ) h := nr rfl
@[simp] theorem evS_mm (isMax : _) (x : _) (l : _) : evS P (.mm isMax x l) σ h = keepH h (foldMM isMax (x.evS σ) (evLS σ l)) := nr rfl
@[simp] theorem evS_callV (f : _) (args : _) : evS P (.callV f args) σ h = callVal (f.evS σ) (evLS σ args) h := nr rfl
@[simp] theorem evS_callM (r : _) (name : _) (args : _) : evS P (.callM r name args) σ h = callMeth P (r.evS σ) name (evLS σ args) h := nr rfl
@[simp] theorem evS_defer (f : _) (args : _) : evS P (.defer f args) σ h = opDefer (f.evS σ) (evLS σ args) h := nr rfl
@[simp] theorem opPick_true (a b : AV) : opPick (.bool true) a b = .ok a := nr rfl
@[simp] theorem opPick_false (a b : AV) : opPick (.bool false) a b = .ok b := nr rfl
@[simp] theorem opExtract_zero (a : AV) (l : List AV) : opExtract (.tuple (a :: l)) 0 = .ok a := nr rfl
@[simp] theorem opExtract_one (a b : AV) (l : List AV) : opExtract (.tuple (a :: b :: l)) 1 = .ok b := nr rfl
@[simp] theorem opExtract_two (a b c : AV) (l : List AV) : opExtract (.tuple (a :: b :: c :: l)) 2 = .ok c := nr rfl
@[simp] theorem opExtract_three (a b c d : AV) (l : List AV) : opExtract (.tuple (a :: b :: c :: d :: l)) 3 = .ok d := nr rfl
@[simp] theorem opFieldAddr_ptr (off id o : Nat) : opFieldAddr off (.ptr id o) = .ok (.ptr id (o + off)) := nr rfl

@[simp] theorem opNew_eq (z : List AV) : opNew z h = okV (.ptr h.next 0) (h.push (.cells z false)) := nr rfl
@[simp] theorem opLoad1_ptr (id off : Nat) : opLoad1 (.ptr id off) h = keepH h (load1 h id off) := nr rfl
@[simp] theorem opNilCheck_ptr (id off : Nat) : opNilCheck (.ptr id off) h = okV (.ptr id off) h := nr rfl
@[simp] theorem opNilCheck_map (id : Nat) : opNilCheck (.map id) h = okV (.map id) h := nr rfl
@[simp] theorem opLenV_nils : opLenV .nils = .ok (.int .i64 0) := nr rfl
@[simp] theorem opLenV_slice (id off n cap : Nat) (x : Bool) (es : Nat) : opLenV (.slice id off n cap x es) = .ok (.int .i64 (n : Int)) := nr rfl
@[simp] theorem opLenS_str (s : List UInt8) : opLenS (.str s) = .ok (.int .i64 (s.length : Int)) := nr rfl
@[simp] theorem opIdxV_slice (es id off len cap : Nat) (x : Bool) (k : IntKind) (i : Int) (hi : 0 ≤ i ∧ i < len) :
    opIdxV es (.slice id off len cap x es) (.int k i) = .ok (.ptr id (off + i.toNat * es)) := by simp [opIdxV, hi]
@[simp] theorem opIdxA_ptr (len es id off : Nat) (k : IntKind) (i : Int) (hi : 0 ≤ i ∧ i < len) : opIdxA len es (.ptr id off) (.int k i) = .ok (.ptr id (off + i.toNat * es)) := by simp [opIdxA, hi]

@[simp] theorem bin_add (t : TypeId) (lit : Bool) (k : IntKind) (a b : Int) : opBin P .add t lit (.int k a) (.int k b) = .ok (.int k (wrapF k (a + b))) := by simp [opBin, isShift, intOp]
@[simp] theorem bin_sub (t : TypeId) (lit : Bool) (k : IntKind) (a b : Int) : opBin P .sub t lit (.int k a) (.int k b) = .ok (.int k (wrapF k (a - b))) := by simp [opBin, isShift, intOp]
@[simp] theorem bin_mul (t : TypeId) (lit : Bool) (k : IntKind) (a b : Int) : opBin P .mul t lit (.int k a) (.int k b) = .ok (.int k (wrapF k (a * b))) := by simp [opBin, isShift, intOp]
@[simp] theorem bin_quo (t : TypeId) (lit : Bool) (k : IntKind) (a b : Int) (hb : b ≠ 0) : opBin P .quo t lit (.int k a) (.int k b) = .ok (.int k (wrapF k (a.tdiv b))) := by simp [opBin, isShift, intOp, hb]
@[simp] theorem bin_rem (t : TypeId) (lit : Bool) (k : IntKind) (a b : Int) (hb : b ≠ 0) : opBin P .rem t lit (.int k a) (.int k b) = .ok (.int k (a.tmod b)) := by simp [opBin, isShift, intOp, hb]
theorem bin_and (t : TypeId) (lit : Bool) (k : IntKind) (a b : Int) : opBin P .and t lit (.int k a) (.int k b) = .ok (.int k (wrapF k (BitVec.ofInt k.bits a &&& BitVec.ofInt k.bits b).toNat)) := by simp [opBin, isShift, intOp]
theorem bin_or (t : TypeId) (lit : Bool) (k : IntKind) (a b : Int) : opBin P .or t lit (.int k a) (.int k b) = .ok (.int k (wrapF k (BitVec.ofInt k.bits a ||| BitVec.ofInt k.bits b).toNat)) := by simp [opBin, isShift, intOp]
theorem bin_xor (t : TypeId) (lit : Bool) (k : IntKind) (a b : Int) : opBin P .xor t lit (.int k a) (.int k b) = .ok (.int k (wrapF k (BitVec.ofInt k.bits a ^^^ BitVec.ofInt k.bits b).toNat)) := by simp [opBin, isShift, intOp]
@[simp] theorem bin_eql (t : TypeId) (lit : Bool) (k : IntKind) (a b : Int) : opBin P .eql t lit (.int k a) (.int k b) = .ok (.bool (decide (a = b))) := by
  simp only [opBin, isShift, intOp, cmpOp]
  by_cases h : a = b <;> simp [h]
@[simp] theorem bin_neq (t : TypeId) (lit : Bool) (k : IntKind) (a b : Int) : opBin P .neq t lit (.int k a) (.int k b) = .ok (.bool (decide (¬ a = b))) := by
  simp only [opBin, isShift, intOp, cmpOp]
  by_cases h : a = b <;> simp [h]
@[simp] theorem bin_lss (t : TypeId) (lit : Bool) (k : IntKind) (a b : Int) : opBin P .lss t lit (.int k a) (.int k b) = .ok (.bool (decide (a < b))) := by simp [opBin, isShift, intOp, cmpOp]
@[simp] theorem bin_leq (t : TypeId) (lit : Bool) (k : IntKind) (a b : Int) : opBin P .leq t lit (.int k a) (.int k b) = .ok (.bool (decide (a ≤ b))) := by simp [opBin, isShift, intOp, cmpOp]
@[simp] theorem bin_gtr (t : TypeId) (lit : Bool) (k : IntKind) (a b : Int) : opBin P .gtr t lit (.int k a) (.int k b) = .ok (.bool (decide (b < a))) := by simp [opBin, isShift, intOp, cmpOp]
@[simp] theorem bin_geq (t : TypeId) (lit : Bool) (k : IntKind) (a b : Int) : opBin P .geq t lit (.int k a) (.int k b) = .ok (.bool (decide (b ≤ a))) := by simp [opBin, isShift, intOp, cmpOp]
theorem bin_shl (t : TypeId) (lit : Bool) (k k' : IntKind) (a b : Int) (hb : 0 ≤ b) : opBin P .shl t lit (.int k a) (.int k' b) = .ok (.int k (wrapF k (a * 2 ^ min b.toNat k.bits))) := by
  have : ¬ b < 0 := by omega
  simp [opBin, isShift, shiftOp, this]
theorem bin_shr (t : TypeId) (lit : Bool) (k k' : IntKind) (a b : Int) (hb : 0 ≤ b) : opBin P .shr t lit (.int k a) (.int k' b) = .ok (.int k (a.fdiv (2 ^ min b.toNat k.bits))) := by
  have : ¬ b < 0 := by omega
  simp [opBin, isShift, shiftOp, this]
@[simp] theorem bin_and_u8 (t : TypeId) (lit : Bool) (a b : Int) : opBin P .and t lit (.int .u8 a) (.int .u8 b) = .ok (.int .u8 (wrapF .u8 (BitVec.ofInt 8 a &&& BitVec.ofInt 8 b).toNat)) := bin_and t lit .u8 a b
@[simp] theorem bin_and_u16 (t : TypeId) (lit : Bool) (a b : Int) : opBin P .and t lit (.int .u16 a) (.int .u16 b) = .ok (.int .u16 (wrapF .u16 (BitVec.ofInt 16 a &&& BitVec.ofInt 16 b).toNat)) := bin_and t lit .u16 a b
@[simp] theorem bin_and_u32 (t : TypeId) (lit : Bool) (a b : Int) : opBin P .and t lit (.int .u32 a) (.int .u32 b) = .ok (.int .u32 (wrapF .u32 (BitVec.ofInt 32 a &&& BitVec.ofInt 32 b).toNat)) := bin_and t lit .u32 a b
@[simp] theorem bin_and_u64 (t : TypeId) (lit : Bool) (a b : Int) : opBin P .and t lit (.int .u64 a) (.int .u64 b) = .ok (.int .u64 (wrapF .u64 (BitVec.ofInt 64 a &&& BitVec.ofInt 64 b).toNat)) := bin_and t lit .u64 a b
@[simp] theorem bin_and_i64 (t : TypeId) (lit : Bool) (a b : Int) : opBin P .and t lit (.int .i64 a) (.int .i64 b) = .ok (.int .i64 (wrapF .i64 (BitVec.ofInt 64 a &&& BitVec.ofInt 64 b).toNat)) := bin_and t lit .i64 a b
@[simp] theorem bin_and_i32 (t : TypeId) (lit : Bool) (a b : Int) : opBin P .and t lit (.int .i32 a) (.int .i32 b) = .ok (.int .i32 (wrapF .i32 (BitVec.ofInt 32 a &&& BitVec.ofInt 32 b).toNat)) := bin_and t lit .i32 a b
@[simp] theorem bin_or_u8 (t : TypeId) (lit : Bool) (a b : Int) : opBin P .or t lit (.int .u8 a) (.int .u8 b) = .ok (.int .u8 (wrapF .u8 (BitVec.ofInt 8 a ||| BitVec.ofInt 8 b).toNat)) := bin_or t lit .u8 a b
@[simp] theorem bin_or_u16 (t : TypeId) (lit : Bool) (a b : Int) : opBin P .or t lit (.int .u16 a) (.int .u16 b) = .ok (.int .u16 (wrapF .u16 (BitVec.ofInt 16 a ||| BitVec.ofInt 16 b).toNat)) := bin_or t lit .u16 a b
@[simp] theorem bin_or_u32 (t : TypeId) (lit : Bool) (a b : Int) : opBin P .or t lit (.int .u32 a) (.int .u32 b) = .ok (.int .u32 (wrapF .u32 (BitVec.ofInt 32 a ||| BitVec.ofInt 32 b).toNat)) := bin_or t lit .u32 a b
@[simp] theorem bin_or_u64 (t : TypeId) (lit : Bool) (a b : Int) : opBin P .or t lit (.int .u64 a) (.int .u64 b) = .ok (.int .u64 (wrapF .u64 (BitVec.ofInt 64 a ||| BitVec.ofInt 64 b).toNat)) := bin_or t lit .u64 a b
@[simp] theorem bin_or_i64 (t : TypeId) (lit : Bool) (a b : Int) : opBin P .or t lit (.int .i64 a) (.int .i64 b) = .ok (.int .i64 (wrapF .i64 (BitVec.ofInt 64 a ||| BitVec.ofInt 64 b).toNat)) := bin_or t lit .i64 a b
@[simp] theorem bin_or_i32 (t : TypeId) (lit : Bool) (a b : Int) : opBin P .or t lit (.int .i32 a) (.int .i32 b) = .ok (.int .i32 (wrapF .i32 (BitVec.ofInt 32 a ||| BitVec.ofInt 32 b).toNat)) := bin_or t lit .i32 a b
@[simp] theorem bin_xor_u8 (t : TypeId) (lit : Bool) (a b : Int) : opBin P .xor t lit (.int .u8 a) (.int .u8 b) = .ok (.int .u8 (wrapF .u8 (BitVec.ofInt 8 a ^^^ BitVec.ofInt 8 b).toNat)) := bin_xor t lit .u8 a b
@[simp] theorem bin_xor_u16 (t : TypeId) (lit : Bool) (a b : Int) : opBin P .xor t lit (.int .u16 a) (.int .u16 b) = .ok (.int .u16 (wrapF .u16 (BitVec.ofInt 16 a ^^^ BitVec.ofInt 16 b).toNat)) := bin_xor t lit .u16 a b
@[simp] theorem bin_xor_u32 (t : TypeId) (lit : Bool) (a b : Int) : opBin P .xor t lit (.int .u32 a) (.int .u32 b) = .ok (.int .u32 (wrapF .u32 (BitVec.ofInt 32 a ^^^ BitVec.ofInt 32 b).toNat)) := bin_xor t lit .u32 a b
@[simp] theorem bin_xor_u64 (t : TypeId) (lit : Bool) (a b : Int) : opBin P .xor t lit (.int .u64 a) (.int .u64 b) = .ok (.int .u64 (wrapF .u64 (BitVec.ofInt 64 a ^^^ BitVec.ofInt 64 b).toNat)) := bin_xor t lit .u64 a b
@[simp] theorem bin_xor_i64 (t : TypeId) (lit : Bool) (a b : Int) : opBin P .xor t lit (.int .i64 a) (.int .i64 b) = .ok (.int .i64 (wrapF .i64 (BitVec.ofInt 64 a ^^^ BitVec.ofInt 64 b).toNat)) := bin_xor t lit .i64 a b
@[simp] theorem bin_xor_i32 (t : TypeId) (lit : Bool) (a b : Int) : opBin P .xor t lit (.int .i32 a) (.int .i32 b) = .ok (.int .i32 (wrapF .i32 (BitVec.ofInt 32 a ^^^ BitVec.ofInt 32 b).toNat)) := bin_xor t lit .i32 a b
@[simp] theorem bin_shl_u8 (t : TypeId) (lit : Bool) (k' : IntKind) (a b : Int) (hb : 0 ≤ b) : opBin P .shl t lit (.int .u8 a) (.int k' b) = .ok (.int .u8 (wrapF .u8 (a * 2 ^ min b.toNat 8))) := bin_shl t lit .u8 k' a b hb
@[simp] theorem bin_shr_u8 (t : TypeId) (lit : Bool) (k' : IntKind) (a b : Int) (hb : 0 ≤ b) : opBin P .shr t lit (.int .u8 a) (.int k' b) = .ok (.int .u8 (a.fdiv (2 ^ min b.toNat 8))) := bin_shr t lit .u8 k' a b hb
@[simp] theorem bin_shl_u16 (t : TypeId) (lit : Bool) (k' : IntKind) (a b : Int) (hb : 0 ≤ b) : opBin P .shl t lit (.int .u16 a) (.int k' b) = .ok (.int .u16 (wrapF .u16 (a * 2 ^ min b.toNat 16))) := bin_shl t lit .u16 k' a b hb
@[simp] theorem bin_shr_u16 (t : TypeId) (lit : Bool) (k' : IntKind) (a b : Int) (hb : 0 ≤ b) : opBin P .shr t lit (.int .u16 a) (.int k' b) = .ok (.int .u16 (a.fdiv (2 ^ min b.toNat 16))) := bin_shr t lit .u16 k' a b hb
@[simp] theorem bin_shl_u32 (t : TypeId) (lit : Bool) (k' : IntKind) (a b : Int) (hb : 0 ≤ b) : opBin P .shl t lit (.int .u32 a) (.int k' b) = .ok (.int .u32 (wrapF .u32 (a * 2 ^ min b.toNat 32))) := bin_shl t lit .u32 k' a b hb
@[simp] theorem bin_shr_u32 (t : TypeId) (lit : Bool) (k' : IntKind) (a b : Int) (hb : 0 ≤ b) : opBin P .shr t lit (.int .u32 a) (.int k' b) = .ok (.int .u32 (a.fdiv (2 ^ min b.toNat 32))) := bin_shr t lit .u32 k' a b hb
@[simp] theorem bin_shl_u64 (t : TypeId) (lit : Bool) (k' : IntKind) (a b : Int) (hb : 0 ≤ b) : opBin P .shl t lit (.int .u64 a) (.int k' b) = .ok (.int .u64 (wrapF .u64 (a * 2 ^ min b.toNat 64))) := bin_shl t lit .u64 k' a b hb
@[simp] theorem bin_shr_u64 (t : TypeId) (lit : Bool) (k' : IntKind) (a b : Int) (hb : 0 ≤ b) : opBin P .shr t lit (.int .u64 a) (.int k' b) = .ok (.int .u64 (a.fdiv (2 ^ min b.toNat 64))) := bin_shr t lit .u64 k' a b hb
@[simp] theorem bin_shl_i64 (t : TypeId) (lit : Bool) (k' : IntKind) (a b : Int) (hb : 0 ≤ b) : opBin P .shl t lit (.int .i64 a) (.int k' b) = .ok (.int .i64 (wrapF .i64 (a * 2 ^ min b.toNat 64))) := bin_shl t lit .i64 k' a b hb
@[simp] theorem bin_shr_i64 (t : TypeId) (lit : Bool) (k' : IntKind) (a b : Int) (hb : 0 ≤ b) : opBin P .shr t lit (.int .i64 a) (.int k' b) = .ok (.int .i64 (a.fdiv (2 ^ min b.toNat 64))) := bin_shr t lit .i64 k' a b hb
@[simp] theorem bin_shl_i32 (t : TypeId) (lit : Bool) (k' : IntKind) (a b : Int) (hb : 0 ≤ b) : opBin P .shl t lit (.int .i32 a) (.int k' b) = .ok (.int .i32 (wrapF .i32 (a * 2 ^ min b.toNat 32))) := bin_shl t lit .i32 k' a b hb
@[simp] theorem bin_shr_i32 (t : TypeId) (lit : Bool) (k' : IntKind) (a b : Int) (hb : 0 ≤ b) : opBin P .shr t lit (.int .i32 a) (.int k' b) = .ok (.int .i32 (a.fdiv (2 ^ min b.toNat 32))) := bin_shr t lit .i32 k' a b hb
@[simp] theorem un_not (b : Bool) : opUn .not (.bool b) = .ok (.bool !b) := nr rfl
@[simp] theorem un_neg (k : IntKind) (n : Int) : opUn .neg (.int k n) = .ok (.int k (wrapF k (0 - n))) := nr rfl
@[simp] theorem conv_int (k k' : IntKind) (n : Int) : opConv (.int k) (.int k' n) h = okV (.int k (wrapF k n)) h := nr rfl
@[simp] theorem mm_min (k k' : IntKind) (a b : Int) : foldMM false (.int k a) [.int k' b] = .ok (.int k (min a b)) := by
  simp only [foldMM, mm2]
  congr 2
  by_cases h : b < a
  · rw [if_pos h, Int.min_def, if_neg (by omega)]
  · rw [if_neg h, Int.min_def, if_pos (by omega)]
@[simp] theorem mm_max (k k' : IntKind) (a b : Int) : foldMM true (.int k a) [.int k' b] = .ok (.int k (max a b)) := by
  simp only [foldMM, mm2]
  congr 2
  by_cases h : b > a
  · rw [if_pos h, Int.max_def, if_pos (by omega)]
  · rw [if_neg h, Int.max_def]
    by_cases h' : a ≤ b
    · rw [if_pos h']; omega
    · rw [if_neg h']

@[simp] theorem callVal_fn (f : FuncId) (first captured args : List AV) : callVal (.func (.func f) first captured) args h = .ok (.enter f ((first ++ args) ++ captured), h) := nr rfl
@[simp] theorem callVal_yield (l : Nat) (args : List AV) : callVal (.func (.yield l) [] []) args h = .ok (.yield l args, h) := nr rfl

theorem wrap_i64 {n : Int} (h1 : -9223372036854775808 ≤ n) (h2 : n < 9223372036854775808) : wrapF .i64 n = n := by rw [wrapF_eq]; exact IntWalk.i64_in n ⟨h1, by omega⟩
theorem wrap_u8 {n : Int} (h1 : 0 ≤ n) (h2 : n < 256) : wrapF .u8 n = n := by rw [wrapF_eq]; exact IntWalk.u8_in n ⟨h1, by omega⟩
theorem wrap_u64 {n : Int} (h1 : 0 ≤ n) (h2 : n < 18446744073709551616) : wrapF .u64 n = n := by rw [wrapF_eq]; exact IntWalk.u64_in n ⟨h1, by omega⟩
theorem wrap8 (n : Int) : wrapF .u8 n = n % 256 := by rw [wrapF_eq, IntKind.wrap_u8]
theorem wrap64 (n : Int) : wrapF .u64 n = n % 18446744073709551616 := by rw [wrapF_eq, IntKind.wrap_u64]

/-! ### the heap -/

theorem get_push_old {o : AObj} {i : Nat} (hi : i ≠ h.next) : (h.push o).get i = h.get i := by rw [AH.get_push, if_neg hi]
@[simp] theorem get_push_new (o : AObj) : (h.push o).get h.next = some o := by rw [AH.get_push, if_pos rfl]
theorem get_set_old {o : AObj} {i j : Nat} (hi : i ≠ j) : (h.set j o).get i = h.get i := by rw [AH.get_set, if_neg hi]
@[simp] theorem get_set_new (o : AObj) (j : Nat) : (h.set j o).get j = some o := by rw [AH.get_set, if_pos rfl]
theorem get_kill_old {i j : Nat} (hi : i ≠ j) : (h.kill j).get i = h.get i := by rw [AH.get_kill, if_neg hi]

/-- all that lay below stays -/
structure Fr (h h' : AH) : Prop where
  next : h.next ≤ h'.next
  get : ∀ i, i < h.next → h'.get i = h.get i

theorem Fr.refl (h : AH) : Fr h h := ⟨Nat.le_refl _, fun _ _ => rfl⟩
theorem Fr.trans {h1 h2 h3 : AH} (a : Fr h1 h2) (b : Fr h2 h3) : Fr h1 h3 :=
  ⟨Nat.le_trans a.next b.next, fun i hi => (b.get i (Nat.lt_of_lt_of_le hi a.next)).trans (a.get i hi)⟩
theorem Fr.push {h1 : AH} (a : Fr h1 h) (o : AObj) : Fr h1 (h.push o) :=
  ⟨Nat.le_succ_of_le a.next, fun i hi => by rw [get_push_old (by have := a.next; omega)]; exact a.get i hi⟩
theorem Fr.set {h1 : AH} (a : Fr h1 h) {j : Nat} (o : AObj) (hj : h1.next ≤ j) : Fr h1 (h.set j o) :=
  ⟨a.next, fun i hi => by rw [get_set_old (by omega)]; exact a.get i hi⟩
theorem Fr.kill {h1 : AH} (a : Fr h1 h) {j : Nat} (hj : h1.next ≤ j) : Fr h1 (h.kill j) :=
  ⟨a.next, fun i hi => by rw [get_kill_old (by omega)]; exact a.get i hi⟩

/-- a slice of n elements of es cells each, and its cells -/
def Sl (h : AH) (es n : Nat) (v : AV) (l : List AV) : Prop :=
  l.length = n * es ∧ ((v = .nils ∧ n = 0) ∨ ∃ id off cap x vs ro, v = .slice id off n cap x es ∧ id < h.next ∧ n ≤ cap ∧ h.get id = some (.cells vs ro) ∧ off + n * es ≤ vs.length ∧ (vs.drop off).take (n * es) = l)

theorem Sl.nil (es : Nat) : Sl h es 0 .nils [] := ⟨by simp, .inl ⟨rfl, rfl⟩⟩

theorem Sl.fr {h h' : AH} {es n : Nat} {v : AV} {l : List AV} (s : Sl h es n v l) (f : Fr h h') : Sl h' es n v l := by
  refine ⟨s.1, ?_⟩
  rcases s.2 with e | ⟨id, off, cap, x, vs, ro, e1, e2, e6, e3, e4, e5⟩
  · exact .inl e
  · exact .inr ⟨id, off, cap, x, vs, ro, e1, Nat.lt_of_lt_of_le e2 f.next, e6, by rw [f.get id e2]; exact e3, e4, e5⟩

theorem Sl.len {es n : Nat} {v : AV} {l : List AV} (s : Sl h es n v l) : opLenV v = .ok (.int .i64 (n : Int)) := by
  rcases s.2 with ⟨rfl, rfl⟩ | ⟨id, off, cap, x, vs, ro, rfl, _⟩ <;> rfl

theorem Sl.get {es n : Nat} {v : AV} {l : List AV} (s : Sl h es n v l) {k : IntKind} {i : Int} {j : Nat} (hi : i = j) (hj : j < n) :
    ∃ id o, opIdxV es v (.int k i) = .ok (.ptr id o) ∧ (∀ c, c < es → load1 h id (o + c) = ofO "load: out of the known cells" l[j * es + c]?) ∧ loadN h id o es = .ok ((l.drop (j * es)).take es) := by
  subst hi
  rcases s.2 with ⟨rfl, rfl⟩ | ⟨id, off, cap, x, vs, ro, rfl, e2, e6, e3, e4, rfl⟩
  · omega
  · have hle : j * es + es ≤ n * es := by
      have := Nat.mul_le_mul_right es (show j + 1 ≤ n from hj)
      rw [Nat.add_mul, Nat.one_mul] at this
      exact this
    refine ⟨id, off + j * es, by rw [opIdxV_slice _ _ _ _ _ _ _ _ ⟨by omega, by omega⟩, Int.toNat_natCast], fun c hc => ?_, ?_⟩
    · rw [List.getElem?_take, if_pos (by omega), List.getElem?_drop]
      unfold load1
      rw [e3]
      simp only []
      rw [show off + j * es + c = off + (j * es + c) from by omega]
      cases vs[off + (j * es + c)]? <;> rfl
    · have hb : Nat.ble (off + j * es + es) vs.length = true := Nat.ble_eq_true_of_le (by omega)
      simp only [loadN, e3, hb, cond_true]
      congr 1
      rw [List.drop_take, List.drop_drop, List.take_take, Nat.min_eq_left (by omega)]

/-- an element of one cell -/
theorem Sl.get1 {n : Nat} {v : AV} {l : List AV} (s : Sl h 1 n v l) {k : IntKind} {i : Int} {j : Nat} (hi : i = j) (hj : j < n) {x : AV} (hx : l[j]? = some x) :
    ∃ id o, opIdxV 1 v (.int k i) = .ok (.ptr id o) ∧ load1 h id o = .ok x ∧ ∀ h', Fr h h' → load1 h' id o = .ok x := by
  have key : ∀ g : AH, Sl g 1 n v l → ∃ id o, opIdxV 1 v (.int k i) = .ok (.ptr id o) ∧ load1 g id o = .ok x := by
    intro g s
    obtain ⟨id, o, e1, e2, _⟩ := s.get (k := k) hi hj
    refine ⟨id, o, e1, ?_⟩
    have := e2 0 (by omega)
    rw [Nat.add_zero, Nat.mul_one, Nat.add_zero, hx] at this
    exact this
  obtain ⟨id, o, e1, e2⟩ := key h s
  refine ⟨id, o, e1, e2, fun h' f => ?_⟩
  obtain ⟨id', o', e3, e4⟩ := key h' (s.fr f)
  rw [e1] at e3
  cases e3
  exact e4

theorem Sl.cells {es n : Nat} {v : AV} {l : List AV} (s : Sl h es n v l) : srcCells h es v = .ok (n, l) := by
  obtain ⟨hl, s⟩ := s
  rcases s with ⟨rfl, rfl⟩ | ⟨id, off, cap, x, vs, ro, rfl, e2, e6, e3, e4, rfl⟩
  · have : l = [] := by simpa using hl
    subst this; rfl
  · have hb : Nat.ble (off + n * es) vs.length = true := Nat.ble_eq_true_of_le e4
    simp [srcCells, loadN, e3, hb]

theorem Sl.slice {es n : Nat} {v : AV} {l : List AV} (s : Sl h es n v l) {lo hi : Option AV} {a b : Nat}
    (hlo : lo = none ∧ a = 0 ∨ ∃ k, lo = some (.int k (a : Int))) (hhi : hi = none ∧ b = n ∨ ∃ k, hi = some (.int k (b : Int))) (hab : a ≤ b) (hbn : b ≤ n) :
    ∃ v', opSliceV es v lo hi none = .ok v' ∧ Sl h es (b - a) v' ((l.drop (a * es)).take ((b - a) * es)) := by
  obtain ⟨hl, s⟩ := s
  have h1 : a * es ≤ b * es := Nat.mul_le_mul_right es hab
  have h2 : b * es ≤ n * es := Nat.mul_le_mul_right es hbn
  have hlen : ((l.drop (a * es)).take ((b - a) * es)).length = (b - a) * es := by
    rw [List.length_take, List.length_drop, hl, Nat.sub_mul]; omega
  rcases s with ⟨rfl, rfl⟩ | ⟨id, off, cap, x, vs, ro, rfl, e2, e6, e3, e4, rfl⟩
  · obtain rfl : b = 0 := by omega
    obtain rfl : a = 0 := by omega
    refine ⟨.nils, ?_, hlen, .inl ⟨rfl, rfl⟩⟩
    rcases hlo with ⟨rfl, _⟩ | ⟨k, rfl⟩ <;> rcases hhi with ⟨rfl, _⟩ | ⟨k', rfl⟩ <;> simp [opSliceV, boundsA, boundO, boundA]
  · have hm : boundO none cap cap = .ok cap := rfl
    have hb : boundO hi n cap = .ok b := by
      rcases hhi with ⟨rfl, rfl⟩ | ⟨k, rfl⟩
      · rfl
      · simp only [boundO, boundA]
        rw [if_pos ⟨by omega, by omega⟩, Int.toNat_natCast]
    have ha : boundO lo 0 b = .ok a := by
      rcases hlo with ⟨rfl, rfl⟩ | ⟨k, rfl⟩
      · rfl
      · simp only [boundO, boundA]
        rw [if_pos ⟨by omega, by omega⟩, Int.toNat_natCast]
    refine ⟨.slice id (off + a * es) (b - a) (cap - a) x es, ?_, hlen, .inr ⟨id, off + a * es, cap - a, x, vs, ro, rfl, e2, by omega, e3, ?_, ?_⟩⟩
    · simp [opSliceV, boundsA, hm, hb, ha]
    · rw [Nat.sub_mul]; omega
    · rw [List.drop_take, List.drop_drop, List.take_take, Nat.sub_mul, Nat.min_eq_left (by omega)]

/-- which block a slice lies in -/
def idOf : AV → Option Nat
  | .slice id _ _ _ _ _ => some id
  | _ => none

/-- a slice that is ours from block B on, with no spare place -/
def Own (B : Nat) (h : AH) (es n : Nat) (v : AV) (l : List AV) : Prop :=
  l.length = n * es ∧ ((v = .nils ∧ n = 0) ∨ ∃ id off x vs, v = .slice id off n n x es ∧ B ≤ id ∧ id < h.next ∧ h.get id = some (.cells vs false) ∧ off + n * es ≤ vs.length ∧ (vs.drop off).take (n * es) = l)

theorem Own.sl {B es n : Nat} {v : AV} {l : List AV} (s : Own B h es n v l) : Sl h es n v l := by
  refine ⟨s.1, ?_⟩
  rcases s.2 with e | ⟨id, off, x, vs, e1, e2, e3, e4, e5, e6⟩
  · exact .inl e
  · exact .inr ⟨id, off, n, x, vs, false, e1, e3, Nat.le_refl _, e4, e5, e6⟩

theorem Own.nil (B es : Nat) : Own B h es 0 .nils [] := ⟨by simp, .inl ⟨rfl, rfl⟩⟩

theorem Own.fr {B es n : Nat} {h' : AH} {v : AV} {l : List AV} (s : Own B h es n v l) (f : Fr h h') : Own B h' es n v l := by
  refine ⟨s.1, ?_⟩
  rcases s.2 with e | ⟨id, off, x, vs, e1, e2, e3, e4, e5, e6⟩
  · exact .inl e
  · exact .inr ⟨id, off, x, vs, e1, e2, Nat.lt_of_lt_of_le e3 f.next, by rw [f.get id e3]; exact e4, e5, e6⟩

theorem Own.base {B B' es n : Nat} {v : AV} {l : List AV} (s : Own B h es n v l) (hb : B' ≤ B) : Own B' h es n v l := by
  refine ⟨s.1, ?_⟩
  rcases s.2 with e | ⟨id, off, x, vs, e1, e2, e⟩
  · exact .inl e
  · exact .inr ⟨id, off, x, vs, e1, by omega, e⟩

/-- a block that was just laid -/
theorem Own.fresh {B es n : Nat} {l : List AV} (x : Bool) (hB : B ≤ h.next) (hl : l.length = n * es) : Own B (h.push (.cells l false)) es n (.slice h.next 0 n n x es) l :=
  ⟨hl, .inr ⟨h.next, 0, x, l, rfl, hB, Nat.lt_succ_self _, get_push_new _, by omega, by rw [List.drop_zero, List.take_of_length_le (by omega)]⟩⟩

/-- all below B stays -/
structure FrB (B : Nat) (h h' : AH) : Prop where
  next : h.next ≤ h'.next
  get : ∀ i, i < B → h'.get i = h.get i

theorem FrB.refl (B : Nat) (h : AH) : FrB B h h := ⟨Nat.le_refl _, fun _ _ => rfl⟩
theorem FrB.trans {B : Nat} {h1 h2 h3 : AH} (a : FrB B h1 h2) (b : FrB B h2 h3) : FrB B h1 h3 := ⟨Nat.le_trans a.next b.next, fun i hi => (b.get i hi).trans (a.get i hi)⟩
theorem Fr.b {B : Nat} {h h' : AH} (f : Fr h h') (hB : B ≤ h.next) : FrB B h h' := ⟨f.next, fun i hi => f.get i (Nat.lt_of_lt_of_le hi hB)⟩
theorem FrB.fr {h h' : AH} (f : FrB h.next h h') : Fr h h' := ⟨f.next, f.get⟩

/-- a slice that lies below B -/
theorem Sl.frB {B : Nat} {h0 h h' : AH} {es n : Nat} {v : AV} {l : List AV} (s : Sl h0 es n v l) (f0 : FrB h0.next h0 h) : Sl h es n v l := s.fr f0.fr

/-- append, to what is ours -/
theorem Own.append {B es n m bytes : Nat} {v x : AV} {l r : List AV} (s : Own B h es n v l) (t : Sl h es m x r) (hB : B ≤ h.next) (hs : allScalar r = true) (h1 : (n + m) * bytes ≤ 2 ^ 40) (h2 : n + m ≤ 2 ^ 40) :
    ∃ v' h', opApp es bytes v x h = okV v' h' ∧ Own B h' es (n + m) v' (l ++ r) ∧ FrB B h h' ∧ (∀ i, i < h.next → idOf v ≠ some i → h'.get i = h.get i) ∧ (∀ i, idOf v' = some i → idOf v = some i ∨ h.next ≤ i) := by
  have hr := t.1
  have hlr : (l ++ r).length = (n + m) * es := by rw [List.length_append, s.1, hr, Nat.add_mul]
  unfold opApp
  rw [t.cells]
  simp only []
  by_cases hm : m = 0
  · subst hm
    have hr0 : r = [] := by simpa using hr
    subst hr0
    refine ⟨v, h, ?_, by simpa using s, .refl _ _, fun _ _ _ => rfl, fun i hi => .inl hi⟩
    rcases s.2 with ⟨rfl, rfl⟩ | ⟨id, off, x', vs, rfl, e2, e3, e4, e5, e6⟩
    · simp [appTo]
    · have hb : Nat.ble n n = true := Nat.ble_eq_true_of_le (Nat.le_refl n)
      simp [appTo, forceN_eq, storeN, hb]
  · rcases s.2 with ⟨rfl, rfl⟩ | ⟨id, off, x', vs, rfl, e2, e3, e4, e5, e6⟩
    · have hl0 : l = [] := by simpa using s.1
      subst hl0
      refine ⟨.slice h.next 0 m m false es, h.push (.cells r false), ?_, ?_, (Fr.push (.refl h) _).b hB, fun i hi _ => get_push_old (by omega), fun i hi => by cases hi; exact .inr (Nat.le_refl _)⟩
      · simp only [appTo]
        rw [if_neg hm, if_pos ⟨by simpa using h1, by simpa using h2⟩]
      · rw [Nat.zero_add]
        exact Own.fresh false hB (by simpa using hr)
    · have hnb : Nat.ble (n + m) n = false := by
        cases e : Nat.ble (n + m) n with
        | false => rfl
        | true => have := Nat.le_of_ble_eq_true e; omega
      have hld : loadN h id off (n * es) = .ok l := by
        have hb : Nat.ble (off + n * es) vs.length = true := Nat.ble_eq_true_of_le e5
        simp [loadN, e4, hb, e6]
      cases x' with
      | true =>
        refine ⟨.slice h.next 0 (n + m) (n + m) false es, h.push (.cells (l ++ r) false), ?_, ?_, (Fr.push (.refl h) _).b hB, fun i hi _ => get_push_old (by omega), fun i hi => by cases hi; exact .inr (Nat.le_refl _)⟩
        · simp only [appTo, forceN_eq, hnb, cond_false, hld, hs, if_true]
          rw [if_neg (by simp), if_pos ⟨h1, h2⟩]
        · exact Own.fresh false hB hlr
      | false =>
        refine ⟨.slice h.next 0 (n + m) (n + m) false es, (h.kill id).push (.cells (l ++ r) false), ?_, ?_, ?_, fun i hi hne => ?_, fun i hi => by cases hi; exact .inr (Nat.le_refl _)⟩
        · simp only [appTo, forceN_eq, hnb, cond_false, hld, hs, if_true, e4]
          rw [if_neg (by simp), if_pos ⟨h1, h2⟩]
        · exact Own.fresh (h := h.kill id) false hB hlr
        · exact ⟨by simp, fun i hi => by rw [get_push_old (by simp; omega), get_kill_old (by omega)]⟩
        · rw [get_push_old (by simp; omega), get_kill_old (by intro e; apply hne; rw [e]; rfl)]


/-! ### reads that are made again -/

def wpA (r : RN) (u : AV) : Prop :=
  match r with
  | .ok (.value v, _) => eqAV 12 v u = true
  | _ => False

theorem wpAgain_nil : wpAgain P [] σ h = True := nr rfl
theorem wpA_eq (r : RN) (d : Nat) : (∃ v h', r = .ok (.value v, h') ∧ ∀ e, some d = some e → eqAV 12 v (σ e) = true) = wpA r (σ d) := by
  apply propext
  constructor
  · rintro ⟨v, h', rfl, e⟩
    exact e d rfl
  · intro e
    unfold wpA at e
    split at e
    · rename_i v h'
      exact ⟨v, h', rfl, fun d' hd => by cases hd; exact e⟩
    · exact e.elim
theorem wpAgain_row (d : Nat) (c : COp) (l : List CRow) : wpAgain P (⟨some d, none, c⟩ :: l) σ h = (wpA (evS P c σ h) (σ d) ∧ wpAgain P l σ h) := by
  simp only [wpAgain, wpA_eq]
theorem wpAgain_guard (d t : Nat) (w : Bool) (c : COp) (l : List CRow) : wpAgain P (⟨some d, some (t, w), c⟩ :: l) σ h = (wpGu (σ t) w (wpA (evS P c σ h) (σ d)) True ∧ wpAgain P l σ h) := by
  simp only [wpAgain, wpA_eq]
theorem wpA_keep (v u : AV) : wpA (keepH h (.ok v)) u = (eqAV 12 v u = true) := nr rfl
theorem wpA_okV (v u : AV) : wpA (okV v h) u = (eqAV 12 v u = true) := nr rfl
theorem wpG_tt (x y : Prop) : wpGu (.bool true) true x y = x := nr rfl
theorem wpG_ff (x y : Prop) : wpGu (.bool false) false x y = x := nr rfl
theorem wpG_tf (x y : Prop) : wpGu (.bool true) false x y = y := nr rfl
theorem wpG_ft (x y : Prop) : wpGu (.bool false) true x y = y := nr rfl
theorem wpG_un (w : Bool) (x y : Prop) : wpGu aundef w x y = y := nr rfl
attribute [simp]  wpG_un wpAgain_nil wpAgain_row wpAgain_guard wpA_keep wpA_okV wpG_tt wpG_ff wpG_tf wpG_ft

@[simp] theorem eqAV_int (k : IntKind) (n : Int) : eqAV 12 (.int k n) (.int k n) = true := by simp [eqAV]
@[simp] theorem eqAV_slice (id off n cap : Nat) (x : Bool) (es : Nat) : eqAV 12 (.slice id off n cap x es) (.slice id off n cap x es) = true := by
  have hb : ∀ n, Nat.beq n n = true := Nat.beq_refl
  simp only [eqAV, hb, Bool.and_self, beq_self_eq_true]
@[simp] theorem eqAV_nils : eqAV 12 .nils .nils = true := nr rfl
@[simp] theorem eqAV_ptr (id off : Nat) : eqAV 12 (.ptr id off) (.ptr id off) = true := by
  have hb : ∀ n, Nat.beq n n = true := Nat.beq_refl
  simp only [eqAV, hb, Bool.and_true]
@[simp] theorem eqAV_bool (b : Bool) : eqAV 12 (.bool b) (.bool b) = true := by simp [eqAV]
@[simp] theorem eqAV_str (s : List UInt8) : eqAV 12 (.str s) (.str s) = true := by simp [eqAV]

/-! ### one outcome -/

theorem Ev.eq {t : Tgt} {args : List AV} {X : AV} {h0 : AH} (e : Ev P S t args h fun v h' => v = X ∧ h' = h0) (K : AV → AH → Prop) : Ev P S t args h K = K X h0 := by
  apply propext
  obtain ⟨N, v, h', e, rfl, rfl⟩ := e
  constructor
  · rintro ⟨M, u, g, f, k⟩
    have h1 := cl_mono (Nat.le_max_left N M) _ _ _ _ e
    have h2 := cl_mono (Nat.le_max_right N M) _ _ _ _ f
    rw [h1] at h2
    cases h2
    exact k
  · intro k
    exact ⟨N, v, h', e, k⟩

/-! ### loops over so many -/

/-- a loop that counts up -/
theorem w_count {b0 b1 tc ti tn n : Nat} {T : TypeId} {lit : Bool} {lim : CO} {body : CC} (hd : Nat.beq tc ti = false) (J : Nat → Sg → List ADef → AH → Prop) (hn : (n : Int) ≤ 9223372036854775807)
    (h0 : σ ti = .int .i64 0) (hJ : J 0 σ ds h)
    (hl : ∀ j σ ds h, J j σ ds h → lim.evS σ = .int .i64 (n : Int))
    (hb : ∀ j σ ds h, j < n → σ ti = .int .i64 (j : Int) → J j σ ds h →
      wpC P S body (Kblk b1 fun x σ' ds' h' => match x with
        | .normal => σ' ti = .int .i64 (j : Int) ∧ J (j + 1) (upd (upd σ' (some tn) (.int .i64 ((j : Int) + 1))) (some ti) (.int .i64 ((j : Int) + 1))) ds' h'
        | x => Q x σ' ds' h') (upd σ (some tc) (.bool true)) ds h)
    (he : ∀ σ ds h, J n σ ds h → Q (.exit b0) (upd σ (some tc) (.bool false)) ds h) :
    wpC P S (.loop (.seq (.ops [.row ⟨some tc, none, .bin .lss T lit (.t ti) lim⟩]) (.seq (.cond (.t tc) .skip (.exit b0))
      (.seq (.block b1 body) (.ops [.row ⟨some tn, none, .bin .add T true (.t ti) (.c (.int .i64 1))⟩, .row ⟨some ti, none, .move (.t tn)⟩]))))) Q σ ds h := by
  refine w_loop (fun k σ ds h => ∃ j, k + j = n ∧ σ ti = .int .i64 (j : Int) ∧ J j σ ds h) n ⟨0, by omega, by simpa using h0, hJ⟩ ?_
  rintro k σ ds h ⟨j, hk, hti, hJ⟩
  have hlim := hl _ _ _ _ hJ
  simp only [wpC_seq, wpC_ops, wpOps_row, evS_bin, CO.evS_t, hti, hlim, bin_lss, wpN_keep, wpOps_nil, Kseq_normal, wpC_cond, upd_some, if_true]
  by_cases hj : j < n
  · have : ((j : Int) < (n : Int)) := by omega
    simp only [this, decide_true, wpB_true, wpC_skip, Kseq_normal, wpC_seq, wpC_block]
    refine w_mono (hb j σ ds h hj hti hJ) ?_
    intro x σ' ds' h' hx
    have key : (σ' ti = .int .i64 (j : Int) ∧ J (j + 1) (upd (upd σ' (some tn) (.int .i64 ((j : Int) + 1))) (some ti) (.int .i64 ((j : Int) + 1))) ds' h') →
        wpC P S (.ops [.row ⟨some tn, none, .bin .add T true (.t ti) (.c (.int .i64 1))⟩, .row ⟨some ti, none, .move (.t tn)⟩]) (Kloop (fun k σ ds h => ∃ j, k + j = n ∧ σ ti = .int .i64 (j : Int) ∧ J j σ ds h) k Q) σ' ds' h' := by
      rintro ⟨h1, h2⟩
      simp only [wpC_ops, wpOps_row, evS_bin, evS_move, CO.evS_t, CO.evS_c, h1, bin_add, wpN_keep, wpN_okV, wpOps_nil, upd_some, if_true, wrap_i64 (show (-9223372036854775808 : Int) ≤ (j : Int) + 1 by omega) (show (j : Int) + 1 < 9223372036854775808 by omega), Kloop_normal]
      exact ⟨k - 1, by omega, j + 1, by omega, by simp, h2⟩
    cases x with
    | normal => exact key hx
    | ret => exact hx
    | exit i =>
      simp only [Kblk_exit] at hx ⊢
      by_cases hi : i = b1
      · rw [if_pos hi] at hx ⊢; exact key hx
      · rw [if_neg hi] at hx ⊢; exact hx
  · have hjn : j = n := by omega
    subst hjn
    have : ¬ ((j : Int) < (j : Int)) := by omega
    simp only [this, decide_false, wpB_false, wpC_exit, Kseq_exit, Kloop_exit]
    exact he _ _ _ hJ

end
end Go.Dr

/-
  Numbers as bytes, the greatest first; plain.
-/
namespace Go.Dr

def be : Nat → Nat → List Nat
  | 0, _ => []
  | k + 1, n => be k (n / 256) ++ [n % 256]

def beV (l : List Nat) : Nat := l.foldl (fun n x => n * 256 + x) 0

@[simp] theorem be_length : ∀ k n, (be k n).length = k
  | 0, _ => rfl
  | k + 1, n => by rw [be, List.length_append, be_length]; rfl

theorem be_lt : ∀ k n, ∀ x ∈ be k n, x < 256
  | 0, _, x, h => by cases h
  | k + 1, n, x, h => by
    rw [be, List.mem_append] at h
    rcases h with h | h
    · exact be_lt k _ x h
    · simp at h; subst h; exact Nat.mod_lt _ (by decide)

theorem be_get : ∀ (k n i : Nat), i < k → (be k n)[k - 1 - i]? = some (n / 256 ^ i % 256)
  | 0, n, i, h => by omega
  | k + 1, n, i, h => by
    rw [be]
    cases i with
    | zero =>
      rw [List.getElem?_append_right (by rw [be_length]; omega)]
      simp
    | succ i =>
      rw [List.getElem?_append_left (by rw [be_length]; omega), show k + 1 - 1 - (i + 1) = k - 1 - i from by omega, be_get k _ i (by omega), Nat.div_div_eq_div_mul, Nat.pow_succ, Nat.mul_comm]

theorem beV_append (l : List Nat) (x : Nat) : beV (l ++ [x]) = beV l * 256 + x := by simp [beV]

theorem beV_be : ∀ k n, beV (be k n) = n % 256 ^ k
  | 0, n => by simp [be, beV, Nat.mod_one]
  | k + 1, n => by
    rw [be, beV_append, beV_be k, Nat.pow_succ]
    rw [Nat.mul_comm (256 ^ k) 256, Nat.mod_mul]
    rw [Nat.mul_comm, Nat.add_comm]

theorem beV_lt' : ∀ (l : List Nat) (n m : Nat), n < 256 ^ m → (∀ x ∈ l, x < 256) → l.foldl (fun n x => n * 256 + x) n < 256 ^ (m + l.length)
  | [], n, m, hn, _ => hn
  | x :: l, n, m, hn, h => by
    have hx := h x (by simp)
    have h1 : (n + 1) * 256 ≤ 256 ^ m * 256 := Nat.mul_le_mul_right 256 hn
    have := beV_lt' l (n * 256 + x) (m + 1) (by rw [Nat.pow_succ]; omega) fun y hy => h y (List.mem_cons_of_mem _ hy)
    rw [List.foldl_cons, List.length_cons, show m + (l.length + 1) = m + 1 + l.length from by omega]
    exact this

theorem beV_lt (l : List Nat) (h : ∀ x ∈ l, x < 256) : beV l < 256 ^ l.length := by
  have := beV_lt' l 0 0 (by decide) h
  rwa [Nat.zero_add] at this

/-- bytes as cells -/
def by8 (l : List Nat) : List AV := l.map fun (x : Nat) => .int .u8 (x : Int)
@[simp] theorem by8_length (l : List Nat) : (by8 l).length = l.length := by simp [by8]
theorem by8_get (l : List Nat) (i : Nat) : (by8 l)[i]? = (l[i]?).map fun (x : Nat) => .int .u8 (x : Int) := by simp [by8]
theorem by8_append (l r : List Nat) : by8 (l ++ r) = by8 l ++ by8 r := by simp [by8]
theorem by8_take (l : List Nat) (n : Nat) : (by8 l).take n = by8 (l.take n) := by simp [by8]
theorem by8_drop (l : List Nat) (n : Nat) : (by8 l).drop n = by8 (l.drop n) := by simp [by8]
theorem by8_scalar : ∀ (l : List Nat), allScalar (by8 l) = true
  | [] => rfl
  | x :: l => by
    show (AV.scalar (.int .u8 (x : Int)) && allScalar (by8 l)) = true
    rw [by8_scalar l]; rfl

theorem or_shl (a x : Nat) (ha : a * 256 < 2 ^ 64) (hx : x < 256) :
    (BitVec.ofInt 64 ((a : Int) * 256) ||| BitVec.ofNat 64 x).toNat = a * 256 + x := by
  have h1 : BitVec.ofInt 64 ((a : Int) * 256) = BitVec.ofNat 64 (a * 256) := by
    rw [show (a : Int) * 256 = ((a * 256 : Nat) : Int) from by omega, BitVec.ofInt_natCast]
  rw [h1, BitVec.toNat_or, BitVec.toNat_ofNat, BitVec.toNat_ofNat, Nat.mod_eq_of_lt ha, Nat.mod_eq_of_lt (by omega)]
  have := Nat.shiftLeft_add_eq_or_of_lt (i := 8) (b := x) (by omega) a
  rw [Nat.shiftLeft_eq] at this
  exact this.symm

/-- a signed number out of 64 bits -/
def sg (n : Nat) : Int := if n < 9223372036854775808 then (n : Int) else (n : Int) - 18446744073709551616

end Go.Dr

/-
  More equations for steps: blocks, elements, slices that are made.
-/
namespace Go.Dr

section
variable {P : Program} {S : Sums} {Q : Post} {σ : Sg} {ds : List ADef} {h : AH}

attribute [simp]  IntKind.bits

@[simp] theorem AV.cells_agg (l : List AV) : (AV.agg l).cells = l := nr rfl
@[simp] theorem AV.cells_int (k : IntKind) (n : Int) : (AV.int k n).cells = [.int k n] := nr rfl
@[simp] theorem AV.cells_nils : AV.nils.cells = [.nils] := nr rfl
@[simp] theorem AV.cells_slice (id off n cap : Nat) (x : Bool) (es : Nat) : (AV.slice id off n cap x es).cells = [.slice id off n cap x es] := nr rfl
@[simp] theorem AV.cells_bool (b : Bool) : (AV.bool b).cells = [.bool b] := nr rfl
@[simp] theorem AV.cells_str (s : List UInt8) : (AV.str s).cells = [.str s] := nr rfl
@[simp] theorem AV.scalar_int (k : IntKind) (n : Int) : (AV.int k n).scalar = true := nr rfl
@[simp] theorem AV.scalar_nils : AV.nils.scalar = true := nr rfl
@[simp] theorem AV.scalar_slice (id off n cap : Nat) (x : Bool) (es : Nat) : (AV.slice id off n cap x es).scalar = true := nr rfl
@[simp] theorem AV.scalar_bool (b : Bool) : (AV.bool b).scalar = true := nr rfl
@[simp] theorem AV.scalar_str (s : List UInt8) : (AV.str s).scalar = true := nr rfl
@[simp] theorem AV.scalar_ptr (id off : Nat) : (AV.ptr id off).scalar = true := nr rfl
@[simp] theorem allScalar_nil : allScalar [] = true := nr rfl
@[simp] theorem allScalar_cons (v : AV) (l : List AV) : allScalar (v :: l) = (v.scalar && allScalar l) := nr rfl
@[simp] theorem ofO_some {α : Type} (why : String) (a : α) : ofO why (some a) = .ok a := nr rfl

theorem load1_of {id off : Nat} {vs : List AV} {ro : Bool} (hg : h.get id = some (.cells vs ro)) : load1 h id off = ofO "load: out of the known cells" vs[off]? := by
  unfold load1
  rw [hg]
  simp only []
  cases vs[off]? <;> rfl

@[simp] theorem load1_push (off : Nat) (vs : List AV) (ro : Bool) : load1 (h.push (.cells vs ro)) h.next off = ofO "load: out of the known cells" vs[off]? := load1_of (get_push_new _)
@[simp] theorem load1_set (id off : Nat) (vs : List AV) (ro : Bool) : load1 (h.set id (.cells vs ro)) id off = ofO "load: out of the known cells" vs[off]? := load1_of (get_set_new _ _)

theorem loadN_of {id n : Nat} {vs : List AV} {ro : Bool} (hg : h.get id = some (.cells vs ro)) (hl : vs.length = n) : loadN h id 0 n = .ok vs := by
  unfold loadN
  rw [hg]
  have : Nat.ble (0 + n) vs.length = true := Nat.ble_eq_true_of_le (by omega)
  simp only [this, cond_true, List.drop_zero]
  rw [List.take_of_length_le (by omega)]

@[simp] theorem loadN_set {n : Nat} (id : Nat) (vs : List AV) (ro : Bool) (hl : vs.length = n) : loadN (h.set id (.cells vs ro)) id 0 n = .ok vs := loadN_of (get_set_new _ _) hl
@[simp] theorem loadN_push {n : Nat} (vs : List AV) (ro : Bool) (hl : vs.length = n) : loadN (h.push (.cells vs ro)) h.next 0 n = .ok vs := loadN_of (get_push_new _) hl

@[simp] theorem opLoadN_ptr (n id off : Nat) : opLoadN n (.ptr id off) h = match loadN h id off n with | .ok l => okV (.agg l) h | .error e => .error e := nr rfl

theorem PT.one_set {α : Type} (v w : Option α) : ∀ (f n : Nat), n < f → (PT.one v f n).set w n = PT.one w f n := by
  intro f
  induction f with
  | zero => intro n h; omega
  | succ f ih =>
    intro n h
    rw [PT.one_succ, PT.one_succ]
    by_cases h0 : n = 0
    · rw [if_pos h0, if_pos h0, PT.set_node, if_pos h0]
    · rw [if_neg h0, if_neg h0]
      by_cases h1 : n % 2 = 1
      · rw [if_pos h1, if_pos h1, PT.set_node, if_neg h0, if_pos h1, ih _ (by omega)]
      · rw [if_neg h1, if_neg h1, PT.set_node, if_neg h0, if_neg h1, ih _ (by omega)]

theorem PT.set_set {α : Type} (v w : Option α) : ∀ (t : PT α) (n : Nat), (t.set v n).set w n = t.set w n := by
  intro t
  induction t with
  | leaf => intro n; exact PT.one_set v w (n + 1) n (by omega)
  | node l u r ihl ihr =>
    intro n
    rw [PT.set_node, PT.set_node]
    by_cases h0 : n = 0
    · rw [if_pos h0, if_pos h0, PT.set_node, if_pos h0]
    · rw [if_neg h0, if_neg h0]
      by_cases h1 : n % 2 = 1
      · rw [if_pos h1, if_pos h1, PT.set_node, if_neg h0, if_pos h1, ihl]
      · rw [if_neg h1, if_neg h1, PT.set_node, if_neg h0, if_neg h1, ihr]

@[simp] theorem AH.set_push (o o' : AObj) : (h.push o).set h.next o' = h.push o' := by
  simp only [AH.push, AH.set, PT.set_set]
@[simp] theorem AH.set_set (i : Nat) (o o' : AObj) : (h.set i o).set i o' = h.set i o' := by
  simp only [AH.set, PT.set_set]

theorem storeN_one {id off : Nat} {vs : List AV} {v : AV} (hg : h.get id = some (.cells vs false)) (hl : off < vs.length) (hs : v.scalar = true) :
    storeN h id off [v] = .ok (h.set id (.cells (splice vs off [v]) false)) := by
  have : Nat.ble (off + 1) vs.length = true := Nat.ble_eq_true_of_le hl
  simp [storeN, hg, this, hs]

theorem storeN_all {id : Nat} {vs : List AV} {v : AV} {l : List AV} (hg : h.get id = some (.cells vs false)) (hl : vs.length = (v :: l).length) (hs : allScalar (v :: l) = true) :
    storeN h id 0 (v :: l) = .ok (h.set id (.cells (v :: l) false)) := by
  have h1 : Nat.ble (0 + (v :: l).length) vs.length = true := Nat.ble_eq_true_of_le (by omega)
  have h2 : splice vs 0 (v :: l) = v :: l := by
    simp only [splice, List.take_zero, List.nil_append, Nat.zero_add, ← hl, List.drop_length, List.append_nil]
  simp only [storeN, hg, h1, hs, Bool.and_self, cond_true, h2]

@[simp] theorem opStore_one (id off : Nat) (v : AV) (hv : v.cells = [v]) : opStore 1 (.ptr id off) v h = skipH (storeN h id off [v]) := by
  simp only [opStore, hv, List.length_singleton, Nat.beq_refl, cond_true]

theorem opStore_agg (n id off : Nat) (l : List AV) (hl : l.length = n) : opStore n (.ptr id off) (.agg l) h = skipH (storeN h id off l) := by
  subst hl
  simp only [opStore, AV.cells_agg, Nat.beq_refl, cond_true]

theorem repl_one (v : AV) : ∀ n, repl [v] n = List.replicate n v
  | 0 => rfl
  | n + 1 => by rw [repl, repl_one v n]; rfl

theorem opMkS_nat (es bytes k : Nat) (z : List AV) (a b : IntKind) (h1 : bytes * k ≤ 2 ^ 40) (h2 : k ≤ 2 ^ 40) :
    opMkS es bytes z (.int a (k : Int)) (.int b (k : Int)) h = okV (.slice h.next 0 k k true es) (h.push (.cells (repl z k) false)) := by
  simp only [opMkS, Int.toNat_natCast]
  rw [if_pos ⟨by omega, by omega, by exact_mod_cast h1, by exact_mod_cast h2⟩]

@[simp] theorem argS_0 (a : AV) (l : List AV) : argS (a :: l) 0 = a := nr rfl
@[simp] theorem argS_1 (a b : AV) (l : List AV) : argS (a :: b :: l) 1 = b := nr rfl
@[simp] theorem argS_2 (a b c : AV) (l : List AV) : argS (a :: b :: c :: l) 2 = c := nr rfl
@[simp] theorem argS_3 (a b c d : AV) (l : List AV) : argS (a :: b :: c :: d :: l) 3 = d := nr rfl
@[simp] theorem argS_4 (a b c d e : AV) (l : List AV) : argS (a :: b :: c :: d :: e :: l) 4 = e := nr rfl

theorem fillS_nil (c : List AV) : fillS σ c [] = .ok c := nr rfl
theorem fillS_cons (c : List AV) (off size : Nat) (x : CO) (rest : List (Nat × Nat × CO)) : fillS σ c ((off, size, x) :: rest) =
    if (x.evS σ).cells.length = size ∧ off + (x.evS σ).cells.length ≤ c.length then fillS σ (splice c off (x.evS σ).cells) rest else .error "fill" := by
  rw [fillS]
  by_cases h : (x.evS σ).cells.length = size ∧ off + (x.evS σ).cells.length ≤ c.length
  · rw [if_pos h]
    have h1 : Nat.beq (x.evS σ).cells.length size = true := PT.beqT h.1
    have h2 : Nat.ble (off + (x.evS σ).cells.length) c.length = true := Nat.ble_eq_true_of_le h.2
    simp only [h1, h2, Bool.and_self, cond_true]
  · rw [if_neg h]
    have : (Nat.beq (x.evS σ).cells.length size && Nat.ble (off + (x.evS σ).cells.length) c.length) = false := by
      rw [Bool.eq_false_iff]
      intro e
      rw [Bool.and_eq_true] at e
      exact h ⟨Nat.eq_of_beq_eq_true e.1, Nat.le_of_ble_eq_true e.2⟩
    simp only [this, cond_false]
theorem buildS_eq (z : List AV) (pl : List (Nat × Nat × CO)) : opBuildS z pl σ = match fillS σ z pl with | .ok l => .ok (.agg l) | .error e => .error e := nr rfl
theorem buildSliceS_eq (len es : Nat) (z : List AV) (pl : List (Nat × Nat × CO)) : opBuildSliceS len es z pl σ h = match fillS σ z pl with
  | .ok l => okV (.slice h.next 0 len len true es) (h.push (.cells l false))
  | .error e => .error e := nr rfl
theorem splice_eq (vs : List AV) (off : Nat) (l : List AV) : splice vs off l = vs.take off ++ (l ++ vs.drop (off + l.length)) := nr rfl
attribute [simp]  fillS_nil fillS_cons buildS_eq buildSliceS_eq

@[simp] theorem Defers_nil (K : AH → Prop) : Defers P S [] h K = K h := nr rfl
theorem Sl.oneCell {es n : Nat} {v : AV} {l : List AV} (s : Sl h es n v l) : v.cells = [v] ∧ v.scalar = true := by
  rcases s.2 with ⟨rfl, _⟩ | ⟨id, off, cap, x, vs, ro, rfl, _⟩ <;> exact ⟨rfl, rfl⟩

theorem Own.set {B es n j : Nat} {v : AV} {l : List AV} (s : Own B h es n v l) (o : AObj) (hj : idOf v ≠ some j) : Own B (h.set j o) es n v l := by
  refine ⟨s.1, ?_⟩
  rcases s.2 with e | ⟨id, off, x, vs, e1, e2, e3, e4, e5, e6⟩
  · exact .inl e
  · exact .inr ⟨id, off, x, vs, e1, e2, e3, by rw [get_set_old (by intro e; apply hj; rw [e1, e]; rfl)]; exact e4, e5, e6⟩

theorem Own.ne {B es n j : Nat} {v : AV} {l : List AV} (s : Own B h es n v l) (hj : j < B) : idOf v ≠ some j := by
  rcases s.2 with ⟨rfl, _⟩ | ⟨id, off, x, vs, rfl, e2, _⟩
  · intro e; cases e
  · intro e; cases e; omega

theorem Sl.same {es n : Nat} {v : AV} {l : List AV} (s : Sl h es n v l) : eqAV 12 v v = true := by
  rcases s.2 with ⟨rfl, _⟩ | ⟨id, off, cap, x, vs, ro, rfl, _⟩
  · exact eqAV_nils
  · exact eqAV_slice _ _ _ _ _ _

theorem splice_set (vs : List AV) (k : Nat) (x : AV) (hk : k < vs.length) : splice vs k [x] = vs.set k x := by
  rw [splice, List.length_singleton, List.set_eq_take_append_cons_drop, if_pos hk]
  rfl

/-- an element's cell is written -/
theorem Own.store {B es n : Nat} {v : AV} {l : List AV} (s : Own B h es n v l) {k : IntKind} {i : Int} {j c : Nat} (hi : i = j) (hj : j < n) (hc : c < es) {x : AV} (hx : x.scalar = true) :
    ∃ id o h', opIdxV es v (.int k i) = .ok (.ptr id o) ∧ storeN h id (o + c) [x] = .ok h' ∧ Own B h' es n v (l.set (j * es + c) x) ∧ FrB B h h' ∧ h'.next = h.next := by
  subst hi
  rcases s.2 with ⟨rfl, rfl⟩ | ⟨id, off, x', vs, rfl, e2, e3, e4, e5, rfl⟩
  · omega
  · have hle : j * es + es ≤ n * es := by
      have := Nat.mul_le_mul_right es (show j + 1 ≤ n from hj)
      rw [Nat.add_mul, Nat.one_mul] at this
      exact this
    refine ⟨id, off + j * es, h.set id (.cells (vs.set (off + j * es + c) x) false), by rw [opIdxV_slice _ _ _ _ _ _ _ _ ⟨by omega, by omega⟩, Int.toNat_natCast], ?_, ⟨?_, .inr ⟨id, off, x', vs.set (off + j * es + c) x, rfl, e2, e3, get_set_new _ _, by rw [List.length_set]; exact e5, ?_⟩⟩, ⟨Nat.le_refl _, fun i hi => get_set_old (by omega)⟩, rfl⟩
    · rw [storeN_one e4 (by omega) hx, splice_set _ _ _ (by omega)]
    · rw [List.length_set]; exact s.1
    · rw [List.drop_set, if_neg (by omega), List.take_set, show off + j * es + c - off = j * es + c from by omega]

end
end Go.Dr

/-
  The abstract run with several ends: maps whose entries come in any order. What a function ends in is joined where it is the same but for new blocks.
-/
namespace Go.Dr

abbrev RL (α : Type) := R (List α)

def bindD {α β : Type} (f : α → RL β) : List α → RL β
  | [] => .ok []
  | x :: l => match f x with
    | .ok r => match bindD f l with
      | .ok s => .ok (r ++ s)
      | .error e => .error e
    | .error e => .error e

abbrev CallD := Tgt → List AV → AH → RL (AV × AH)

/-- the next entry of a map: any that is left -/
def nextD (h : AH) (it : AV) : RL (AV × AH) :=
  match it with
  | .ptr id 0 => match h.get id with
    | some (.miter m since seen last) => match m with
      | none => .ok [(.tuple [.bool false], h)]
      | some m => match h.get m with
        | some (.map es clock) =>
          if !seen.isEmpty && !es.isEmpty && es.all (fun e => Nat.ble last e.born) then .error "next: all gone" else
          match es.filter (fun e => !seen.contains e.born) with
          | [] => .ok [(.tuple [.bool false], h)]
          | l => if l.all (fun e => Nat.blt e.born since) then .ok (l.map fun e => (.tuple [.bool true, e.key, e.val], h.set id (.miter (some m) since (seen ++ [e.born]) clock))) else .error "next: a new entry"
        | _ => .error "next"
    | _ => .error "next"
  | _ => .error "next"

def oneD (call : CallD) : CallF := fun t args h => match call t args h with
  | .ok [x] => .ok x
  | .ok _ => .error "several ends"
  | .error e => .error e

def putD (a : AAct) (d : Option Tmp) (x : AV × AH) : AAct × AH := (forceV x.1 fun v => a.put d v, x.2)

section
variable (P : Program)

def evNextD (o : Oper) (it : CO) (a : AAct) (h : AH) : RL (AAct × AH) :=
  match nextD h (it.ev a) with
  | .ok l => .ok (l.map (putD a o.dst))
  | .error e => .error e

def evCD (call : CallD) (o : Oper) (a : AAct) (r : RN) : RL (AAct × AH) :=
  match r with
  | .ok (r, h) => match r with
    | .value v => .ok [putD a o.dst (v, h)]
    | .skip => .ok [(a.put o.dst aundef, h)]
    | .defer d => bif a.rd then .error "defer in a round" else .ok [((⟨a.n, a.ts, d :: a.ds, a.rd⟩ : AAct).put o.dst aundef, h)]
    | .enter f args => match call (.fn f) args h with
      | .ok l => .ok (l.map (putD a o.dst))
      | .error e => .error e
    | .yield f args => match call (.yield f) args h with
      | .ok l => .ok (l.map (putD a o.dst))
      | .error e => .error e
  | .error e => .error (o.pos ++ ": " ++ e)

def nextOf : Op → Option Operand
  | .next x false => some x
  | _ => none

/-- an operation -/
def evOperD (call : CallD) (o : Oper) (a : AAct) (h : AH) : RL (AAct × AH) :=
  match nextOf o.op with
  | some x => match cO P x with
    | .ok c => evNextD o c a h
    | .error e => .error (o.pos ++ ": read: " ++ e)
  | none => match comp P o with
    | .ok c => evCD call o a (evC P c a h)
    | .error e => .error (o.pos ++ ": read: " ++ e)

def evOpsD (call : CallD) (ops : Array Oper) : List Oper → AAct → AH → RL (AAct × AH)
  | [], a, h => .ok [(a, h)]
  | o :: l, a, h =>
    match wantedA ops o a with
    | .ok true => match evOperD P call o a h with
      | .ok r => bindD (fun x => evOpsD call ops l x.1 x.2) r
      | .error e => .error e
    | .ok false => evOpsD call ops l (a.put o.dst aundef) h
    | .error e => .error e

abbrev XD := RL (AX × AAct × AH)

def evLoopD (body : AAct → AH → XD) : Nat → AAct → AH → XD
  | 0, _, _ => .error "fuel"
  | n + 1, a, h => match body a h with
    | .ok r => bindD (fun x => match x.1 with | .normal => evLoopD body n x.2.1 x.2.2 | _ => .ok [x]) r
    | .error e => .error e

def endGo (did : Nat) (a : AAct) (h : AH) : R (AX × AAct × AH) :=
  match h.get (did + 1) with
  | some (.loop r) => match r.state with
    | .busy => .error "rangeFunc: busy"
    | _ => match r.pending with
      | none => .ok (.normal, ⟨a.n, a.ts, .collected did :: a.ds, a.rd⟩, h.set (did + 1) (.loop { r with state := .exhausted }))
      | some .ret => .ok (.ret, ⟨a.n, a.ts, .collected did :: a.ds, a.rd⟩, h.set (did + 1) (.loop { r with state := .exhausted }))
      | some (.exit id) => .ok (.exit id, ⟨a.n, a.ts, .collected did :: a.ds, a.rd⟩, h.set (did + 1) (.loop { r with state := .exhausted }))
      | some _ => .error "rangeFunc: jump"
  | _ => .error "rangeFunc"

def one1 {α : Type} : R α → RL α
  | .ok x => .ok [x]
  | .error e => .error e

def opGoD (call : CallD) (f : AV) (params : Array Tmp) (assign body : Code) (a : AAct) (h : AH) : XD :=
  match f with
  | .func (.func g) first captured => bif a.rd then .error "rangeFunc in a round" else
    forceN h.next fun did =>
    match call (.fn g) (first ++ (.func (.yield (did + 1)) [] [] :: captured))
        ((h.push (.deferred (some []))).push (.loop { state := .ready, pending := none, n := a.n, tmps := a.ts, params, assign, body })) with
    | .ok l => bindD (fun x => one1 (endGo did a x.2)) l
    | .error e => .error e
  | _ => .error "rangeFunc: of what"

def evCodeD (call : CallD) (lf : Nat) : Code → AAct → AH → XD
  | .region _ ops draw, a, h => match draw with
    | true => match evDraw P (oneD call) ops a h with
      | .ok (a, h) => .ok [(.normal, a, h)]
      | .error e => .error e
    | false => match evOpsD P call ops ops.toList a h with
      | .ok l => .ok (l.map fun x => (.normal, x.1, x.2))
      | .error e => .error e
  | .seq x y, a, h => match evCodeD call lf x a h with
    | .ok l => bindD (fun x => match x.1 with | .normal => evCodeD call lf y x.2.1 x.2.2 | _ => .ok [x]) l
    | .error e => .error e
  | .cond c x y, a, h => match cO P c with
    | .ok c => match c.ev a with
      | .bool true => evCodeD call lf x a h
      | .bool false => evCodeD call lf y a h
      | _ => .error "cond"
    | .error e => .error e
  | .block id c, a, h => match evCodeD call lf c a h with
    | .ok l => .ok (l.map fun x => match x.1 with | .exit i => bif Nat.beq i id then (.normal, x.2.1, x.2.2) else x | _ => x)
    | .error e => .error e
  | .loop c, a, h => evLoopD (evCodeD call lf c) lf a h
  | .scope c, a, h => match evCodeD call lf c a h with
    | .ok l => .ok l
    | .error e => .error e
  | .rangeFunc f params assign body, a, h => match cO P f with
    | .ok f => opGoD call (f.ev a) params assign body a h
    | .error e => .error e
  | c, a, h => one1 (evCode P (oneD call) lf c a h)

def runDefersD (call : CallD) : List ADef → AH → RL AH
  | [], h => .ok [h]
  | d :: l, h => match d with
    | .collected id => match h.get id with
      | some (.deferred (some [])) => runDefersD call l (h.set id (.deferred none))
      | _ => .error "collected"
    | .call fn captured args => match callFn fn captured args h with
      | .ok (.enter f args, h) => match call (.fn f) args h with
        | .ok r => bindD (fun x => runDefersD call l x.2) r
        | .error e => .error e
      | .ok _ => .error "defer"
      | .error e => .error e

def leaveD (call : CallD) (fn : Func) (x : AX × AAct × AH) : RL (AV × AH) :=
  match x.1 with
  | .normal | .ret => match runDefersD call x.2.1.ds x.2.2 with
    | .ok l => bindD (fun h => match resultsA P h x.2.1 fn.results.toList with
      | .ok l => .ok [(oneOf l, h)]
      | .error e => .error (fn.name ++ ": " ++ e)) l
    | .error e => .error (fn.name ++ ": " ++ e)
  | _ => .error "left by a jump"

def finishD (call : CallD) (fn : Func) (r : XD) : RL (AV × AH) :=
  match r with
  | .ok l => bindD (leaveD P call fn) l
  | .error e => .error (fn.name ++ "/" ++ e)

def roundBodyD (call : CallD) (lf : Nat) (l : Nat) (r : ALoop) (x : AX × AAct × AH) : RL (AV × AH) :=
  match x.1 with
  | .normal => match x.2.2.get l with
    | some (.loop q) => match q.state with
      | .ready => match evCodeD P call lf r.body x.2.1 (x.2.2.set l (.loop { q with state := .busy })) with
        | .ok s => bindD (fun y => one1 (endRound l (.ok y))) s
        | .error e => .error e
      | _ => .error "yield: state"
    | _ => .error "yield: loop"
  | _ => .error "yield: assign"

def aRoundD (call : CallD) (lf : Nat) (l : Nat) (r : ALoop) (args : List AV) (h : AH) : RL (AV × AH) :=
  bif Nat.beq args.length r.params.size then
    match evCodeD P call lf r.assign (setParams r.params.toList args ⟨r.n, r.tmps, [], true⟩) h with
    | .ok s => bindD (roundBodyD P call lf l r) s
    | .error e => .error e
  else .error "yield: arguments"

end

/-! ### ends joined -/

def eqEntry (x y : AEntry) : Bool := Bool.and (eqAV 12 x.key y.key) (Bool.and (eqAV 12 x.val y.val) (Nat.beq x.born y.born))

def eqBy {α : Type} (f : α → α → Bool) : List α → List α → Bool
  | [], [] => true
  | x :: l, y :: m => Bool.and (f x y) (eqBy f l m)
  | _, _ => false

def eqDefs : Option (List ADef) → Option (List ADef) → Bool
  | none, none => true
  | some [], some [] => true
  | _, _ => false

def eqNO : Option Nat → Option Nat → Bool
  | none, none => true
  | some x, some y => Nat.beq x y
  | _, _ => false

def eqObj : AObj → AObj → Bool
  | .cells l r, .cells m s => Bool.and (r == s) (eqBy (eqAV 12) l m)
  | .map l c, .map m d => Bool.and (Nat.beq c d) (eqBy eqEntry l m)
  | .deferred a, .deferred b => eqDefs a b
  | .siter s p, .siter t q => Bool.and (Nat.beq p q) (decide (s = t))
  | .miter m a b c, .miter n x y z => Bool.and (eqNO m n) (Bool.and (Nat.beq a x) (Bool.and (eqBy Nat.beq b y) (Nat.beq c z)))
  | _, _ => false

def eqObjO : Option AObj → Option AObj → Bool
  | none, none => true
  | some x, some y => eqObj x y
  | _, _ => false

/-- the blocks below n are the same -/
def sameOld (h k : AH) : Nat → Bool
  | 0 => true
  | n + 1 => Bool.and (eqObjO (h.get n) (k.get n)) (sameOld h k n)

/-- from block i on so many: those that differ are struck -/
def joinNew (k : AH) : Nat → Nat → AH → AH
  | 0, _, h => h
  | n + 1, i, h => bif eqObjO (h.get i) (k.get i) then joinNew k n (i + 1) h else joinNew k n (i + 1) (h.kill i)

def join2 (base : Nat) (x y : AV × AH) : Option (AV × AH) :=
  bif Bool.and (eqAV 12 x.1 y.1) (Bool.and (Nat.beq x.2.next y.2.next) (sameOld x.2 y.2 base)) then some (x.1, joinNew y.2 (x.2.next - base) base x.2) else none

def joinAll (base : Nat) (x : AV × AH) : List (AV × AH) → Option (AV × AH)
  | [] => some x
  | y :: l => match join2 base x y with
    | some z => joinAll base z l
    | none => none

def joined (base : Nat) (r : RL (AV × AH)) : RL (AV × AH) :=
  match r with
  | .ok (x :: y :: l) => match joinAll base x (y :: l) with
    | some z => .ok [z]
    | none => .ok (x :: y :: l)
  | r => r

/-- deferred calls: by no summary -/
def noSumD (S : FuncId → Option (List AV → AH → R (AV × AH))) (call : CallD) : CallD := fun t args h =>
  match t with
  | .fn f => match S f with
    | some _ => .error "a deferred call of a summary"
    | none => call (.fn f) args h
  | .yield l => call (.yield l) args h

end Go.Dr

/-
  The abstract run with several ends is the machine's: the machine comes to one of them.
-/
namespace Go.Dr
open Go.RowKit

variable {P : Program} {B : Nat} {w0 w w' : World} {φ : Phi} {h h' : AH}

theorem bindD_mem {α β : Type} {f : α → RL β} : ∀ {l : List α} {s : List β}, bindD f l = .ok s → ∀ x ∈ l, ∃ r, f x = .ok r ∧ ∀ y ∈ r, y ∈ s
  | [], _, _, _, hx => by cases hx
  | a :: l, s, he, x, hx => by
    simp only [bindD] at he
    split at he
    · rename_i r hr
      split at he
      · rename_i s' hs
        cases he
        rcases List.mem_cons.1 hx with rfl | hx
        · exact ⟨r, hr, fun y hy => List.mem_append_left _ hy⟩
        · obtain ⟨r', h1, h2⟩ := bindD_mem hs x hx
          exact ⟨r', h1, fun y hy => List.mem_append_right _ (h2 y hy)⟩
      · cases he
    · cases he

theorem one1_ok {α : Type} {r : R α} {l : List α} (he : one1 r = .ok l) : ∃ x, r = .ok x ∧ l = [x] := by
  cases r with
  | ok x => cases he; exact ⟨x, rfl, rfl⟩
  | error e => cases he

/-- a call that ends in one of these -/
def FnD (P : Program) (B : Nat) (w0 : World) (kind : CallKind) (f : FuncId) (args : List AV) (h : AH) (K : AV → AH → Prop) : Prop :=
  ∀ φ w args', ConL φ args args' → GlobRel P φ → Rel B w0 φ h w →
    (∀ w, (callFunc f ⟨args'⟩).run P w = .ok (.enter f ⟨args'⟩) w) ∧
    CallsK P kind f ⟨args'⟩ w (fun v' w' => ∃ v h' φ', K v h' ∧ Con φ' v v' ∧ Rel B w0 φ' h' w' ∧ Ext φ h φ' h')

def RoundD (P : Program) (B : Nat) (w0 : World) (l : Nat) (args : List AV) (h : AH) (K : AV → AH → Prop) : Prop :=
  ∀ φ w p args', φ l = some p → ConL φ args args' → GlobRel P φ → Rel B w0 φ h w →
    ∃ fn tmps assign body, (Instr.yield p.blk ⟨args'⟩).run P w = .ok (.round p.blk fn tmps assign body) w ∧
      ∀ c cs, ∃ v h' v' φ' w', K v h' ∧ Steps P (lone (Frame.round p.blk fn tmps assign body .normal) (c :: cs) w) (lone (c.finish v') cs w') ∧ Con φ' v v' ∧ Rel B w0 φ' h' w' ∧ Ext φ h φ' h'

theorem FnD.mono {kind : CallKind} {f : FuncId} {args : List AV} {K K2 : AV → AH → Prop} (hf : FnD P B w0 kind f args h K) (hk : ∀ v h', K v h' → K2 v h') : FnD P B w0 kind f args h K2 := by
  intro φ w args' ha hG hR
  obtain ⟨h1, h2⟩ := hf φ w args' ha hG hR
  refine ⟨h1, fun cs => ?_⟩
  obtain ⟨v', w', fr, fn, ⟨v, h3, φ', k, c⟩, r⟩ := h2 cs
  exact ⟨v', w', fr, fn, ⟨v, h3, φ', hk _ _ k, c⟩, r⟩

def CallDOk (P : Program) (B : Nat) (w0 : World) (call : CallD) : Prop := ∀ f args h l, call (.fn f) args h = .ok l → FnD P B w0 .normal f args h fun v h' => (v, h') ∈ l
def DefDOk (P : Program) (B : Nat) (w0 : World) (call : CallD) : Prop := ∀ f args h l, call (.fn f) args h = .ok l → FnD P B w0 .deferred f args h fun v h' => (v, h') ∈ l
def YieldDOk (P : Program) (B : Nat) (w0 : World) (call : CallD) : Prop := ∀ i args h l, call (.yield i) args h = .ok l → RoundD P B w0 i args h fun v h' => (v, h') ∈ l

theorem oneD_ok {call : CallD} {t : Tgt} {args : List AV} {x : AV × AH} (he : oneD call t args h = .ok x) : call t args h = .ok [x] := by
  unfold oneD at he
  split at he
  · rename_i hc; cases he; exact hc
  · cases he
  · cases he

theorem oneD_call {call : CallD} (hC : CallDOk P B w0 call) : CallOk P B w0 (oneD call) := by
  intro f args h v h' he φ w args' ha hG hR
  obtain ⟨h1, h2⟩ := hC _ _ _ _ (oneD_ok he) φ w args' ha hG hR
  refine ⟨h1, fun cs => ?_⟩
  obtain ⟨v', w', fr, fn, ⟨v2, h3, φ', k, c⟩, r⟩ := h2 cs
  have := List.mem_singleton.1 k
  cases this
  exact ⟨v', w', fr, fn, ⟨φ', c⟩, r⟩

theorem oneD_yield {call : CallD} (hY : YieldDOk P B w0 call) : YieldOk P B w0 (oneD call) := by
  intro l args h v h' he φ w p args' hp ha hG hR
  obtain ⟨fn, tmps, assign, body, h1, h2⟩ := hY _ _ _ _ (oneD_ok he) φ w p args' hp ha hG hR
  refine ⟨fn, tmps, assign, body, h1, fun c cs => ?_⟩
  obtain ⟨v2, h3, v', φ', w', k, r⟩ := h2 c cs
  have := List.mem_singleton.1 k
  cases this
  exact ⟨v', φ', w', r⟩

/-! ### the next entry -/

theorem run_mapNext {n : Nat} (hn : 0 < n) : ∃ i w', i < n ∧ (choose (.mapNext n)).run P w = .ok i w' ∧ (w' = w ∨ w' = w.drew) := by
  by_cases h1 : n ≤ 1
  · exact ⟨0, w, hn, by simp [choose, Sem.run, Question.forced, h1], .inl rfl⟩
  · exact ⟨w.tape w.drawn (.mapNext n) % n, w.drew, Nat.mod_lt _ hn, by simp [choose, Sem.run, Question.forced, Question.cut, h1], .inr rfl⟩

theorem ConE.at : ∀ {l : List AEntry} {es : List MapEntry}, ConE φ l es → ∀ (i : Nat) (e' : MapEntry), es[i]? = some e' → ∃ e : AEntry, l[i]? = some e ∧ Con φ e.key e'.key ∧ Con φ e.val e'.val ∧ e'.born = e.born
  | _, _, .nil, i, e', he => by simp at he
  | _, _, .cons h1 h2 h3 t, 0, e', he => by cases he; exact ⟨_, rfl, h1, h2, h3⟩
  | _, _, .cons h1 h2 h3 t, i + 1, e', he => by
    obtain ⟨e, g⟩ := ConE.at t i e' (by simpa using he)
    exact ⟨e, by simpa using g.1, g.2⟩

theorem ConE.length : ∀ {l : List AEntry} {es : List MapEntry}, ConE φ l es → es.length = l.length
  | _, _, .nil => rfl
  | _, _, .cons _ _ _ t => by simp [t.length]

theorem nextD_ok {ty : TypeId} {it : AV} {it' : Value} {l : List (AV × AH)} (hR : Rel B w0 φ h w) (hi : Con φ it it') (hr : nextD h it = .ok l) :
    ∃ x v' w', x ∈ l ∧ (Instr.next it' false ty).run P w = .ok v' w' ∧ Con φ x.1 v' ∧ Rel B w0 φ x.2 w' ∧ Ext φ h φ x.2 := by
  unfold nextD at hr
  split at hr
  · rename_i id
    cases hi with
    | @ptr _ _ p hp =>
    split at hr
    · rename_i m since seen last hg
      obtain ⟨g0, m', g1, g2⟩ := hR.obj _ _ _ hp hg
      rw [g0]
      have hget : (getObj p.blk).run P w = .ok (.mapIter m' since ⟨seen⟩ last) w := by simp [getObj, Sem.run, g1]
      split at hr
      · cases hr
        have : m' = none := g2
        subst this
        refine ⟨_, .tuple #[.bool false], w, List.mem_singleton.2 rfl, ?_, .tuple (.cons (.bool _) .nil), hR, .refl _ _⟩
        simp only [Instr.next, Nat.add_zero, Sem.run_bind, hget, Result.andThen_ok]
        rfl
      · rename_i m
        obtain ⟨q, hq, rfl⟩ := g2
        split at hr
        · rename_i al clock hgm
          obtain ⟨es, k1, k2⟩ := hR.obj _ _ _ hq hgm
          split at hr
          · cases hr
          · rename_i hall
            have hall' : ¬ ((!(⟨seen⟩ : Array Nat).isEmpty && !(⟨es⟩ : Array MapEntry).isEmpty && (⟨es⟩ : Array MapEntry).all (fun e => decide (e.born ≥ last))) = true) := by
              intro hh
              apply hall
              rw [← hh]
              have e1 : (⟨seen⟩ : Array Nat).isEmpty = seen.isEmpty := by cases seen <;> rfl
              have e2 : (⟨es⟩ : Array MapEntry).isEmpty = al.isEmpty := by rw [← k2.isEmpty]; cases es <;> rfl
              have e3 : ((⟨es⟩ : Array MapEntry).all fun e => decide (e.born ≥ last)) = al.all fun e => Nat.ble last e.born := by
                rw [← k2.all (f := fun b => Nat.ble last b)]
                simp only [List.all_toArray]
                congr 1; funext e
                rw [Bool.eq_iff_iff]; simp
              rw [e1, e2, e3]
            have hfil := k2.filter (f := fun b => !seen.contains b)
            have hleft : (⟨es⟩ : Array MapEntry).filter (fun e => !(⟨seen⟩ : Array Nat).contains e.born) = ⟨es.filter fun e => !seen.contains e.born⟩ := by
              apply Array.ext'; simp
            generalize hL : es.filter (fun e => !seen.contains e.born) = L at hleft hfil
            generalize al.filter (fun e => !seen.contains e.born) = A at hr hfil
            split at hr
            · cases hfil
              cases hr
              refine ⟨_, .tuple #[.bool false], w, List.mem_singleton.2 rfl, ?_, .tuple (.cons (.bool _) .nil), hR, .refl _ _⟩
              simp only [Instr.next, Nat.add_zero, Sem.run_bind, hget, Result.andThen_ok, run_getMap k1]
              rw [if_neg hall']
              simp only [hleft]
              simp [Question.forced]
            · rename_i hne
              split at hr
              · rename_i hsince
                cases hr
                have hold : ∀ e' ∈ L, e'.born < since := by
                  intro e' he'
                  obtain ⟨i, hi⟩ := List.mem_iff_getElem?.1 he'
                  obtain ⟨e, ge, _, _, gb⟩ := hfil.at i e' hi
                  rw [List.all_eq_true] at hsince
                  have := hsince e (List.mem_of_getElem? ge)
                  rw [gb]; simpa [Nat.blt_eq] using this
                have f1 : (⟨L⟩ : Array MapEntry).filter (fun e => decide (e.born < since)) = ⟨L⟩ := by
                  apply Array.ext'
                  simp only [Array.toList_filter]
                  exact List.filter_eq_self.2 fun e he => by simpa using hold e he
                have f2 : (⟨L⟩ : Array MapEntry).filter (fun e => decide (e.born ≥ since)) = #[] := by
                  apply Array.ext'
                  simp only [Array.toList_filter]
                  exact List.filter_eq_nil_iff.2 fun e he => by have := hold e he; simp; omega
                have hpos : 0 < L.length := by
                  rw [hfil.length]
                  cases A with
                  | nil => exact absurd rfl hne
                  | cons a A => simp
                have f3 : (⟨L⟩ : Array MapEntry).isEmpty = false := by
                  cases L with
                  | nil => simp at hpos
                  | cons a L => rfl
                obtain ⟨i, w1, hi, hch, hw1⟩ := run_mapNext (P := P) (w := w) (n := L.length) hpos
                have hLi : L[i]? = some L[i] := List.getElem?_eq_getElem hi
                obtain ⟨e, ge, c1, c2, c3⟩ := hfil.at i _ hLi
                have hg1 : w1.heap[p.blk]? = some (.mapIter (some q.blk) since ⟨seen⟩ last) := by rcases hw1 with rfl | rfl <;> exact g1
                have hR1 : Rel B w0 φ h w1 := by
                  rcases hw1 with rfl | rfl
                  · exact hR
                  · exact hR.drew
                have hset : ∀ o, (setObj p.blk o).run P w1 = .ok () (w1.putObj p.blk o) := fun o => by simp [setObj, Sem.run, hg1, World.putObj]
                refine ⟨_, .tuple #[.bool true, L[i].key, L[i].val], w1.putObj p.blk (.mapIter (some q.blk) since ((⟨seen⟩ : Array Nat).push L[i].born) clock), List.mem_map.2 ⟨e, List.mem_of_getElem? ge, rfl⟩, ?_, .tuple (.cons (.bool _) (.cons c1 (.cons c2 .nil))), ?_, .write hp _⟩
                · simp only [Instr.next, Nat.add_zero, Sem.run_bind, hget, Result.andThen_ok, run_getMap k1]
                  rw [if_neg hall']
                  simp only [hleft, f1, f2, f3, Bool.false_eq_true, if_false]
                  have hsz : ((#[] : Array (Option MapEntry)) ++ ((⟨L⟩ : Array MapEntry) ++ #[]).map some).size = L.length := by simp
                  rw [hsz, Sem.run_bind, hch, Result.andThen_ok]
                  have hge : ((#[] : Array (Option MapEntry)) ++ ((⟨L⟩ : Array MapEntry) ++ #[]).map some)[i]? = some (some L[i]) := by simp [hLi]
                  rw [hge]
                  simp only [Sem.run_bind, hset, Result.andThen_ok, Sem.run_pure]
                · refine hR1.write (w' := w1.putObj p.blk (.mapIter (some q.blk) since ((⟨seen⟩ : Array Nat).push L[i].born) clock)) hp hg rfl rfl (World.putObj_below (hR.own _ _ _ hp hg rfl) _) (fun k hk => World.putObj_heap_other hk) ?_
                  refine ⟨g0, some q.blk, ?_, q, hq, rfl⟩
                  rw [World.putObj_heap_same (Array.getElem?_eq_some_iff.1 hg1).1, c3]
                  simp
              · cases hr
        · cases hr
    · cases hr
  · cases hr

theorem nextOf_ok {o : Op} {x : Operand} (h : nextOf o = some x) : o = .next x false := by
  unfold nextOf at h
  split at h
  · cases h; rfl
  · cases h

/-- one operation -/
theorem evOperD_ok {call : CallD} (hC : CallDOk P B w0 call) (hY : YieldDOk P B w0 call) {o : Oper} {a : AAct} {l : List (AAct × AH)} (he : evOperD P call o a h = .ok l)
    {b : Frame} {tm : Array Value} {ds : List Deferred} (s : St P B w0 φ a h b.roundOf.isSome tm ds w) {ops : Array Oper} {i : Nat} {rest : List Nat} (ho : ops[i]? = some o)
    (hw : Region.wanted o (yielded ops tm) = true) (k : List Item) (cs : List Frame) :
    ∃ x φ' tm' ds' w', x ∈ l ∧ Steps P (lone (mk b tm ds (.inRegion ops (i :: rest) :: k)) cs w) (lone (mk b tm' ds' (.inRegion ops rest :: k)) cs w') ∧
      St P B w0 φ' x.1 x.2 b.roundOf.isSome tm' ds' w' ∧ Ext φ h φ' x.2 := by
  unfold evOperD at he
  split at he
  · rename_i x hx
    have hop := nextOf_ok hx
    split at he
    · rename_i c hc
      unfold evNextD at he
      split at he
      · rename_i r hn
        cases he
        obtain ⟨y, v', w', hy, hrun, hcon, hR', hE⟩ := nextD_ok (P := P) (ty := o.type) s.rel (cO_con (ds := ds) hc s.glob s.act) hn
        have h2 : (execOp (Act.eval ⟨tm, ds⟩) o).run P w = .ok (.value v') w' := by
          simp only [execOp, hop, Sem.run_bind, hrun, Result.andThen_ok, Sem.run_pure]
        refine ⟨_, φ, _, ds, w', List.mem_map.2 ⟨y, hy, rfl⟩, .one (go_value ho hw (.inr fun c e => ?_) h2), ?_, hE⟩
        · rw [hop] at e; cases e
        · simp only [putD, forceV_eq]
          exact s.put (.refl _) hcon hR' _
      · cases he
    · cases he
  · split at he
    · rename_i c hc
      unfold evCD at he
      split at he
      · rename_i n h1 hr
        have hs := evC_sound (ds := ds) hc hr s.glob s.act s.rel
        have hd : (∀ d, n ≠ .defer d) → b.roundOf = none ∨ ∀ c, o.op ≠ .defer c := fun hn => .inr fun call e => by
          obtain ⟨d, e⟩ := comp_defer e hc hr
          exact hn d e
        split at he
        · rename_i v
          cases he
          obtain ⟨v', w', φ', h2, h3, h4, h5⟩ := hs
          refine ⟨_, φ', _, ds, w', List.mem_singleton.2 rfl, .one (go_value ho hw (hd (by simp)) h2), ?_, h5⟩
          simp only [putD, forceV_eq]
          exact s.put h5.le h3 h4 _
        · cases he
          obtain ⟨w', h2, h4, h5⟩ := hs
          exact ⟨_, φ, _, ds, w', List.mem_singleton.2 rfl, .one (go_opskip ho hw (hd (by simp)) h2), s.put (.refl _) undef_con h4 _, h5⟩
        · rename_i d
          cases hrd : a.rd with
          | true => rw [hrd] at he; cases he
          | false =>
            rw [hrd] at he; cases he
            obtain ⟨rfl, d', hd', h2⟩ := hs
            have hb : b.roundOf = none := by have := s.rd; rw [hrd] at this; cases hb : b.roundOf with
              | none => rfl
              | some l => rw [hb] at this; cases this
            refine ⟨_, φ, _, _, w, List.mem_singleton.2 rfl, .one (go_defer ho hw hb h2), ?_, .refl _ _⟩
            have s2 : St P B w0 φ (⟨a.n, a.ts, d :: a.ds, false⟩ : AAct) h1 b.roundOf.isSome tm (d' :: ds) w := ⟨⟨s.act.size, s.act.val⟩, .cons hd' s.defs, s.rel, s.glob, by rw [hb]; rfl⟩
            exact s2.put (.refl _) undef_con s.rel _
        · rename_i f args
          obtain ⟨rfl, args', hargs, h2⟩ := hs
          split at he
          · rename_i r hcall
            cases he
            obtain ⟨hen, hK⟩ := hC _ _ _ _ hcall φ w args' hargs s.glob s.rel
            obtain ⟨v', w', fr, fn, ⟨v, h3, φ', hm, c1, c2, c3⟩, hst, e1, e2, e3, e4, e5, e6⟩ := hK (mk b tm ds (.inRegion ops (i :: rest) :: k) :: cs)
            rw [hen] at h2
            refine ⟨_, φ', putT tm o.dst v', ds, w', List.mem_map.2 ⟨_, hm, rfl⟩, .head (go_enter ho hw (hd (by simp)) h2) (hst.trans (.one ?_)), ?_, c3⟩
            · rw [← mk_finish ho]
              exact go_leave e2 e3 e4 e5 e6
            · simp only [putD, forceV_eq]
              exact s.put c3.le c1 c2 _
          · cases he
        · rename_i f args
          obtain ⟨rfl, p, args', hp, hargs, h2⟩ := hs
          split at he
          · rename_i r hcall
            cases he
            obtain ⟨fn, tmps, assign, body, hy, hK⟩ := hY _ _ _ _ hcall φ w p args' hp hargs s.glob s.rel
            obtain ⟨v, h3, v', φ', w', hm, hst, c1, c2, c3⟩ := hK (mk b tm ds (.inRegion ops (i :: rest) :: k)) cs
            rw [hy] at h2
            refine ⟨_, φ', putT tm o.dst v', ds, w', List.mem_map.2 ⟨_, hm, rfl⟩, .head (go_round ho hw (hd (by simp)) h2) ?_, ?_, c3⟩
            · rw [← mk_finish ho]
              exact hst
            · simp only [putD, forceV_eq]
              exact s.put c3.le c1 c2 _
          · cases he
      · cases he
    · cases he

theorem evOpsD_ok {call : CallD} (hC : CallDOk P B w0 call) (hY : YieldDOk P B w0 call) {ops : Array Oper} {b : Frame} (k : List Item) (cs : List Frame) :
    ∀ (l : List Oper) (is : List Nat) (a : AAct) (r : List (AAct × AH)) (h : AH) (φ : Phi) (tm : Array Value) (ds : List Deferred) (w : World), is.map (ops[·]?) = l.map some → evOpsD P call ops l a h = .ok r →
      St P B w0 φ a h b.roundOf.isSome tm ds w → ∃ x φ' tm' ds' w', x ∈ r ∧ Steps P (lone (mk b tm ds (.inRegion ops is :: k)) cs w) (lone (mk b tm' ds' k) cs w') ∧
        St P B w0 φ' x.1 x.2 b.roundOf.isSome tm' ds' w' ∧ Ext φ h φ' x.2
  | [], is, a, r, h, φ, tm, ds, w, hl, he, s => by
    have : is = [] := by simpa using hl
    subst this
    cases he
    exact ⟨_, φ, tm, ds, w, List.mem_singleton.2 rfl, .one go_regionEnd, s, .refl _ _⟩
  | o :: l, is, a, r, h, φ, tm, ds, w, hl, he, s => by
    cases is with
    | nil => simp at hl
    | cons i rest =>
      simp only [List.map_cons, List.cons.injEq] at hl
      obtain ⟨ho, hl⟩ := hl
      simp only [evOpsD] at he
      split at he
      · rename_i hw
        split at he
        · rename_i r1 h2
          obtain ⟨x, φ1, tm1, ds1, w1, hx, st1, s1, e1⟩ := evOperD_ok hC hY h2 s ho (wanted_ok s.act hw) k cs (rest := rest)
          obtain ⟨r2, h3, h4⟩ := bindD_mem he x hx
          obtain ⟨y, φ2, tm2, ds2, w2, hy, st2, s2, e2⟩ := evOpsD_ok hC hY k cs l rest _ _ _ _ _ _ _ hl h3 s1
          exact ⟨y, φ2, tm2, ds2, w2, h4 _ hy, st1.trans st2, s2, e1.trans e2⟩
        · cases he
      · rename_i hw
        have s1 := s.put (.refl _) undef_con s.rel o.dst
        obtain ⟨y, φ2, tm2, ds2, w2, hy, st2, s2, e2⟩ := evOpsD_ok hC hY k cs l rest _ _ _ _ _ _ _ hl he s1
        exact ⟨y, φ2, tm2, ds2, w2, hy, .head (go_unwanted ho (wanted_ok s.act hw)) st2, s2, e2⟩
      · cases he

/-! ### code -/

def CodeDOk (P : Program) (B : Nat) (w0 : World) (f : AAct → AH → XD) (it : Item) : Prop :=
  ∀ a h r, f a h = .ok r → ∀ φ b tm ds w, St P B w0 φ a h (Option.isSome (Frame.roundOf b)) tm ds w → ∀ k cs,
    ∃ x φ' tm' ds' w', x ∈ r ∧ Arr P (lone (mk b tm ds (it :: k)) cs w) b k cs tm' ds' w' x.1 ∧ St P B w0 φ' x.2.1 x.2.2 b.roundOf.isSome tm' ds' w' ∧ Ext φ h φ' x.2.2

theorem CodeDOk.of_one {f : AAct → AH → R (AX × AAct × AH)} {it : Item} (hf : CodeOk P B w0 f it) : CodeDOk P B w0 (fun a h => one1 (f a h)) it := by
  intro a h r he φ b tm ds w s k cs
  obtain ⟨x, h1, rfl⟩ := one1_ok he
  obtain ⟨φ', tm', ds', w', h2⟩ := hf a h x.1 x.2.1 x.2.2 h1 φ b tm ds w s k cs
  exact ⟨x, φ', tm', ds', w', List.mem_singleton.2 rfl, h2⟩

theorem evLoopD_ok {f : AAct → AH → XD} {c : Code} (hf : CodeDOk P B w0 f (.code c)) : ∀ n a h r, evLoopD f n a h = .ok r →
    ∀ φ b tm ds w, St P B w0 φ a h (Option.isSome (Frame.roundOf b)) tm ds w → ∀ k cs,
    ∃ x φ' tm' ds' w', x ∈ r ∧ Arr P (lone (mk b tm ds (.code c :: .inLoop c :: k)) cs w) b k cs tm' ds' w' x.1 ∧ St P B w0 φ' x.2.1 x.2.2 b.roundOf.isSome tm' ds' w' ∧ Ext φ h φ' x.2.2
  | 0 => fun a h r he => by cases he
  | n + 1 => fun a h r he φ b tm ds w s k cs => by
    simp only [evLoopD] at he
    split at he
    · rename_i r1 hb
      obtain ⟨⟨x, a1, h1⟩, φ1, tm1, ds1, w1, hx, r1', s1, e1⟩ := hf _ _ _ hb φ b tm ds w s (.inLoop c :: k) cs
      obtain ⟨r2, h3, h4⟩ := bindD_mem he _ hx
      cases x with
      | normal =>
        simp only at h3 r1' s1 e1
        obtain ⟨y, φ2, tm2, ds2, w2, hy, r2', s2, e2⟩ := evLoopD_ok hf n _ _ _ h3 φ1 b tm1 ds1 w1 s1 k cs
        exact ⟨y, φ2, tm2, ds2, w2, h4 _ hy, .of_steps (Steps.trans r1' (.one go_inLoop)) r2', s2, e1.trans e2⟩
      | exit i =>
        cases h3
        exact ⟨_, φ1, tm1, ds1, w1, h4 _ (List.mem_singleton.2 rfl), .pass (fun id _ => rfl) (by simp) r1', s1, e1⟩
      | ret =>
        cases h3
        exact ⟨_, φ1, tm1, ds1, w1, h4 _ (List.mem_singleton.2 rfl), .pass (fun id _ => rfl) (by simp) r1', s1, e1⟩
      | goto i => exact r1'.elim
    · cases he

theorem endGo_ok {b : Frame} {tm : Array Value} {ds : List Deferred} {k : List Item} {cs : List Frame} {a : AAct} {did : Nat} {h3 : AH} {x : AX × AAct × AH} (he : endGo did a h3 = .ok x) {m : Machine} {p : Pl} {d : Deferred}
    (s : St P B w0 φ ⟨a.n, a.ts, .collected did :: a.ds, a.rd⟩ h3 b.roundOf.isSome tm (d :: ds) w) (hp : φ (did + 1) = some p)
    (hst : Steps P m (lone (mk b tm (d :: ds) (.endRangeFunc p.blk :: k)) cs w)) :
    ∃ w', Arr P m b k cs tm (d :: ds) w' x.1 ∧ St P B w0 φ x.2.1 x.2.2 b.roundOf.isSome tm (d :: ds) w' ∧ Ext φ h3 φ x.2.2 := by
  unfold endGo at he
  split at he
  · rename_i r hg
    obtain ⟨r', hr1, hr2⟩ := (s.rel.obj _ _ _ hp hg).loop_get
    have key : r.state ≠ .busy → ∀ y, (∀ w1, Steps P (lone (mk b tm (d :: ds) ((r.pending.map Item.code).toList ++ k)) cs w1) (lone (mk b tm (d :: ds) ((r.pending.map Item.code).toList ++ k)) cs w1) →
          Arr P (lone (mk b tm (d :: ds) ((r.pending.map Item.code).toList ++ k)) cs w1) b k cs tm (d :: ds) w1 y) →
        ∃ w', Arr P m b k cs tm (d :: ds) w' y ∧ St P B w0 φ ⟨a.n, a.ts, .collected did :: a.ds, a.rd⟩ (h3.set (did + 1) (.loop { r with state := .exhausted })) b.roundOf.isSome tm (d :: ds) w' ∧
          Ext φ h3 φ (h3.set (did + 1) (.loop { r with state := .exhausted })) := by
      intro hbusy y hy
      have s2 := go_endLoop (P := P) (b := b) (tm := tm) (ds := d :: ds) (k := k) (cs := cs) hr1 (by rw [hr2.state]; exact hbusy)
      rw [hr2.pending] at s2
      exact ⟨_, .of_steps (hst.trans (.one s2)) (hy _ (.refl _ _)), ⟨s.act, s.defs, s.rel.putLoop hp hg hr2 .exhausted r.pending, s.glob, s.rd⟩, .write hp _⟩
    split at he
    · cases he
    · rename_i hbusy
      split at he
      · rename_i hpd; cases he
        exact key hbusy .normal (fun w1 st => by rw [hpd] at st ⊢; exact st)
      · rename_i hpd; cases he
        exact key hbusy .ret (fun w1 st => by rw [hpd] at st ⊢; exact ⟨k, st⟩)
      · rename_i id hpd; cases he
        exact key hbusy (.exit id) (fun w1 st => by rw [hpd] at st ⊢; exact ⟨k, rfl, st⟩)
      · cases he
  · cases he

theorem opGoD_ok {call : CallD} (hC : CallDOk P B w0 call) {f : Operand} {c : CO} {params : Array Tmp} {assign body : Code} (hf : cO P f = .ok c) :
    CodeDOk P B w0 (fun a h => opGoD call (c.ev a) params assign body a h) (.code (.rangeFunc f params assign body)) := by
  intro a h r he φ b tm ds w s k cs
  have hv := cO_con (ds := ds) hf s.glob s.act
  simp only [opGoD] at he
  split at he
  · rename_i g first captured hfv
    cases hrd : a.rd with
    | true => rw [hrd] at he; cases he
    | false =>
      rw [hrd] at he
      simp only [cond_false, forceN_eq] at he
      have hb : b.roundOf = none := by have := s.rd; rw [hrd] at this; cases hb : b.roundOf with
        | none => rfl
        | some l => rw [hb] at this; cases this
      rw [hfv] at hv
      generalize hev : Act.eval ⟨tm, ds⟩ f = fv at hv
      cases hv with
      | @func _ _ _ first' captured' h1 h2 =>
        have R1 := s.rel.push (room := 0) (o := .deferred (some [])) (O := .deferred (some [])) (alloc_new _ _)
        have X1 := Ext.push s.rel (.deferred (some [])) ⟨w.heap.size, 0, 0⟩
        generalize hφ1 : φ.set h.next ⟨w.heap.size, 0, 0⟩ = φ1 at R1 X1
        have g1 : φ1 h.next = some ⟨w.heap.size, 0, 0⟩ := by rw [← hφ1]; exact Phi.set_same _ _ _
        generalize hL : ({ state := .ready, pending := none, n := a.n, tmps := a.ts, params, assign, body } : ALoop) = L at he
        generalize hL' : ({ state := .ready, pending := none, fn := b.fn, tmps := tm, params, assign, body, defers := w.heap.size } : Loop) = L'
        have hLR : ∀ ψ : Phi, φ.le ψ → LoopRel ψ L L' := fun ψ hle => by
          subst hL hL'
          exact ⟨rfl, rfl, rfl, rfl, rfl, s.act.size, fun i => (s.act.val i).mono hle⟩
        have R2 := R1.push (room := 0) (o := .loop L) (O := .loop L') ⟨L', alloc_new _ _, hLR _ (X1.le.trans (Phi.le_set _ R1.fresh))⟩
        have X2 := Ext.push R1 (.loop L) ⟨(w.alloc (.deferred (some []))).heap.size, 0, 0⟩
        rw [World.size_alloc] at R2 X2
        rw [AH.next_push] at R2 X2
        generalize hφ2 : φ1.set (h.next + 1) ⟨w.heap.size + 1, 0, 0⟩ = φ2 at R2 X2
        have g2 : φ2 (h.next + 1) = some ⟨w.heap.size + 1, 0, 0⟩ := by rw [← hφ2]; exact Phi.set_same _ _ _
        have X := X1.trans X2
        split at he
        · rename_i rl hcall
          have hargs : ConL φ2 (first ++ (.func (.yield (h.next + 1)) [] [] :: captured)) (first' ++ (.func (.yield (w.heap.size + 1)) #[] #[] :: captured')) :=
            (h1.mono X.le).append (.cons (.yield g2) (h2.mono X.le))
          obtain ⟨hen, hK⟩ := hC _ _ _ _ hcall φ2 _ _ hargs (s.glob.mono X.le) R2
          have e : (⟨first' ++ (.func (.yield (w.heap.size + 1)) #[] #[] :: captured')⟩ : Array Value) = ⟨first'⟩ ++ #[.func (.yield (w.heap.size + 1)) #[] #[]] ++ ⟨captured'⟩ := by simp
          rw [e] at hK hen
          obtain ⟨v', w3, fr, fn, ⟨v3, h3, φ3, hm, c1, R3, X3⟩, hst, e1, e2, e3, e4, e5, e6⟩ := hK (mk b tm ({ target := .collected w.heap.size, args := #[] } :: ds) (.inRangeFunc (w.heap.size + 1) :: k) :: cs)
          have s0 := go_rangeFunc (P := P) (k := k) (cs := cs) (params := params) (assign := assign) (body := body) hb hev rfl (by rw [hL']; exact hen _)
          rw [hL'] at s0
          have s1 := Steps.head s0 (hst.trans (.one (go_leave e2 e3 e4 e5 e6)))
          rw [show (mk b tm ({ target := .collected w.heap.size, args := #[] } :: ds) (.inRangeFunc (w.heap.size + 1) :: k)).finish v' = mk b tm ({ target := .collected w.heap.size, args := #[] } :: ds) (.endRangeFunc (w.heap.size + 1) :: k) from rfl] at s1
          obtain ⟨r2, h4, h5⟩ := bindD_mem he _ hm
          obtain ⟨x, h6, rfl⟩ := one1_ok h4
          have hp3 : φ3 (h.next + 1) = some ⟨w.heap.size + 1, 0, 0⟩ := X3.le _ _ g2
          have s3 : St P B w0 φ3 ⟨a.n, a.ts, .collected h.next :: a.ds, a.rd⟩ h3 b.roundOf.isSome tm ({ target := .collected w.heap.size, args := #[] } :: ds) w3 :=
            ⟨⟨s.act.size, fun i => ((s.act.val i).mono X.le).mono X3.le⟩, .cons (.collected (X3.le _ _ (X2.le _ _ g1))) ((s.defs.mono X.le).mono X3.le), R3, (s.glob.mono X.le).mono X3.le, s.rd⟩
          obtain ⟨w4, a4, s4, e4'⟩ := endGo_ok (k := k) (cs := cs) h6 s3 hp3 s1
          exact ⟨x, φ3, tm, _, w4, h5 _ (List.mem_singleton.2 rfl), a4, s4, (X.trans X3).trans e4'⟩
        · cases he
  · cases he

theorem evCodeD_ok {call : CallD} {lf : Nat} (hM : P.follows .mixedOrders = true) (hC : CallDOk P B w0 call) (hY : YieldDOk P B w0 call) : ∀ c : Code, CodeDOk P B w0 (evCodeD P call lf c) (.code c)
  | .skip => .of_one (evCode_ok hM (oneD_call hC) (oneD_yield hY) (draw_ok (oneD_call hC) (oneD_yield hY)) _)
  | .label _ => .of_one (evCode_ok hM (oneD_call hC) (oneD_yield hY) (draw_ok (oneD_call hC) (oneD_yield hY)) _)
  | .exit id => .of_one (evCode_ok hM (oneD_call hC) (oneD_yield hY) (draw_ok (oneD_call hC) (oneD_yield hY)) _)
  | .ret => .of_one (evCode_ok hM (oneD_call hC) (oneD_yield hY) (draw_ok (oneD_call hC) (oneD_yield hY)) _)
  | .goto _ => .of_one (evCode_ok hM (oneD_call hC) (oneD_yield hY) (draw_ok (oneD_call hC) (oneD_yield hY)) _)
  | .refuse _ => .of_one (evCode_ok hM (oneD_call hC) (oneD_yield hY) (draw_ok (oneD_call hC) (oneD_yield hY)) _)
  | .region id ops draw => fun a h r he φ b tm ds w s k cs => by
    simp only [evCodeD] at he
    split at he
    · split at he
      · rename_i a1 h1 h2
        cases he
        obtain ⟨φ1, tm1, ds1, w1, st1, s1, e1⟩ := draw_ok (oneD_call hC) (oneD_yield hY) _ _ _ _ _ h2 φ b tm ds w.drew ⟨s.act, s.defs, s.rel.drew, s.glob, s.rd⟩ (w.tape w.drawn (.order b.fn id)) k cs
        refine ⟨_, φ1, tm1, ds1, w1, List.mem_singleton.2 rfl, .head go_region_draw ?_, s1, e1⟩
        rw [hM]
        exact st1
      · cases he
    · split at he
      · rename_i r1 h2
        cases he
        have hl : (List.range ops.size).map (ops[·]?) = ops.toList.map some := by
          apply List.ext_getElem
          · simp
          · intro i h1 h2
            simp at h1
            simp [h1]
        obtain ⟨x, φ1, tm1, ds1, w1, hx, st1, s1, e1⟩ := evOpsD_ok hC hY k cs _ _ _ _ _ _ _ _ _ hl h2 s
        exact ⟨_, φ1, tm1, ds1, w1, List.mem_map.2 ⟨x, hx, rfl⟩, .head go_region st1, s1, e1⟩
      · cases he
  | .seq x y => fun a h r he φ b tm ds w s k cs => by
    simp only [evCodeD] at he
    split at he
    · rename_i r1 hx
      obtain ⟨⟨z, a1, h1⟩, φ1, tm1, ds1, w1, hz, r1', s1, e1⟩ := evCodeD_ok hM hC hY x _ _ _ hx φ b tm ds w s (.code y :: k) cs
      obtain ⟨r2, h3, h4⟩ := bindD_mem he _ hz
      cases z with
      | normal =>
        simp only at h3 r1' s1 e1
        obtain ⟨u, φ2, tm2, ds2, w2, hu, r2', s2, e2⟩ := evCodeD_ok hM hC hY y _ _ _ h3 φ1 b tm1 ds1 w1 s1 k cs
        exact ⟨u, φ2, tm2, ds2, w2, h4 _ hu, .of_steps (.head go_seq r1') r2', s2, e1.trans e2⟩
      | exit i =>
        cases h3
        exact ⟨_, φ1, tm1, ds1, w1, h4 _ (List.mem_singleton.2 rfl), .pass (fun id _ => rfl) (by simp) (.of_steps (.one go_seq) r1'), s1, e1⟩
      | ret =>
        cases h3
        exact ⟨_, φ1, tm1, ds1, w1, h4 _ (List.mem_singleton.2 rfl), .pass (fun id _ => rfl) (by simp) (.of_steps (.one go_seq) r1'), s1, e1⟩
      | goto i => exact r1'.elim
    · cases he
  | .cond c x y => fun a h r he φ b tm ds w s k cs => by
    simp only [evCodeD] at he
    split at he
    · rename_i cc hc
      have hv := cO_con (ds := ds) hc s.glob s.act
      split at he
      · rename_i hb
        rw [hb] at hv
        generalize hev : Act.eval ⟨tm, ds⟩ c = v at hv
        cases hv
        obtain ⟨z, φ1, tm1, ds1, w1, hz, r1, s1, e1⟩ := evCodeD_ok hM hC hY x _ _ _ he φ b tm ds w s k cs
        exact ⟨z, φ1, tm1, ds1, w1, hz, .of_steps (.one (go_cond hev)) r1, s1, e1⟩
      · rename_i hb
        rw [hb] at hv
        generalize hev : Act.eval ⟨tm, ds⟩ c = v at hv
        cases hv
        obtain ⟨z, φ1, tm1, ds1, w1, hz, r1, s1, e1⟩ := evCodeD_ok hM hC hY y _ _ _ he φ b tm ds w s k cs
        exact ⟨z, φ1, tm1, ds1, w1, hz, .of_steps (.one (go_cond hev)) r1, s1, e1⟩
      · cases he
    · cases he
  | .block id c => fun a h r he φ b tm ds w s k cs => by
    simp only [evCodeD] at he
    split at he
    · rename_i r0 hx
      cases he
      obtain ⟨⟨z, a1, h1⟩, φ1, tm1, ds1, w1, hz, r1, s1, e1⟩ := evCodeD_ok hM hC hY c _ _ _ hx φ b tm ds w s (.inBlock id :: k) cs
      refine ⟨_, φ1, tm1, ds1, w1, List.mem_map.2 ⟨_, hz, rfl⟩, ?_⟩
      cases z with
      | normal => exact ⟨.head go_block (Steps.trans r1 (.one go_inBlock)), s1, e1⟩
      | exit i =>
        obtain ⟨k1, hk1, r1⟩ := r1
        simp only at s1 e1 ⊢
        cases hb : Nat.beq i id with
        | true =>
          have : i = id := Nat.eq_of_beq_eq_true hb
          subst this
          simp only [cond_true]
          exact ⟨.head go_block (r1.trans (.one (go_exit (by rw [hk1]; simp [exitTo])))), s1, e1⟩
        | false =>
          have hne : id ≠ i := fun e => by subst e; rw [Nat.beq_refl] at hb; cases hb
          simp only [cond_false]
          exact ⟨⟨k1, by rw [hk1]; simp [exitTo, hne], .head go_block r1⟩, s1, e1⟩
      | ret => exact ⟨.of_steps (.one go_block) (.pass (fun id e => by cases e) (by simp) r1), s1, e1⟩
      | goto l => exact r1.elim
    · cases he
  | .loop c => fun a h r he φ b tm ds w s k cs => by
    simp only [evCodeD] at he
    obtain ⟨z, φ1, tm1, ds1, w1, hz, r1, s1, e1⟩ := evLoopD_ok (evCodeD_ok hM hC hY c) lf _ _ _ he φ b tm ds w s k cs
    exact ⟨z, φ1, tm1, ds1, w1, hz, .of_steps (.one go_loop) r1, s1, e1⟩
  | .scope c => fun a h r he φ b tm ds w s k cs => by
    simp only [evCodeD] at he
    split at he
    · rename_i r0 hx
      cases he
      obtain ⟨⟨z, a1, h1⟩, φ1, tm1, ds1, w1, hz, r1, s1, e1⟩ := evCodeD_ok hM hC hY c _ _ _ hx φ b tm ds w s (.inScope c :: k) cs
      refine ⟨_, φ1, tm1, ds1, w1, hz, ?_, s1, e1⟩
      cases z with
      | normal => exact .head go_scope (Steps.trans r1 (.one go_inScope))
      | exit i => exact .of_steps (.one go_scope) (.pass (fun id _ => rfl) (by simp) r1)
      | ret => exact .of_steps (.one go_scope) (.pass (fun id _ => rfl) (by simp) r1)
      | goto l => exact r1.elim
    · cases he
  | .rangeFunc f params assign body => fun a h r he => by
    simp only [evCodeD] at he
    split at he
    · rename_i cc hc
      exact opGoD_ok hC hc _ _ _ he
    · cases he

end Go.Dr

/-
  Calls with several ends, and where these are joined.
-/
namespace Go.Dr
open Go.RowKit

variable {P : Program} {B : Nat} {w0 w w' : World} {φ : Phi} {h h' : AH}

theorem runDefersD_ok {call : CallD} (hC : DefDOk P B w0 call) {b : Frame} {tm : Array Value} {todo : List Item} {cs : List Frame} :
    ∀ (l : List ADef) (h : AH) (r : List AH) (φ : Phi) (ds : List Deferred) (w : World), runDefersD call l h = .ok r → DefsR φ l ds → Rel B w0 φ h w → GlobRel P φ →
      ∃ h' φ' w', h' ∈ r ∧ Steps P (lone (lv b tm ds todo) cs w) (lone (lv b tm [] todo) cs w') ∧ Rel B w0 φ' h' w' ∧ Ext φ h φ' h'
  | [], h, r, φ, ds, w, he, hd, hR, hG => by
    cases he; cases hd
    exact ⟨_, φ, w, List.mem_singleton.2 rfl, .refl _ _, hR, .refl _ _⟩
  | d :: l, h, r, φ, ds, w, he, hd, hR, hG => by
    cases hd with
    | @cons _ d' _ ds hd1 hd2 =>
      simp only [runDefersD] at he
      cases hd1 with
      | @collected id p hp =>
        simp only at he
        split at he
        · rename_i hg
          have ho : w.heap[p.blk]? = some (.deferred (some [])) := hR.obj _ _ _ hp hg
          have R1 := hR.putObj (O := .deferred none) (o' := .deferred none) hp hg rfl rfl (World.putObj_heap_same (Array.getElem?_eq_some_iff.1 ho).1)
          obtain ⟨h2, φ2, w2, hm, st, R2, X2⟩ := runDefersD_ok hC (b := b) (tm := tm) (todo := todo) (cs := cs) l _ _ _ _ _ he hd2 R1 hG
          exact ⟨h2, φ2, w2, hm, .head (go_collected ho) st, R2, (Ext.write hp _).trans X2⟩
        · cases he
      | @call f c a c' a' hc ha =>
        simp only [callFn] at he
        split at he
        · rename_i r1 hcall
          obtain ⟨hen, hK⟩ := hC _ _ _ _ hcall φ w _ (ha.append hc) hG hR
          have e : (⟨a' ++ c'⟩ : Array Value) = ⟨a'⟩ ++ ⟨c'⟩ := by simp
          rw [e] at hK hen
          obtain ⟨v', w3, fr, fn, ⟨v, h3, φ3, hm, c1, R3, X3⟩, hst, e1, e2, e3, e4, e5, e6⟩ := hK (lv b tm ds todo :: cs)
          obtain ⟨r2, h4, h5⟩ := bindD_mem he _ hm
          obtain ⟨h2, φ2, w2, hm2, st, R2, X2⟩ := runDefersD_ok hC (b := b) (tm := tm) (todo := todo) (cs := cs) l _ _ _ _ _ h4 (hd2.mono X3.le) R3 (hG.mono X3.le)
          exact ⟨h2, φ2, w2, h5 _ hm2, .head (go_deferred (hen _)) (hst.trans (.head (go_leaveDeferred e2 e3 e4 rfl e5 e6) st)), R2, X3.trans X2⟩
        · cases he

theorem fnD_ok {call dcall : CallD} {lf : Nat} {kind : CallKind} (hF : DefDOk P B w0 dcall) (hM : P.follows .mixedOrders = true) (hC : CallDOk P B w0 call) (hY : YieldDOk P B w0 call) {f : FuncId} {fn : Func} {c : Code} {args : List AV} {r : List (AV × AH)} (hf : P.funcs[f]? = some fn) (hb : fn.body = some c)
    (hn : args.length ≤ fn.ntmps) (he : finishD P dcall fn (evCodeD P call lf c ⟨fn.ntmps, laid args 0 .leaf, [], false⟩ h) = .ok r) {args' : List Value} (ha : ConL φ args args') (hG : GlobRel P φ) (hR : Rel B w0 φ h w) :
    CallsK P kind f ⟨args'⟩ w (fun v' w' => ∃ v h' φ', (v, h') ∈ r ∧ Con φ' v v' ∧ Rel B w0 φ' h' w' ∧ Ext φ h φ' h') := by
  intro cs
  unfold finishD at he
  split at he
  · rename_i xs hcode
    have s0 : St P B w0 φ ⟨fn.ntmps, laid args 0 .leaf, [], false⟩ h (Option.isSome (Frame.roundOf { (default : Frame) with fn := f, kind := kind, roundOf := none })) _ [] w :=
      ⟨enter_act ha hn, .nil, hR, hG, rfl⟩
    obtain ⟨⟨x, a1, h1⟩, φ1, tm1, ds1, w1, hx, r1, s1, e1⟩ := evCodeD_ok hM hC hY c _ _ _ hcode φ _ _ _ w s0 [] cs
    obtain ⟨r2, hl, hsub⟩ := bindD_mem he _ hx
    have henter : Frame.enter P f ⟨args'⟩ kind = mk { (default : Frame) with fn := f, kind := kind, roundOf := none } ((⟨args'⟩ : Array Value) ++ Array.replicate (fn.ntmps - (⟨args'⟩ : Array Value).size) undef) [] [.code c] := by
      simp [Frame.enter, mk, hf, hb]
    rw [← henter] at r1
    simp only at r1 s1 e1
    have key : (∃ todo, Steps P (lone (Frame.enter P f ⟨args'⟩ kind) cs w) (lone (lv { (default : Frame) with fn := f, kind := kind, roundOf := none } tm1 ds1 todo) cs w1)) →
        (match runDefersD dcall a1.ds h1 with
          | .ok l => bindD (fun h => match resultsA P h a1 fn.results.toList with
            | .ok l => (.ok [(oneOf l, h)] : RL (AV × AH))
            | .error e => .error (fn.name ++ ": " ++ e)) l
          | .error e => .error (fn.name ++ ": " ++ e)) = .ok r2 →
        ∃ v' w' fr fn', (∃ v h' φ', (v, h') ∈ r ∧ Con φ' v v' ∧ Rel B w0 φ' h' w' ∧ Ext φ h φ' h') ∧ Steps P (lone (Frame.enter P f ⟨args'⟩ kind) cs w) (lone fr cs w') ∧
          fr.fn = f ∧ fr.mode = .returning ∧ fr.defers = [] ∧ fr.kind = kind ∧ P.funcs[fr.fn]? = some fn' ∧ (results fn' fr.tmps).run P w' = .ok v' w' := by
      rintro ⟨todo, hst⟩ hl
      split at hl
      · rename_i hs hrd
        obtain ⟨h2, φ2, w2, hm, st, R2, X2⟩ := runDefersD_ok hF (b := { (default : Frame) with fn := f, kind := kind, roundOf := none }) (tm := tm1) (todo := todo) (cs := cs) _ _ _ _ _ _ hrd s1.defs s1.rel s1.glob
        obtain ⟨r3, h3, h4⟩ := bindD_mem hl _ hm
        split at h3
        · rename_i vs hvs
          cases h3
          obtain ⟨v', hv1, hv2⟩ := results_run (s1.act.mono X2.le) R2 hvs
          exact ⟨v', w2, _, fn, ⟨_, h2, φ2, hsub _ (h4 _ (List.mem_singleton.2 rfl)), hv2, R2, e1.trans X2⟩, hst.trans st, rfl, rfl, rfl, rfl, hf, hv1⟩
        · cases h3
      · cases hl
    unfold leaveD at hl
    cases x with
    | normal => exact key ⟨_, Steps.trans r1 (.one (go_end rfl))⟩ hl
    | ret =>
      obtain ⟨k1, r1⟩ := r1
      exact key ⟨_, Steps.trans r1 (.one (go_ret rfl))⟩ hl
    | exit i => cases hl
    | goto i => cases hl
  · cases he

theorem roundD_ok {call : CallD} {lf : Nat} (hM : P.follows .mixedOrders = true) (hC : CallDOk P B w0 call) (hY : YieldDOk P B w0 call) {l : Nat} {r : ALoop} {args : List AV} {res : List (AV × AH)}
    (hg : h.get l = some (.loop r)) (he : aRoundD P call lf l r args h = .ok res) {p : Pl} {args' : List Value} (hp : φ l = some p) (ha : ConL φ args args') (hG : GlobRel P φ) (hR : Rel B w0 φ h w) :
    ∃ fn tmps assign body, (Instr.yield p.blk ⟨args'⟩).run P w = .ok (.round p.blk fn tmps assign body) w ∧
      ∀ c cs, ∃ v h' v' φ' w', (v, h') ∈ res ∧ Steps P (lone (Frame.round p.blk fn tmps assign body .normal) (c :: cs) w) (lone (c.finish v') cs w') ∧ Con φ' v v' ∧ Rel B w0 φ' h' w' ∧ Ext φ h φ' h' := by
  obtain ⟨r', hr1, hr2⟩ := (hR.obj _ _ _ hp hg).loop_get
  unfold aRoundD at he
  cases hlen : Nat.beq args.length r.params.size with
  | false => rw [hlen] at he; cases he
  | true =>
    rw [hlen] at he
    simp only [cond_true] at he
    have hlen := Nat.eq_of_beq_eq_true hlen
    have hsz : (⟨args'⟩ : Array Value).size = r'.params.size := by rw [hr2.params, ← hlen, ha.length]; rfl
    refine ⟨_, _, _, _, run_yield hr1 hsz, fun c cs => ?_⟩
    rw [foldl_zip, hr2.params, hr2.assign, hr2.body]
    have hA0 : ActRel φ ⟨r.n, r.tmps, [], true⟩ r'.tmps := ⟨hr2.size, fun i => hr2.tmps i⟩
    obtain ⟨hA1, hds, hrd⟩ := setParams_ok r.params.toList args args' _ _ hA0 ha
    generalize hb : ({ (default : Frame) with fn := r'.fn, kind := .normal, roundOf := some p.blk } : Frame) = b
    have s0 : St P B w0 φ (setParams r.params.toList args ⟨r.n, r.tmps, [], true⟩) h b.roundOf.isSome _ [] w := ⟨hA1, by rw [hds]; exact .nil, hR, hG, by rw [hrd]; subst hb; rfl⟩
    generalize (List.foldl (fun tm (x : Tmp × Value) => tm.setIfInBounds x.fst x.snd) r'.tmps (r.params.toList.zip args')) = tm0 at *
    have hround : Frame.round p.blk r'.fn tm0 r.assign r.body .normal = mk b tm0 [] (.code r.assign :: [.beginRound, .code r.body]) := by subst hb; rfl
    split at he
    · rename_i xs hassign
      obtain ⟨⟨x, a1, h1⟩, φ1, tm1, ds1, w1, hx, r1, s1, e1⟩ := evCodeD_ok hM hC hY _ _ _ _ hassign φ b tm0 [] w s0 [.beginRound, .code r.body] (c :: cs)
      rw [← hround] at r1
      simp only at r1 s1 e1
      obtain ⟨r2, hl, hsub⟩ := bindD_mem he _ hx
      have hp1 := e1.le _ _ hp
      unfold roundBodyD at hl
      cases x with
      | normal =>
        simp only at hl
        split at hl
        · rename_i q hg1
          obtain ⟨q', hq1, hq2⟩ := (s1.rel.obj _ _ _ hp1 hg1).loop_get
          split at hl
          · rename_i hst
            have hbr : b.roundOf = some p.blk := by subst hb; rfl
            have hbk : b.kind = .normal := by subst hb; rfl
            have st2 : step P (lone (mk b tm1 ds1 [.beginRound, .code r.body]) (c :: cs) w1) = .next (lone (mk b tm1 ds1 [.code r.body]) (c :: cs) (w1.putObj p.blk (.loop { q' with state := .busy }))) :=
              stepR_beginRound (a := ⟨tm1, ds1⟩) hbr (run_beginRound hq1 (by rw [hq2.state]; exact hst))
            have hpe : q'.pending = q.pending := hq2.pending
            have R2 : Rel B w0 φ1 (h1.set l (.loop { q with state := .busy })) (w1.putObj p.blk (.loop { q' with state := .busy })) := by
              have := s1.rel.putLoop hp1 hg1 hq2 .busy q.pending
              rw [show ({ q' with state := .busy, pending := q.pending } : Loop) = { q' with state := .busy } from by rw [← hpe]] at this
              exact this
            have X2 : Ext φ1 h1 φ1 (h1.set l (.loop { q with state := .busy })) := .write hp1 _
            have s2 : St P B w0 φ1 a1 (h1.set l (.loop { q with state := .busy })) b.roundOf.isSome tm1 ds1 (w1.putObj p.blk (.loop { q' with state := .busy })) := ⟨s1.act, s1.defs, R2, s1.glob, s1.rd⟩
            have st3 := Steps.trans r1 (.one st2)
            split at hl
            · rename_i ys hbody
              obtain ⟨⟨y, a2, h2⟩, φ3, tm3, ds3, w3, hy, r3, s3, e3⟩ := evCodeD_ok hM hC hY _ _ _ _ hbody φ1 b tm1 ds1 _ s2 [] (c :: cs)
              obtain ⟨r4, hl4, hsub4⟩ := bindD_mem hl _ hy
              obtain ⟨z, hz, rfl⟩ := one1_ok hl4
              have hmem := hsub _ (hsub4 _ (List.mem_singleton.2 rfl))
              simp only at r3 s3 e3
              unfold endRound at hz
              split at hz
              · rename_i heq
                cases heq
                split at hz
                · split at hz
                  · rename_i u hg2
                    have hp3 := e3.le _ _ hp1
                    obtain ⟨z', hz1, hz2⟩ := (s3.rel.obj _ _ _ hp3 hg2).loop_get
                    have X := e1.trans (X2.trans e3)
                    split at hz
                    · cases hz
                      exact ⟨_, _, .bool true, φ3, _, hmem, st3.trans (Steps.trans r3 (.one (stepR_round_end (a := ⟨tm3, ds3⟩) hbr hbk (run_endRound none hz1)))), .bool true, s3.rel.putLoop hp3 hg2 hz2 .ready none, X.trans (.write hp3 _)⟩
                    · cases hz
                      obtain ⟨k1, r3⟩ := r3
                      exact ⟨_, _, .bool false, φ3, _, hmem, st3.trans (Steps.trans r3 (.one (stepR_round_ret (a := ⟨tm3, ds3⟩) hbr hbk (run_endRound (some .ret) hz1)))), .bool false, s3.rel.putLoop hp3 hg2 hz2 .done (some .ret), X.trans (.write hp3 _)⟩
                    · rename_i id; cases hz
                      obtain ⟨k1, hk1, r3⟩ := r3
                      exact ⟨_, _, .bool false, φ3, _, hmem, st3.trans (Steps.trans r3 (.one (stepR_round_exit (a := ⟨tm3, ds3⟩) hbr hbk (by rw [hk1]; rfl) (run_endRound (some (.exit id)) hz1)))), .bool false, s3.rel.putLoop hp3 hg2 hz2 .done (some (.exit id)), X.trans (.write hp3 _)⟩
                    · cases hz
                  · cases hz
                · cases hz
              · cases hz
            · cases hl
          · cases hl
        · cases hl
      | exit i => cases hl
      | ret => cases hl
      | goto i => cases hl
    · cases he

/-! ### ends joined -/

/-- z says of y what is the same -/
structure View (base : Nat) (z y : AV × AH) : Prop where
  val : z.1 = y.1
  next : z.2.next = y.2.next
  old : ∀ i, i < base → z.2.get i = y.2.get i
  new : ∀ i o, i < y.2.next → z.2.get i = some o → y.2.get i = some o

theorem View.refl (base : Nat) (x : AV × AH) : View base x x := ⟨rfl, rfl, fun _ _ => rfl, fun _ _ _ e => e⟩
theorem View.trans {base : Nat} {x y z : AV × AH} (a : View base x y) (b : View base y z) : View base x z :=
  ⟨a.val.trans b.val, a.next.trans b.next, fun i hi => (a.old i hi).trans (b.old i hi), fun i o hi e => b.new i o hi (a.new i o (by rw [b.next]; exact hi) e)⟩

/-- less said of a heap -/
theorem Rel.sub (r : Rel B w0 φ h w) {k : AH} (hn : k.next = h.next) (hs : ∀ i o, i < h.next → k.get i = some o → h.get i = some o) : Rel B w0 φ k w :=
  ⟨fun i p e => by rw [hn]; exact r.lt i p e, fun i p o e g => r.obj i p o e (hs i o (r.lt i p e) g), fun i p o e g => r.own i p o e (hs i o (r.lt i p e) g),
    fun i j p q oi oj hij e1 e2 g1 g2 => r.inj i j p q oi oj hij e1 e2 (hs _ _ (r.lt _ _ e1) g1) (hs _ _ (r.lt _ _ e2) g2), r.below, r.base⟩

end Go.Dr

/-
  The abstract run with several ends, not joined: fuel; the run with one end is one of these.
-/
namespace Go.Dr
open Go.RowKit

variable {P : Program}

/-- a call, in all its ends, none joined -/
def evCallN (P : Program) (S : FuncId → Option (List AV → AH → R (AV × AH))) (lf : Nat) : Nat → CallD
  | 0, _, _, _ => .error "depth"
  | n + 1, .fn f, args, h => match S f with
    | some g => one1 (g args h)
    | none => match P.funcs[f]? with
      | some fn => match fn.body with
        | some c => bif Nat.ble args.length fn.ntmps
          then finishD P (noSumD S (evCallN P S lf n)) fn (evCodeD P (evCallN P S lf n) lf c ⟨fn.ntmps, laid args 0 .leaf, [], false⟩ h) else .error "arguments"
        | none => .error ("no body: " ++ fn.name)
      | none => .error "no function"
  | n + 1, .yield l, args, h => match h.get l with
    | some (.loop r) => aRoundD P (evCallN P S lf n) lf l r args h
    | _ => .error "yield: no loop"

/-- **the machine comes to one of the ends of the abstract call** -/
theorem evCallN_ok {B : Nat} {w0 : World} {S : FuncId → Option (List AV → AH → R (AV × AH))} {lf : Nat} (hM : P.follows .mixedOrders = true) (hN : ∀ (f : Nat) fn, P.funcs[f]? = some fn → fn.body.isSome = true → fn.name ≠ "runtime.NumGoroutine") (hS : SumOk P B w0 S) :
    ∀ n, CallDOk P B w0 (evCallN P S lf n) ∧ YieldDOk P B w0 (evCallN P S lf n) ∧ DefDOk P B w0 (noSumD S (evCallN P S lf n))
  | 0 => ⟨fun f args h l e => (by cases e), fun i args h l e => (by cases e), fun f args h l e => (by unfold noSumD at e; simp only at e; split at e <;> cases e)⟩
  | n + 1 => by
    obtain ⟨hC, hY, hF⟩ := evCallN_ok hM hN hS n
    have body : ∀ (kind : CallKind) (f : FuncId) args h l, S f = none → evCallN P S lf (n + 1) (.fn f) args h = .ok l → FnD P B w0 kind f args h fun v h' => (v, h') ∈ l := by
      intro kind f args h l hs e
      unfold evCallN at e
      rw [hs] at e
      simp only at e
      split at e
      · rename_i fn hf
        split at e
        · rename_i c hb
          cases hle : Nat.ble args.length fn.ntmps with
          | false => rw [hle] at e; cases e
          | true =>
            rw [hle] at e
            simp only [cond_true] at e
            intro φ w args' ha hG hR
            exact ⟨fun w => callFn_run hN hf (by rw [hb]; rfl) w, fnD_ok hF hM hC hY hf hb (Nat.le_of_ble_eq_true hle) e ha hG hR⟩
        · cases e
      · cases e
    refine ⟨fun f args h l e => ?_, fun i args h l e φ w p args' hp ha hG hR => ?_, fun f args h l e => ?_⟩
    · cases hs : S f with
      | some g =>
        unfold evCallN at e
        rw [hs] at e
        obtain ⟨⟨v, h'⟩, hx, rfl⟩ := one1_ok e
        intro φ w args' ha hG hR
        obtain ⟨h1, h2⟩ := hS _ _ hs _ _ _ _ hx _ _ _ ha hG hR
        refine ⟨h1, fun cs => ?_⟩
        obtain ⟨v', w', fr, fn, ⟨φ', c⟩, r⟩ := h2 cs
        exact ⟨v', w', fr, fn, ⟨v, h', φ', List.mem_singleton.2 rfl, c⟩, r⟩
      | none => exact body _ _ _ _ _ hs e
    · unfold evCallN at e
      split at e
      · rename_i r hg
        exact roundD_ok hM hC hY hg e hp ha hG hR
      · cases e
    · unfold noSumD at e
      simp only at e
      split at e
      · cases e
      · rename_i hs
        exact body _ _ _ _ _ hs e

/-! ### fuel -/

variable {c c' : CallD}

def CallDLe (c c' : CallD) : Prop := ∀ t args h r, c t args h = .ok r → c' t args h = .ok r

theorem bindD_mono {α β : Type} {f g : α → RL β} (hf : ∀ x r, f x = .ok r → g x = .ok r) : ∀ {l : List α} {s : List β}, bindD f l = .ok s → bindD g l = .ok s
  | [], _, he => he
  | a :: l, s, he => by
    simp only [bindD] at he ⊢
    split at he
    · rename_i r hr
      split at he
      · rename_i s' hs
        simp only [hf _ _ hr, bindD_mono hf hs]; exact he
      · cases he
    · cases he

theorem oneD_mono (hc : CallDLe c c') : CallLe (oneD c) (oneD c') := by
  intro t args h r he
  have := hc _ _ _ _ (oneD_ok he)
  simp only [oneD, this]

theorem evCD_mono (hc : CallDLe c c') {o : Oper} {a : AAct} {n : RN} {r : List (AAct × AH)} (he : evCD c o a n = .ok r) : evCD c' o a n = .ok r := by
  unfold evCD at he ⊢
  split at he
  · split at he
    · exact he
    · exact he
    · exact he
    · split at he
      · rename_i hcall; simp only [hc _ _ _ _ hcall]; exact he
      · cases he
    · split at he
      · rename_i hcall; simp only [hc _ _ _ _ hcall]; exact he
      · cases he
  · cases he

theorem evOperD_mono (hc : CallDLe c c') {o : Oper} {a : AAct} {h : AH} {r : List (AAct × AH)} (he : evOperD P c o a h = .ok r) : evOperD P c' o a h = .ok r := by
  unfold evOperD at he ⊢
  split at he
  · exact he
  · split at he
    · exact evCD_mono hc he
    · cases he

theorem evOpsD_mono (hc : CallDLe c c') {ops : Array Oper} : ∀ (l : List Oper) {a : AAct} {h : AH} {r : List (AAct × AH)}, evOpsD P c ops l a h = .ok r → evOpsD P c' ops l a h = .ok r
  | [], _, _, _, he => he
  | o :: l, a, h, r, he => by
    simp only [evOpsD] at he ⊢
    split at he
    · split at he
      · rename_i hop; simp only [evOperD_mono hc hop]; exact bindD_mono (fun x r => evOpsD_mono hc l) he
      · cases he
    · exact evOpsD_mono hc l he
    · cases he

theorem evLoopD_mono {b b' : AAct → AH → XD} (hb : ∀ a h r, b a h = .ok r → b' a h = .ok r) : ∀ {n n' : Nat} {a : AAct} {h : AH} {r : List (AX × AAct × AH)}, n ≤ n' → evLoopD b n a h = .ok r → evLoopD b' n' a h = .ok r
  | 0, _, _, _, _, _, he => by cases he
  | n + 1, 0, _, _, _, hn, _ => absurd hn (by omega)
  | n + 1, n' + 1, a, h, r, hn, he => by
    simp only [evLoopD] at he ⊢
    split at he
    · rename_i hbody
      simp only [hb _ _ _ hbody]
      refine bindD_mono (fun x r hr => ?_) he
      split at hr
      · exact evLoopD_mono hb (by omega) hr
      · exact hr
    · cases he

theorem opGoD_mono (hc : CallDLe c c') {f : AV} {params : Array Tmp} {assign body : Code} {a : AAct} {h : AH} {r : List (AX × AAct × AH)} (he : opGoD c f params assign body a h = .ok r) : opGoD c' f params assign body a h = .ok r := by
  unfold opGoD at he ⊢
  split at he
  · cases hb : a.rd with
    | true => rw [hb] at he; cases he
    | false =>
      rw [hb] at he
      simp only [cond_false, forceN_eq] at he ⊢
      split at he
      · rename_i hcall; simp only [hc _ _ _ _ hcall]; exact he
      · cases he
  · cases he

theorem evCodeD_mono (hc : CallDLe c c') {lf lf' : Nat} (hl : lf ≤ lf') : ∀ (k : Code) {a : AAct} {h : AH} {r : List (AX × AAct × AH)}, evCodeD P c lf k a h = .ok r → evCodeD P c' lf' k a h = .ok r
  | .skip, _, _, _, he => he
  | .label _, _, _, _, he => he
  | .exit _, _, _, _, he => he
  | .ret, _, _, _, he => he
  | .goto _, _, _, _, he => he
  | .refuse _, _, _, _, he => he
  | .region _ ops draw, a, h, r, he => by
    simp only [evCodeD] at he ⊢
    cases draw with
    | true =>
      simp only at he ⊢
      split at he
      · rename_i hop; simp only [evDraw_mono (oneD_mono hc) hop]; exact he
      · cases he
    | false =>
      simp only at he ⊢
      split at he
      · rename_i hop; simp only [evOpsD_mono hc _ hop]; exact he
      · cases he
  | .seq x y, a, h, r, he => by
    simp only [evCodeD] at he ⊢
    split at he
    · rename_i hx
      simp only [evCodeD_mono hc hl x hx]
      refine bindD_mono (fun x r hr => ?_) he
      split at hr
      · exact evCodeD_mono hc hl y hr
      · exact hr
    · cases he
  | .cond o x y, a, h, r, he => by
    simp only [evCodeD] at he ⊢
    split at he
    · split at he
      · exact evCodeD_mono hc hl x he
      · exact evCodeD_mono hc hl y he
      · cases he
    · cases he
  | .block id k, a, h, r, he => by
    simp only [evCodeD] at he ⊢
    split at he
    · rename_i hx; simp only [evCodeD_mono hc hl k hx]; exact he
    · cases he
  | .loop k, a, h, r, he => by
    simp only [evCodeD] at he ⊢
    exact evLoopD_mono (fun a h r => evCodeD_mono hc hl k) hl he
  | .scope k, a, h, r, he => by
    simp only [evCodeD] at he ⊢
    split at he
    · rename_i hx; simp only [evCodeD_mono hc hl k hx]; exact he
    · cases he
  | .rangeFunc f ps x y, a, h, r, he => by
    simp only [evCodeD] at he ⊢
    split at he
    · exact opGoD_mono hc he
    · cases he

theorem runDefersD_mono (hc : CallDLe c c') : ∀ (l : List ADef) {h : AH} {r : List AH}, runDefersD c l h = .ok r → runDefersD c' l h = .ok r
  | [], _, _, he => he
  | d :: l, h, r, he => by
    unfold runDefersD at he ⊢
    split at he
    · split at he
      · exact runDefersD_mono hc l he
      · cases he
    · split at he
      · split at he
        · rename_i hcall; simp only [hc _ _ _ _ hcall]; exact bindD_mono (fun x r => runDefersD_mono hc l) he
        · cases he
      · cases he
      · cases he

theorem finishD_mono (hc : CallDLe c c') {fn : Func} {x y : XD} (hx : ∀ r, x = .ok r → y = .ok r) {r : List (AV × AH)} (he : finishD P c fn x = .ok r) : finishD P c' fn y = .ok r := by
  unfold finishD at he
  split at he
  · rename_i l
    rw [hx _ rfl]
    simp only [finishD]
    refine bindD_mono (fun z r hr => ?_) he
    unfold leaveD at hr ⊢
    split at hr
    · split at hr
      · rename_i hd; simp only [runDefersD_mono hc _ hd]; exact hr
      · cases hr
    · split at hr
      · rename_i hd; simp only [runDefersD_mono hc _ hd]; exact hr
      · cases hr
    · cases hr
  · cases he

theorem aRoundD_mono (hc : CallDLe c c') {lf lf' : Nat} (hl : lf ≤ lf') {l : Nat} {q : ALoop} {args : List AV} {h : AH} {r : List (AV × AH)} (he : aRoundD P c lf l q args h = .ok r) : aRoundD P c' lf' l q args h = .ok r := by
  unfold aRoundD at he ⊢
  cases hb : Nat.beq args.length q.params.size with
  | false => rw [hb] at he; cases he
  | true =>
    rw [hb] at he
    simp only [cond_true] at he ⊢
    split at he
    · rename_i hx
      simp only [evCodeD_mono hc hl _ hx]
      refine bindD_mono (fun z r hr => ?_) he
      unfold roundBodyD at hr ⊢
      split at hr
      · split at hr
        · split at hr
          · split at hr
            · rename_i hbody; simp only [evCodeD_mono hc hl _ hbody]; exact hr
            · cases hr
          · cases hr
        · cases hr
      · cases hr
    · cases he

theorem noSumD_mono {S : FuncId → Option (List AV → AH → R (AV × AH))} (hc : CallDLe c c') : CallDLe (noSumD S c) (noSumD S c') := by
  intro t args h r he
  unfold noSumD at he ⊢
  split at he
  · split at he
    · cases he
    · exact hc _ _ _ _ he
  · exact hc _ _ _ _ he

theorem evCallN_mono {S : FuncId → Option (List AV → AH → R (AV × AH))} {lf lf' : Nat} (hl : lf ≤ lf') : ∀ {n n' : Nat}, n ≤ n' → CallDLe (evCallN P S lf n) (evCallN P S lf' n')
  | 0, _, _ => fun t args h r he => by cases t <;> cases he
  | n + 1, 0, hn => absurd hn (by omega)
  | n + 1, n' + 1, hn => fun t args h r he => by
    have ih := evCallN_mono (S := S) hl (n := n) (n' := n') (by omega)
    cases t with
    | fn f =>
      unfold evCallN at he ⊢
      split at he
      · exact he
      · split at he
        · split at he
          · rename_i fn _ _ k _
            cases hb : Nat.ble args.length fn.ntmps with
            | false => rw [hb] at he; cases he
            | true =>
              rw [hb] at he
              simp only [cond_true] at he ⊢
              exact finishD_mono (noSumD_mono ih) (fun r hr => evCodeD_mono ih hl _ hr) he
          · cases he
        · cases he
    | yield l =>
      unfold evCallN at he ⊢
      split at he
      · exact aRoundD_mono ih hl he
      · cases he

end Go.Dr

/-
  What has one end by the plain run has that one end by the run with several.
-/
namespace Go.Dr
open Go.RowKit

variable {P : Program} {c : CallF} {d : CallD}

def DSub (c : CallF) (d : CallD) : Prop := ∀ t args h r, c t args h = .ok r → d t args h = .ok [r]

theorem DSub.one (hc : DSub c d) : CallLe c (oneD d) := fun t args h r he => by simp only [oneD, hc _ _ _ _ he]

theorem bindD_one {α β : Type} {f : α → RL β} {x : α} {r : List β} (h : f x = .ok r) : bindD f [x] = .ok r := by
  simp only [bindD, h, List.append_nil]

theorem nextM_sub {h : AH} {it : AV} {n : AN} {h' : AH} (he : opNext h it false = .ok (n, h')) : ∃ v, n = .value v ∧ nextD h it = .ok [(v, h')] := by
  unfold opNext at he
  split at he
  · rename_i id
    simp only at he
    unfold nextM at he
    unfold nextD
    split at he
    · rename_i m since seen last hg
      simp only [hg]
      split at he
      · cases he; exact ⟨_, rfl, rfl⟩
      · rename_i m
        split at he
        · rename_i es clock hgm
          simp only [hgm]
          split at he
          · cases he
          · rename_i hno
            rw [if_neg hno]
            split at he
            · rename_i hf; cases he; refine ⟨_, rfl, ?_⟩; simp only [hf]
            · rename_i e hf
              split at he
              · rename_i hlt
                cases he
                refine ⟨_, rfl, ?_⟩
                simp only [hf]
                have : ([e].all fun e => Nat.blt e.born since) = true := by simpa [Nat.blt_eq] using hlt
                simp only [this, if_true]
                rfl
              · cases he
            · cases he
        · cases he
    · cases he
  · cases he

theorem evOper_sub (hc : DSub c d) {o : Oper} {a : AAct} {h : AH} {r : AAct × AH} (he : evOper P c o a h = .ok r) : evOperD P d o a h = .ok [r] := by
  unfold evOper at he
  unfold evOperD
  split
  · rename_i x hx
    have hop := nextOf_ok hx
    have hcomp : comp P o = with1 P x fun a => .ok (.next a false) := by simp only [comp, hop]
    split at he
    · rename_i cc hcc
      rw [hcomp] at hcc
      obtain ⟨ca, ha, hcc⟩ := with1_ok hcc
      cases hcc
      simp only [ha]
      split at he
      · rename_i n h1 hr
        obtain ⟨v, rfl, hn⟩ := nextM_sub (show opNext h (ca.ev a) false = .ok (n, h1) from hr)
        simp only [forceV_eq] at he
        cases he
        simp only [evNextD, hn, List.map_cons, List.map_nil, putD, forceV_eq]
      · cases he
    · cases he
  · split at he
    · rename_i cc hcc
      simp only [hcc]
      unfold evCD
      split at he
      · rename_i n h1 hr
        rw [hr]
        simp only []
        split at he
        · simp only [forceV_eq] at he; cases he; simp only [putD, forceV_eq]
        · cases he; rfl
        · rename_i df
          cases hrd : a.rd with
          | true => rw [hrd] at he; cases he
          | false => rw [hrd] at he; cases he; rfl
        · split at he
          · rename_i v h2 hcall
            simp only [forceV_eq] at he
            cases he
            simp only [hc _ _ _ _ hcall, List.map_cons, List.map_nil, putD, forceV_eq]
          · cases he
        · split at he
          · rename_i v h2 hcall
            simp only [forceV_eq] at he
            cases he
            simp only [hc _ _ _ _ hcall, List.map_cons, List.map_nil, putD, forceV_eq]
          · cases he
      · cases he
    · cases he

theorem evOps_sub (hc : DSub c d) {ops : Array Oper} : ∀ (l : List Oper) {a : AAct} {h : AH} {r : AAct × AH}, evOps P c ops l a h = .ok r → evOpsD P d ops l a h = .ok [r]
  | [], a, h, r, he => by cases he; rfl
  | o :: l, a, h, r, he => by
    simp only [evOps] at he
    simp only [evOpsD]
    split at he
    · rename_i hw
      simp only [hw]
      split at he
      · rename_i hop; simp only [evOper_sub hc hop]; exact bindD_one (evOps_sub hc l he)
      · cases he
    · rename_i hw
      simp only [hw]
      exact evOps_sub hc l he
    · cases he

theorem evLoop_sub {b : AAct → AH → R (AX × AAct × AH)} {b' : AAct → AH → XD} (hb : ∀ a h r, b a h = .ok r → b' a h = .ok [r]) : ∀ {n : Nat} {a : AAct} {h : AH} {r : AX × AAct × AH}, evLoop b n a h = .ok r → evLoopD b' n a h = .ok [r]
  | 0, _, _, _, he => by cases he
  | n + 1, a, h, r, he => by
    simp only [evLoop] at he
    simp only [evLoopD]
    split at he
    · rename_i hbody
      simp only [hb _ _ _ hbody]
      exact bindD_one (evLoop_sub hb he)
    · rename_i hnot
      simp only [hb _ _ _ he]
      refine bindD_one ?_
      split
      · rename_i hx
        obtain ⟨x, a1, h1⟩ := r
        simp only at hx
        subst hx
        exact absurd he (hnot _ _)
      · rfl

theorem opGo_sub (hc : DSub c d) {f : AV} {params : Array Tmp} {assign body : Code} {a : AAct} {h : AH} {r : AX × AAct × AH} (he : opGo c f params assign body a h = .ok r) : opGoD d f params assign body a h = .ok [r] := by
  unfold opGo at he
  unfold opGoD
  split at he
  · cases hb : a.rd with
    | true => rw [hb] at he; cases he
    | false =>
      rw [hb] at he
      simp only [cond_false, forceN_eq] at he ⊢
      split at he
      · rename_i hcall
        simp only [hc _ _ _ _ hcall]
        refine bindD_one ?_
        unfold endGo
        rw [hb]
        split at he
        · rename_i r1 hg
          simp only [hg]
          split at he
          · cases he
          · rename_i hnb
            split at he
            · rename_i hp; cases he; simp only [hp]; rfl
            · rename_i hp; cases he; simp only [hp]; rfl
            · rename_i hp; cases he; simp only [hp]; rfl
            · cases he
        · cases he
      · cases he
  · cases he

theorem evCode_sub (hc : DSub c d) {lf : Nat} : ∀ (k : Code) {a : AAct} {h : AH} {r : AX × AAct × AH}, evCode P c lf k a h = .ok r → evCodeD P d lf k a h = .ok [r]
  | .skip, _, _, _, he => by cases he; rfl
  | .label _, _, _, _, he => by cases he; rfl
  | .exit _, _, _, _, he => by cases he; rfl
  | .ret, _, _, _, he => by cases he; rfl
  | .goto _, _, _, _, he => by cases he
  | .refuse _, _, _, _, he => by cases he
  | .region _ ops draw, a, h, r, he => by
    simp only [evCode] at he
    simp only [evCodeD]
    cases draw with
    | true =>
      simp only [cond_true] at he
      split at he
      · rename_i hop; cases he; simp only [evDraw_mono hc.one hop]
      · cases he
    | false =>
      simp only [cond_false] at he
      split at he
      · rename_i hop; cases he; simp only [evOps_sub hc _ hop, List.map_cons, List.map_nil]
      · cases he
  | .seq x y, a, h, r, he => by
    simp only [evCode] at he
    simp only [evCodeD]
    split at he
    · rename_i hx
      simp only [evCode_sub hc x hx]
      exact bindD_one (evCode_sub hc y he)
    · rename_i hnot
      simp only [evCode_sub hc x he]
      refine bindD_one ?_
      split
      · rename_i hx
        obtain ⟨q, a1, h1⟩ := r
        simp only at hx
        subst hx
        exact absurd he (hnot _ _)
      · rfl
  | .cond o x y, a, h, r, he => by
    simp only [evCode] at he
    simp only [evCodeD]
    split at he
    · rename_i ho
      simp only [ho]
      unfold evCond at he
      split at he
      · rename_i hb; simp only [hb]; exact evCode_sub hc x he
      · rename_i hb; simp only [hb]; exact evCode_sub hc y he
      · cases he
    · cases he
  | .block id k, a, h, r, he => by
    simp only [evCode] at he
    simp only [evCodeD]
    split at he
    · rename_i i a1 h1 hx
      simp only [evCode_sub hc k hx, List.map_cons, List.map_nil]
      cases hb : Nat.beq i id with
      | true => rw [hb] at he; cases he; rfl
      | false => rw [hb] at he; cases he; rfl
    · rename_i hnot
      simp only [evCode_sub hc k he, List.map_cons, List.map_nil]
      obtain ⟨q, a1, h1⟩ := r
      cases q with
      | exit i => exact absurd he (hnot _ _ _)
      | _ => rfl
  | .loop k, a, h, r, he => by
    simp only [evCode] at he
    simp only [evCodeD]
    exact evLoop_sub (fun a h r => evCode_sub hc k) he
  | .scope k, a, h, r, he => by
    simp only [evCode] at he
    simp only [evCodeD]
    split at he
    · cases he
    · simp only [evCode_sub hc k he]
  | .rangeFunc f ps x y, a, h, r, he => by
    simp only [evCode] at he
    simp only [evCodeD]
    split at he
    · rename_i ho; simp only [ho]; exact opGo_sub hc he
    · cases he

theorem runDefers_sub (hc : DSub c d) : ∀ (l : List ADef) {h h' : AH}, runDefers c l h = .ok h' → runDefersD d l h = .ok [h']
  | [], h, h', he => by cases he; rfl
  | x :: l, h, h', he => by
    unfold runDefers at he
    unfold runDefersD
    split at he
    · split at he
      · rename_i hg; simp only [hg]; exact runDefers_sub hc l he
      · cases he
    · split at he
      · rename_i hcf
        simp only [hcf]
        split at he
        · rename_i hcall; simp only [hc _ _ _ _ hcall]; exact bindD_one (runDefers_sub hc l he)
        · cases he
      · cases he
      · cases he

theorem finish_sub (hc : DSub c d) {fn : Func} {x : R (AX × AAct × AH)} {y : XD} (hx : ∀ r, x = .ok r → y = .ok [r]) {r : AV × AH} (he : finishCall P c fn x = .ok r) : finishD P d fn y = .ok [r] := by
  unfold finishCall at he
  split at he
  · rename_i x a h
    rw [hx _ rfl]
    simp only [finishD]
    refine bindD_one ?_
    unfold leaveD
    split at he
    · split at he
      · rename_i hd
        simp only [runDefers_sub hc _ hd]
        refine bindD_one ?_
        split at he
        · rename_i hr; cases he; simp only [hr]
        · cases he
      · cases he
    · split at he
      · rename_i hd
        simp only [runDefers_sub hc _ hd]
        refine bindD_one ?_
        split at he
        · rename_i hr; cases he; simp only [hr]
        · cases he
      · cases he
    · cases he
  · cases he

theorem aRound_sub (hc : DSub c d) {lf : Nat} {l : Nat} {q : ALoop} {args : List AV} {h : AH} {r : AV × AH} (he : aRound P c lf l q args h = .ok r) : aRoundD P d lf l q args h = .ok [r] := by
  unfold aRound at he
  unfold aRoundD
  cases hb : Nat.beq args.length q.params.size with
  | false => rw [hb] at he; cases he
  | true =>
    rw [hb] at he
    simp only [cond_true] at he ⊢
    split at he
    · rename_i hx
      simp only [evCode_sub hc _ hx]
      refine bindD_one ?_
      unfold roundBodyD
      split at he
      · rename_i hg
        simp only [hg]
        split at he
        · rename_i hst
          simp only [hst]
          generalize hres : evCode P c lf q.body _ _ = res at he
          cases res with
          | error e => unfold endRound at he; cases he
          | ok z =>
            simp only [evCode_sub hc _ hres]
            refine bindD_one ?_
            rw [he]; rfl
        · cases he
      · cases he
    · cases he
    · cases he

theorem noSum_sub {S : FuncId → Option (List AV → AH → R (AV × AH))} (hc : DSub c d) : DSub (noSum S c) (noSumD S d) := by
  intro t args h r he
  unfold noSum at he
  unfold noSumD
  split at he
  · rename_i f
    split at he
    · cases he
    · rename_i hs; simp only [hs]; exact hc _ _ _ _ he
  · exact hc _ _ _ _ he

theorem evCall_sub {S : FuncId → Option (List AV → AH → R (AV × AH))} {lf : Nat} : ∀ {n : Nat}, DSub (evCall P S lf n) (evCallN P S lf n)
  | 0 => fun t args h r he => by cases t <;> cases he
  | n + 1 => fun t args h r he => by
    have ih := evCall_sub (S := S) (lf := lf) (n := n)
    cases t with
    | fn f =>
      unfold evCall at he
      unfold evCallN
      split at he
      · rename_i g hs; simp only [hs, he]; rfl
      · rename_i hs
        simp only [hs]
        split at he
        · rename_i fn hf
          simp only [hf]
          split at he
          · rename_i k hk
            simp only [hk]
            cases hb : Nat.ble args.length fn.ntmps with
            | false => rw [hb] at he; cases he
            | true =>
              rw [hb] at he
              simp only [cond_true] at he ⊢
              exact finish_sub (noSum_sub ih) (fun r hr => evCode_sub ih _ hr) he
          · cases he
        · cases he
    | yield l =>
      unfold evCall at he
      unfold evCallN
      split at he
      · rename_i hg; simp only [hg]; exact aRound_sub ih he
      · cases he

end Go.Dr
