/-
  What a piece of code makes sure of: code as read, and its weakest preconditions; no fuel in sight.
-/
import Derived.Test.YthkoheaklmgonaaDoorDrJoin
import Derived.Test.YthkoheaklmgonaaDoorDrMono
namespace Go.Dr

/-! ### code, read -/

/-- a row: where it goes, its guard, what it does -/
structure CRow where
  d : Option Nat
  g : Option (Nat × Bool)
  c : COp
  deriving Inhabited

inductive CEnt where
  | row (r : CRow)
  | stage (l : List CRow)
  deriving Inhabited

inductive CC where
  | skip
  | ops (l : List CEnt)
  | seq (x y : CC)
  | cond (c : CO) (x y : CC)
  | block (id : Nat) (c : CC)
  | loop (c : CC)
  | exit (id : Nat)
  | ret
  | go (n : Nat) (f : CO) (params : Array Tmp) (assign body : Code)
  deriving Inhabited

inductive CRes where
  | tmp (t : Nat)
  | one (p : Nat)
  | many (p n : Nat)
  deriving Inhabited

structure CF where
  n : Nat
  res : List CRes
  c : CC
  deriving Inhabited

section
variable (P : Program)

def COp.isDefer : COp → Bool
  | .defer _ _ => true
  | _ => false

def guardOf (ops : Array Oper) (o : Oper) : R (Option (Nat × Bool)) :=
  match o.guard with
  | none => .ok none
  | some (j, w) => match (ops[j]?).bind (·.dst) with
    | some d => .ok (some (d, w))
    | none => .error "guard"

def dstOk (n : Nat) : Option Tmp → Bool
  | some d => Nat.blt d n
  | none => true

/-- an operation that never comes out -/
def stuckOp : COp := .extract (.c .nilp) 0

def compOr (o : Oper) : COp := match comp P o with | .ok c => c | .error _ => stuckOp

def compRow (n : Nat) (rd : Bool) (ops : Array Oper) (o : Oper) : R CRow :=
  match guardOf ops o with
  | .ok g => bif Bool.and (dstOk n o.dst) (Bool.not (Bool.and rd (compOr P o).isDefer)) then .ok ⟨o.dst, g, compOr P o⟩ else .error "row"
  | .error e => .error e

def compRows (n : Nat) (rd : Bool) (ops : Array Oper) : List Oper → R (List CEnt)
  | [] => .ok []
  | o :: l => match compRow P n rd ops o with
    | .ok r => match compRows n rd ops l with
      | .ok l => .ok (.row r :: l)
      | .error e => .error e
    | .error e => .error e

def compAgain (ops : Array Oper) : List DRow → R (List CRow)
  | [] => .ok []
  | r :: l => match guardOf ops r.o with
    | .ok g => match compAgain ops l with
      | .ok l => .ok (⟨r.o.dst, g, r.c⟩ :: l)
      | .error e => .error e
    | .error e => .error e

def compEnts (n : Nat) (rd : Bool) (ops : Array Oper) : List DEnt → R (List CEnt)
  | [] => .ok []
  | .op o :: l => match compRow P n rd ops o with
    | .ok r => match compEnts n rd ops l with
      | .ok l => .ok (.row r :: l)
      | .error e => .error e
    | .error e => .error e
  | .stage re :: l => match compAgain ops re with
    | .ok re => match compEnts n rd ops l with
      | .ok l => .ok (match re with | [] => l | re => .stage re :: l)
      | .error e => .error e
    | .error e => .error e

def compC (n : Nat) (rd : Bool) : Code → R CC
  | .skip => .ok .skip
  | .label _ => .ok .skip
  | .region _ ops draw => bif draw then (match plan P ops with
      | .ok l => match compEnts P n rd ops l with | .ok l => .ok (.ops l) | .error e => .error e
      | .error e => .error e)
    else match compRows P n rd ops ops.toList with | .ok l => .ok (.ops l) | .error e => .error e
  | .seq x y => match compC n rd x with
    | .ok a => match compC n rd y with | .ok b => .ok (.seq a b) | .error e => .error e
    | .error e => .error e
  | .cond c x y => match cO P c with
    | .ok c => match compC n rd x with
      | .ok a => match compC n rd y with | .ok b => .ok (.cond c a b) | .error e => .error e
      | .error e => .error e
    | .error e => .error e
  | .block id c => match compC n rd c with | .ok a => .ok (.block id a) | .error e => .error e
  | .loop c => match compC n rd c with | .ok a => .ok (.loop a) | .error e => .error e
  | .exit id => .ok (.exit id)
  | .ret => .ok .ret
  | .scope c => compC n rd c
  | .rangeFunc f params assign body => match cO P f with
    | .ok f => bif rd then .error "rangeFunc in a round" else .ok (.go n f params assign body)
    | .error e => .error e
  | .goto _ => .error "goto"
  | .refuse why => .error why

def compRes : List ResultVar → R (List CRes)
  | [] => .ok []
  | .tmp t :: l => match compRes l with | .ok r => .ok (.tmp t :: r) | .error e => .error e
  | .cell p t :: l => match compRes l with
    | .ok r => match aggT P t, szOf P t with
      | .ok true, .ok n => .ok (.many p n :: r)
      | .ok false, _ => .ok (.one p :: r)
      | _, _ => .error "results"
    | .error e => .error e

/-- a function, read -/
def compF (f : FuncId) : R CF :=
  match P.funcs[f]? with
  | some fn => match fn.body with
    | some c => match compC P fn.ntmps false c with
      | .ok cc => match compRes P fn.results.toList with
        | .ok r => .ok ⟨fn.ntmps, r, cc⟩
        | .error e => .error e
      | .error e => .error e
    | none => .error "no body"
  | none => .error "no function"

end

/-! ### operations over what the variables hold -/

abbrev Sg := Nat → AV

def upd (σ : Sg) (d : Option Nat) (v : AV) : Sg :=
  match d with
  | some d => fun i => if i = d then v else σ i
  | none => σ

theorem nr0 {α : Sort _} {a b : α} (h : a = b) : a = b := h
@[simp] theorem upd_none (σ : Sg) (v : AV) : upd σ none v = σ := nr0 rfl
@[simp] theorem upd_some (σ : Sg) (d : Nat) (v : AV) (i : Nat) : upd σ (some d) v i = if i = d then v else σ i := nr0 rfl

def CO.evS (σ : Sg) : CO → AV
  | .t i => σ i
  | .c v => v

@[simp] theorem CO.evS_t (σ : Sg) (i : Nat) : (CO.t i).evS σ = σ i := nr0 rfl
@[simp] theorem CO.evS_c (σ : Sg) (v : AV) : (CO.c v).evS σ = v := nr0 rfl

def evLS (σ : Sg) : List CO → List AV
  | [] => []
  | x :: l => x.evS σ :: evLS σ l

def evOS (σ : Sg) : Option CO → Option AV
  | none => none
  | some x => some (x.evS σ)

@[simp] theorem evLS_nil (σ : Sg) : evLS σ [] = [] := nr0 rfl
@[simp] theorem evLS_cons (σ : Sg) (x : CO) (l : List CO) : evLS σ (x :: l) = x.evS σ :: evLS σ l := nr0 rfl
@[simp] theorem evOS_none (σ : Sg) : evOS σ none = none := nr0 rfl
@[simp] theorem evOS_some (σ : Sg) (x : CO) : evOS σ (some x) = some (x.evS σ) := nr0 rfl

def fillS (σ : Sg) (cells : List AV) : List (Nat × Nat × CO) → R (List AV)
  | [] => .ok cells
  | (off, size, x) :: rest =>
    let l := (x.evS σ).cells
    bif Nat.beq l.length size && Nat.ble (off + l.length) cells.length then fillS σ (splice cells off l) rest else .error "fill"

def opBuildS (z : List AV) (pl : List (Nat × Nat × CO)) (σ : Sg) : R AV := match fillS σ z pl with | .ok l => .ok (.agg l) | .error e => .error e
def opBuildSliceS (len es : Nat) (z : List AV) (pl : List (Nat × Nat × CO)) (σ : Sg) (h : AH) : RN :=
  match fillS σ z pl with
  | .ok l => okV (.slice h.next 0 len len true es) (h.push (.cells l false))
  | .error e => .error e

section
variable (P : Program)

/-- an operation's run, by what the variables hold -/
def evS (c : COp) (s : Sg) (h : AH) : RN :=
  match c with
  | .move x => okV (x.evS s) h
  | .pick c x y => keepH h (opPick (c.evS s) (x.evS s) (y.evS s))
  | .new z => opNew z h
  | .box x => opNew (x.evS s).cells h
  | .build z pl => keepH h (opBuildS z pl s)
  | .buildSlice len es z pl => opBuildSliceS len es z pl s h
  | .load1 x => opLoad1 (x.evS s) h
  | .loadN n x => opLoadN n (x.evS s) h
  | .store n x y => opStore n (x.evS s) (y.evS s) h
  | .nilCheck x => opNilCheck (x.evS s) h
  | .bin op t lit x y => keepH h (opBin P op t lit (x.evS s) (y.evS s))
  | .un op x => keepH h (opUn op (x.evS s))
  | .conv c x => opConv c (x.evS s) h
  | .mkI t x => okV (.iface t (x.evS s)) h
  | .mkF f first captured => okV (.func (.func f) (evLS s first) (evLS s captured)) h
  | .mkM r => opMkM (evOS s r) h
  | .mkS es bytes z l c => opMkS es bytes z (l.evS s) (c.evS s) h
  | .sliceS x lo hi => keepH h (opSliceS (x.evS s) (evOS s lo) (evOS s hi))
  | .sliceV es x lo hi mx => keepH h (opSliceV es (x.evS s) (evOS s lo) (evOS s hi) (evOS s mx))
  | .sliceA n es x lo hi mx => keepH h (opSliceA n es h (x.evS s) (evOS s lo) (evOS s hi) (evOS s mx))
  | .fieldAddr off x => keepH h (opFieldAddr off (x.evS s))
  | .field1 off x => keepH h (aggOne (x.evS s) off)
  | .fieldN off n x => keepH h (aggPart (x.evS s) off n)
  | .idxA len es x i => keepH h (opIdxA len es (x.evS s) (i.evS s))
  | .idxV es x i => keepH h (opIdxV es (x.evS s) (i.evS s))
  | .index1 len es x i => keepH h (opIndex true len es (x.evS s) (i.evS s))
  | .indexN len es x i => keepH h (opIndex false len es (x.evS s) (i.evS s))
  | .indexS x i => keepH h (opIndexS (x.evS s) (i.evS s))
  | .lookup kt z ok x k => keepH h (opLookup P kt z ok h (x.evS s) (k.evS s))
  | .upd kt m k v => skipH (opUpd P kt h (m.evS s) (k.evS s) (v.evS s))
  | .mapEntry kt z m k => opMapEntry P kt z h (m.evS s) (k.evS s)
  | .entryStore m t v => skipH (opEntryStore h (m.evS s) (t.evS s) (v.evS s))
  | .rangeS x => opRangeS h (x.evS s)
  | .rangeM x => opRangeM h (x.evS s)
  | .next it b => opNext h (it.evS s) b
  | .entry it => keepH h (opEntry h (it.evS s))
  | .tassert x t ok => keepH h (opTypeAssert P (x.evS s) t ok)
  | .extract x i => keepH h (opExtract (x.evS s) i)
  | .app es bytes x y => opApp es bytes (x.evS s) (y.evS s) h
  | .appZ es bytes z x y => opAppZ es bytes z (x.evS s) (y.evS s) h
  | .lenK n => okV (.int .i64 (.ofNat n)) h
  | .lenS x => keepH h (opLenS (x.evS s))
  | .lenV x => keepH h (opLenV (x.evS s))
  | .lenM x => keepH h (opLenM h (x.evS s))
  | .capV x => keepH h (opCapV (x.evS s))
  | .copy es d x => opCopy es (d.evS s) (x.evS s) h
  | .delete kt m k => opDelete P kt (m.evS s) (k.evS s) h
  | .clear es z x => opClear es z (x.evS s) h
  | .mm isMax x l => keepH h (foldMM isMax (x.evS s) (evLS s l))
  | .callV f args => callVal (f.evS s) (evLS s args) h
  | .callM r name args => callMeth P (r.evS s) name (evLS s args) h
  | .defer f args => opDefer (f.evS s) (evLS s args) h

end

theorem CO.ev_eq (a : AAct) (x : CO) : x.ev a = x.evS a.val := by cases x <;> rfl
theorem evL_eq (a : AAct) : ∀ l : List CO, evL a l = evLS a.val l
  | [] => rfl
  | x :: l => by rw [evL, evLS, evL_eq a l, CO.ev_eq]
theorem evOO_eq (a : AAct) (x : Option CO) : evOO a x = evOS a.val x := by cases x <;> simp [evOO, evOS, CO.ev_eq]
theorem fill_eq (a : AAct) : ∀ (l : List (Nat × Nat × CO)) (c : List AV), fillA a c l = fillS a.val c l
  | [], _ => rfl
  | (off, size, x) :: rest, c => by
    rw [fillA, fillS, CO.ev_eq]
    simp only [fill_eq a rest]

theorem evC_eq (P : Program) (c : COp) (a : AAct) (h : AH) : evC P c a h = evS P c a.val h := by
  cases c <;> simp only [evC, evS, CO.ev_eq, evL_eq, evOO_eq, opBuild, opBuildS, opBuildSlice, opBuildSliceS, fill_eq] <;> rfl

theorem AAct.put_val (a : AAct) (d : Option Tmp) (v : AV) (h : dstOk a.n d = true) : (a.put d v).val = upd a.val d v := by
  cases d with
  | none => rfl
  | some d =>
    have h' : Nat.blt d a.n = true := h
    funext i
    simp only [AAct.put, h', cond_true, AAct.val, PT.get_set, upd]
    by_cases e : i = d
    · simp [e]
    · simp [e]

theorem AAct.put_same (a : AAct) (d : Option Tmp) (v : AV) : (a.put d v).n = a.n ∧ (a.put d v).ds = a.ds ∧ (a.put d v).rd = a.rd := by
  cases d with
  | none => exact ⟨rfl, rfl, rfl⟩
  | some d =>
    simp only [AAct.put]
    cases Nat.blt d a.n <;> exact ⟨rfl, rfl, rfl⟩

/-! ### what code makes sure of -/

inductive WX where
  | normal
  | exit (id : Nat)
  | ret
  deriving Inhabited

def WX.ax : WX → AX
  | .normal => .normal
  | .exit i => .exit i
  | .ret => .ret

abbrev Post := WX → Sg → List ADef → AH → Prop
abbrev Sums := FuncId → Option (List AV → AH → R (AV × AH))

section
variable (P : Program) (S : Sums)

def cl (N : Nat) : CallF := evCall P S N N

/-- a call comes out with R -/
def Ev (t : Tgt) (args : List AV) (h : AH) (K : AV → AH → Prop) : Prop := ∃ N v h', cl P S N t args h = .ok (v, h') ∧ K v h'

def wpR (r : RN) (K : AV → AH → Prop) (D : ADef → AH → Prop) : Prop :=
  match r with
  | .ok (n, h) => match n with
    | .value v => K v h
    | .skip => K aundef h
    | .enter f args => Ev P S (.fn f) args h K
    | .yield l args => Ev P S (.yield l) args h K
    | .defer d => D d h
  | .error _ => False

def wpG (v : AV) (w : Bool) (x y : Prop) : Prop :=
  match v with
  | .bool b => if b = w then x else y
  | _ => False

/-- a guard: what is not there is not wanted -/
def wpGu (v : AV) (w : Bool) (x y : Prop) : Prop :=
  match v with
  | .bool b => if b = w then x else y
  | .raw _ => False
  | _ => y

def wpAgain : List CRow → Sg → AH → Prop
  | [], _, _ => True
  | r :: l, σ, h =>
    (match r.g with
      | none => ∃ v h', evS P r.c σ h = .ok (.value v, h') ∧ ∀ d, r.d = some d → eqAV 12 v (σ d) = true
      | some (t, w) => wpGu (σ t) w (∃ v h', evS P r.c σ h = .ok (.value v, h') ∧ ∀ d, r.d = some d → eqAV 12 v (σ d) = true) True) ∧ wpAgain l σ h

def wpOps : List CEnt → Post → Sg → List ADef → AH → Prop
  | [], Q, σ, ds, h => Q .normal σ ds h
  | .row r :: l, Q, σ, ds, h => match r.g with
    | none => wpR P S (evS P r.c σ h) (fun v h => wpOps l Q (upd σ r.d v) ds h) (fun df h => wpOps l Q (upd σ r.d aundef) (df :: ds) h)
    | some (t, w) => wpGu (σ t) w (wpR P S (evS P r.c σ h) (fun v h => wpOps l Q (upd σ r.d v) ds h) (fun df h => wpOps l Q (upd σ r.d aundef) (df :: ds) h))
        (wpOps l Q (upd σ r.d aundef) ds h)
  | .stage re :: l, Q, σ, ds, h => wpAgain P re σ h ∧ wpOps l Q σ ds h

def Kblk (id : Nat) (Q : Post) : Post := fun x σ ds h => match x with
  | .exit i => if i = id then Q .normal σ ds h else Q (.exit i) σ ds h
  | x => Q x σ ds h

abbrev Inv := Nat → Sg → List ADef → AH → Prop

def Kloop (I : Inv) (k : Nat) (Q : Post) : Post := fun x σ ds h => match x with
  | .normal => ∃ k', k' < k ∧ I k' σ ds h
  | x => Q x σ ds h

def valT (t : PT AV) (i : Nat) : AV := match t.get i with | some v => v | none => aundef

/-- after a range over a function -/
def Kgo (Q : Post) (σ : Sg) (ds : List ADef) (did : Nat) : AV → AH → Prop := fun _ h =>
  ∃ r, h.get (did + 1) = some (.loop r) ∧ r.state ≠ .busy ∧ match r.pending with
    | none => Q .normal σ (.collected did :: ds) (h.set (did + 1) (.loop { r with state := .exhausted }))
    | some .ret => Q .ret σ (.collected did :: ds) (h.set (did + 1) (.loop { r with state := .exhausted }))
    | some (.exit id) => Q (.exit id) σ (.collected did :: ds) (h.set (did + 1) (.loop { r with state := .exhausted }))
    | some _ => False

def wpGo (f : AV) (n : Nat) (params : Array Tmp) (assign body : Code) (Q : Post) (σ : Sg) (ds : List ADef) (h : AH) : Prop :=
  match f with
  | .func (.func g) first captured => ∀ tmps : PT AV, (∀ i, valT tmps i = σ i) →
      Ev P S (.fn g) (first ++ (.func (.yield (h.next + 1)) [] [] :: captured))
        ((h.push (.deferred (some []))).push (.loop { state := .ready, pending := none, n := n, tmps := tmps, params, assign, body })) (Kgo Q σ ds h.next)
  | _ => False

def wpC : CC → Post → Sg → List ADef → AH → Prop
  | .skip, Q, σ, ds, h => Q .normal σ ds h
  | .ops l, Q, σ, ds, h => wpOps P S l Q σ ds h
  | .seq x y, Q, σ, ds, h => wpC x (fun r σ ds h => match r with | .normal => wpC y Q σ ds h | r => Q r σ ds h) σ ds h
  | .cond c x y, Q, σ, ds, h => wpG (c.evS σ) true (wpC x Q σ ds h) (wpC y Q σ ds h)
  | .block id c, Q, σ, ds, h => wpC c (Kblk id Q) σ ds h
  | .loop c, Q, σ, ds, h => ∃ (I : Inv) (k : Nat), I k σ ds h ∧ ∀ k σ ds h, I k σ ds h → wpC c (Kloop I k Q) σ ds h
  | .exit id, Q, σ, ds, h => Q (.exit id) σ ds h
  | .ret, Q, σ, ds, h => Q .ret σ ds h
  | .go n f params assign body, Q, σ, ds, h => wpGo P S (f.evS σ) n params assign body Q σ ds h

def Kseq (y : CC) (Q : Post) : Post := fun r σ ds h => match r with | .normal => wpC P S y Q σ ds h | r => Q r σ ds h

end

/-! ### soundness -/

section
variable {P : Program} {S : Sums}

theorem cl_mono {N N' : Nat} (h : N ≤ N') : CallLe (cl P S N) (cl P S N') := evCall_mono h h

theorem Ev.mono {t : Tgt} {args : List AV} {h : AH} {K K' : AV → AH → Prop} (e : Ev P S t args h K) (hk : ∀ v h', K v h' → K' v h') : Ev P S t args h K' := by
  obtain ⟨N, v, h', e, k⟩ := e
  exact ⟨N, v, h', e, hk _ _ k⟩

/-- is a guarded operation wanted -/
def gw (v : AV) (w : Bool) : R Bool := match v with
  | .bool b => .ok (b == w)
  | .raw _ => .error "guard"
  | _ => .ok false

theorem guard_wanted {ops : Array Oper} {o : Oper} {a : AAct} {g : Option (Nat × Bool)} (hg : guardOf ops o = .ok g) :
    (g = none ∧ wantedA ops o a = .ok true) ∨ ∃ t w, g = some (t, w) ∧ wantedA ops o a = gw (a.val t) w := by
  unfold guardOf at hg
  unfold wantedA
  split at hg
  · rename_i e; cases hg; rw [e]; exact .inl ⟨rfl, rfl⟩
  · rename_i j w e
    rw [e]
    split at hg
    · rename_i d e2
      cases hg
      simp only [e2]
      exact .inr ⟨d, w, rfl, rfl⟩
    · cases hg

theorem wpGu_cases {v : AV} {w : Bool} {x y : Prop} (h : wpGu v w x y) : (∃ b, v = .bool b ∧ b = w ∧ x) ∨ (gw v w = .ok false ∧ y) := by
  cases v with
  | bool b =>
    simp only [wpGu] at h
    by_cases e : b = w
    · rw [if_pos e] at h; exact .inl ⟨b, rfl, e, h⟩
    · rw [if_neg e] at h; exact .inr ⟨by simp [gw, e], h⟩
  | raw => exact h.elim
  | _ => exact .inr ⟨rfl, h⟩

theorem compRow_ok {n : Nat} {rd : Bool} {ops : Array Oper} {o : Oper} {r : CRow} (h : compRow P n rd ops o = .ok r) :
    r.c = compOr P o ∧ guardOf ops o = .ok r.g ∧ r.d = o.dst ∧ dstOk n o.dst = true ∧ (rd = true → r.c.isDefer = false) := by
  unfold compRow at h
  split at h
  · rename_i g hg
    cases hb : Bool.and (dstOk n o.dst) (Bool.not (Bool.and rd (compOr P o).isDefer)) with
    | false => rw [hb] at h; cases h
    | true =>
      rw [hb] at h
      cases h
      simp only [Bool.and_eq_true, Bool.not_eq_true'] at hb
      refine ⟨rfl, hg, rfl, hb.1, fun e => ?_⟩
      have := hb.2
      rw [e] at this
      simpa using this
  · cases h

theorem isDefer_of {c : COp} {σ : Sg} {h h' : AH} {d : ADef} (e : evS P c σ h = .ok (.defer d, h')) : c.isDefer = true := by
  have key : ∀ (r : R AV) (h : AH), keepH h r = .ok (.defer d, h') → False := by
    intro r h e; unfold keepH at e; split at e <;> cases e
  have key2 : ∀ (r : R AH), skipH r = .ok (.defer d, h') → False := by
    intro r e; unfold skipH at e; split at e <;> cases e
  cases c <;> simp only [evS, okV, opNew] at e <;> first
    | rfl
    | exact (key _ _ e).elim
    | exact (key2 _ e).elim
    | cases e
    | skip
  all_goals exfalso
  case buildSlice => unfold opBuildSliceS okV at e; split at e <;> cases e
  case load1 => unfold opLoad1 at e; split at e; exact key _ _ e; cases e
  case loadN => unfold opLoadN okV at e; split at e; split at e <;> cases e; cases e
  case store =>
    unfold opStore at e
    split at e
    · rw [cond_eq_ite] at e
      split at e
      · exact key2 _ e
      · cases e
    · cases e
  case nilCheck => unfold opNilCheck okV at e; split at e; cases e; cases e; cases e; split at e <;> cases e; cases e
  case conv => unfold opConv okV at e; repeat (first | cases e | split at e)
  case mkM => unfold opMkM okV at e; split at e <;> cases e
  case mkS => unfold opMkS okV at e; repeat (first | cases e | split at e)
  case mapEntry => unfold opMapEntry okV at e; repeat (first | cases e | split at e)
  case rangeS => unfold opRangeS okV at e; split at e <;> cases e
  case rangeM => unfold opRangeM okV at e; repeat (first | cases e | split at e)
  case next =>
    unfold opNext at e
    split at e
    · split at e
      · unfold nextS okV at e
        split at e
        · rename_i s pos _
          cases hb : Nat.blt pos s.length <;> rw [hb] at e
          · cases e
          · simp only [cond_true, forceN_eq] at e; cases e
        · cases e
      · unfold nextM okV at e; repeat (first | cases e | split at e)
    · cases e
  case app =>
    unfold opApp at e
    split at e
    · unfold appTo okV at e
      simp only [forceN_eq, cond_eq_ite] at e
      repeat (first | cases e | split at e)
    · cases e
  case appZ =>
    unfold opAppZ at e
    split at e
    · split at e
      · unfold appTo okV at e
        simp only [forceN_eq, cond_eq_ite] at e
        repeat (first | cases e | split at e)
      · cases e
    · cases e
  case copy => unfold opCopy okV at e; repeat (first | cases e | split at e)
  case delete => unfold opDelete okV at e; repeat (first | cases e | split at e)
  case clear => unfold opClear okV at e; repeat (first | cases e | split at e)
  case callV => unfold callVal callFn at e; repeat (first | cases e | split at e)
  case callM => unfold callMeth callFn at e; repeat (first | cases e | split at e)

/-- what stays as a piece of code runs -/
structure Keep (n : Nat) (rd : Bool) (a : AAct) : Prop where
  n : a.n = n
  rd : a.rd = rd

theorem Keep.put {n : Nat} {rd : Bool} {a : AAct} (k : Keep n rd a) (d : Option Tmp) (v : AV) : Keep n rd (a.put d v) :=
  ⟨(a.put_same d v).1.trans k.n, (a.put_same d v).2.2.trans k.rd⟩

theorem oper_ok {n : Nat} {rd : Bool} {o : Oper} {c : COp} {a : AAct} {h : AH} {K : AV → AH → Prop} {D : ADef → AH → Prop} (hc' : c = compOr P o) (hk : Keep n rd a) (hd : dstOk n o.dst = true)
    (hrd : rd = true → c.isDefer = false) (hw : wpR P S (evS P c a.val h) K D) :
    ∃ N a' h', evOper P (cl P S N) o a h = .ok (a', h') ∧ Keep n rd a' ∧
      ((∃ v, a'.val = upd a.val o.dst v ∧ a'.ds = a.ds ∧ K v h') ∨ (∃ df, a'.val = upd a.val o.dst aundef ∧ a'.ds = df :: a.ds ∧ D df h')) := by
  have hd' : dstOk a.n o.dst = true := by rw [hk.n]; exact hd
  have hval : ∀ v, (a.put o.dst v).val = upd a.val o.dst v := fun v => a.put_val _ _ hd'
  have hds : ∀ v, (a.put o.dst v).ds = a.ds := fun v => (a.put_same _ _).2.1
  have hc : comp P o = .ok c := by
    unfold compOr at hc'
    split at hc'
    · rename_i c1 e; rw [e, hc']
    · subst hc'; exact hw.elim
  unfold evOper
  simp only [hc, evC_eq, forceV_eq]
  generalize hres : evS P c a.val h = res at hw
  unfold wpR at hw
  cases res with
  | error e => exact hw.elim
  | ok p =>
    obtain ⟨m, h1⟩ := p
    cases m with
    | value v => exact ⟨0, _, _, rfl, hk.put _ _, .inl ⟨v, hval v, hds v, hw⟩⟩
    | skip => exact ⟨0, _, _, rfl, hk.put _ _, .inl ⟨_, hval _, hds _, hw⟩⟩
    | enter f args =>
      obtain ⟨N, v, h2, e, k⟩ := hw
      exact ⟨N, a.put o.dst v, h2, by simp only [e], hk.put _ _, .inl ⟨v, hval v, hds v, k⟩⟩
    | yield f args =>
      obtain ⟨N, v, h2, e, k⟩ := hw
      exact ⟨N, a.put o.dst v, h2, by simp only [e], hk.put _ _, .inl ⟨v, hval v, hds v, k⟩⟩
    | defer d =>
      have hr : a.rd = false := by
        cases e : a.rd with
        | false => rfl
        | true =>
          have := hrd (hk.rd.symm.trans e)
          rw [isDefer_of hres] at this
          cases this
      refine ⟨0, (⟨a.n, a.ts, d :: a.ds, a.rd⟩ : AAct).put o.dst aundef, h1, by simp only [hr, cond_false], Keep.put (a := ⟨a.n, a.ts, d :: a.ds, a.rd⟩) ⟨hk.n, hk.rd⟩ _ _, .inr ⟨d, ?_, ?_, hw⟩⟩
      · exact AAct.put_val ⟨a.n, a.ts, d :: a.ds, a.rd⟩ o.dst aundef hd'
      · exact (AAct.put_same _ _ _).2.1

theorem rows_ok {n : Nat} {rd : Bool} {ops : Array Oper} : ∀ (l : List Oper) (l' : List CEnt), compRows P n rd ops l = .ok l' → ∀ {Q : Post} {a : AAct} {h : AH}, Keep n rd a → wpOps P S l' Q a.val a.ds h →
    ∃ N a' h', evOps P (cl P S N) ops l a h = .ok (a', h') ∧ Keep n rd a' ∧ Q .normal a'.val a'.ds h'
  | [], l', hc, Q, a, h, hk, hw => by
    cases hc
    exact ⟨0, a, h, rfl, hk, hw⟩
  | o :: l, l', hc, Q, a, h, hk, hw => by
    simp only [compRows] at hc
    split at hc
    · rename_i r hr
      split at hc
      · rename_i l2 hl2
        cases hc
        obtain ⟨h1, h2, h3, h4, h5⟩ := compRow_ok hr
        have goOn : wpR P S (evS P r.c a.val h) (fun v h => wpOps P S l2 Q (upd a.val r.d v) a.ds h) (fun df h => wpOps P S l2 Q (upd a.val r.d aundef) (df :: a.ds) h) → wantedA ops o a = .ok true →
            ∃ N a' h', evOps P (cl P S N) ops (o :: l) a h = .ok (a', h') ∧ Keep n rd a' ∧ Q .normal a'.val a'.ds h' := by
          intro hw hwant
          rw [h3] at hw
          obtain ⟨N1, a1, g1, e1, k1, hcase⟩ := oper_ok h1 hk h4 h5 hw
          have : wpOps P S l2 Q a1.val a1.ds g1 := by
            rcases hcase with ⟨v, b1, b2, b3⟩ | ⟨df, b1, b2, b3⟩
            · rw [b1, b2]; exact b3
            · rw [b1, b2]; exact b3
          obtain ⟨N2, a2, g2, e2, k2, q⟩ := rows_ok l l2 hl2 k1 this
          refine ⟨max N1 N2, a2, g2, ?_, k2, q⟩
          simp only [evOps, hwant, evOper_mono (cl_mono (Nat.le_max_left N1 N2)) e1]
          exact evOps_mono (cl_mono (Nat.le_max_right N1 N2)) _ e2
        rcases guard_wanted (a := a) h2 with ⟨g, hwant⟩ | ⟨t, w, g, hwant⟩
        · simp only [wpOps, g] at hw
          exact goOn hw hwant
        · simp only [wpOps, g] at hw
          rcases wpGu_cases hw with ⟨b, hb, hbw, hw⟩ | ⟨hno, hw⟩
          · rw [hb] at hwant
            exact goOn hw (by rw [hwant]; simp [gw, hbw])
          · rw [h3] at hw
            have hv := AAct.put_val a o.dst aundef (by rw [hk.n]; exact h4)
            have hd := (a.put_same o.dst aundef).2.1
            obtain ⟨N2, a2, g2, e2, k2, q⟩ := rows_ok l l2 hl2 (hk.put o.dst aundef) (by rw [hv, hd]; exact hw)
            refine ⟨N2, a2, g2, ?_, k2, q⟩
            simp only [evOps, hwant.trans hno]
            exact e2
      · cases hc
    · cases hc

theorem againS_ok {ops : Array Oper} : ∀ (re : List DRow) (l : List CRow), compAgain ops re = .ok l → ∀ {a : AAct} {h : AH}, wpAgain P l a.val h → again P ops re a h = true
  | [], l, hc, a, h, hw => rfl
  | r :: re, l, hc, a, h, hw => by
    simp only [compAgain] at hc
    split at hc
    · rename_i g hg
      split at hc
      · rename_i l2 hl2
        cases hc
        have ih := againS_ok re l2 hl2 (a := a) (h := h)
        have key : (∃ v h', evS P r.c a.val h = .ok (.value v, h') ∧ ∀ d, r.o.dst = some d → eqAV 12 v (a.val d) = true) → wantedA ops r.o a = .ok true → wpAgain P l2 a.val h → again P ops (r :: re) a h = true := by
          rintro ⟨v, h', e, hd⟩ hwant hl
          simp only [again, hwant, evC_eq, e, ih hl, Bool.and_true]
          cases hdst : r.o.dst with
          | none => rfl
          | some d => exact hd d hdst
        simp only [wpAgain] at hw
        rcases guard_wanted (a := a) hg with ⟨g', hwant⟩ | ⟨t, w, g', hwant⟩
        · subst g'
          exact key hw.1 hwant hw.2
        · subst g'
          obtain ⟨h1, h2⟩ := hw
          rcases wpGu_cases h1 with ⟨b, hb, hbw, h1⟩ | ⟨hno, _⟩
          · rw [hb] at hwant
            exact key h1 (by rw [hwant]; simp [gw, hbw]) h2
          · simp only [again, hwant.trans hno]
            exact ih h2
      · cases hc
    · cases hc

theorem ents_ok {n : Nat} {rd : Bool} {ops : Array Oper} : ∀ (l : List DEnt) (l' : List CEnt), compEnts P n rd ops l = .ok l' → ∀ {Q : Post} {a : AAct} {h : AH}, Keep n rd a → wpOps P S l' Q a.val a.ds h →
    ∃ N a' h', evEnts P (cl P S N) ops l a h = .ok (a', h') ∧ Keep n rd a' ∧ Q .normal a'.val a'.ds h'
  | [], l', hc, Q, a, h, hk, hw => by
    cases hc
    exact ⟨0, a, h, rfl, hk, hw⟩
  | .stage re :: l, l', hc, Q, a, h, hk, hw => by
    simp only [compEnts] at hc
    split at hc
    · rename_i re2 hre
      split at hc
      · rename_i l2 hl2
        have hw' : wpAgain P re2 a.val h ∧ wpOps P S l2 Q a.val a.ds h := by
          cases hc
          cases re2 with
          | nil => exact ⟨trivial, hw⟩
          | cons => exact hw
        obtain ⟨N, a', h', e, k, q⟩ := ents_ok l l2 hl2 hk hw'.2
        refine ⟨N, a', h', ?_, k, q⟩
        simp only [evEnts, againS_ok re re2 hre hw'.1, cond_true]
        exact e
      · cases hc
    · cases hc
  | .op o :: l, l', hc, Q, a, h, hk, hw => by
    simp only [compEnts] at hc
    split at hc
    · rename_i r hr
      split at hc
      · rename_i l2 hl2
        cases hc
        obtain ⟨h1, h2, h3, h4, h5⟩ := compRow_ok hr
        have goOn : wpR P S (evS P r.c a.val h) (fun v h => wpOps P S l2 Q (upd a.val r.d v) a.ds h) (fun df h => wpOps P S l2 Q (upd a.val r.d aundef) (df :: a.ds) h) → wantedA ops o a = .ok true →
            ∃ N a' h', evEnts P (cl P S N) ops (.op o :: l) a h = .ok (a', h') ∧ Keep n rd a' ∧ Q .normal a'.val a'.ds h' := by
          intro hw hwant
          rw [h3] at hw
          obtain ⟨N1, a1, g1, e1, k1, hcase⟩ := oper_ok h1 hk h4 h5 hw
          have : wpOps P S l2 Q a1.val a1.ds g1 := by
            rcases hcase with ⟨v, b1, b2, b3⟩ | ⟨df, b1, b2, b3⟩
            · rw [b1, b2]; exact b3
            · rw [b1, b2]; exact b3
          obtain ⟨N2, a2, g2, e2, k2, q⟩ := ents_ok l l2 hl2 k1 this
          refine ⟨max N1 N2, a2, g2, ?_, k2, q⟩
          simp only [evEnts, hwant, evOper_mono (cl_mono (Nat.le_max_left N1 N2)) e1]
          exact evEnts_mono (cl_mono (Nat.le_max_right N1 N2)) _ e2
        rcases guard_wanted (a := a) h2 with ⟨g, hwant⟩ | ⟨t, w, g, hwant⟩
        · simp only [wpOps, g] at hw
          exact goOn hw hwant
        · simp only [wpOps, g] at hw
          rcases wpGu_cases hw with ⟨b, hb, hbw, hw⟩ | ⟨hno, hw⟩
          · rw [hb] at hwant
            exact goOn hw (by rw [hwant]; simp [gw, hbw])
          · rw [h3] at hw
            have hv := AAct.put_val a o.dst aundef (by rw [hk.n]; exact h4)
            have hd := (a.put_same o.dst aundef).2.1
            obtain ⟨N2, a2, g2, e2, k2, q⟩ := ents_ok l l2 hl2 (hk.put o.dst aundef) (by rw [hv, hd]; exact hw)
            refine ⟨N2, a2, g2, ?_, k2, q⟩
            simp only [evEnts, hwant.trans hno]
            exact e2
      · cases hc
    · cases hc

theorem loop_ok {n : Nat} {rd : Bool} {c : Code} {cc : CC}
    (ih : ∀ {Q : Post} {a : AAct} {h : AH}, Keep n rd a → wpC P S cc Q a.val a.ds h → ∃ N x a' h', evCode P (cl P S N) N c a h = .ok (x.ax, a', h') ∧ Keep n rd a' ∧ Q x a'.val a'.ds h')
    {I : Inv} {Q : Post} (hI : ∀ k σ ds h, I k σ ds h → wpC P S cc (Kloop I k Q) σ ds h) : ∀ (k : Nat) (a : AAct) (h : AH), Keep n rd a → I k a.val a.ds h →
    ∃ N x a' h', (∀ lf, N ≤ lf → evLoop (evCode P (cl P S lf) lf c) lf a h = .ok (x.ax, a', h')) ∧ Keep n rd a' ∧ Q x a'.val a'.ds h' := by
  intro k
  induction k using Nat.strongRecOn with
  | _ k ihk =>
    intro a h hk hi
    obtain ⟨N, x, a1, h1, e, k1, q⟩ := ih hk (hI k _ _ _ hi)
    have hbody : ∀ lf, N ≤ lf → evCode P (cl P S lf) lf c a h = .ok (x.ax, a1, h1) := fun lf hl => evCode_mono (cl_mono hl) hl _ e
    cases x with
    | normal =>
      obtain ⟨k', hlt, hi'⟩ := q
      obtain ⟨N2, x2, a2, h2, e2, k2, q2⟩ := ihk k' hlt a1 h1 k1 hi'
      refine ⟨max N N2 + 1, x2, a2, h2, fun lf hl => ?_, k2, q2⟩
      obtain ⟨m, rfl⟩ : ∃ m, lf = m + 1 := ⟨lf - 1, by omega⟩
      simp only [evLoop]
      rw [hbody (m + 1) (by omega)]
      simp only [WX.ax]
      have := e2 m (by omega)
      exact evLoop_mono (fun a h r hr => evCode_mono (cl_mono (Nat.le_succ m)) (Nat.le_succ m) _ hr) (Nat.le_refl m) this
    | exit id =>
      refine ⟨N + 1, .exit id, a1, h1, fun lf hl => ?_, k1, q⟩
      obtain ⟨m, rfl⟩ : ∃ m, lf = m + 1 := ⟨lf - 1, by omega⟩
      simp only [evLoop]
      rw [hbody (m + 1) (by omega)]
      rfl
    | ret =>
      refine ⟨N + 1, .ret, a1, h1, fun lf hl => ?_, k1, q⟩
      obtain ⟨m, rfl⟩ : ∃ m, lf = m + 1 := ⟨lf - 1, by omega⟩
      simp only [evLoop]
      rw [hbody (m + 1) (by omega)]
      rfl

theorem code_ok {n : Nat} {rd : Bool} : ∀ (c : Code) (cc : CC), compC P n rd c = .ok cc → ∀ {Q : Post} {a : AAct} {h : AH}, Keep n rd a → wpC P S cc Q a.val a.ds h →
    ∃ N x a' h', evCode P (cl P S N) N c a h = .ok (x.ax, a', h') ∧ Keep n rd a' ∧ Q x a'.val a'.ds h'
  | .skip, cc, hc, Q, a, h, hk, hw => by cases hc; exact ⟨0, .normal, a, h, rfl, hk, hw⟩
  | .label _, cc, hc, Q, a, h, hk, hw => by cases hc; exact ⟨0, .normal, a, h, rfl, hk, hw⟩
  | .region _ ops draw, cc, hc, Q, a, h, hk, hw => by
    simp only [compC] at hc
    cases draw with
    | true =>
      simp only [cond_true] at hc
      split at hc
      · rename_i l hl
        split at hc
        · rename_i l2 hl2
          cases hc
          obtain ⟨N, a', h', e, k, q⟩ := ents_ok l l2 hl2 hk hw
          exact ⟨N, .normal, a', h', by simp only [evCode, cond_true, evDraw, hl, e, WX.ax], k, q⟩
        · cases hc
      · cases hc
    | false =>
      simp only [cond_false] at hc
      split at hc
      · rename_i l hl
        cases hc
        obtain ⟨N, a', h', e, k, q⟩ := rows_ok _ l hl hk hw
        exact ⟨N, .normal, a', h', by simp only [evCode, cond_false, e, WX.ax], k, q⟩
      · cases hc
  | .seq x y, cc, hc, Q, a, h, hk, hw => by
    simp only [compC] at hc
    split at hc
    · rename_i c1 hx
      split at hc
      · rename_i c2 hy
        cases hc
        simp only [wpC] at hw
        obtain ⟨N1, x1, a1, h1, e1, k1, q1⟩ := code_ok x c1 hx hk hw
        cases x1 with
        | normal =>
          obtain ⟨N2, x2, a2, h2, e2, k2, q2⟩ := code_ok y c2 hy k1 q1
          refine ⟨max N1 N2, x2, a2, h2, ?_, k2, q2⟩
          simp only [evCode]
          rw [evCode_mono (cl_mono (Nat.le_max_left N1 N2)) (Nat.le_max_left N1 N2) _ e1]
          simp only [WX.ax]
          exact evCode_mono (cl_mono (Nat.le_max_right N1 N2)) (Nat.le_max_right N1 N2) _ e2
        | exit id => exact ⟨N1, .exit id, a1, h1, by simp only [evCode, e1, WX.ax], k1, q1⟩
        | ret => exact ⟨N1, .ret, a1, h1, by simp only [evCode, e1, WX.ax], k1, q1⟩
      · cases hc
    · cases hc
  | .cond c x y, cc, hc, Q, a, h, hk, hw => by
    simp only [compC] at hc
    split at hc
    · rename_i c1 hc1
      split at hc
      · rename_i c2 hx
        split at hc
        · rename_i c3 hy
          cases hc
          simp only [wpC, wpG] at hw
          split at hw
          · rename_i b hb
            cases b with
            | true =>
              simp only [if_pos] at hw
              obtain ⟨N, x1, a1, h1, e1, k1, q1⟩ := code_ok x c2 hx hk hw
              exact ⟨N, x1, a1, h1, by simp only [evCode, hc1, CO.ev_eq, hb, evCond]; exact e1, k1, q1⟩
            | false =>
              simp only [Bool.false_eq_true, if_false] at hw
              obtain ⟨N, x1, a1, h1, e1, k1, q1⟩ := code_ok y c3 hy hk hw
              exact ⟨N, x1, a1, h1, by simp only [evCode, hc1, CO.ev_eq, hb, evCond]; exact e1, k1, q1⟩
          · exact hw.elim
        · cases hc
      · cases hc
    · cases hc
  | .block id c, cc, hc, Q, a, h, hk, hw => by
    simp only [compC] at hc
    split at hc
    · rename_i c1 hc1
      cases hc
      obtain ⟨N, x1, a1, h1, e1, k1, q1⟩ := code_ok c c1 hc1 hk hw
      cases x1 with
      | normal => exact ⟨N, .normal, a1, h1, by simp only [evCode, e1, WX.ax], k1, q1⟩
      | ret => exact ⟨N, .ret, a1, h1, by simp only [evCode, e1, WX.ax], k1, q1⟩
      | exit i =>
        simp only [Kblk] at q1
        by_cases hi : i = id
        · rw [if_pos hi] at q1
          refine ⟨N, .normal, a1, h1, ?_, k1, q1⟩
          simp only [evCode, e1, WX.ax, PT.beqT hi, cond_true]
        · rw [if_neg hi] at q1
          refine ⟨N, .exit i, a1, h1, ?_, k1, q1⟩
          simp only [evCode, e1, WX.ax, PT.beqF hi, cond_false]
    · cases hc
  | .loop c, cc, hc, Q, a, h, hk, hw => by
    simp only [compC] at hc
    split at hc
    · rename_i c1 hc1
      cases hc
      obtain ⟨I, k, hi, hI⟩ := hw
      obtain ⟨N, x, a', h', e, k', q⟩ := loop_ok (fun hk hw => code_ok c c1 hc1 hk hw) hI k a h hk hi
      exact ⟨N, x, a', h', by simp only [evCode]; exact e N (Nat.le_refl _), k', q⟩
    · cases hc
  | .exit id, cc, hc, Q, a, h, hk, hw => by cases hc; exact ⟨0, .exit id, a, h, rfl, hk, hw⟩
  | .ret, cc, hc, Q, a, h, hk, hw => by cases hc; exact ⟨0, .ret, a, h, rfl, hk, hw⟩
  | .scope c, cc, hc, Q, a, h, hk, hw => by
    obtain ⟨N, x, a', h', e, k, q⟩ := code_ok c cc hc hk hw
    exact ⟨N, x, a', h', by cases x <;> simp only [evCode, e, WX.ax], k, q⟩
  | .rangeFunc f params assign body, cc, hc, Q, a, h, hk, hw => by
    simp only [compC] at hc
    split at hc
    · rename_i f1 hf
      cases rd with
      | true => cases hc
      | false =>
        cases hc
        simp only [wpC, wpGo] at hw
        split at hw
        · rename_i g first captured hfe
          obtain ⟨N, v, h', e, r, hr, hst, hp⟩ := hw a.ts (fun i => rfl)
          rw [← hk.n] at e
          have hev : ∀ res, (match r.pending with
              | none => (.ok (.normal, ⟨a.n, a.ts, .collected h.next :: a.ds, a.rd⟩, h'.set (h.next + 1) (.loop { r with state := .exhausted })) : R (AX × AAct × AH))
              | some .ret => .ok (.ret, ⟨a.n, a.ts, .collected h.next :: a.ds, a.rd⟩, h'.set (h.next + 1) (.loop { r with state := .exhausted }))
              | some (.exit id) => .ok (.exit id, ⟨a.n, a.ts, .collected h.next :: a.ds, a.rd⟩, h'.set (h.next + 1) (.loop { r with state := .exhausted }))
              | some _ => .error "rangeFunc: jump") = res → evCode P (cl P S N) N (.rangeFunc f params assign body) a h = res := by
            intro res hres
            simp only [evCode, hf, CO.ev_eq, hfe, opGo, hk.rd, cond_false, forceN_eq, e, hr]
            rw [← hres]
            cases hst' : r.state with
            | busy => exact absurd hst' hst
            | ready => rw [hk.rd]; rfl
            | done => rw [hk.rd]; rfl
            | exhausted => rw [hk.rd]; rfl
          split at hp
          · rename_i hpe; exact ⟨N, .normal, ⟨a.n, a.ts, .collected h.next :: a.ds, a.rd⟩, h'.set (h.next + 1) (.loop { r with state := .exhausted }), hev _ (by rw [hpe]; rfl), ⟨hk.n, hk.rd⟩, hp⟩
          · rename_i hpe; exact ⟨N, .ret, ⟨a.n, a.ts, .collected h.next :: a.ds, a.rd⟩, h'.set (h.next + 1) (.loop { r with state := .exhausted }), hev _ (by rw [hpe]; rfl), ⟨hk.n, hk.rd⟩, hp⟩
          · rename_i id hpe; exact ⟨N, .exit id, ⟨a.n, a.ts, .collected h.next :: a.ds, a.rd⟩, h'.set (h.next + 1) (.loop { r with state := .exhausted }), hev _ (by rw [hpe]; rfl), ⟨hk.n, hk.rd⟩, hp⟩
          · exact hp.elim
        · exact hw.elim
    · cases hc
  | .goto _, cc, hc, Q, a, h, hk, hw => by cases hc
  | .refuse _, cc, hc, Q, a, h, hk, hw => by cases hc

/-! ### calls -/

def resS (h : AH) (σ : Sg) : List CRes → R (List AV)
  | [] => .ok []
  | .tmp t :: l => match resS h σ l with | .ok r => .ok (σ t :: r) | .error e => .error e
  | .one p :: l => match σ p with
    | .ptr id off => match load1 h id off with
      | .ok v => match resS h σ l with | .ok r => .ok (v :: r) | .error e => .error e
      | .error e => .error e
    | _ => .error "results"
  | .many p n :: l => match σ p with
    | .ptr id off => match loadN h id off n with
      | .ok v => match resS h σ l with | .ok r => .ok (.agg v :: r) | .error e => .error e
      | .error e => .error e
    | _ => .error "results"

theorem res_ok {h : AH} {a : AAct} : ∀ (l : List ResultVar) (l' : List CRes), compRes P l = .ok l' → ∀ r, resS h a.val l' = .ok r → resultsA P h a l = .ok r
  | [], l', hc, r, hr => by cases hc; exact hr
  | .tmp t :: l, l', hc, r, hr => by
    simp only [compRes] at hc
    split at hc
    · rename_i l2 hl2
      cases hc
      simp only [resS] at hr
      split at hr
      · rename_i r2 hr2; cases hr; simp only [resultsA, res_ok l l2 hl2 r2 hr2]
      · cases hr
    · cases hc
  | .cell p t :: l, l', hc, r, hr => by
    simp only [compRes] at hc
    split at hc
    · rename_i l2 hl2
      split at hc
      · rename_i n h1 h2
        cases hc
        simp only [resS] at hr
        split at hr
        · rename_i id off hp
          split at hr
          · rename_i v hv
            split at hr
            · rename_i r2 hr2; cases hr; simp only [resultsA, hp, h1, h2, hv, res_ok l l2 hl2 r2 hr2]
            · cases hr
          · cases hr
        · cases hr
      · rename_i h1
        cases hc
        simp only [resS] at hr
        split at hr
        · rename_i id off hp
          split at hr
          · rename_i v hv
            split at hr
            · rename_i r2 hr2; cases hr; simp only [resultsA, hp, h1, hv, res_ok l l2 hl2 r2 hr2]
            · cases hr
          · cases hr
        · cases hr
      · cases hc
    · cases hc

variable (P S) in
/-- the deferred calls, and then K -/
def Defers : List ADef → AH → (AH → Prop) → Prop
  | [], h, K => K h
  | .collected id :: l, h, K => h.get id = some (.deferred (some [])) ∧ Defers l (h.set id (.deferred none)) K
  | .call fn captured args :: l, h, K => ∃ f args' h1, callFn fn captured args h = .ok (.enter f args', h1) ∧ S f = none ∧ Ev P S (.fn f) args' h1 fun _ h2 => Defers l h2 K

theorem defers_ok : ∀ (ds : List ADef) (h : AH) (K : AH → Prop), Defers P S ds h K → ∃ N h', runDefers (noSum S (cl P S N)) ds h = .ok h' ∧ K h'
  | [], h, K, hk => ⟨0, h, rfl, hk⟩
  | .collected id :: l, h, K, hk => by
    obtain ⟨N, h', e, k⟩ := defers_ok l _ K hk.2
    exact ⟨N, h', by simp only [runDefers, hk.1, e], k⟩
  | .call fn captured args :: l, h, K, hk => by
    obtain ⟨f, args', h1, e1, hS, N1, v, h2, e2, hk⟩ := hk
    obtain ⟨N2, h', e3, k⟩ := defers_ok l h2 K hk
    refine ⟨max N1 N2, h', ?_, k⟩
    have e4 : noSum S (cl P S (max N1 N2)) (.fn f) args' h1 = .ok (v, h2) := by
      simp only [noSum, hS, cl_mono (Nat.le_max_left N1 N2) _ _ _ _ e2]
    simp only [runDefers, e1, e4]
    exact runDefers_mono (noSum_mono (cl_mono (Nat.le_max_right N1 N2))) _ e3

variable (P S) in
/-- after a function's body -/
def Kfin (res : List CRes) (K : AV → AH → Prop) : Post := fun x σ ds h => match x with
  | .exit _ => False
  | _ => Defers P S ds h fun h => ∃ l, resS h σ res = .ok l ∧ K (oneOf l) h

def argS (args : List AV) : Sg := fun i => match args[i]? with | some v => v | none => aundef

theorem compF_ok {f : FuncId} {cf : CF} (h : compF P f = .ok cf) : ∃ fn c, P.funcs[f]? = some fn ∧ fn.body = some c ∧ fn.ntmps = cf.n ∧ compC P cf.n false c = .ok cf.c ∧ compRes P fn.results.toList = .ok cf.res := by
  unfold compF at h
  split at h
  · rename_i fn hf
    split at h
    · rename_i c hb
      split at h
      · rename_i cc hcc
        split at h
        · rename_i r hr
          cases h
          exact ⟨fn, c, hf, hb, rfl, hcc, hr⟩
        · cases h
      · cases h
    · cases h
  · cases h

/-- a function's call, by its body -/
theorem ev_fn {f : FuncId} {cf : CF} {args : List AV} {h : AH} {K : AV → AH → Prop} (hc : compF P f = .ok cf) (hS : S f = none) (hn : Nat.ble args.length cf.n = true)
    (hw : wpC P S cf.c (Kfin P S cf.res K) (argS args) [] h) : Ev P S (.fn f) args h K := by
  obtain ⟨fn, c, hf, hb, hnt, hcc, hr⟩ := compF_ok hc
  have hval : (⟨cf.n, laid args 0 .leaf, [], false⟩ : AAct).val = argS args := by
    funext i
    simp only [AAct.val, laid_get, Nat.zero_le, true_and, Nat.zero_add, Nat.sub_zero, argS]
    by_cases hi : i < args.length
    · rw [if_pos hi]; rfl
    · rw [if_neg hi, List.getElem?_eq_none (by omega)]; rfl
  obtain ⟨N, x, a', h', e, k, q⟩ := code_ok c cf.c hcc (a := ⟨cf.n, laid args 0 .leaf, [], false⟩) ⟨rfl, rfl⟩ (by rw [hval]; exact hw)
  have main : ∀ (hx : x.ax = .normal ∨ x.ax = .ret), Defers P S a'.ds h' (fun h => ∃ l, resS h a'.val cf.res = .ok l ∧ K (oneOf l) h) → Ev P S (.fn f) args h K := by
    intro hx hd
    obtain ⟨N2, h2, e2, l, hl, hk⟩ := defers_ok _ _ _ hd
    refine ⟨max N N2 + 1, oneOf l, h2, ?_, hk⟩
    have hle : N ≤ max N N2 + 1 := Nat.le_trans (Nat.le_max_left N N2) (Nat.le_succ _)
    have hcall : CallLe (cl P S N) (evCall P S (max N N2 + 1) (max N N2)) := evCall_mono hle (Nat.le_max_left N N2)
    have hcall2 : CallLe (cl P S N2) (evCall P S (max N N2 + 1) (max N N2)) := evCall_mono (Nat.le_trans (Nat.le_max_right N N2) (Nat.le_succ _)) (Nat.le_max_right N N2)
    unfold cl evCall
    simp only [hS, hf, hb, hnt, hn, cond_true]
    rw [evCode_mono hcall hle c e]
    unfold finishCall
    rcases hx with hx | hx <;> simp only [hx, runDefers_mono (noSum_mono hcall2) _ e2, res_ok _ _ hr l hl]
  cases x with
  | normal => exact main (.inl rfl) q
  | ret => exact main (.inr rfl) q
  | exit id => exact q.elim

/-- what the parameters hold as a round begins -/
def setS : List Tmp → List AV → Sg → Sg
  | t :: ts, v :: vs, σ => setS ts vs (upd σ (some t) v)
  | _, _, σ => σ

theorem setS_ok {n : Nat} : ∀ (ts : List Tmp) (vs : List AV) (a : AAct), Keep n true a → ts.all (fun t => Nat.blt t n) = true → (setParams ts vs a).val = setS ts vs a.val ∧ Keep n true (setParams ts vs a) ∧ (setParams ts vs a).ds = a.ds
  | [], vs, a, hk, _ => ⟨rfl, hk, rfl⟩
  | t :: ts, [], a, hk, _ => ⟨rfl, hk, rfl⟩
  | t :: ts, v :: vs, a, hk, ht => by
    simp only [List.all_cons, Bool.and_eq_true] at ht
    obtain ⟨h1, h2, h3⟩ := setS_ok ts vs (a.put (some t) v) (hk.put _ _) ht.2
    have hv := a.put_val (some t) v (by rw [hk.n]; exact ht.1)
    exact ⟨by rw [setParams, h1, setS, hv], h2, by rw [setParams, h3]; exact (a.put_same _ _).2.1⟩

/-- after a round's body -/
def Kend (l : Nat) (K : AV → AH → Prop) : Post := fun x _ ds h => ds = [] ∧ ∃ r, h.get l = some (.loop r) ∧ match x with
  | .normal => K (.bool true) (h.set l (.loop { r with state := .ready, pending := none }))
  | .ret => K (.bool false) (h.set l (.loop { r with state := .done, pending := some .ret }))
  | .exit id => K (.bool false) (h.set l (.loop { r with state := .done, pending := some (.exit id) }))

variable (P S) in
/-- after a round's words are laid -/
def Kass (l : Nat) (cb : CC) (K : AV → AH → Prop) : Post := fun x σ ds h => match x with
  | .normal => ∃ q, h.get l = some (.loop q) ∧ q.state = .ready ∧ wpC P S cb (Kend l K) σ ds (h.set l (.loop { q with state := .busy }))
  | _ => False

theorem ev_yield {l : Nat} {r : ALoop} {ca cb : CC} {args : List AV} {h : AH} {K : AV → AH → Prop} (hg : h.get l = some (.loop r)) (hn : args.length = r.params.size)
    (hp : r.params.toList.all (fun t => Nat.blt t r.n) = true) (ha : compC P r.n true r.assign = .ok ca) (hb : compC P r.n true r.body = .ok cb)
    (hw : wpC P S ca (Kass P S l cb K) (setS r.params.toList args (valT r.tmps)) [] h) : Ev P S (.yield l) args h K := by
  obtain ⟨h1, h2, h3⟩ := setS_ok r.params.toList args ⟨r.n, r.tmps, [], true⟩ ⟨rfl, rfl⟩ hp
  have hv : (⟨r.n, r.tmps, [], true⟩ : AAct).val = valT r.tmps := rfl
  rw [hv] at h1
  obtain ⟨N, x, a', h', e, k, q⟩ := code_ok r.assign ca ha (a := setParams r.params.toList args ⟨r.n, r.tmps, [], true⟩) h2 (by rw [h1, h3]; exact hw)
  cases x with
  | exit => exact q.elim
  | ret => exact q.elim
  | normal =>
    obtain ⟨q', hq1, hq2, hq3⟩ := q
    obtain ⟨N2, x2, a2, hh2, e2, k2, hds, r2, hr2, hfin⟩ := code_ok r.body cb hb k hq3
    have hle : N ≤ max N N2 + 1 := Nat.le_trans (Nat.le_max_left N N2) (Nat.le_succ _)
    have hle2 : N2 ≤ max N N2 + 1 := Nat.le_trans (Nat.le_max_right N N2) (Nat.le_succ _)
    have hcall : CallLe (cl P S N) (evCall P S (max N N2 + 1) (max N N2)) := evCall_mono hle (Nat.le_max_left N N2)
    have hcall2 : CallLe (cl P S N2) (evCall P S (max N N2 + 1) (max N N2)) := evCall_mono hle2 (Nat.le_max_right N N2)
    have base : ∀ res, endRound l (.ok (x2.ax, a2, hh2)) = res → cl P S (max N N2 + 1) (.yield l) args h = res := by
      intro res hres
      unfold cl evCall
      simp only [hg, aRound, PT.beqT hn, cond_true]
      rw [evCode_mono hcall hle _ e]
      simp only [WX.ax, hq1, hq2]
      rw [evCode_mono hcall2 hle2 _ e2]
      exact hres
    cases x2 with
    | normal => exact ⟨_, _, _, base _ (by simp only [endRound, hds, hr2, WX.ax]), hfin⟩
    | ret => exact ⟨_, _, _, base _ (by simp only [endRound, hds, hr2, WX.ax]), hfin⟩
    | exit id => exact ⟨_, _, _, base _ (by simp only [endRound, hds, hr2, WX.ax]), hfin⟩

end
end Go.Dr
