/-
  An abstract run of the model's programs: values with their own block numbers, no tape, no capacities that the tape gives.
-/
import GoSem.Claims
namespace Go.Dr

/-- values -/
inductive AV where
  | bool (b : Bool)
  | int (k : IntKind) (n : Int)
  | str (s : List UInt8)
  | nilp
  | ptr (id off : Nat)
  | nils
  | slice (id off len cap : Nat) (x : Bool) (es : Nat)
  | nilm
  | map (id : Nat)
  | nilf
  | func (fn : Fn) (first captured : List AV)
  | nili
  | iface (t : TypeId) (v : AV)
  | agg (l : List AV)
  | tuple (l : List AV)
  | raw (t : Nat)
  deriving Inhabited

/-- a tree of things by number -/
inductive PT (α : Type) where
  | leaf
  | node (l : PT α) (v : Option α) (r : PT α)
  deriving Inhabited

namespace PT
variable {α : Type}
def get : PT α → Nat → Option α
  | .leaf, _ => none
  | .node l v r, n => bif Nat.beq n 0 then v else bif Nat.beq (n % 2) 1 then l.get (n / 2) else r.get (n / 2 - 1)
def one (v : Option α) : Nat → Nat → PT α
  | 0, _ => .leaf
  | f + 1, n => bif Nat.beq n 0 then .node .leaf v .leaf
    else bif Nat.beq (n % 2) 1 then .node (one v f (n / 2)) none .leaf else .node .leaf none (one v f (n / 2 - 1))
def set (v : Option α) : PT α → Nat → PT α
  | .leaf, n => one v (n + 1) n
  | .node l w r, n => bif Nat.beq n 0 then .node l v r
    else bif Nat.beq (n % 2) 1 then .node (l.set v (n / 2)) w r else .node l w (r.set v (n / 2 - 1))
end PT

structure AEntry where
  key : AV
  val : AV
  born : Nat
  deriving Inhabited

structure ALoop where
  state : LoopState
  pending : Option Code
  n : Nat
  tmps : PT AV
  params : Array Tmp
  assign : Code
  body : Code
  deriving Inhabited

inductive ADef where
  | collected (id : Nat)
  | call (fn : Fn) (captured args : List AV)
  deriving Inhabited

/-- blocks -/
inductive AObj where
  | cells (vs : List AV) (ro : Bool)
  | map (l : List AEntry) (clock : Nat)
  | loop (r : ALoop)
  | deferred (ds : Option (List ADef))
  | siter (s : List UInt8) (pos : Nat)
  | miter (m : Option Nat) (since : Nat) (seen : List Nat) (stepped : Nat)
  deriving Inhabited

structure AH where
  next : Nat
  t : PT AObj
  deriving Inhabited

/-- a number made a numeral before it goes on -/
def forceN {α : Type} (n : Nat) (k : Nat → α) : α := match n with | 0 => k 0 | m + 1 => k (m + 1)
def forceI {α : Type} (n : Int) (k : Int → α) : α := match n with
  | .ofNat m => forceN m fun m => k (.ofNat m)
  | .negSucc m => forceN m fun m => k (.negSucc m)
def forceB {α : Type} (b : Bool) (k : Bool → α) : α := match b with | true => k true | false => k false

theorem forceN_eq {α : Type} (n : Nat) (k : Nat → α) : forceN n k = k n := by cases n <;> rfl
theorem forceI_eq {α : Type} (n : Int) (k : Int → α) : forceI n k = k n := by cases n <;> simp [forceI, forceN_eq]
theorem forceB_eq {α : Type} (n : Bool) (k : Bool → α) : forceB n k = k n := by cases n <;> rfl

namespace AH
def get (h : AH) (i : Nat) : Option AObj := h.t.get i
def set (h : AH) (i : Nat) (o : AObj) : AH := ⟨h.next, h.t.set (some o) i⟩
def kill (h : AH) (i : Nat) : AH := ⟨h.next, h.t.set none i⟩
def push (h : AH) (o : AObj) : AH := ⟨h.next + 1, h.t.set (some o) h.next⟩
end AH

abbrev R := Except String

def ofO {α : Type} (why : String) : Option α → R α
  | some a => .ok a
  | none => .error why

def mapR {α β : Type} (f : α → R β) : List α → R (List β)
  | [] => .ok []
  | a :: l => match f a with
    | .ok b => match mapR f l with
      | .ok bs => .ok (b :: bs)
      | .error e => .error e
    | .error e => .error e

def toAVf (fn : Fn) (first captured : Array Value) : R AV :=
  match fn with
  | .func f => bif first.toList.isEmpty && captured.toList.isEmpty then .ok (.func (.func f) [] []) else .error "toAV: a closure"
  | _ => .error "toAV: a method"

def toAV : Nat → Value → R AV
  | 0, _ => .error "toAV: depth"
  | d + 1, v => match v with
    | .bool b => .ok (.bool b)
    | .int k n => .ok (.int k n)
    | .string s => .ok (.str s.data.toList)
    | .pointer none => .ok .nilp
    | .slice none 0 0 => .ok .nils
    | .map none => .ok .nilm
    | .nilFunc => .ok .nilf
    | .nilIface => .ok .nili
    | .func fn first captured => toAVf fn first captured
    | .iface t v => match toAV d v with | .ok a => .ok (.iface t a) | .error e => .error e
    | .agg cs => match mapR (toAV d) cs.toList with | .ok l => .ok (.agg l) | .error e => .error e
    | .tuple cs => match mapR (toAV d) cs.toList with | .ok l => .ok (.tuple l) | .error e => .error e
    | _ => .error "toAV: a value with an address"

def AV.cells : AV → List AV
  | .agg l => l
  | v => [v]

def AV.scalar : AV → Bool
  | .agg _ | .tuple _ | .raw _ => false
  | _ => true

def allScalar : List AV → Bool
  | [] => true
  | v :: l => v.scalar && allScalar l

def eqL (f : AV → AV → Bool) : List AV → List AV → Bool
  | [], [] => true
  | x :: l, y :: m => Bool.and (f x y) (eqL f l m)
  | _, _ => false

/-- the same value, as far as can be told -/
def eqAV : Nat → AV → AV → Bool
  | 0, _, _ => false
  | d + 1, x, y => match x, y with
    | .bool a, .bool b => a == b
    | .int k a, .int k' b => Bool.and (decide (k = k')) (decide (a = b))
    | .str a, .str b => decide (a = b)
    | .nilp, .nilp => true
    | .ptr i o, .ptr j p => Bool.and (Nat.beq i j) (Nat.beq o p)
    | .nils, .nils => true
    | .slice i o l c x e, .slice i' o' l' c' x' e' => Bool.and (Nat.beq i i') (Bool.and (Nat.beq o o') (Bool.and (Nat.beq l l') (Bool.and (Nat.beq c c') (Bool.and (x == x') (Nat.beq e e')))))
    | .nilm, .nilm => true
    | .map i, .map j => Nat.beq i j
    | .nilf, .nilf => true
    | .func f a b, .func f' a' b' => match f, f' with
      | .func g, .func g' => Bool.and (Nat.beq g g') (Bool.and (eqL (eqAV d) a a') (eqL (eqAV d) b b'))
      | .yield g, .yield g' => Bool.and (Nat.beq g g') (Bool.and (eqL (eqAV d) a a') (eqL (eqAV d) b b'))
      | _, _ => false
    | .nili, .nili => true
    | .iface t a, .iface t' a' => Bool.and (Nat.beq t t') (eqAV d a a')
    | .agg a, .agg b => eqL (eqAV d) a b
    | .tuple a, .tuple b => eqL (eqAV d) a b
    | .raw a, .raw b => Nat.beq a b
    | _, _ => false

def aundef : AV := .tuple []

structure AAct where
  n : Nat
  ts : PT AV
  ds : List ADef
  rd : Bool
  deriving Inhabited

def AAct.val (a : AAct) (i : Nat) : AV := match a.ts.get i with | some v => v | none => aundef

/-- a value's number, made a numeral -/
def forceV {α : Type} (v : AV) (k : AV → α) : α := match v with
  | .int q n => forceI n fun n => k (.int q n)
  | .bool b => forceB b fun b => k (.bool b)
  | v => k v

theorem forceV_eq {α : Type} (v : AV) (k : AV → α) : forceV v k = k v := by cases v <;> simp [forceV, forceI_eq, forceB_eq]

def AAct.put (a : AAct) (d : Option Tmp) (v : AV) : AAct :=
  match d with
  | some d => bif Nat.blt d a.n then ⟨a.n, a.ts.set (some v) d, a.ds, a.rd⟩ else a
  | none => a

/-- operands, read -/
inductive CO where
  | t (i : Nat)
  | c (v : AV)
  deriving Inhabited

inductive CConv where
  | int (k : IntKind)
  | str
  | strB
  | bytes
  deriving Inhabited

/-- operations, read: types looked up -/
inductive COp where
  | move (x : CO)
  | pick (c a b : CO)
  | new (z : List AV)
  | box (x : CO)
  | build (z : List AV) (pl : List (Nat × Nat × CO))
  | buildSlice (len es : Nat) (z : List AV) (pl : List (Nat × Nat × CO))
  | load1 (x : CO)
  | loadN (n : Nat) (x : CO)
  | store (n : Nat) (x y : CO)
  | nilCheck (x : CO)
  | bin (op : BinOp) (t : TypeId) (lit : Bool) (x y : CO)
  | un (op : UnOp) (x : CO)
  | conv (c : CConv) (x : CO)
  | mkI (t : TypeId) (x : CO)
  | mkF (f : FuncId) (first captured : List CO)
  | mkM (r : Option CO)
  | mkS (es bytes : Nat) (z : List AV) (l c : CO)
  | sliceS (x : CO) (lo hi : Option CO)
  | sliceV (es : Nat) (x : CO) (lo hi mx : Option CO)
  | sliceA (n es : Nat) (x : CO) (lo hi mx : Option CO)
  | fieldAddr (off : Nat) (x : CO)
  | field1 (off : Nat) (x : CO)
  | fieldN (off n : Nat) (x : CO)
  | idxA (len es : Nat) (x i : CO)
  | idxV (es : Nat) (x i : CO)
  | index1 (len es : Nat) (x i : CO)
  | indexN (len es : Nat) (x i : CO)
  | indexS (x i : CO)
  | lookup (kt : TypeId) (z : AV) (ok : Bool) (x k : CO)
  | upd (kt : TypeId) (m k v : CO)
  | mapEntry (kt : TypeId) (z : AV) (m k : CO)
  | entryStore (m s v : CO)
  | rangeS (x : CO)
  | rangeM (x : CO)
  | next (it : CO) (s : Bool)
  | entry (it : CO)
  | tassert (x : CO) (t : TypeId) (ok : Bool)
  | extract (x : CO) (i : Nat)
  | app (es bytes : Nat) (s x : CO)
  | appZ (es bytes : Nat) (z : List AV) (s x : CO)
  | lenK (n : Nat)
  | lenS (x : CO)
  | lenV (x : CO)
  | lenM (x : CO)
  | capV (x : CO)
  | copy (es : Nat) (d s : CO)
  | delete (kt : TypeId) (m k : CO)
  | clear (es : Nat) (z : List AV) (x : CO)
  | mm (isMax : Bool) (x : CO) (l : List CO)
  | callV (f : CO) (args : List CO)
  | callM (r : CO) (name : String) (args : List CO)
  | defer (f : CO) (args : List CO)
  deriving Inhabited

section
variable (P : Program)

def und (t : TypeId) : R TypeDesc := ofO "underlying" (P.underlying t)
def szOf (t : TypeId) : R Nat := match P.info? t with | some i => .ok i.size | none => .error "size"
def byOf (t : TypeId) : R Nat := match P.info? t with | some i => .ok i.bytes | none => .error "bytes"
def zeroAV (t : TypeId) : R AV := match P.info? t with
  | some i => match i.zero with | some v => toAV 8 v | none => .error "zero"
  | none => .error "zero"
def aggT (t : TypeId) : R Bool := match P.underlying t with
  | some (.struct _) | some (.array _ _) => .ok true
  | some _ => .ok false
  | none => .error "isAgg"

def cO (x : Operand) : R CO := match x with
  | .tmp t => .ok (.t t)
  | .const v => match toAV 8 v with | .ok a => .ok (.c a) | .error e => .error e
  | .global g => bif Nat.blt g P.globals.size then .ok (.c (.ptr g 0)) else .error "no such global"
  | .func f => .ok (.c (.func (.func f) [] []))

def cOs (l : List Operand) : R (List CO) := mapR (cO P) l
def cOO (x : Option Operand) : R (Option CO) := match x with
  | none => .ok none
  | some x => match cO P x with | .ok a => .ok (some a) | .error e => .error e

def with1 {α : Type} (x : Operand) (f : CO → R α) : R α := match cO P x with | .ok a => f a | .error e => .error e
def with2 {α : Type} (x y : Operand) (f : CO → CO → R α) : R α := with1 P x fun a => with1 P y fun b => f a b
def with3 {α : Type} (x y z : Operand) (f : CO → CO → CO → R α) : R α := with1 P x fun a => with1 P y fun b => with1 P z fun c => f a b c

def fieldPlaces : List Field → R (List (Nat × Nat))
  | [] => .ok []
  | f :: l => match szOf P f.type with
    | .ok n => match fieldPlaces l with | .ok r => .ok ((f.offset, n) :: r) | .error e => .error e
    | .error e => .error e

def placed (place : Nat → Option (Nat × Nat)) : List (Nat × Operand) → R (List (Nat × Nat × CO))
  | [] => .ok []
  | (i, x) :: l => match place i with
    | some (off, size) => match cO P x with
      | .ok a => match placed place l with | .ok r => .ok ((off, size, a) :: r) | .error e => .error e
      | .error e => .error e
    | none => .error "build: no such part"

def repl (z : List AV) : Nat → List AV
  | 0 => []
  | n + 1 => z ++ repl z n

def isConstO : Operand → Bool
  | .const _ => true
  | _ => false

def cCall (c : Call) : R COp :=
  match c.callee with
  | .value f => with1 P f fun g => match cOs P c.args.toList with | .ok l => .ok (.callV g l) | .error e => .error e
  | .invoke r name => with1 P r fun g => match cOs P c.args.toList with | .ok l => .ok (.callM g name l) | .error e => .error e
  | .builtin b => match c.args.toList, c.argTypes.toList with
    | [x, y], [t, u] => match b with
      | .append => with2 P x y fun a b => match und P t, und P u with
        | .ok (.slice e), .ok ud => match szOf P e, byOf P e, zeroAV P e with
          | .ok es, .ok bytes, .ok z => if es = 0 ∨ z.cells.length ≠ es then .error "append: no cells" else
            match ud with
            | .int _ => .ok (.appZ es bytes z.cells a b)
            | _ => .ok (.app es bytes a b)
          | _, _, _ => .error "append"
        | _, _ => .error "append"
      | .copy => with2 P x y fun a b => match und P t with
        | .ok (.slice e) => match szOf P e with | .ok es => .ok (.copy es a b) | .error e => .error e
        | _ => .error "copy"
      | .delete => with2 P x y fun a b => match und P t with
        | .ok (.map k _) => .ok (.delete k a b)
        | _ => .error "delete"
      | .min => with2 P x y fun a b => .ok (.mm false a [b])
      | .max => with2 P x y fun a b => .ok (.mm true a [b])
      | _ => .error "builtin"
    | [x], [t] => match b with
      | .len => with1 P x fun a => match und P t with
        | .ok (.array n _) => .ok (.lenK n)
        | .ok .string => .ok (.lenS a)
        | .ok (.slice _) => .ok (.lenV a)
        | .ok (.map _ _) => .ok (.lenM a)
        | _ => .error "len"
      | .cap => with1 P x fun a => match und P t with
        | .ok (.array n _) => .ok (.lenK n)
        | .ok (.slice _) => .ok (.capV a)
        | _ => .error "cap"
      | .clear => with1 P x fun a => match und P t with
        | .ok (.slice e) => match szOf P e, zeroAV P e with
          | .ok es, .ok z => if es = 0 ∨ z.cells.length ≠ es then .error "clear: no cells" else .ok (.clear es z.cells a)
          | _, _ => .error "clear"
        | _ => .error "clear"
      | _ => .error "builtin"
    | x :: l, _ => match b with
      | .min => with1 P x fun a => match cOs P l with | .ok l => .ok (.mm false a l) | .error e => .error e
      | .max => with1 P x fun a => match cOs P l with | .ok l => .ok (.mm true a l) | .error e => .error e
      | _ => .error "builtin"
    | _, _ => .error "builtin"

/-- reads an operation -/
def comp (o : Oper) : R COp :=
  match o.op with
  | .move x => with1 P x fun a => .ok (.move a)
  | .assign x => with1 P x fun a => .ok (.move a)
  | .pick c a b => with3 P c a b fun c a b => .ok (.pick c a b)
  | .alloc e => match zeroAV P e with | .ok z => .ok (.new z.cells) | .error e => .error e
  | .box _ x => with1 P x fun a => .ok (.box a)
  | .build t parts => match und P t, zeroAV P t with
    | .ok (.struct fields), .ok z => match fieldPlaces P fields.toList with
      | .ok pl => match placed P (pl[·]?) parts.toList with | .ok l => .ok (.build z.cells l) | .error e => .error e
      | .error e => .error e
    | .ok (.array _ e), .ok z => match szOf P e with
      | .ok size => match placed P (fun i => some (i * size, size)) parts.toList with | .ok l => .ok (.build z.cells l) | .error e => .error e
      | .error e => .error e
    | _, _ => .error "build"
  | .buildSlice t len parts => match und P t with
    | .ok (.slice e) => match szOf P e, zeroAV P e with
      | .ok es, .ok z => if len * es > 2 ^ 24 ∨ es = 0 ∨ z.cells.length ≠ es then .error "buildSlice: size" else
        match placed P (fun i => some (i * es, es)) parts.toList with
        | .ok l => .ok (.buildSlice len es (repl z.cells len) l)
        | .error e => .error e
      | _, _ => .error "buildSlice"
    | _ => .error "buildSlice"
  | .load t x => with1 P x fun a => match aggT P t with
    | .ok true => match szOf P t with | .ok n => .ok (.loadN n a) | .error e => .error e
    | .ok false => .ok (.load1 a)
    | .error e => .error e
  | .store t x y => with2 P x y fun a b => match szOf P t with | .ok n => .ok (.store n a b) | .error e => .error e
  | .nilCheck x => with1 P x fun a => .ok (.nilCheck a)
  | .binOp op t x y _ => with2 P x y fun a b => .ok (.bin op t (isConstO x || isConstO y) a b)
  | .unOp op _ x => with1 P x fun a => .ok (.un op a)
  | .convert s d x => with1 P x fun a => match und P s, und P d with
    | .ok _, .ok (.int k) => .ok (.conv (.int k) a)
    | .ok _, .ok .string => match und P s with
      | .ok (.slice e) => match und P e with | .ok (.int .u8) => .ok (.conv .strB a) | _ => .error "convert to string"
      | .ok .string => .ok (.conv .str a)
      | .ok (.int _) => .ok (.conv .str a)
      | _ => .error "convert to string"
    | .ok .string, .ok (.slice e) => match und P e with | .ok (.int .u8) => .ok (.conv .bytes a) | _ => .error "convert to runes"
    | _, _ => .error "convert"
  | .makeInterface t x => with1 P x fun a => match und P t with
    | .ok (.interface _) => .error "makeInterface"
    | .ok _ => .ok (.mkI t a)
    | .error e => .error e
  | .makeFunc fn first captured => match fn with
    | .func f => match cOs P first.toList, cOs P captured.toList with
      | .ok a, .ok b => .ok (.mkF f a b)
      | _, _ => .error "makeFunc"
    | _ => .error "makeFunc"
  | .makeMap t r => match und P t, cOO P r with
    | .ok (.map _ _), .ok r => .ok (.mkM r)
    | _, _ => .error "makeMap"
  | .makeSlice t l c => with2 P l c fun a b => match und P t with
    | .ok (.slice e) => match szOf P e, byOf P e, zeroAV P e with
      | .ok es, .ok bytes, .ok z => if es = 0 ∨ z.cells.length ≠ es then .error "makeSlice: no cells" else .ok (.mkS es bytes z.cells a b)
      | _, _, _ => .error "makeSlice"
    | _ => .error "makeSlice"
  | .slice t x lo hi mx => with1 P x fun a => match cOO P lo, cOO P hi, cOO P mx with
    | .ok lo, .ok hi, .ok mx => match und P t with
      | .ok .string => match mx with | none => .ok (.sliceS a lo hi) | some _ => .error "slice of a string"
      | .ok (.slice e) => match szOf P e with | .ok es => .ok (.sliceV es a lo hi mx) | .error e => .error e
      | .ok (.array n e) => match szOf P e with | .ok es => if es = 0 then .error "slice: no cells" else .ok (.sliceA n es a lo hi mx) | .error e => .error e
      | _ => .error "slice"
    | _, _, _ => .error "slice"
  | .fieldAddr s x f => with1 P x fun a => match und P s with
    | .ok (.struct fields) => match fields[f]? with
      | some f => match szOf P f.type with | .ok 0 => .error "fieldAddr: no cells" | .ok _ => .ok (.fieldAddr f.offset a) | .error e => .error e
      | none => .error "fieldAddr"
    | _ => .error "fieldAddr"
  | .field t x f => with1 P x fun a => match und P t with
    | .ok (.struct fields) => match fields[f]? with
      | some f => match aggT P f.type, szOf P f.type with
        | .ok true, .ok n => .ok (.fieldN f.offset n a)
        | .ok false, _ => .ok (.field1 f.offset a)
        | _, _ => .error "field"
      | none => .error "field"
    | _ => .error "field"
  | .indexAddr t x i => with2 P x i fun a b => match und P t with
    | .ok (.array n e) => match szOf P e with | .ok es => .ok (.idxA n es a b) | .error e => .error e
    | .ok (.slice e) => match szOf P e with | .ok es => .ok (.idxV es a b) | .error e => .error e
    | _ => .error "indexAddr"
  | .index t x i => with2 P x i fun a b => match und P t with
    | .ok (.array n e) => match aggT P e, szOf P e with
      | .ok true, .ok es => .ok (.indexN n es a b)
      | .ok false, .ok es => .ok (.index1 n es a b)
      | _, _ => .error "index"
    | .ok .string => .ok (.indexS a b)
    | _ => .error "index"
  | .lookup t x k ok => with2 P x k fun a b => match und P t with
    | .ok (.map kt et) => match zeroAV P et with | .ok z => .ok (.lookup kt z ok a b) | .error e => .error e
    | _ => .error "lookup"
  | .mapUpdate t m k v => with3 P m k v fun a b c => match und P t with | .ok (.map kt _) => .ok (.upd kt a b c) | _ => .error "mapUpdate"
  | .insert t m k v => with3 P m k v fun a b c => match und P t with | .ok (.map kt _) => .ok (.upd kt a b c) | _ => .error "insert"
  | .mapEntry t m k => with2 P m k fun a b => match und P t with
    | .ok (.map kt et) => match zeroAV P et with | .ok z => .ok (.mapEntry kt z a b) | .error e => .error e
    | _ => .error "mapEntry"
  | .entryStore _ m s v => with3 P m s v fun a b c => .ok (.entryStore a b c)
  | .range t x => with1 P x fun a => match und P t with
    | .ok .string => .ok (.rangeS a)
    | .ok (.map _ _) => .ok (.rangeM a)
    | _ => .error "range"
  | .next it s => with1 P it fun a => .ok (.next a s)
  | .entry it => with1 P it fun a => .ok (.entry a)
  | .typeAssert x _ t ok => with1 P x fun a => .ok (.tassert a t ok)
  | .extract x i => with1 P x fun a => .ok (.extract a i)
  | .call c => cCall P c
  | .defer c => match c.callee with
    | .value f => with1 P f fun g => match cOs P c.args.toList with | .ok l => .ok (.defer g l) | .error e => .error e
    | _ => .error "defer"
  | _ => .error "an operation that is not covered"

end

/-! ### operations, run -/

def CO.ev (a : AAct) : CO → AV
  | .t i => a.val i
  | .c v => v

def evL (a : AAct) : List CO → List AV
  | [] => []
  | x :: l => x.ev a :: evL a l

/-- what an operation yields -/
inductive AN where
  | value (v : AV)
  | skip
  | enter (f : FuncId) (args : List AV)
  | yield (l : Nat) (args : List AV)
  | defer (d : ADef)
  deriving Inhabited

abbrev RN := R (AN × AH)

def okV (v : AV) (h : AH) : RN := .ok (.value v, h)
def keepH (h : AH) (r : R AV) : RN := match r with | .ok v => .ok (.value v, h) | .error e => .error e
def skipH (r : R AH) : RN := match r with | .ok h => .ok (.skip, h) | .error e => .error e

def loadN (h : AH) (id off n : Nat) : R (List AV) :=
  match h.get id with
  | some (.cells vs _) => bif Nat.ble (off + n) vs.length then .ok ((vs.drop off).take n) else .error "load: out of the known cells"
  | _ => .error "load: no such block"

def load1 (h : AH) (id off : Nat) : R AV :=
  match h.get id with
  | some (.cells vs _) => match vs[off]? with | some v => .ok v | none => .error "load: out of the known cells"
  | _ => .error "load: no such block"

def splice (vs : List AV) (off : Nat) (l : List AV) : List AV := vs.take off ++ (l ++ vs.drop (off + l.length))

def storeN (h : AH) (id off : Nat) (l : List AV) : R AH :=
  match l with
  | [] => .ok h
  | v :: r => match h.get id with
    | some (.cells vs false) =>
      bif Nat.ble (off + (v :: r).length) vs.length && allScalar (v :: r) then .ok (h.set id (.cells (splice vs off (v :: r)) false)) else .error "store: out of the known cells"
    | _ => .error "store: no such block, or one that is only read"

/-- parts laid into cells -/
def fillA (a : AAct) (cells : List AV) : List (Nat × Nat × CO) → R (List AV)
  | [] => .ok cells
  | (off, size, x) :: rest =>
    let l := (x.ev a).cells
    bif Nat.beq l.length size && Nat.ble (off + l.length) cells.length then fillA a (splice cells off l) rest else .error "fill"

def cmpOp (op : BinOp) (a b : Int) : Option Bool :=
  match op with
  | .eql => some (a == b)
  | .neq => some (a != b)
  | .lss => some (a < b)
  | .leq => some (a ≤ b)
  | .gtr => some (a > b)
  | .geq => some (a ≥ b)
  | _ => none

def strOp (op : BinOp) (a b : List UInt8) : R AV :=
  match op with
  | .add => if a.length + b.length ≤ 2 ^ 62 then .ok (.str (a ++ b)) else .error "string +"
  | .eql => .ok (.bool (a == b))
  | .neq => .ok (.bool !(a == b))
  | .lss => .ok (.bool (Op.bytesLess a b))
  | .leq => .ok (.bool (Op.bytesLess a b || a == b))
  | .gtr => .ok (.bool !(Op.bytesLess a b || a == b))
  | .geq => .ok (.bool !(Op.bytesLess a b))
  | _ => .error "string op"

/-- the model's wrap, by a short way where nothing wraps -/
def wrapF (k : IntKind) (n : Int) : Int :=
  match n with
  | .ofNat m => bif Nat.blt m (2 ^ (k.bits - 1)) then .ofNat m else k.wrap (.ofNat m)
  | .negSucc m => k.wrap (.negSucc m)

def intOp (op : BinOp) (k : IntKind) (a b : Int) : R AV :=
  match op with
  | .add => .ok (.int k (wrapF k (a + b)))
  | .sub => .ok (.int k (wrapF k (a - b)))
  | .mul => .ok (.int k (wrapF k (a * b)))
  | .quo => if b = 0 then .error "/ 0" else .ok (.int k (wrapF k (a.tdiv b)))
  | .rem => if b = 0 then .error "% 0" else .ok (.int k (a.tmod b))
  | .and => .ok (.int k (wrapF k (BitVec.ofInt k.bits a &&& BitVec.ofInt k.bits b).toNat))
  | .or => .ok (.int k (wrapF k (BitVec.ofInt k.bits a ||| BitVec.ofInt k.bits b).toNat))
  | .xor => .ok (.int k (wrapF k (BitVec.ofInt k.bits a ^^^ BitVec.ofInt k.bits b).toNat))
  | .andNot => .ok (.int k (wrapF k (BitVec.ofInt k.bits a &&& ~~~(BitVec.ofInt k.bits b)).toNat))
  | op => match cmpOp op a b with | some r => .ok (.bool r) | none => .error "int op"

def shiftOp (op : BinOp) (k : IntKind) (a b : Int) : R AV :=
  match op with
  | .shl => if b < 0 then .error "shift" else .ok (.int k (wrapF k (a * 2 ^ min b.toNat k.bits)))
  | .shr => if b < 0 then .error "shift" else .ok (.int k (a.fdiv (2 ^ min b.toNat k.bits)))
  | _ => .error "kinds"

section
variable (P : Program)

def part (t : TypeId) (cs : List AV) (off : Nat) : R AV :=
  match aggT P t with
  | .ok true => match szOf P t with
    | .ok n => if off + n ≤ cs.length then .ok (.agg ((cs.drop off).take n)) else .error "part"
    | .error e => .error e
  | .ok false => match cs[off]? with | some v => .ok v | none => .error "part: no such cell"
  | .error e => .error e

def eqFields (eq : TypeId → AV → AV → R Bool) : List Field → List AV → List AV → R Bool
  | [], _, _ => .ok true
  | f :: fs, xs, ys =>
    if f.name ≠ "_" then
      match part P f.type xs f.offset, part P f.type ys f.offset with
      | .ok a, .ok b => match eq f.type a b with
        | .ok true => eqFields eq fs xs ys
        | .ok false => .ok false
        | .error e => .error e
      | _, _ => .error "== part"
    else eqFields eq fs xs ys

def eqElems (eq : TypeId → AV → AV → R Bool) (elem : TypeId) (n : Nat) (xs ys : List AV) : Nat → Nat → R Bool
  | 0, _ => .ok true
  | k + 1, i =>
    match part P elem xs (i * n), part P elem ys (i * n) with
    | .ok a, .ok b => match eq elem a b with
      | .ok true => eqElems eq elem n xs ys k (i + 1)
      | .ok false => .ok false
      | .error e => .error e
    | _, _ => .error "== part"

/-- '==' of scalars, where the type does not matter -/
def eqScalar (x y : AV) : Option Bool :=
  match x with
  | .bool a => match y with | .bool b => some (a == b) | _ => none
  | .int k a => match y with | .int k' b => if k = k' then some (a == b) else none | _ => none
  | .str a => match y with | .str b => some (a == b) | _ => none
  | .nilp => match y with | .nilp => some true | .ptr _ _ => some false | _ => none
  | .ptr _ _ => match y with | .nilp => some false | _ => none
  | .nili => match y with | .nili => some true | .iface _ _ => some false | _ => none
  | .iface _ _ => match y with | .nili => some false | _ => none
  | .nils => match y with | .nils => some true | .slice .. => some false | _ => none
  | .slice .. => match y with | .nils => some false | _ => none
  | .nilm => match y with | .nilm => some true | .map _ => some false | _ => none
  | .map _ => match y with | .nilm => some false | _ => none
  | .nilf => match y with | .nilf => some true | .func .. => some false | _ => none
  | .func .. => match y with | .nilf => some false | _ => none
  | _ => none

/-- the type is one of such values -/
def fitsScalar (d : TypeDesc) (x _y : AV) : Bool :=
  match d with
  | .bool => match x with | .bool _ => true | _ => false
  | .int _ => match x with | .int _ _ => true | _ => false
  | .string => match x with | .str _ => true | _ => false
  | .pointer _ => match x with | .nilp => true | .ptr _ _ => true | _ => false
  | .interface _ => match x with | .nili => true | .iface _ _ => true | _ => false
  | .slice _ => match x with | .nils => true | .slice .. => true | _ => false
  | .map _ _ => match x with | .nilm => true | .map _ => true | _ => false
  | .func _ _ _ => match x with | .nilf => true | .func .. => true | _ => false
  | _ => false

/-- '==' at a type -/
def eqAt : Nat → TypeId → AV → AV → R Bool
  | 0, _, _, _ => .error "== depth"
  | d + 1, t, x, y =>
    match und P t with
    | .ok (.struct fields) => match x, y with
      | .agg xs, .agg ys => if P.stoodInHeld t then .error "== stood in" else eqFields P (eqAt d) fields.toList xs ys
      | _, _ => .error "== operands"
    | .ok (.array len elem) => match x, y with
      | .agg xs, .agg ys => match szOf P elem with
        | .ok n => eqElems P (eqAt d) elem n xs ys len 0
        | .error e => .error e
      | _, _ => .error "== operands"
    | .ok td => if fitsScalar td x y then ofO "== operands" (eqScalar x y) else .error "== operands"
    | .error e => .error e

def eqNeq (op : BinOp) : R Bool → R AV
  | .ok b => match op with | .eql => .ok (.bool b) | .neq => .ok (.bool !b) | _ => .error "binop"
  | .error e => .error e

def binSlow (op : BinOp) (t : TypeId) (lit : Bool) (a b : AV) : R AV :=
  match a, b with
  | .nili, .nili => if lit then eqNeq op (eqAt P 20 t .nili .nili) else .error "== of two nil interfaces"
  | .agg xs, .agg ys => if P.eqGuardType P.depth t then .error "== guard" else eqNeq op (eqAt P 20 t (.agg xs) (.agg ys))
  | a, b => eqNeq op (eqAt P 20 t a b)

def isShift : BinOp → Bool
  | .shl | .shr => true
  | _ => false

def opBin (op : BinOp) (t : TypeId) (lit : Bool) (a b : AV) : R AV :=
  match a with
  | .int k m => match b with
    | .int k' n => if isShift op then shiftOp op k m n else if k = k' then intOp op k m n else .error "kinds"
    | _ => .error "kinds"
  | .str s => match b with
    | .str u => strOp op s u
    | _ => .error "string op"
  | a => binSlow P op t lit a b

def opUn (op : UnOp) (x : AV) : R AV :=
  match x with
  | .int k n => match op with
    | .neg => .ok (.int k (wrapF k (0 - n)))
    | .xor => .ok (.int k (wrapF k (BitVec.ofInt k.bits (if k.signed then -1 else k.max) ^^^ BitVec.ofInt k.bits n).toNat))
    | _ => .error "unary"
  | .bool b => match op with | .not => .ok (.bool !b) | _ => .error "unary"
  | _ => .error "unary"

def bytesAV : List UInt8 → List AV
  | [] => []
  | b :: l => .int .u8 b.toNat :: bytesAV l

def avBytes : List AV → R (List UInt8)
  | [] => .ok []
  | v :: l => match v with
    | .int .u8 n => match avBytes l with | .ok r => .ok (UInt8.ofNat n.toNat :: r) | .error e => .error e
    | _ => .error "bytes"

def opConv (c : CConv) (x : AV) (h : AH) : RN :=
  match c with
  | .int k => match x with | .int _ n => okV (.int k (wrapF k n)) h | _ => .error "convert"
  | .str => match x with
    | .int _ n => okV (.str (Utf8.encode n).data.toList) h
    | .str s => okV (.str s) h
    | _ => .error "convert"
  | .strB => match x with
    | .nils => okV (.str []) h
    | .slice id off len _ _ es => if es = 1 then match loadN h id off len with
      | .ok l => match avBytes l with | .ok s => okV (.str s) h | .error e => .error e
      | .error e => .error e
      else .error "convert"
    | _ => .error "convert"
  | .bytes => match x with
    | .str s => okV (.slice h.next 0 s.length s.length false 1) (h.push (.cells (bytesAV s) false))
    | _ => .error "convert"

def opMkS (es bytes : Nat) (z : List AV) (len cap : AV) (h : AH) : RN :=
  match len, cap with
  | .int _ l, .int _ c =>
    if 0 ≤ l ∧ l ≤ c ∧ bytes * c ≤ 2 ^ 40 ∧ c ≤ 2 ^ 40 then
      okV (.slice h.next 0 l.toNat c.toNat true es) (h.push (.cells (repl z c.toNat) false))
    else .error "makeSlice"
  | _, _ => .error "makeSlice"

def boundA (x : AV) (y : Nat) : R Nat :=
  match x with
  | .int _ i => if 0 ≤ i ∧ i ≤ y then .ok i.toNat else .error "slice bound"
  | _ => .error "slice bound"

def boundO (x : Option AV) (d y : Nat) : R Nat := match x with | some v => boundA v y | none => .ok d

/-- low, high and max of a slice -/
def boundsA (len cap : Nat) (low high max : Option AV) : R (Nat × Nat × Nat) :=
  match boundO max cap cap with
  | .ok m => match boundO high len m with
    | .ok hi => match boundO low 0 hi with
      | .ok lo => if high.isNone && max.isSome then .error "max without high" else .ok (lo, hi, m)
      | .error e => .error e
    | .error e => .error e
  | .error e => .error e

def evOO (a : AAct) : Option CO → Option AV
  | none => none
  | some x => some (x.ev a)

def opSliceS (x : AV) (lo hi : Option AV) : R AV :=
  match x with
  | .str s => match boundsA s.length s.length lo hi none with
    | .ok (l, hi, _) => .ok (.str ((s.drop l).take (hi - l)))
    | .error e => .error e
  | _ => .error "slice"

def opSliceV (es : Nat) (x : AV) (lo hi mx : Option AV) : R AV :=
  match x with
  | .nils => match boundsA 0 0 lo hi mx with
    | .ok _ => .ok .nils
    | .error e => .error e
  | .slice id off len cap x es' => if es = es' then match boundsA len cap lo hi mx with
      | .ok (l, hi, m) => .ok (.slice id (off + l * es) (hi - l) (m - l) (x || mx.isSome) es)
      | .error e => .error e
    else .error "slice: size"
  | _ => .error "slice"

def opSliceA (n es : Nat) (h : AH) (x : AV) (lo hi mx : Option AV) : R AV :=
  match x with
  | .ptr id off => match h.get id with
    | some (.cells vs _) => bif Nat.ble (off + n * es) vs.length then match boundsA n n lo hi mx with
      | .ok (l, hi, m) => .ok (.slice id (off + l * es) (hi - l) (m - l) true es)
      | .error e => .error e
      else .error "slice: out of the known cells"
    | _ => .error "slice: no such block"
  | _ => .error "slice"

def opIdxA (len es : Nat) (x i : AV) : R AV :=
  match x with
  | .ptr id off => match i with
    | .int _ i => if 0 ≤ i ∧ i < len then .ok (.ptr id (off + i.toNat * es)) else .error "index out of range"
    | _ => .error "index"
  | _ => .error "index"

def opIdxV (es : Nat) (x i : AV) : R AV :=
  match x with
  | .slice id off len _ _ es' => match i with
    | .int _ i => if es = es' then (if 0 ≤ i ∧ i < len then .ok (.ptr id (off + i.toNat * es)) else .error "index out of range") else .error "index: size"
    | _ => .error "index"
  | _ => .error "index"

def aggPart (x : AV) (off n : Nat) : R AV :=
  match x with
  | .agg cs => bif Nat.ble (off + n) cs.length then .ok (.agg ((cs.drop off).take n)) else .error "part"
  | _ => .error "part"

def aggOne (x : AV) (off : Nat) : R AV :=
  match x with
  | .agg cs => match cs[off]? with | some v => .ok v | none => .error "part"
  | _ => .error "part"

def opIndex (one : Bool) (len es : Nat) (x i : AV) : R AV :=
  match i with
  | .int _ i => if 0 ≤ i ∧ i < len then (match one with | true => aggOne x (i.toNat * es) | false => aggPart x (i.toNat * es) es) else .error "index out of range"
  | _ => .error "index"

def opIndexS (x i : AV) : R AV :=
  match x with
  | .str s => match i with
    | .int _ i => if 0 ≤ i then match s[i.toNat]? with | some b => .ok (.int .u8 b.toNat) | none => .error "index out of range" else .error "index out of range"
    | _ => .error "index"
  | _ => .error "index"

def findE (t : TypeId) (k : AV) : List AEntry → Nat → R (Option (Nat × AV))
  | [], _ => .ok none
  | e :: es, i => match eqAt P 20 t k e.key with
    | .ok true => .ok (some (i, e.val))
    | .ok false => findE t k es (i + 1)
    | .error e => .error e

def keyFields (ok : TypeId → AV → Bool) (cs : List AV) : List Field → Bool
  | [] => true
  | f :: fs => match part P f.type cs f.offset with
    | .ok v => ok f.type v && keyFields ok cs fs
    | .error _ => false

/-- may be a key: a number, a text, a bool, or a struct of these -/
def keyOk : Nat → TypeId → AV → Bool
  | 0, _, _ => false
  | d + 1, t, v => match P.underlying t with
    | some (.int _) => match v with | .int _ _ => true | _ => false
    | some .string => match v with | .str _ => true | _ => false
    | some .bool => match v with | .bool _ => true | _ => false
    | some (.struct fields) => match v with | .agg cs => keyFields P (keyOk d) cs fields.toList | _ => false
    | _ => false

def entriesOf (h : AH) (x : AV) : R (List AEntry) :=
  match x with
  | .nilm => .ok []
  | .map id => match h.get id with | some (.map l _) => .ok l | _ => .error "map"
  | _ => .error "map"

def withOk (ok : Bool) (v : AV) (b : Bool) : AV := match ok with | true => .tuple [v, .bool b] | false => v

def opLookup (kt : TypeId) (z : AV) (ok : Bool) (h : AH) (x k : AV) : R AV :=
  match entriesOf h x with
  | .ok es => if keyOk P 10 kt k then match findE P kt k es 0 with
      | .ok (some (_, v)) => .ok (withOk ok v true)
      | .ok none => .ok (withOk ok z false)
      | .error e => .error e
    else .error "lookup: key"
  | .error e => .error e

def sameS (x y : AV) : Bool :=
  match x with
  | .bool a => match y with | .bool b => a == b | _ => false
  | .int k a => match y with | .int k' b => k == k' && a == b | _ => false
  | .str a => match y with | .str b => a == b | _ => false
  | _ => false

def sameSL : List AV → List AV → Bool
  | [], [] => true
  | x :: l, y :: r => sameS x y && sameSL l r
  | _, _ => false

/-- keys that are the same to the bit -/
def sameK (x y : AV) : Bool :=
  match x with
  | .agg l => match y with | .agg r => sameSL l r | _ => false
  | x => sameS x y

def keyAt (k : AV) : Nat → List AEntry → Bool
  | _, [] => false
  | 0, e :: _ => sameK e.key k
  | i + 1, _ :: es => keyAt k i es

def setVal (k v : AV) : Nat → List AEntry → List AEntry
  | _, [] => []
  | 0, e :: es => { e with key := k, val := v } :: es
  | i + 1, e :: es => e :: setVal k v i es

def setKey (k : AV) : Nat → List AEntry → List AEntry
  | _, [] => []
  | 0, e :: es => { e with key := k } :: es
  | i + 1, e :: es => e :: setKey k i es

def opUpd (kt : TypeId) (h : AH) (m k v : AV) : R AH :=
  match m with
  | .map id => match h.get id with
    | some (.map es clock) => if keyOk P 10 kt k then match findE P kt k es 0 with
        | .ok (some (i, _)) => if keyAt k i es then .ok (h.set id (.map (setVal k v i es) clock)) else .error "mapUpdate: which key stays"
        | .ok none => .ok (h.set id (.map (es ++ [⟨k, v, clock⟩]) (clock + 1)))
        | .error e => .error e
      else .error "mapUpdate: key"
    | _ => .error "mapUpdate"
  | _ => .error "mapUpdate"

def opMapEntry (kt : TypeId) (z : AV) (h : AH) (m k : AV) : RN :=
  match m with
  | .map id => match h.get id with
    | some (.map es clock) => if keyOk P 10 kt k then match findE P kt k es 0 with
        | .ok (some (i, v)) => match es[i]? with
          | some e => if keyAt k i es then okV (.tuple [v, .int .i64 e.born]) (h.set id (.map (setKey k i es) clock)) else .error "mapEntry: which key stays"
          | none => .error "mapEntry"
        | .ok none => okV (.tuple [z, .int .i64 clock]) (h.set id (.map (es ++ [⟨k, z, clock⟩]) (clock + 1)))
        | .error e => .error e
      else .error "mapEntry: key"
    | _ => .error "mapEntry"
  | _ => .error "mapEntry"

def findBorn (b : Int) : List AEntry → Nat → Option Nat
  | [], _ => none
  | e :: es, i => bif (e.born : Int) == b then some i else findBorn b es (i + 1)

def setValAt (v : AV) : Nat → List AEntry → List AEntry
  | _, [] => []
  | 0, e :: es => { e with val := v } :: es
  | i + 1, e :: es => e :: setValAt v i es

def opEntryStore (h : AH) (m stamp v : AV) : R AH :=
  match m, stamp with
  | .map id, .int _ b => match h.get id with
    | some (.map es clock) => match findBorn b es 0 with
      | some i => .ok (h.set id (.map (setValAt v i es) clock))
      | none => .error "entryStore"
    | _ => .error "entryStore"
  | _, _ => .error "entryStore"

def opRangeS (h : AH) (x : AV) : RN :=
  match x with
  | .str s => okV (.ptr h.next 0) (h.push (.siter s 0))
  | _ => .error "range"

def opRangeM (h : AH) (x : AV) : RN :=
  match x with
  | .nilm => okV (.ptr h.next 0) (h.push (.miter none 0 [] 0))
  | .map m => match h.get m with
    | some (.map _ clock) => okV (.ptr h.next 0) (h.push (.miter (some m) clock [] clock))
    | _ => .error "range"
  | _ => .error "range"

def nextS (h : AH) (id : Nat) : RN :=
  match h.get id with
  | some (.siter s pos) =>
    bif Nat.blt pos s.length then
      match Utf8.decode ⟨⟨s⟩⟩ pos with
      | (c, w) => forceN (pos + w) fun p => okV (.tuple [.bool true, .int .i64 pos, .int .i32 c]) (h.set id (.siter s p))
    else okV (.tuple [.bool false]) h
  | _ => .error "next"

def nextM (h : AH) (id : Nat) : RN :=
  match h.get id with
  | some (.miter m since seen last) => match m with
    | none => okV (.tuple [.bool false]) h
    | some m => match h.get m with
      | some (.map es clock) =>
        if !seen.isEmpty && !es.isEmpty && es.all (fun e => Nat.ble last e.born) then .error "next: all gone" else
        match es.filter (fun e => !seen.contains e.born) with
        | [] => okV (.tuple [.bool false]) h
        | [e] => if e.born < since then okV (.tuple [.bool true, e.key, e.val]) (h.set id (.miter (some m) since (seen ++ [e.born]) clock)) else .error "next: a new entry"
        | _ => .error "next: several entries"
      | _ => .error "next"
  | _ => .error "next"

def opNext (h : AH) (it : AV) (isString : Bool) : RN :=
  match it with
  | .ptr id 0 => match isString with | true => nextS h id | false => nextM h id
  | _ => .error "next"

def opEntry (h : AH) (it : AV) : R AV :=
  match it with
  | .ptr id 0 => match h.get id with
    | some (.miter (some m) _ seen stepped) => match seen.getLast?, h.get m with
      | some b, some (.map es clock) => if clock = stepped then match es.find? (fun e => e.born == b) with
          | some e => .ok (.tuple [e.key, e.val])
          | none => .error "entry"
        else .error "entry: an insertion"
      | _, _ => .error "entry"
    | _ => .error "entry"
  | _ => .error "entry"

def opLenS (x : AV) : R AV := match x with | .str s => .ok (.int .i64 (.ofNat s.length)) | _ => .error "len"

def opLenV (x : AV) : R AV :=
  match x with
  | .nils => .ok (.int .i64 0)
  | .slice _ _ n _ _ _ => .ok (.int .i64 (.ofNat n))
  | _ => .error "len"

def opLenM (h : AH) (x : AV) : R AV :=
  match x with
  | .nilm => .ok (.int .i64 0)
  | .map id => match h.get id with | some (.map es _) => .ok (.int .i64 (.ofNat es.length)) | _ => .error "len"
  | _ => .error "len"

def opCapV (x : AV) : R AV :=
  match x with
  | .nils => .ok (.int .i64 0)
  | .slice _ _ _ cap true _ => .ok (.int .i64 (.ofNat cap))
  | _ => .error "cap"

/-- the cells and how many elements a slice or a string has -/
def srcCells (h : AH) (es : Nat) (x : AV) : R (Nat × List AV) :=
  match x with
  | .nils => .ok (0, [])
  | .slice id off len _ _ es' => if es = es' then match loadN h id off (len * es) with | .ok l => .ok (len, l) | .error e => .error e else .error "source: size"
  | .str s => if es = 1 then .ok (s.length, bytesAV s) else .error "source: size"
  | _ => .error "source"

/-- append, the cells at hand -/
def appTo (es bytes : Nat) (s : AV) (n : Nat) (new : List AV) (h : AH) : RN :=
  match s with
  | .nils =>
    if n = 0 then okV .nils h
    else if n * bytes ≤ 2 ^ 40 ∧ n ≤ 2 ^ 40 then okV (.slice h.next 0 n n false es) (h.push (.cells new false)) else .error "append: size"
  | .slice id off len cap x es' => if es' ≠ es then .error "append: size" else
    forceN (len + n) fun m =>
    bif Nat.ble m cap then
      match storeN h id (off + len * es) new with
      | .ok h => okV (.slice id off m cap x es) h
      | .error e => .error e
    else if m * bytes ≤ 2 ^ 40 ∧ m ≤ 2 ^ 40 then match loadN h id off (len * es) with
      | .ok old => if allScalar new then
          match x with
          | true => okV (.slice h.next 0 m m false es) (h.push (.cells (old ++ new) false))
          | false => match h.get id with
            | some (.cells _ false) => okV (.slice h.next 0 m m false es) ((h.kill id).push (.cells (old ++ new) false))
            | _ => .error "append: only read"
        else .error "append: scalars"
      | .error e => .error e
    else .error "append: size"
  | _ => .error "append"

def opApp (es bytes : Nat) (s x : AV) (h : AH) : RN :=
  match srcCells h es x with
  | .ok (n, new) => appTo es bytes s n new h
  | .error e => .error e

def opAppZ (es bytes : Nat) (z : List AV) (s x : AV) (h : AH) : RN :=
  match x with
  | .int _ n => if 0 ≤ n ∧ n ≤ 2 ^ 40 ∧ n * bytes ≤ 2 ^ 40 then appTo es bytes s n.toNat (repl z n.toNat) h else .error "append: make"
  | _ => .error "append: make"

def opCopy (es : Nat) (d s : AV) (h : AH) : RN :=
  match srcCells h es s with
  | .ok (n, l) => match d with
    | .nils => okV (.int .i64 0) h
    | .slice id off len _ _ es' => if es = es' then
      match storeN h id off (l.take (min n len * es)) with
      | .ok h => okV (.int .i64 (.ofNat (min n len))) h
      | .error e => .error e
      else .error "copy: size"
    | _ => .error "copy"
  | .error e => .error e

def opClear (es : Nat) (z : List AV) (x : AV) (h : AH) : RN :=
  match x with
  | .nils => okV (.tuple []) h
  | .slice id off len _ _ es' => if es' = es then (if len = 0 then okV (.tuple []) h else match storeN h id off (repl z len) with
    | .ok h => okV (.tuple []) h
    | .error e => .error e) else .error "clear: size"
  | _ => .error "clear"

def eraseAt : Nat → List AEntry → List AEntry
  | _, [] => []
  | 0, _ :: es => es
  | i + 1, e :: es => e :: eraseAt i es

def opDelete (kt : TypeId) (m k : AV) (h : AH) : RN :=
  match m with
  | .nilm => if keyOk P 10 kt k then okV (.tuple []) h else .error "delete"
  | .map id => match h.get id with
    | some (.map es clock) => if keyOk P 10 kt k then match findE P kt k es 0 with
        | .ok (some (i, _)) => okV (.tuple []) (h.set id (.map (eraseAt i es) clock))
        | .ok none => okV (.tuple []) h
        | .error e => .error e
      else .error "delete: key"
    | _ => .error "delete"
  | _ => .error "delete"

def mm2 (isMax : Bool) (a b : AV) : R AV :=
  match a, b with
  | .int k x, .int _ y => match isMax with
    | true => .ok (.int k (if y > x then y else x))
    | false => .ok (.int k (if y < x then y else x))
  | _, _ => .error "min, max"
def foldMM (isMax : Bool) (a : AV) : List AV → R AV
  | [] => .ok a
  | b :: l => match mm2 isMax a b with | .ok c => foldMM isMax c l | .error e => .error e

def assertFails (ok : Bool) (t : TypeId) : R AV :=
  match ok with
  | true => match zeroAV P t with | .ok z => .ok (.tuple [z, .bool false]) | .error e => .error e
  | false => .error "assertion"

def opTypeAssert (x : AV) (asserted : TypeId) (ok : Bool) : R AV :=
  match und P asserted with
  | .ok (.interface want) => match x with
    | .iface t v => match P.info? t with
      | some i => match Instr.missingMethod want i.methods with
        | none => .ok (withOk ok (.iface t v) true)
        | some _ => assertFails P ok asserted
      | none => .error "typeAssert"
    | .nili => assertFails P ok asserted
    | _ => .error "typeAssert"
  | .ok _ => match x with
    | .nili => assertFails P ok asserted
    | .iface t v => if t = asserted then .ok (withOk ok v true) else assertFails P ok asserted
    | _ => .error "typeAssert"
  | .error e => .error e

/-- a call of a function value -/
def callFn (fn : Fn) (captured args : List AV) (h : AH) : RN :=
  match fn with
  | .func f => .ok (.enter f (args ++ captured), h)
  | .yield l => .ok (.yield l args, h)
  | _ => .error "call: kind of function"

def callVal (f : AV) (args : List AV) (h : AH) : RN :=
  match f with
  | .func fn first captured => callFn fn captured (first ++ args) h
  | _ => .error "call: of what"

/-- a method of an interface value's, by the plain road: no embedding, and the receiver as it stands -/
def callMeth (recv : AV) (name : String) (args : List AV) (h : AH) : RN :=
  match recv with
  | .iface t v => match P.info? t with
    | some i => match i.methods.find? (·.name == name) with
      | some m => if m.path.isEmpty then match m.func with
          | some (f, ptrRecv) => match P.underlying t, ptrRecv with
            | some (.pointer _), true => callFn (.func f) [] (v :: args) h
            | some (.pointer _), false => .error "method: a value's, by a pointer"
            | some _, false => callFn (.func f) [] (v :: args) h
            | _, _ => .error "method"
          | none => .error "method"
        else .error "method: a road"
      | none => .error "method"
    | none => .error "method"
  | _ => .error "invoke"

def opDefer (f : AV) (args : List AV) (h : AH) : RN :=
  match f with
  | .func fn first captured => match fn with
    | .func _ => .ok (.defer (.call fn captured (first ++ args)), h)
    | _ => .error "defer"
  | _ => .error "defer"

def opLoad1 (x : AV) (h : AH) : RN := match x with | .ptr id off => keepH h (load1 h id off) | _ => .error "load"
def opLoadN (n : Nat) (x : AV) (h : AH) : RN :=
  match x with
  | .ptr id off => match loadN h id off n with | .ok l => okV (.agg l) h | .error e => .error e
  | _ => .error "load"
def opStore (n : Nat) (x v : AV) (h : AH) : RN :=
  match x with
  | .ptr id off => bif Nat.beq v.cells.length n then skipH (storeN h id off v.cells) else .error "store: size"
  | _ => .error "store"
def opNilCheck (x : AV) (h : AH) : RN :=
  match x with
  | .ptr id off => okV (.ptr id off) h
  | .map id => okV (.map id) h
  | .iface t v => okV (.iface t v) h
  | .func fn a b => match fn with
    | .func f => okV (.func (.func f) a b) h
    | .yield f => okV (.func (.yield f) a b) h
    | _ => .error "nilCheck"
  | _ => .error "nilCheck"
def opFieldAddr (off : Nat) (x : AV) : R AV := match x with | .ptr id o => .ok (.ptr id (o + off)) | _ => .error "fieldAddr"
def opPick (c a b : AV) : R AV := match c with | .bool true => .ok a | .bool false => .ok b | _ => .error "pick"
def opExtract (x : AV) (i : Nat) : R AV := match x with | .tuple l => ofO "extract" l[i]? | _ => .error "extract"
def opMkM (r : Option AV) (h : AH) : RN :=
  match r with
  | none => okV (.map h.next) (h.push (.map [] 0))
  | some (.int _ _) => okV (.map h.next) (h.push (.map [] 0))
  | _ => .error "makeMap"
def opBuild (z : List AV) (pl : List (Nat × Nat × CO)) (a : AAct) : R AV := match fillA a z pl with | .ok l => .ok (.agg l) | .error e => .error e
def opBuildSlice (len es : Nat) (z : List AV) (pl : List (Nat × Nat × CO)) (a : AAct) (h : AH) : RN :=
  match fillA a z pl with
  | .ok l => okV (.slice h.next 0 len len true es) (h.push (.cells l false))
  | .error e => .error e
def opNew (z : List AV) (h : AH) : RN := okV (.ptr h.next 0) (h.push (.cells z false))

/-- runs an operation that has been read -/
def evC (c : COp) : AAct → AH → RN :=
  match c with
  | .move x => fun a h => okV (x.ev a) h
  | .pick c x y => fun a h => keepH h (opPick (c.ev a) (x.ev a) (y.ev a))
  | .new z => fun _ h => opNew z h
  | .box x => fun a h => opNew (x.ev a).cells h
  | .build z pl => fun a h => keepH h (opBuild z pl a)
  | .buildSlice len es z pl => fun a h => opBuildSlice len es z pl a h
  | .load1 x => fun a h => opLoad1 (x.ev a) h
  | .loadN n x => fun a h => opLoadN n (x.ev a) h
  | .store n x y => fun a h => opStore n (x.ev a) (y.ev a) h
  | .nilCheck x => fun a h => opNilCheck (x.ev a) h
  | .bin op t lit x y => fun a h => keepH h (opBin P op t lit (x.ev a) (y.ev a))
  | .un op x => fun a h => keepH h (opUn op (x.ev a))
  | .conv c x => fun a h => opConv c (x.ev a) h
  | .mkI t x => fun a h => okV (.iface t (x.ev a)) h
  | .mkF f first captured => fun a h => okV (.func (.func f) (evL a first) (evL a captured)) h
  | .mkM r => fun a h => opMkM (evOO a r) h
  | .mkS es bytes z l c => fun a h => opMkS es bytes z (l.ev a) (c.ev a) h
  | .sliceS x lo hi => fun a h => keepH h (opSliceS (x.ev a) (evOO a lo) (evOO a hi))
  | .sliceV es x lo hi mx => fun a h => keepH h (opSliceV es (x.ev a) (evOO a lo) (evOO a hi) (evOO a mx))
  | .sliceA n es x lo hi mx => fun a h => keepH h (opSliceA n es h (x.ev a) (evOO a lo) (evOO a hi) (evOO a mx))
  | .fieldAddr off x => fun a h => keepH h (opFieldAddr off (x.ev a))
  | .field1 off x => fun a h => keepH h (aggOne (x.ev a) off)
  | .fieldN off n x => fun a h => keepH h (aggPart (x.ev a) off n)
  | .idxA len es x i => fun a h => keepH h (opIdxA len es (x.ev a) (i.ev a))
  | .idxV es x i => fun a h => keepH h (opIdxV es (x.ev a) (i.ev a))
  | .index1 len es x i => fun a h => keepH h (opIndex true len es (x.ev a) (i.ev a))
  | .indexN len es x i => fun a h => keepH h (opIndex false len es (x.ev a) (i.ev a))
  | .indexS x i => fun a h => keepH h (opIndexS (x.ev a) (i.ev a))
  | .lookup kt z ok x k => fun a h => keepH h (opLookup P kt z ok h (x.ev a) (k.ev a))
  | .upd kt m k v => fun a h => skipH (opUpd P kt h (m.ev a) (k.ev a) (v.ev a))
  | .mapEntry kt z m k => fun a h => opMapEntry P kt z h (m.ev a) (k.ev a)
  | .entryStore m s v => fun a h => skipH (opEntryStore h (m.ev a) (s.ev a) (v.ev a))
  | .rangeS x => fun a h => opRangeS h (x.ev a)
  | .rangeM x => fun a h => opRangeM h (x.ev a)
  | .next it s => fun a h => opNext h (it.ev a) s
  | .entry it => fun a h => keepH h (opEntry h (it.ev a))
  | .tassert x t ok => fun a h => keepH h (opTypeAssert P (x.ev a) t ok)
  | .extract x i => fun a h => keepH h (opExtract (x.ev a) i)
  | .app es bytes s x => fun a h => opApp es bytes (s.ev a) (x.ev a) h
  | .appZ es bytes z s x => fun a h => opAppZ es bytes z (s.ev a) (x.ev a) h
  | .lenK n => fun _ h => okV (.int .i64 (.ofNat n)) h
  | .lenS x => fun a h => keepH h (opLenS (x.ev a))
  | .lenV x => fun a h => keepH h (opLenV (x.ev a))
  | .lenM x => fun a h => keepH h (opLenM h (x.ev a))
  | .capV x => fun a h => keepH h (opCapV (x.ev a))
  | .copy es d s => fun a h => opCopy es (d.ev a) (s.ev a) h
  | .delete kt m k => fun a h => opDelete P kt (m.ev a) (k.ev a) h
  | .clear es z x => fun a h => opClear es z (x.ev a) h
  | .mm isMax x l => fun a h => keepH h (foldMM isMax (x.ev a) (evL a l))
  | .callV f args => fun a h => callVal (f.ev a) (evL a args) h
  | .callM r name args => fun a h => callMeth P (r.ev a) name (evL a args) h
  | .defer f args => fun a h => opDefer (f.ev a) (evL a args) h

end

/-- how a piece of code is left -/
inductive AX where
  | normal
  | exit (id : Nat)
  | goto (l : Nat)
  | ret
  deriving Inhabited

inductive Tgt where
  | fn (f : FuncId)
  | yield (l : Nat)

abbrev CallF := Tgt → List AV → AH → R (AV × AH)

section
variable (P : Program)

def wantedA (ops : Array Oper) (o : Oper) (a : AAct) : R Bool :=
  match o.guard with
  | none => .ok true
  | some (j, want) => match (ops[j]?).bind (·.dst) with
    | some d => match a.val d with
      | .bool b => .ok (b == want)
      | .raw _ => .error "guard"
      | _ => .ok false
    | none => .ok false

/-! ### regions whose order is drawn -/

inductive DKind where
  | heavy
  | pure
  | read
  | alloc

def COp.kind : COp → DKind
  | .move _ | .pick _ _ _ | .build _ _ | .bin _ _ _ _ _ | .un _ _ | .mkI _ _ | .mkF _ _ _ | .sliceS _ _ _ | .sliceV _ _ _ _ _ | .fieldAddr _ _ | .field1 _ _ | .fieldN _ _ _
  | .idxA _ _ _ _ | .idxV _ _ _ | .index1 _ _ _ _ | .indexN _ _ _ _ | .indexS _ _ | .tassert _ _ _ | .extract _ _ | .lenK _ | .lenS _ | .lenV _ | .capV _ | .mm _ _ _ | .nilCheck _ => .pure
  | .load1 _ | .loadN _ _ | .lookup _ _ _ _ _ | .entry _ | .lenM _ | .sliceA _ _ _ _ _ _ => .read
  | .new _ | .box _ | .buildSlice _ _ _ _ | .mkM _ | .mkS _ _ _ _ _ => .alloc
  | .conv c _ => match c with | .int _ | .str => .pure | .strB => .read | .bytes => .alloc
  | _ => .heavy

def isAllocOp : Op → Bool
  | .alloc _ => true
  | .box _ _ => true
  | .buildSlice _ _ _ => true
  | .makeMap _ _ => true
  | .makeSlice _ _ _ => true
  | .convert _ _ _ => true
  | _ => false

def rowKind (o : Oper) (c : COp) : DKind :=
  match c.kind with
  | .alloc => bif isAllocOp o.op then .alloc else .heavy
  | k => k

def CO.reads : CO → List Nat
  | .t i => [i]
  | .c _ => []
def readsL : List CO → List Nat
  | [] => []
  | x :: l => x.reads ++ readsL l
def readsO : Option CO → List Nat
  | some x => x.reads
  | none => []
def readsP : List (Nat × Nat × CO) → List Nat
  | [] => []
  | (_, _, x) :: l => x.reads ++ readsP l

def COp.reads : COp → List Nat
  | .move x | .box x | .load1 x | .loadN _ x | .nilCheck x | .un _ x | .conv _ x | .mkI _ x | .fieldAddr _ x | .field1 _ x | .fieldN _ _ x | .rangeS x | .rangeM x | .next x _ | .entry x
  | .tassert x _ _ | .extract x _ | .lenS x | .lenV x | .lenM x | .capV x | .clear _ _ x => x.reads
  | .pick c x y => c.reads ++ (x.reads ++ y.reads)
  | .new _ | .lenK _ => []
  | .build _ pl | .buildSlice _ _ _ pl => readsP pl
  | .store _ x y | .bin _ _ _ x y | .idxA _ _ x y | .idxV _ x y | .index1 _ _ x y | .indexN _ _ x y | .indexS x y | .lookup _ _ _ x y | .mapEntry _ _ x y | .app _ _ x y | .appZ _ _ _ x y
  | .copy _ x y | .delete _ x y | .mkS _ _ _ x y => x.reads ++ y.reads
  | .upd _ x y z | .entryStore x y z => x.reads ++ (y.reads ++ z.reads)
  | .mkF _ x y => readsL x ++ readsL y
  | .mkM r => readsO r
  | .sliceS x l r => x.reads ++ (readsO l ++ readsO r)
  | .sliceV _ x l r m | .sliceA _ _ x l r m => x.reads ++ (readsO l ++ (readsO r ++ readsO m))
  | .mm _ x l | .callV x l | .callM x _ l | .defer x l => x.reads ++ readsL l

def bitN (i : Nat) : Nat := Nat.shiftLeft 1 i
def subN (a b : Nat) : Bool := Nat.beq (Nat.lor a b) b
def hasN (m i : Nat) : Bool := Nat.beq (Nat.land (Nat.shiftRight m i) 1) 1

structure DRow where
  i : Nat
  o : Oper
  c : COp
  k : DKind
  af : Nat
  rd : List Nat

inductive DEnt where
  | op (o : Oper)
  | stage (re : List DRow)

structure DSt where
  done : Nat
  hv : Nat
  last : Nat
  wr : Nat
  tbl : PT (Nat × Nat)
  rs : List DRow
  old : List (Nat × Nat)

def bindsE (e : Edge) : Bool :=
  match e.ground with
  | .textOnly _ => false
  | .gcOnly _ => false
  | _ => true

def afterMask : List Edge → Nat
  | [] => 0
  | e :: l => bif bindsE e then Nat.lor (bitN e.on) (afterMask l) else afterMask l

/-- what must come before, itself and by way of others; and what that writes -/
def ancOf (t : PT (Nat × Nat)) : List Edge → Nat × Nat
  | [] => (0, 0)
  | e :: l => match ancOf t l with
    | (x, y) => bif bindsE e then match t.get e.on with
        | some (x', y') => (Nat.lor x x', Nat.lor y y')
        | none => (x, y)
      else (x, y)

def DKind.isHeavy : DKind → Bool | .heavy => true | _ => false
def DKind.isRead : DKind → Bool | .read => true | _ => false

def findReady (heavy : Bool) (done : Nat) : List DRow → Option (DRow × List DRow)
  | [] => none
  | r :: l => bif Bool.and (r.k.isHeavy == heavy) (subN r.af done) then some (r, l)
    else match findReady heavy done l with
      | some (x, l') => some (x, r :: l')
      | none => none

/-- what is read and written: written by what comes before, or not written yet -/
def readsOk (W D wr : Nat) : List Nat → Bool
  | [] => true
  | t :: l => bif hasN W t then Bool.and (Bool.or (hasN D t) (Bool.not (hasN wr t))) (readsOk W D wr l) else readsOk W D wr l

/-- what is read before it is written -/
def oldOf (W D i : Nat) : List Nat → List (Nat × Nat)
  | [] => []
  | t :: l => bif Bool.and (hasN W t) (Bool.not (hasN D t)) then (t, i) :: oldOf W D i l else oldOf W D i l

def oldOk (d x i : Nat) : List (Nat × Nat) → Bool
  | [] => true
  | (t, j) :: l => bif Nat.beq t d then Bool.and (Bool.or (Nat.beq j i) (hasN x j)) (oldOk d x i l) else oldOk d x i l

def oldOkO (d : Option Tmp) (x i : Nat) (l : List (Nat × Nat)) : Bool :=
  match d with
  | some d => oldOk d x i l
  | none => true

def emptyL {α : Type} : List α → Bool
  | [] => true
  | _ => false

def bitO : Option Tmp → Nat
  | some d => bitN d
  | none => 0

def again1 (last : Nat) : List DRow → List DRow
  | [] => []
  | r :: l => bif hasN last r.i then again1 last l else r :: again1 last l

def DSt.put (W : Nat) (st : DSt) (r : DRow) : R DSt :=
  forceN (ancOf st.tbl r.o.after.toList).1 fun x =>
  forceN (ancOf st.tbl r.o.after.toList).2 fun y =>
  bif Bool.and (subN st.hv x) (Bool.and (readsOk W y st.wr r.rd) (Bool.and (oldOkO r.o.dst x r.i (oldOf W y r.i r.rd ++ st.old)) (Bool.or (Bool.not r.k.isRead) (emptyL (oldOf W y r.i r.rd))))) then
    forceN (Nat.lor x (bitN r.i)) fun x' => forceN (Nat.lor y (bitO r.o.dst)) fun y' => forceN (Nat.lor st.done (bitN r.i)) fun dn => forceN (Nat.lor st.wr (bitO r.o.dst)) fun wr =>
      .ok ⟨dn, (bif r.k.isHeavy then Nat.lor st.hv (bitN r.i) else st.hv), (bif r.k.isHeavy then x' else st.last), wr, st.tbl.set (some (x', y')) r.i,
        (bif r.k.isRead then r :: st.rs else bif r.k.isHeavy then again1 x' st.rs else st.rs), oldOf W y r.i r.rd ++ st.old⟩
  else .error "draw: order"

def sched (W : Nat) : Nat → DSt → List DRow → R (List DEnt)
  | _, st, [] => .ok [.stage st.rs]
  | 0, _, _ => .error "draw: fuel"
  | n + 1, st, rem => match findReady false st.done rem with
    | some (r, rem') => match st.put W r with
      | .ok st' => match sched W n st' rem' with
        | .ok l => .ok (.op r.o :: l)
        | .error e => .error e
      | .error e => .error e
    | none => match findReady true st.done rem with
      | some (r, rem') => match st.put W r with
        | .ok st' => match sched W n st' rem' with
          | .ok l => .ok (.stage st.rs :: .op r.o :: l)
          | .error e => .error e
        | .error e => .error e
      | none => .error "draw: stuck"

def guardReads (ops : Array Oper) (o : Oper) : List Nat :=
  match o.guard with
  | none => []
  | some (j, _) => match (ops[j]?).bind (·.dst) with
    | some d => [d]
    | none => []

def rowsOf (ops : Array Oper) : List Oper → Nat → R (List DRow)
  | [], _ => .ok []
  | o :: l, i => match comp P o with
    | .ok c => match rowsOf ops l (i + 1) with
      | .ok r => .ok (⟨i, o, c, rowKind o c, afterMask o.after.toList, guardReads ops o ++ c.reads⟩ :: r)
      | .error e => .error e
    | .error e => .error (o.pos ++ ": read: " ++ e)

/-- what a region writes; nothing twice -/
def writesOf : List Oper → R Nat
  | [] => .ok 0
  | o :: l => match writesOf l with
    | .ok W => match o.dst with
      | some d => bif hasN W d then .error "draw: written twice" else .ok (Nat.lor W (bitN d))
      | none => .ok W
    | .error e => .error e

def plan (ops : Array Oper) : R (List DEnt) :=
  match writesOf ops.toList, rowsOf P ops ops.toList 0 with
  | .ok W, .ok rows => sched W ops.size ⟨0, 0, 0, 0, .leaf, [], []⟩ rows
  | .error e, _ => .error e
  | _, .error e => .error e

/-- what was read comes out the same -/
def again (ops : Array Oper) (re : List DRow) (a : AAct) (h : AH) : Bool :=
  match re with
  | [] => true
  | r :: l => match wantedA ops r.o a with
    | .ok true => match evC P r.c a h with
      | .ok (.value v, _) => Bool.and (match r.o.dst with | some d => eqAV 12 v (a.val d) | none => true) (again ops l a h)
      | _ => false
    | .ok false => again ops l a h
    | .error _ => false

/-- an operation, and what it calls -/
def evOper (call : CallF) (o : Oper) (a : AAct) (h : AH) : R (AAct × AH) :=
  match comp P o with
  | .ok c => match evC P c a h with
    | .ok (r, h) => match r with
      | .value v => forceV v fun v => .ok (a.put o.dst v, h)
      | .skip => .ok (a.put o.dst aundef, h)
      | .defer d => bif a.rd then .error "defer in a round" else .ok ((⟨a.n, a.ts, d :: a.ds, a.rd⟩ : AAct).put o.dst aundef, h)
      | .enter f args => match call (.fn f) args h with
        | .ok (v, h) => forceV v fun v => .ok (a.put o.dst v, h)
        | .error e => .error e
      | .yield f args => match call (.yield f) args h with
        | .ok (v, h) => forceV v fun v => .ok (a.put o.dst v, h)
        | .error e => .error e
    | .error e => .error (o.pos ++ ": " ++ e)
  | .error e => .error (o.pos ++ ": read: " ++ e)

/-- operations in the order of a list -/
def evOps (call : CallF) (ops : Array Oper) : List Oper → AAct → AH → R (AAct × AH)
  | [], a, h => .ok (a, h)
  | o :: l, a, h =>
    match wantedA ops o a with
    | .ok true => match evOper P call o a h with
      | .ok (a, h) => evOps call ops l a h
      | .error e => .error e
    | .ok false => evOps call ops l (a.put o.dst aundef) h
    | .error e => .error e

/-- the entries of a plan, in turn -/
def evEnts (call : CallF) (ops : Array Oper) : List DEnt → AAct → AH → R (AAct × AH)
  | [], a, h => .ok (a, h)
  | .op o :: l, a, h =>
    match wantedA ops o a with
    | .ok true => match evOper P call o a h with
      | .ok (a, h) => evEnts call ops l a h
      | .error e => .error e
    | .ok false => evEnts call ops l (a.put o.dst aundef) h
    | .error e => .error e
  | .stage re :: l, a, h => bif again P ops re a h then evEnts call ops l a h else .error "draw: a read comes out otherwise"

/-- a region whose order is drawn -/
def evDraw (call : CallF) (ops : Array Oper) (a : AAct) (h : AH) : R (AAct × AH) :=
  match plan P ops with
  | .ok l => evEnts P call ops l a h
  | .error e => .error e

def evLoop (body : AAct → AH → R (AX × AAct × AH)) : Nat → AAct → AH → R (AX × AAct × AH)
  | 0, _, _ => .error "fuel"
  | n + 1, a, h => match body a h with
    | .ok (.normal, a, h) => evLoop body n a h
    | r => r

def opGo (call : CallF) (f : AV) (params : Array Tmp) (assign body : Code) (a : AAct) (h : AH) : R (AX × AAct × AH) :=
  match f with
  | .func (.func g) first captured => bif a.rd then .error "rangeFunc in a round" else
    forceN h.next fun did =>
    match call (.fn g) (first ++ (.func (.yield (did + 1)) [] [] :: captured))
        ((h.push (.deferred (some []))).push (.loop { state := .ready, pending := none, n := a.n, tmps := a.ts, params, assign, body })) with
    | .ok (_, h) => match h.get (did + 1) with
      | some (.loop r) => match r.state with
        | .busy => .error "rangeFunc: busy"
        | _ => match r.pending with
          | none => .ok (.normal, ⟨a.n, a.ts, .collected did :: a.ds, a.rd⟩, h.set (did + 1) (.loop { r with state := .exhausted }))
          | some .ret => .ok (.ret, ⟨a.n, a.ts, .collected did :: a.ds, a.rd⟩, h.set (did + 1) (.loop { r with state := .exhausted }))
          | some (.exit id) => .ok (.exit id, ⟨a.n, a.ts, .collected did :: a.ds, a.rd⟩, h.set (did + 1) (.loop { r with state := .exhausted }))
          | some _ => .error "rangeFunc: jump"
      | _ => .error "rangeFunc"
    | .error e => .error e
  | _ => .error "rangeFunc: of what"

def evCond (v : AV) (x y : R (AX × AAct × AH)) : R (AX × AAct × AH) :=
  match v with
  | .bool true => x
  | .bool false => y
  | _ => .error "cond"

def evCode (call : CallF) (lf : Nat) : Code → AAct → AH → R (AX × AAct × AH)
  | .skip, a, h => .ok (.normal, a, h)
  | .label _, a, h => .ok (.normal, a, h)
  | .region _ ops draw, a, h => match (bif draw then evDraw P call ops a h else evOps P call ops ops.toList a h) with
    | .ok (a, h) => .ok (.normal, a, h)
    | .error e => .error e
  | .seq x y, a, h => match evCode call lf x a h with
    | .ok (.normal, a, h) => evCode call lf y a h
    | r => r
  | .cond c x y, a, h => match cO P c with
    | .ok c => evCond (c.ev a) (evCode call lf x a h) (evCode call lf y a h)
    | .error e => .error e
  | .block id c, a, h => match evCode call lf c a h with
    | .ok (.exit i, a, h) => bif Nat.beq i id then .ok (.normal, a, h) else .ok (.exit i, a, h)
    | r => r
  | .loop c, a, h => evLoop (evCode call lf c) lf a h
  | .exit id, a, h => .ok (.exit id, a, h)
  | .ret, a, h => .ok (.ret, a, h)
  | .scope c, a, h => match evCode call lf c a h with
    | .ok (.goto _, _, _) => .error "goto"
    | r => r
  | .rangeFunc f params assign body, a, h => match cO P f with
    | .ok f => opGo call (f.ev a) params assign body a h
    | .error e => .error e
  | .goto _, _, _ => .error "goto"
  | .refuse why, _, _ => .error why

def resultsA (h : AH) (a : AAct) : List ResultVar → R (List AV)
  | [] => .ok []
  | .tmp t :: l => match resultsA h a l with | .ok r => .ok (a.val t :: r) | .error e => .error e
  | .cell p t :: l => match a.val p with
    | .ptr id off => match aggT P t, szOf P t with
      | .ok true, .ok n => match loadN h id off n, resultsA h a l with | .ok v, .ok r => .ok (.agg v :: r) | _, _ => .error "results"
      | .ok false, _ => match load1 h id off, resultsA h a l with | .ok v, .ok r => .ok (v :: r) | _, _ => .error "results"
      | _, _ => .error "results"
    | _ => .error "results"

def oneOf : List AV → AV
  | [v] => v
  | l => .tuple l

def runDefers (call : CallF) : List ADef → AH → R AH
  | [], h => .ok h
  | d :: l, h => match d with
    | .collected id => match h.get id with
      | some (.deferred (some [])) => runDefers call l (h.set id (.deferred none))
      | _ => .error "collected"
    | .call fn captured args => match callFn fn captured args h with
      | .ok (.enter f args, h) => match call (.fn f) args h with
        | .ok (_, h) => runDefers call l h
        | .error e => .error e
      | .ok _ => .error "defer"
      | .error e => .error e

def laid : List AV → Nat → PT AV → PT AV
  | [], _, t => t
  | v :: l, i, t => laid l (i + 1) (t.set (some v) i)

def setParams : List Tmp → List AV → AAct → AAct
  | t :: ts, v :: vs, a => setParams ts vs (a.put (some t) v)
  | _, _, a => a

def finishCall (call : CallF) (fn : Func) (r : R (AX × AAct × AH)) : R (AV × AH) :=
  match r with
  | .ok (x, a, h) => match x with
    | .normal | .ret => match runDefers call a.ds h with
      | .ok h => match resultsA P h a fn.results.toList with
        | .ok l => .ok (oneOf l, h)
        | .error e => .error (fn.name ++ ": " ++ e)
      | .error e => .error (fn.name ++ ": " ++ e)
    | _ => .error "left by a jump"
  | .error e => .error (fn.name ++ "/" ++ e)

def endRound (l : Nat) (r : R (AX × AAct × AH)) : R (AV × AH) :=
  match r with
  | .ok (x, a, h) => match a.ds with
    | [] => match h.get l with
      | some (.loop r) => match x with
        | .normal => .ok (.bool true, h.set l (.loop { r with state := .ready, pending := none }))
        | .ret => .ok (.bool false, h.set l (.loop { r with state := .done, pending := some .ret }))
        | .exit id => .ok (.bool false, h.set l (.loop { r with state := .done, pending := some (.exit id) }))
        | .goto _ => .error "yield: goto"
      | _ => .error "yield"
    | _ => .error "yield: defers"
  | .error e => .error e

def aRound (call : CallF) (lf : Nat) (l : Nat) (r : ALoop) (args : List AV) (h : AH) : R (AV × AH) :=
  bif Nat.beq args.length r.params.size then
    match evCode P call lf r.assign (setParams r.params.toList args ⟨r.n, r.tmps, [], true⟩) h with
    | .ok (.normal, a, h) => match h.get l with
      | some (.loop q) => match q.state with
        | .ready => endRound l (evCode P call lf r.body a (h.set l (.loop { q with state := .busy })))
        | _ => .error "yield: state"
      | _ => .error "yield: loop"
    | .ok _ => .error "yield: assign"
    | .error e => .error e
  else .error "yield: arguments"

/-- deferred calls: by no summary -/
def noSum (S : FuncId → Option (List AV → AH → R (AV × AH))) (call : CallF) : CallF := fun t args h =>
  match t with
  | .fn f => match S f with
    | some _ => .error "a deferred call of a summary"
    | none => call (.fn f) args h
  | .yield l => call (.yield l) args h

/-- a call; what S tells of a function is taken for its run -/
def evCall (S : FuncId → Option (List AV → AH → R (AV × AH))) (lf : Nat) : Nat → CallF
  | 0, _, _, _ => .error "depth"
  | n + 1, .fn f, args, h => match S f with
    | some g => g args h
    | none => match P.funcs[f]? with
      | some fn => match fn.body with
        | some c => bif Nat.ble args.length fn.ntmps
          then finishCall P (noSum S (evCall S lf n)) fn (evCode P (evCall S lf n) lf c ⟨fn.ntmps, laid args 0 .leaf, [], false⟩ h) else .error "arguments"
        | none => .error ("no body: " ++ fn.name)
      | none => .error "no function"
  | n + 1, .yield l, args, h => match h.get l with
    | some (.loop r) => aRound P (evCall S lf n) lf l r args h
    | _ => .error "yield: no loop"

end
end Go.Dr
