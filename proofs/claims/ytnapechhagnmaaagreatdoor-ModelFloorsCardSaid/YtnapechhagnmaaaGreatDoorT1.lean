/-
  Texts joined.
-/
import GoSem.Claims
import Derived.WalkKit
import Derived.Laws.BytesString
import Derived.Laws.MakeOwn
import Derived.Laws.IdiomStrings
import Derived.Lib.Strings
import Derived.Laws.AppendOwn
import Derived.RangeFuncRecord

namespace Go.Dr
inductive AV where
 | bool (b:Bool)
 | int (k:IntKind) (n:Int)
 | str (s:List UInt8)
 | nilp
 | ptr (id off:Nat)
 | nils
 | slice (id off len cap:Nat) (x:Bool) (es:Nat)
 | nilm
 | map (id:Nat)
 | nilf
 | func (fn:Fn) (first captured:List AV)
 | nili
 | iface (t:TypeId) (v:AV)
 | agg (l:List AV)
 | tuple (l:List AV)
 | raw (t:Nat)
 deriving Inhabited
inductive PT (α:Type) where
 | leaf
 | node (l:PT α) (v:Option α) (r:PT α)
 deriving Inhabited
namespace PT
variable {α:Type}
def get:PT α→Nat→Option α
 | .leaf,_=>none
 | .node l v r,n=>bif Nat.beq n 0 then v else bif Nat.beq (n%2) 1 then l.get (n/2) else r.get (n/2 - 1)
def one (v:Option α):Nat→Nat→PT α
 | 0,_=>.leaf
 | f+1,n=>bif Nat.beq n 0 then .node .leaf v .leaf
  else bif Nat.beq (n%2) 1 then .node (one v f (n/2)) none .leaf else .node .leaf none (one v f (n/2 - 1))
def set (v:Option α):PT α→Nat→PT α
 | .leaf,n=>one v (n+1) n
 | .node l w r,n=>bif Nat.beq n 0 then .node l v r
  else bif Nat.beq (n%2) 1 then .node (l.set v (n/2)) w r else .node l w (r.set v (n/2 - 1))
end PT
structure AEntry where
 key:AV
 val:AV
 born:Nat
 deriving Inhabited
structure ALoop where
 state:LoopState
 pending:Option Code
 n:Nat
 tmps:PT AV
 params:Array Tmp
 assign:Code
 body:Code
 deriving Inhabited
inductive ADef where
 | collected (id:Nat)
 | call (fn:Fn) (captured args:List AV)
 deriving Inhabited
inductive AObj where
 | cells (vs:List AV) (ro:Bool)
 | map (l:List AEntry) (clock:Nat)
 | loop (r:ALoop)
 | deferred (ds:Option (List ADef))
 | siter (s:List UInt8) (pos:Nat)
 | miter (m:Option Nat) (since:Nat) (seen:List Nat) (stepped:Nat)
 deriving Inhabited
structure AH where
 next:Nat
 t:PT AObj
 deriving Inhabited
def X8 {α:Type} (n:Nat) (k:Nat→α):α:=match n with | 0=>k 0 | m+1=>k (m+1)
def n0Q {α:Type} (n:Int) (k:Int→α):α:=match n with
 | .ofNat m=>X8 m fun m=>k (.ofNat m)
 | .negSucc m=>X8 m fun m=>k (.negSucc m)
def q06 {α:Type} (b:Bool) (k:Bool→α):α:=match b with | true=>k true | false=>k false
theorem o8 {α:Type} (n:Nat) (k:Nat→α):X8 n k=k n:=by cases n <;> rfl
theorem p0C {α:Type} (n:Int) (k:Int→α):n0Q n k=k n:=by cases n <;> simp [n0Q,o8]
theorem p0D {α:Type} (n:Bool) (k:Bool→α):q06 n k=k n:=by cases n <;> rfl
namespace AH
def get (h:AH) (i:Nat):Option AObj:=h.t.get i
def set (h:AH) (i:Nat) (o:AObj):AH:=⟨h.next,h.t.set (some o) i⟩
def kill (h:AH) (i:Nat):AH:=⟨h.next,h.t.set none i⟩
def push (h:AH) (o:AObj):AH:=⟨h.next+1,h.t.set (some o) h.next⟩
end AH
abbrev R:=Except String
def ofO {α:Type} (why:String):Option α→R α
 | some a=>.ok a
 | none=>.error why
def n0R {α β:Type} (f:α→R β):List α→R (List β)
 | []=>.ok []
 | a::l=>match f a with
  | .ok b=>match n0R f l with
   | .ok bs=>.ok (b::bs)
   | .error e=>.error e
  | .error e=>.error e
def q07 (fn:Fn) (first captured:Array Value):R AV :=
 match fn with
 | .func f=>bif first.toList.isEmpty&&captured.toList.isEmpty then .ok (.func (.func f) [] []) else .error "toAV: a closure"
 | _=>.error "toAV: a method"
def k05:Nat→Value→R AV
 | 0,_=>.error "toAV: depth"
 | d+1,v=>match v with
  | .bool b=>.ok (.bool b)
  | .int k n=>.ok (.int k n)
  | .string s=>.ok (.str s.data.toList)
  | .pointer none=>.ok .nilp
  | .slice none 0 0=>.ok .nils
  | .map none=>.ok .nilm
  | .nilFunc=>.ok .nilf
  | .nilIface=>.ok .nili
  | .func fn first captured=>q07 fn first captured
  | .iface t v=>match k05 d v with | .ok a=>.ok (.iface t a) | .error e=>.error e
  | .agg cs=>match n0R (k05 d) cs.toList with | .ok l=>.ok (.agg l) | .error e=>.error e
  | .tuple cs=>match n0R (k05 d) cs.toList with | .ok l=>.ok (.tuple l) | .error e=>.error e
  | _=>.error "toAV: a value with an address"
def AV.cells:AV→List AV
 | .agg l=>l
 | v=>[v]
def AV.scalar:AV→Bool
 | .agg _ | .tuple _ | .raw _=>false
 | _=>true
def i5:List AV→Bool
 | []=>true
 | v::l=>v.scalar&&i5 l
def eqL (f:AV→AV→Bool):List AV→List AV→Bool
 | [],[]=>true
 | x::l,y::m=>Bool.and (f x y) (eqL f l m)
 | _,_=>false
def R8:Nat→AV→AV→Bool
 | 0,_,_=>false
 | d+1,x,y=>match x,y with
  | .bool a,.bool b=>a == b
  | .int k a,.int k' b=>Bool.and (decide (k=k')) (decide (a=b))
  | .str a,.str b=>decide (a=b)
  | .nilp,.nilp=>true
  | .ptr i o,.ptr j p=>Bool.and (Nat.beq i j) (Nat.beq o p)
  | .nils,.nils=>true
  | .slice i o l c x e,.slice i' o' l' c' x' e'=>Bool.and (Nat.beq i i') (Bool.and (Nat.beq o o') (Bool.and (Nat.beq l l') (Bool.and (Nat.beq c c') (Bool.and (x == x') (Nat.beq e e')))))
  | .nilm,.nilm=>true
  | .map i,.map j=>Nat.beq i j
  | .nilf,.nilf=>true
  | .func f a b,.func f' a' b'=>match f,f' with
   | .func g,.func g'=>Bool.and (Nat.beq g g') (Bool.and (eqL (R8 d) a a') (eqL (R8 d) b b'))
   | .yield g,.yield g'=>Bool.and (Nat.beq g g') (Bool.and (eqL (R8 d) a a') (eqL (R8 d) b b'))
   | _,_=>false
  | .nili,.nili=>true
  | .iface t a,.iface t' a'=>Bool.and (Nat.beq t t') (R8 d a a')
  | .agg a,.agg b=>eqL (R8 d) a b
  | .tuple a,.tuple b=>eqL (R8 d) a b
  | .raw a,.raw b=>Nat.beq a b
  | _,_=>false
def n8:AV:=.tuple []
structure AAct where
 n:Nat
 ts:PT AV
 ds:List ADef
 rd:Bool
 deriving Inhabited
def AAct.val (a:AAct) (i:Nat):AV:=match a.ts.get i with | some v=>v | none=>n8
def g07 {α:Type} (v:AV) (k:AV→α):α:=match v with
 | .int q n=>n0Q n fun n=>k (.int q n)
 | .bool b=>q06 b fun b=>k (.bool b)
 | v=>k v
theorem p6 {α:Type} (v:AV) (k:AV→α):g07 v k=k v:=by cases v <;> simp [g07,p0C,p0D]
def AAct.put (a:AAct) (d:Option Tmp) (v:AV):AAct :=
 match d with
 | some d=>bif Nat.blt d a.n then ⟨a.n,a.ts.set (some v) d,a.ds,a.rd⟩ else a
 | none=>a
inductive CO where
 | t (i:Nat)
 | c (v:AV)
 deriving Inhabited
inductive CConv where
 | int (k:IntKind)
 | str
 | strB
 | bytes
 | runes
 deriving Inhabited
inductive COp where
 | move (x:CO)
 | pick (c a b:CO)
 | new (z:List AV)
 | box (x:CO)
 | build (z:List AV) (pl:List (Nat×Nat×CO))
 | buildSlice (len es:Nat) (z:List AV) (pl:List (Nat×Nat×CO))
 | load1 (x:CO)
 | loadN (n:Nat) (x:CO)
 | store (n:Nat) (x y:CO)
 | nilCheck (x:CO)
 | bin (op:BinOp) (t:TypeId) (lit:Bool) (x y:CO)
 | un (op:UnOp) (x:CO)
 | conv (c:CConv) (x:CO)
 | mkI (t:TypeId) (x:CO)
 | mkF (f:FuncId) (first captured:List CO)
 | mkM (r:Option CO)
 | mkS (es bytes:Nat) (z:List AV) (l c:CO)
 | sliceS (x:CO) (lo hi:Option CO)
 | sliceV (es:Nat) (x:CO) (lo hi mx:Option CO)
 | sliceA (n es:Nat) (x:CO) (lo hi mx:Option CO)
 | fieldAddr (off:Nat) (x:CO)
 | field1 (off:Nat) (x:CO)
 | fieldN (off n:Nat) (x:CO)
 | idxA (len es:Nat) (x i:CO)
 | idxV (es:Nat) (x i:CO)
 | index1 (len es:Nat) (x i:CO)
 | indexN (len es:Nat) (x i:CO)
 | indexS (x i:CO)
 | lookup (kt:TypeId) (z:AV) (ok:Bool) (x k:CO)
 | upd (kt:TypeId) (m k v:CO)
 | mapEntry (kt:TypeId) (z:AV) (m k:CO)
 | entryStore (m s v:CO)
 | rangeS (x:CO)
 | rangeM (x:CO)
 | next (it:CO) (s:Bool)
 | entry (it:CO)
 | tassert (x:CO) (t:TypeId) (ok:Bool)
 | extract (x:CO) (i:Nat)
 | app (es bytes:Nat) (s x:CO)
 | appZ (es bytes:Nat) (z:List AV) (s x:CO)
 | lenK (n:Nat)
 | lenS (x:CO)
 | lenV (x:CO)
 | lenM (x:CO)
 | capV (x:CO)
 | copy (es:Nat) (d s:CO)
 | delete (kt:TypeId) (m k:CO)
 | clear (es:Nat) (z:List AV) (x:CO)
 | mm (isMax:Bool) (x:CO) (l:List CO)
 | callV (f:CO) (args:List CO)
 | callM (r:CO) (name:String) (args:List CO)
 | defer (f:CO) (args:List CO)
 deriving Inhabited
section
variable (P:Program)
def und (t:TypeId):R TypeDesc:=ofO "underlying" (P.underlying t)
def M2 (t:TypeId):R Nat:=match P.info? t with | some i=>.ok i.size | none=>.error "size"
def m0x (t:TypeId):R Nat:=match P.info? t with | some i=>.ok i.bytes | none=>.error "bytes"
def J6 (t:TypeId):R AV:=match P.info? t with
 | some i=>match i.zero with | some v=>k05 8 v | none=>.error "zero"
 | none=>.error "zero"
def d0E (t:TypeId):R Bool:=match P.underlying t with
 | some (.struct _) | some (.array _ _)=>.ok true
 | some _=>.ok false
 | none=>.error "isAgg"
def cO (x:Operand):R CO:=match x with
 | .tmp t=>.ok (.t t)
 | .const v=>match k05 8 v with | .ok a=>.ok (.c a) | .error e=>.error e
 | .global g=>bif Nat.blt g P.globals.size then .ok (.c (.ptr g 0)) else .error "no such global"
 | .func f=>.ok (.c (.func (.func f) [] []))
def cOs (l:List Operand):R (List CO):=n0R (cO P) l
def cOO (x:Option Operand):R (Option CO):=match x with
 | none=>.ok none
 | some x=>match cO P x with | .ok a=>.ok (some a) | .error e=>.error e
def H8 {α:Type} (x:Operand) (f:CO→R α):R α:=match cO P x with | .ok a=>f a | .error e=>.error e
def c0L {α:Type} (x y:Operand) (f:CO→CO→R α):R α:=H8 P x fun a=>H8 P y fun b=>f a b
def m0y {α:Type} (x y z:Operand) (f:CO→CO→CO→R α):R α:=H8 P x fun a=>H8 P y fun b=>H8 P z fun c=>f a b c
def a0R:List Field→R (List (Nat×Nat))
 | []=>.ok []
 | f::l=>match M2 P f.type with
  | .ok n=>match a0R l with | .ok r=>.ok ((f.offset,n)::r) | .error e=>.error e
  | .error e=>.error e
def d0g (place:Nat→Option (Nat×Nat)):List (Nat×Operand)→R (List (Nat×Nat×CO))
 | []=>.ok []
 | (i,x)::l=>match place i with
  | some (off,size)=>match cO P x with
   | .ok a=>match d0g place l with | .ok r=>.ok ((off,size,a)::r) | .error e=>.error e
   | .error e=>.error e
  | none=>.error "build: no such part"
def a0t (z:List AV):Nat→List AV
 | 0=>[]
 | n+1=>z++a0t z n
def b0T:Operand→Bool
 | .const _=>true
 | _=>false
def q08 (c:Call):R COp :=
 match c.callee with
 | .value f=>H8 P f fun g=>match cOs P c.args.toList with | .ok l=>.ok (.callV g l) | .error e=>.error e
 | .invoke r name=>H8 P r fun g=>match cOs P c.args.toList with | .ok l=>.ok (.callM g name l) | .error e=>.error e
 | .builtin b=>match c.args.toList,c.argTypes.toList with
  | [x,y],[t,u]=>match b with
   | .append=>c0L P x y fun a b=>match und P t,und P u with
    | .ok (.slice e),.ok ud=>match M2 P e,m0x P e,J6 P e with
     | .ok es,.ok bytes,.ok z=>if es=0∨z.cells.length≠es then .error "append: no cells" else
      match ud with
      | .int _=>.ok (.appZ es bytes z.cells a b)
      | _=>.ok (.app es bytes a b)
     | _,_,_=>.error "append"
    | _,_=>.error "append"
   | .copy=>c0L P x y fun a b=>match und P t with
    | .ok (.slice e)=>match M2 P e with | .ok es=>.ok (.copy es a b) | .error e=>.error e
    | _=>.error "copy"
   | .delete=>c0L P x y fun a b=>match und P t with
    | .ok (.map k _)=>.ok (.delete k a b)
    | _=>.error "delete"
   | .min=>c0L P x y fun a b=>.ok (.mm false a [b])
   | .max=>c0L P x y fun a b=>.ok (.mm true a [b])
   | _=>.error "builtin"
  | [x],[t]=>match b with
   | .len=>H8 P x fun a=>match und P t with
    | .ok (.array n _)=>.ok (.lenK n)
    | .ok .string=>.ok (.lenS a)
    | .ok (.slice _)=>.ok (.lenV a)
    | .ok (.map _ _)=>.ok (.lenM a)
    | _=>.error "len"
   | .cap=>H8 P x fun a=>match und P t with
    | .ok (.array n _)=>.ok (.lenK n)
    | .ok (.slice _)=>.ok (.capV a)
    | _=>.error "cap"
   | .clear=>H8 P x fun a=>match und P t with
    | .ok (.slice e)=>match M2 P e,J6 P e with
     | .ok es,.ok z=>if es=0∨z.cells.length≠es then .error "clear: no cells" else .ok (.clear es z.cells a)
     | _,_=>.error "clear"
    | _=>.error "clear"
   | _=>.error "builtin"
  | x::l,_=>match b with
   | .min=>H8 P x fun a=>match cOs P l with | .ok l=>.ok (.mm false a l) | .error e=>.error e
   | .max=>H8 P x fun a=>match cOs P l with | .ok l=>.ok (.mm true a l) | .error e=>.error e
   | _=>.error "builtin"
  | _,_=>.error "builtin"
def comp (o:Oper):R COp :=
 match o.op with
 | .move x=>H8 P x fun a=>.ok (.move a)
 | .assign x=>H8 P x fun a=>.ok (.move a)
 | .pick c a b=>m0y P c a b fun c a b=>.ok (.pick c a b)
 | .alloc e=>match J6 P e with | .ok z=>.ok (.new z.cells) | .error e=>.error e
 | .box _ x=>H8 P x fun a=>.ok (.box a)
 | .build t parts=>match und P t,J6 P t with
  | .ok (.struct fields),.ok z=>match a0R P fields.toList with
   | .ok pl=>match d0g P (pl[·]?) parts.toList with | .ok l=>.ok (.build z.cells l) | .error e=>.error e
   | .error e=>.error e
  | .ok (.array _ e),.ok z=>match M2 P e with
   | .ok size=>match d0g P (fun i=>some (i*size,size)) parts.toList with | .ok l=>.ok (.build z.cells l) | .error e=>.error e
   | .error e=>.error e
  | _,_=>.error "build"
 | .buildSlice t len parts=>match und P t with
  | .ok (.slice e)=>match M2 P e,J6 P e with
   | .ok es,.ok z=>if len*es>2 ^ 24∨es=0∨z.cells.length≠es then .error "buildSlice: size" else
    match d0g P (fun i=>some (i*es,es)) parts.toList with
    | .ok l=>.ok (.buildSlice len es (a0t z.cells len) l)
    | .error e=>.error e
   | _,_=>.error "buildSlice"
  | _=>.error "buildSlice"
 | .load t x=>H8 P x fun a=>match d0E P t with
  | .ok true=>match M2 P t with | .ok n=>.ok (.loadN n a) | .error e=>.error e
  | .ok false=>.ok (.load1 a)
  | .error e=>.error e
 | .store t x y=>c0L P x y fun a b=>match M2 P t with | .ok n=>.ok (.store n a b) | .error e=>.error e
 | .nilCheck x=>H8 P x fun a=>.ok (.nilCheck a)
 | .binOp op t x y _=>c0L P x y fun a b=>.ok (.bin op t (b0T x||b0T y) a b)
 | .unOp op _ x=>H8 P x fun a=>.ok (.un op a)
 | .convert s d x=>H8 P x fun a=>match und P s,und P d with
  | .ok _,.ok (.int k)=>.ok (.conv (.int k) a)
  | .ok _,.ok .string=>match und P s with
   | .ok (.slice e)=>match und P e with | .ok (.int .u8)=>.ok (.conv .strB a) | _=>.error "convert to string"
   | .ok .string=>.ok (.conv .str a)
   | .ok (.int _)=>.ok (.conv .str a)
   | _=>.error "convert to string"
  | .ok .string,.ok (.slice e)=>match und P e with | .ok (.int .u8)=>.ok (.conv .bytes a) | .ok (.int .i32)=>.ok (.conv .runes a) | _=>.error "convert to runes"
  | _,_=>.error "convert"
 | .makeInterface t x=>H8 P x fun a=>match und P t with
  | .ok (.interface _)=>.error "makeInterface"
  | .ok _=>.ok (.mkI t a)
  | .error e=>.error e
 | .makeFunc fn first captured=>match fn with
  | .func f=>match cOs P first.toList,cOs P captured.toList with
   | .ok a,.ok b=>.ok (.mkF f a b)
   | _,_=>.error "makeFunc"
  | _=>.error "makeFunc"
 | .makeMap t r=>match und P t,cOO P r with
  | .ok (.map _ _),.ok r=>.ok (.mkM r)
  | _,_=>.error "makeMap"
 | .makeSlice t l c=>c0L P l c fun a b=>match und P t with
  | .ok (.slice e)=>match M2 P e,m0x P e,J6 P e with
   | .ok es,.ok bytes,.ok z=>if es=0∨z.cells.length≠es then .error "makeSlice: no cells" else .ok (.mkS es bytes z.cells a b)
   | _,_,_=>.error "makeSlice"
  | _=>.error "makeSlice"
 | .slice t x lo hi mx=>H8 P x fun a=>match cOO P lo,cOO P hi,cOO P mx with
  | .ok lo,.ok hi,.ok mx=>match und P t with
   | .ok .string=>match mx with | none=>.ok (.sliceS a lo hi) | some _=>.error "slice of a string"
   | .ok (.slice e)=>match M2 P e with | .ok es=>.ok (.sliceV es a lo hi mx) | .error e=>.error e
   | .ok (.array n e)=>match M2 P e with | .ok es=>if es=0 then .error "slice: no cells" else .ok (.sliceA n es a lo hi mx) | .error e=>.error e
   | _=>.error "slice"
  | _,_,_=>.error "slice"
 | .fieldAddr s x f=>H8 P x fun a=>match und P s with
  | .ok (.struct fields)=>match fields[f]? with
   | some f=>match M2 P f.type with | .ok 0=>.error "fieldAddr: no cells" | .ok _=>.ok (.fieldAddr f.offset a) | .error e=>.error e
   | none=>.error "fieldAddr"
  | _=>.error "fieldAddr"
 | .field t x f=>H8 P x fun a=>match und P t with
  | .ok (.struct fields)=>match fields[f]? with
   | some f=>match d0E P f.type,M2 P f.type with
    | .ok true,.ok n=>.ok (.fieldN f.offset n a)
    | .ok false,_=>.ok (.field1 f.offset a)
    | _,_=>.error "field"
   | none=>.error "field"
  | _=>.error "field"
 | .indexAddr t x i=>c0L P x i fun a b=>match und P t with
  | .ok (.array n e)=>match M2 P e with | .ok es=>.ok (.idxA n es a b) | .error e=>.error e
  | .ok (.slice e)=>match M2 P e with | .ok es=>.ok (.idxV es a b) | .error e=>.error e
  | _=>.error "indexAddr"
 | .index t x i=>c0L P x i fun a b=>match und P t with
  | .ok (.array n e)=>match d0E P e,M2 P e with
   | .ok true,.ok es=>.ok (.indexN n es a b)
   | .ok false,.ok es=>.ok (.index1 n es a b)
   | _,_=>.error "index"
  | .ok .string=>.ok (.indexS a b)
  | _=>.error "index"
 | .lookup t x k ok=>c0L P x k fun a b=>match und P t with
  | .ok (.map kt et)=>match J6 P et with | .ok z=>.ok (.lookup kt z ok a b) | .error e=>.error e
  | _=>.error "lookup"
 | .mapUpdate t m k v=>m0y P m k v fun a b c=>match und P t with | .ok (.map kt _)=>.ok (.upd kt a b c) | _=>.error "mapUpdate"
 | .insert t m k v=>m0y P m k v fun a b c=>match und P t with | .ok (.map kt _)=>.ok (.upd kt a b c) | _=>.error "insert"
 | .mapEntry t m k=>c0L P m k fun a b=>match und P t with
  | .ok (.map kt et)=>match J6 P et with | .ok z=>.ok (.mapEntry kt z a b) | .error e=>.error e
  | _=>.error "mapEntry"
 | .entryStore _ m s v=>m0y P m s v fun a b c=>.ok (.entryStore a b c)
 | .range t x=>H8 P x fun a=>match und P t with
  | .ok .string=>.ok (.rangeS a)
  | .ok (.map _ _)=>.ok (.rangeM a)
  | _=>.error "range"
 | .next it s=>H8 P it fun a=>.ok (.next a s)
 | .entry it=>H8 P it fun a=>.ok (.entry a)
 | .typeAssert x _ t ok=>H8 P x fun a=>.ok (.tassert a t ok)
 | .extract x i=>H8 P x fun a=>.ok (.extract a i)
 | .call c=>q08 P c
 | .defer c=>match c.callee with
  | .value f=>H8 P f fun g=>match cOs P c.args.toList with | .ok l=>.ok (.defer g l) | .error e=>.error e
  | _=>.error "defer"
 | _=>.error "an operation that is not covered"
end
def CO.ev (a:AAct):CO→AV
 | .t i=>a.val i
 | .c v=>v
def evL (a:AAct):List CO→List AV
 | []=>[]
 | x::l=>x.ev a::evL a l
inductive AN where
 | value (v:AV)
 | skip
 | enter (f:FuncId) (args:List AV)
 | yield (l:Nat) (args:List AV)
 | defer (d:ADef)
 deriving Inhabited
abbrev RN:=R (AN×AH)
def okV (v:AV) (h:AH):RN:=.ok (.value v,h)
def m9 (h:AH) (r:R AV):RN:=match r with | .ok v=>.ok (.value v,h) | .error e=>.error e
def a0a (r:R AH):RN:=match r with | .ok h=>.ok (.skip,h) | .error e=>.error e
def loadN (h:AH) (id off n:Nat):R (List AV) :=
 match h.get id with
 | some (.cells vs _)=>bif Nat.ble (off+n) vs.length then .ok ((vs.drop off).take n) else .error "load: out of the known cells"
 | _=>.error "load: no such block"
def load1 (h:AH) (id off:Nat):R AV :=
 match h.get id with
 | some (.cells vs _)=>match vs[off]? with | some v=>.ok v | none=>.error "load: out of the known cells"
 | _=>.error "load: no such block"
def B0 (vs:List AV) (off:Nat) (l:List AV):List AV:=vs.take off++(l++vs.drop (off+l.length))
def v7 (h:AH) (id off:Nat) (l:List AV):R AH :=
 match l with
 | []=>.ok h
 | v::r=>match h.get id with
  | some (.cells vs false) =>
   bif Nat.ble (off+(v::r).length) vs.length&&i5 (v::r) then .ok (h.set id (.cells (B0 vs off (v::r)) false)) else .error "store: out of the known cells"
  | _=>.error "store: no such block, or one that is only read"
def d0z (a:AAct) (cells:List AV):List (Nat×Nat×CO)→R (List AV)
 | []=>.ok cells
 | (off,size,x)::rest =>
  let l:=(x.ev a).cells
  bif Nat.beq l.length size&&Nat.ble (off+l.length) cells.length then d0z a (B0 cells off l) rest else .error "fill"
def h0G (op:BinOp) (a b:Int):Option Bool :=
 match op with
 | .eql=>some (a == b)
 | .neq=>some (a != b)
 | .lss=>some (a<b)
 | .leq=>some (a≤b)
 | .gtr=>some (a>b)
 | .geq=>some (a ≥ b)
 | _=>none
def i04 (op:BinOp) (a b:List UInt8):R AV :=
 match op with
 | .add=>if a.length+b.length≤2 ^ 62 then .ok (.str (a++b)) else .error "string +"
 | .eql=>.ok (.bool (a == b))
 | .neq=>.ok (.bool !(a == b))
 | .lss=>.ok (.bool (Op.bytesLess a b))
 | .leq=>.ok (.bool (Op.bytesLess a b||a == b))
 | .gtr=>.ok (.bool !(Op.bytesLess a b||a == b))
 | .geq=>.ok (.bool !(Op.bytesLess a b))
 | _=>.error "string op"
def x7 (k:IntKind) (n:Int):Int :=
 match n with
 | .ofNat m=>bif Nat.blt m (2 ^ (k.bits - 1)) then .ofNat m else k.wrap (.ofNat m)
 | .negSucc m=>k.wrap (.negSucc m)
def d0A (op:BinOp) (k:IntKind) (a b:Int):R AV :=
 match op with
 | .add=>.ok (.int k (x7 k (a+b)))
 | .sub=>.ok (.int k (x7 k (a - b)))
 | .mul=>.ok (.int k (x7 k (a*b)))
 | .quo=>if b=0 then .error "/ 0" else .ok (.int k (x7 k (a.tdiv b)))
 | .rem=>if b=0 then .error "% 0" else .ok (.int k (a.tmod b))
 | .and=>.ok (.int k (x7 k (BitVec.ofInt k.bits a &&& BitVec.ofInt k.bits b).toNat))
 | .or=>.ok (.int k (x7 k (BitVec.ofInt k.bits a ||| BitVec.ofInt k.bits b).toNat))
 | .xor=>.ok (.int k (x7 k (BitVec.ofInt k.bits a ^^^ BitVec.ofInt k.bits b).toNat))
 | .andNot=>.ok (.int k (x7 k (BitVec.ofInt k.bits a &&& ~~~(BitVec.ofInt k.bits b)).toNat))
 | op=>match h0G op a b with | some r=>.ok (.bool r) | none=>.error "int op"
def g0k (op:BinOp) (k:IntKind) (a b:Int):R AV :=
 match op with
 | .shl=>if b<0 then .error "shift" else .ok (.int k (x7 k (a*2 ^ min b.toNat k.bits)))
 | .shr=>if b<0 then .error "shift" else .ok (.int k (a.fdiv (2 ^ min b.toNat k.bits)))
 | _=>.error "kinds"
section
variable (P:Program)
def part (t:TypeId) (cs:List AV) (off:Nat):R AV :=
 match d0E P t with
 | .ok true=>match M2 P t with
  | .ok n=>if off+n≤cs.length then .ok (.agg ((cs.drop off).take n)) else .error "part"
  | .error e=>.error e
 | .ok false=>match cs[off]? with | some v=>.ok v | none=>.error "part: no such cell"
 | .error e=>.error e
def d04 (eq:TypeId→AV→AV→R Bool):List Field→List AV→List AV→R Bool
 | [],_,_=>.ok true
 | f::fs,xs,ys =>
  if f.name≠"_" then
   match part P f.type xs f.offset,part P f.type ys f.offset with
   | .ok a,.ok b=>match eq f.type a b with
    | .ok true=>d04 eq fs xs ys
    | .ok false=>.ok false
    | .error e=>.error e
   | _,_=>.error "== part"
  else d04 eq fs xs ys
def h04 (eq:TypeId→AV→AV→R Bool) (elem:TypeId) (n:Nat) (xs ys:List AV):Nat→Nat→R Bool
 | 0,_=>.ok true
 | k+1,i =>
  match part P elem xs (i*n),part P elem ys (i*n) with
  | .ok a,.ok b=>match eq elem a b with
   | .ok true=>h04 eq elem n xs ys k (i+1)
   | .ok false=>.ok false
   | .error e=>.error e
  | _,_=>.error "== part"
def a0b (x y:AV):Option Bool :=
 match x with
 | .bool a=>match y with | .bool b=>some (a == b) | _=>none
 | .int k a=>match y with | .int k' b=>if k=k' then some (a == b) else none | _=>none
 | .str a=>match y with | .str b=>some (a == b) | _=>none
 | .nilp=>match y with | .nilp=>some true | .ptr _ _=>some false | _=>none
 | .ptr _ _=>match y with | .nilp=>some false | _=>none
 | .nili=>match y with | .nili=>some true | .iface _ _=>some false | _=>none
 | .iface _ _=>match y with | .nili=>some false | _=>none
 | .nils=>match y with | .nils=>some true | .slice ..=>some false | _=>none
 | .slice ..=>match y with | .nils=>some false | _=>none
 | .nilm=>match y with | .nilm=>some true | .map _=>some false | _=>none
 | .map _=>match y with | .nilm=>some false | _=>none
 | .nilf=>match y with | .nilf=>some true | .func ..=>some false | _=>none
 | .func ..=>match y with | .nilf=>some false | _=>none
 | _=>none
def M8 (d:TypeDesc) (x _y:AV):Bool :=
 match d with
 | .bool=>match x with | .bool _=>true | _=>false
 | .int _=>match x with | .int _ _=>true | _=>false
 | .string=>match x with | .str _=>true | _=>false
 | .pointer _=>match x with | .nilp=>true | .ptr _ _=>true | _=>false
 | .interface _=>match x with | .nili=>true | .iface _ _=>true | _=>false
 | .slice _=>match x with | .nils=>true | .slice ..=>true | _=>false
 | .map _ _=>match x with | .nilm=>true | .map _=>true | _=>false
 | .func _ _ _=>match x with | .nilf=>true | .func ..=>true | _=>false
 | _=>false
def a03:Nat→TypeId→AV→AV→R Bool
 | 0,_,_,_=>.error "== depth"
 | d+1,t,x,y =>
  match und P t with
  | .ok (.struct fields)=>match x,y with
   | .agg xs,.agg ys=>if P.stoodInHeld t then .error "== stood in" else d04 P (a03 d) fields.toList xs ys
   | _,_=>.error "== operands"
  | .ok (.array len elem)=>match x,y with
   | .agg xs,.agg ys=>match M2 P elem with
    | .ok n=>h04 P (a03 d) elem n xs ys len 0
    | .error e=>.error e
   | _,_=>.error "== operands"
  | .ok td=>if M8 td x y then ofO "== operands" (a0b x y) else .error "== operands"
  | .error e=>.error e
def c0M (op:BinOp):R Bool→R AV
 | .ok b=>match op with | .eql=>.ok (.bool b) | .neq=>.ok (.bool !b) | _=>.error "binop"
 | .error e=>.error e
def d0h (op:BinOp) (t:TypeId) (lit:Bool) (a b:AV):R AV :=
 match a,b with
 | .nili,.nili=>if lit then c0M op (a03 P 20 t .nili .nili) else .error "== of two nil interfaces"
 | .agg xs,.agg ys=>if P.eqGuardType P.depth t then .error "== guard" else c0M op (a03 P 20 t (.agg xs) (.agg ys))
 | a,b=>c0M op (a03 P 20 t a b)
def R7:BinOp→Bool
 | .shl | .shr=>true
 | _=>false
def A0 (op:BinOp) (t:TypeId) (lit:Bool) (a b:AV):R AV :=
 match a with
 | .int k m=>match b with
  | .int k' n=>if R7 op then g0k op k m n else if k=k' then d0A op k m n else .error "kinds"
  | _=>.error "kinds"
 | .str s=>match b with
  | .str u=>i04 op s u
  | _=>.error "string op"
 | a=>d0h P op t lit a b
def n0S (op:UnOp) (x:AV):R AV :=
 match x with
 | .int k n=>match op with
  | .neg=>.ok (.int k (x7 k (0 - n)))
  | .xor=>.ok (.int k (x7 k (BitVec.ofInt k.bits (if k.signed then -1 else k.max) ^^^ BitVec.ofInt k.bits n).toNat))
  | _=>.error "unary"
 | .bool b=>match op with | .not=>.ok (.bool !b) | _=>.error "unary"
 | _=>.error "unary"
def b0n:List UInt8→List AV
 | []=>[]
 | b::l=>.int .u8 b.toNat::b0n l
def h05:List AV→R (List UInt8)
 | []=>.ok []
 | v::l=>match v with
  | .int .u8 n=>match h05 l with | .ok r=>.ok (UInt8.ofNat n.toNat::r) | .error e=>.error e
  | _=>.error "bytes"
def c0j (s:List UInt8):Nat→Nat→List AV
 | 0,_=>[]
 | b+1,i=>bif Nat.blt i s.length then
   match Utf8.decode ⟨⟨s⟩⟩ i with
   | (r,w)=>X8 (i+w) fun j=>.int .i32 (Int.ofNat r)::c0j s b j
  else []
def J7 (c:CConv) (x:AV) (h:AH):RN :=
 match c with
 | .int k=>match x with | .int _ n=>okV (.int k (x7 k n)) h | _=>.error "convert"
 | .str=>match x with
  | .int _ n=>okV (.str (Utf8.encode n).data.toList) h
  | .str s=>okV (.str s) h
  | _=>.error "convert"
 | .strB=>match x with
  | .nils=>okV (.str []) h
  | .slice id off len _ _ es=>if es=1 then match loadN h id off len with
   | .ok l=>match h05 l with | .ok s=>okV (.str s) h | .error e=>.error e
   | .error e=>.error e
   else .error "convert"
  | _=>.error "convert"
 | .bytes=>match x with
  | .str s=>okV (.slice h.next 0 s.length s.length false 1) (h.push (.cells (b0n s) false))
  | _=>.error "convert"
 | .runes=>match x with
  | .str s=>if s.length≤2 ^ 40 then X8 (c0j s s.length 0).length fun n=>okV (.slice h.next 0 n n false 1) (h.push (.cells (c0j s s.length 0) false)) else .error "convert: size"
  | _=>.error "convert"
def d05 (es bytes:Nat) (z:List AV) (len cap:AV) (h:AH):RN :=
 match len,cap with
 | .int _ l,.int _ c =>
  if 0≤l∧l≤c∧bytes*c≤2 ^ 40∧c≤2 ^ 40 then
   okV (.slice h.next 0 l.toNat c.toNat true es) (h.push (.cells (a0t z c.toNat) false))
  else .error "makeSlice"
 | _,_=>.error "makeSlice"
def G7 (x:AV) (y:Nat):R Nat :=
 match x with
 | .int _ i=>if 0≤i∧i≤y then .ok i.toNat else .error "slice bound"
 | _=>.error "slice bound"
def G8 (x:Option AV) (d y:Nat):R Nat:=match x with | some v=>G7 v y | none=>.ok d
def J8 (len cap:Nat) (low high max:Option AV):R (Nat×Nat×Nat) :=
 match G8 max cap cap with
 | .ok m=>match G8 high len m with
  | .ok hi=>match G8 low 0 hi with
   | .ok lo=>if high.isNone&&max.isSome then .error "max without high" else .ok (lo,hi,m)
   | .error e=>.error e
  | .error e=>.error e
 | .error e=>.error e
def d06 (a:AAct):Option CO→Option AV
 | none=>none
 | some x=>some (x.ev a)
def d07 (x:AV) (lo hi:Option AV):R AV :=
 match x with
 | .str s=>match J8 s.length s.length lo hi none with
  | .ok (l,hi,_)=>.ok (.str ((s.drop l).take (hi - l)))
  | .error e=>.error e
 | _=>.error "slice"
def r9 (es:Nat) (x:AV) (lo hi mx:Option AV):R AV :=
 match x with
 | .nils=>match J8 0 0 lo hi mx with
  | .ok _=>.ok .nils
  | .error e=>.error e
 | .slice id off len cap x es'=>if es=es' then match J8 len cap lo hi mx with
   | .ok (l,hi,m)=>.ok (.slice id (off+l*es) (hi - l) (m - l) (x||mx.isSome) es)
   | .error e=>.error e
  else .error "slice: size"
 | _=>.error "slice"
def d08 (n es:Nat) (h:AH) (x:AV) (lo hi mx:Option AV):R AV :=
 match x with
 | .ptr id off=>match h.get id with
  | some (.cells vs _)=>bif Nat.ble (off+n*es) vs.length then match J8 n n lo hi mx with
   | .ok (l,hi,m)=>.ok (.slice id (off+l*es) (hi - l) (m - l) true es)
   | .error e=>.error e
   else .error "slice: out of the known cells"
  | _=>.error "slice: no such block"
 | _=>.error "slice"
def i05 (len es:Nat) (x i:AV):R AV :=
 match x with
 | .ptr id off=>match i with
  | .int _ i=>if 0≤i∧i<len then .ok (.ptr id (off+i.toNat*es)) else .error "index out of range"
  | _=>.error "index"
 | _=>.error "index"
def I3 (es:Nat) (x i:AV):R AV :=
 match x with
 | .slice id off len _ _ es'=>match i with
  | .int _ i=>if es=es' then (if 0≤i∧i<len then .ok (.ptr id (off+i.toNat*es)) else .error "index out of range") else .error "index: size"
  | _=>.error "index"
 | _=>.error "index"
def d0i (x:AV) (off n:Nat):R AV :=
 match x with
 | .agg cs=>bif Nat.ble (off+n) cs.length then .ok (.agg ((cs.drop off).take n)) else .error "part"
 | _=>.error "part"
def f0r (x:AV) (off:Nat):R AV :=
 match x with
 | .agg cs=>match cs[off]? with | some v=>.ok v | none=>.error "part"
 | _=>.error "part"
def a0E (one:Bool) (len es:Nat) (x i:AV):R AV :=
 match i with
 | .int _ i=>if 0≤i∧i<len then (match one with | true=>f0r x (i.toNat*es) | false=>d0i x (i.toNat*es) es) else .error "index out of range"
 | _=>.error "index"
def b0U (x i:AV):R AV :=
 match x with
 | .str s=>match i with
  | .int _ i=>if 0≤i then match s[i.toNat]? with | some b=>.ok (.int .u8 b.toNat) | none=>.error "index out of range" else .error "index out of range"
  | _=>.error "index"
 | _=>.error "index"
def a09 (t:TypeId) (k:AV):List AEntry→Nat→R (Option (Nat×AV))
 | [],_=>.ok none
 | e::es,i=>match a03 P 20 t k e.key with
  | .ok true=>.ok (some (i,e.val))
  | .ok false=>a09 t k es (i+1)
  | .error e=>.error e
def e0D (ok:TypeId→AV→Bool) (cs:List AV):List Field→Bool
 | []=>true
 | f::fs=>match part P f.type cs f.offset with
  | .ok v=>ok f.type v&&e0D ok cs fs
  | .error _=>false
def c0N:Nat→TypeId→AV→Bool
 | 0,_,_=>false
 | d+1,t,v=>match P.underlying t with
  | some (.int _)=>match v with | .int _ _=>true | _=>false
  | some .string=>match v with | .str _=>true | _=>false
  | some .bool=>match v with | .bool _=>true | _=>false
  | some (.struct fields)=>match v with | .agg cs=>e0D P (c0N d) cs fields.toList | _=>false
  | _=>false
def k0q (h:AH) (x:AV):R (List AEntry) :=
 match x with
 | .nilm=>.ok []
 | .map id=>match h.get id with | some (.map l _)=>.ok l | _=>.error "map"
 | _=>.error "map"
def g08 (ok:Bool) (v:AV) (b:Bool):AV:=match ok with | true=>.tuple [v,.bool b] | false=>v
def d09 (kt:TypeId) (z:AV) (ok:Bool) (h:AH) (x k:AV):R AV :=
 match k0q h x with
 | .ok es=>if c0N P 10 kt k then match a09 P kt k es 0 with
   | .ok (some (_,v))=>.ok (g08 ok v true)
   | .ok none=>.ok (g08 ok z false)
   | .error e=>.error e
  else .error "lookup: key"
 | .error e=>.error e
def m0z (x y:AV):Bool :=
 match x with
 | .bool a=>match y with | .bool b=>a == b | _=>false
 | .int k a=>match y with | .int k' b=>k == k'&&a == b | _=>false
 | .str a=>match y with | .str b=>a == b | _=>false
 | _=>false
def k06:List AV→List AV→Bool
 | [],[]=>true
 | x::l,y::r=>m0z x y&&k06 l r
 | _,_=>false
def k0r (x y:AV):Bool :=
 match x with
 | .agg l=>match y with | .agg r=>k06 l r | _=>false
 | x=>m0z x y
def h0H (k:AV):Nat→List AEntry→Bool
 | _,[]=>false
 | 0,e::_=>k0r e.key k
 | i+1,_::es=>h0H k i es
def setVal (k v:AV):Nat→List AEntry→List AEntry
 | _,[]=>[]
 | 0,e::es=>{ e with key:=k,val:=v }::es
 | i+1,e::es=>e::setVal k v i es
def setKey (k:AV):Nat→List AEntry→List AEntry
 | _,[]=>[]
 | 0,e::es=>{ e with key:=k }::es
 | i+1,e::es=>e::setKey k i es
def d0B (kt:TypeId) (h:AH) (m k v:AV):R AH :=
 match m with
 | .map id=>match h.get id with
  | some (.map es clock)=>if c0N P 10 kt k then match a09 P kt k es 0 with
    | .ok (some (i,_))=>if h0H k i es then .ok (h.set id (.map (setVal k v i es) clock)) else .error "mapUpdate: which key stays"
    | .ok none=>.ok (h.set id (.map (es++[⟨k,v,clock⟩]) (clock+1)))
    | .error e=>.error e
   else .error "mapUpdate: key"
  | _=>.error "mapUpdate"
 | _=>.error "mapUpdate"
def a0u (kt:TypeId) (z:AV) (h:AH) (m k:AV):RN :=
 match m with
 | .map id=>match h.get id with
  | some (.map es clock)=>if c0N P 10 kt k then match a09 P kt k es 0 with
    | .ok (some (i,v))=>match es[i]? with
     | some e=>if h0H k i es then okV (.tuple [v,.int .i64 e.born]) (h.set id (.map (setKey k i es) clock)) else .error "mapEntry: which key stays"
     | none=>.error "mapEntry"
    | .ok none=>okV (.tuple [z,.int .i64 clock]) (h.set id (.map (es++[⟨k,z,clock⟩]) (clock+1)))
    | .error e=>.error e
   else .error "mapEntry: key"
  | _=>.error "mapEntry"
 | _=>.error "mapEntry"
def g0l (b:Int):List AEntry→Nat→Option Nat
 | [],_=>none
 | e::es,i=>bif (e.born:Int) == b then some i else g0l b es (i+1)
def e0a (v:AV):Nat→List AEntry→List AEntry
 | _,[]=>[]
 | 0,e::es=>{ e with val:=v }::es
 | i+1,e::es=>e::e0a v i es
def a0c (h:AH) (m stamp v:AV):R AH :=
 match m,stamp with
 | .map id,.int _ b=>match h.get id with
  | some (.map es clock)=>match g0l b es 0 with
   | some i=>.ok (h.set id (.map (e0a v i es) clock))
   | none=>.error "entryStore"
  | _=>.error "entryStore"
 | _,_=>.error "entryStore"
def a0d (h:AH) (x:AV):RN :=
 match x with
 | .str s=>okV (.ptr h.next 0) (h.push (.siter s 0))
 | _=>.error "range"
def U9 (h:AH) (x:AV):RN :=
 match x with
 | .nilm=>okV (.ptr h.next 0) (h.push (.miter none 0 [] 0))
 | .map m=>match h.get m with
  | some (.map _ clock)=>okV (.ptr h.next 0) (h.push (.miter (some m) clock [] clock))
  | _=>.error "range"
 | _=>.error "range"
def i06 (h:AH) (id:Nat):RN :=
 match h.get id with
 | some (.siter s pos) =>
  bif Nat.blt pos s.length then
   match Utf8.decode ⟨⟨s⟩⟩ pos with
   | (c,w)=>X8 (pos+w) fun p=>okV (.tuple [.bool true,.int .i64 pos,.int .i32 c]) (h.set id (.siter s p))
  else okV (.tuple [.bool false]) h
 | _=>.error "next"
def k0s (h:AH) (id:Nat):RN :=
 match h.get id with
 | some (.miter m since seen last)=>match m with
  | none=>okV (.tuple [.bool false]) h
  | some m=>match h.get m with
   | some (.map es clock) =>
    if !seen.isEmpty&&!es.isEmpty&&es.all (fun e=>Nat.ble last e.born) then .error "next: all gone" else
    match es.filter (fun e=>!seen.contains e.born) with
    | []=>okV (.tuple [.bool false]) h
    | [e]=>if e.born<since then okV (.tuple [.bool true,e.key,e.val]) (h.set id (.miter (some m) since (seen++[e.born]) clock)) else .error "next: a new entry"
    | _=>.error "next: several entries"
   | _=>.error "next"
 | _=>.error "next"
def a0v (h:AH) (it:AV) (isString:Bool):RN :=
 match it with
 | .ptr id 0=>match isString with | true=>i06 h id | false=>k0s h id
 | _=>.error "next"
def d0j (h:AH) (it:AV):R AV :=
 match it with
 | .ptr id 0=>match h.get id with
  | some (.miter (some m) _ seen stepped)=>match seen.getLast?,h.get m with
   | some b,some (.map es clock)=>if clock=stepped then match es.find? (fun e=>e.born == b) with
     | some e=>.ok (.tuple [e.key,e.val])
     | none=>.error "entry"
    else .error "entry: an insertion"
   | _,_=>.error "entry"
  | _=>.error "entry"
 | _=>.error "entry"
def g09 (x:AV):R AV:=match x with | .str s=>.ok (.int .i64 (.ofNat s.length)) | _=>.error "len"
def O1 (x:AV):R AV :=
 match x with
 | .nils=>.ok (.int .i64 0)
 | .slice _ _ n _ _ _=>.ok (.int .i64 (.ofNat n))
 | _=>.error "len"
def f0s (h:AH) (x:AV):R AV :=
 match x with
 | .nilm=>.ok (.int .i64 0)
 | .map id=>match h.get id with | some (.map es _)=>.ok (.int .i64 (.ofNat es.length)) | _=>.error "len"
 | _=>.error "len"
def h0a (x:AV):R AV :=
 match x with
 | .nils=>.ok (.int .i64 0)
 | .slice _ _ _ cap true _=>.ok (.int .i64 (.ofNat cap))
 | _=>.error "cap"
def O3 (h:AH) (es:Nat) (x:AV):R (Nat×List AV) :=
 match x with
 | .nils=>.ok (0,[])
 | .slice id off len _ _ es'=>if es=es' then match loadN h id off (len*es) with | .ok l=>.ok (len,l) | .error e=>.error e else .error "source: size"
 | .str s=>if es=1 then .ok (s.length,b0n s) else .error "source: size"
 | _=>.error "source"
def V0 (es bytes:Nat) (s:AV) (n:Nat) (new:List AV) (h:AH):RN :=
 match s with
 | .nils =>
  if n=0 then okV .nils h
  else if n*bytes≤2 ^ 40∧n≤2 ^ 40 then okV (.slice h.next 0 n n false es) (h.push (.cells new false)) else .error "append: size"
 | .slice id off len cap x es'=>if es'≠es then .error "append: size" else
  X8 (len+n) fun m =>
  bif Nat.ble m cap then
   match v7 h id (off+len*es) new with
   | .ok h=>okV (.slice id off m cap x es) h
   | .error e=>.error e
  else if m*bytes≤2 ^ 40∧m≤2 ^ 40 then match loadN h id off (len*es) with
   | .ok old=>if i5 new then
     match x with
     | true=>okV (.slice h.next 0 m m false es) (h.push (.cells (old++new) false))
     | false=>match h.get id with
      | some (.cells _ false)=>okV (.slice h.next 0 m m false es) ((h.kill id).push (.cells (old++new) false))
      | _=>.error "append: only read"
    else .error "append: scalars"
   | .error e=>.error e
  else .error "append: size"
 | _=>.error "append"
def a0S (es bytes:Nat) (s x:AV) (h:AH):RN :=
 match O3 h es x with
 | .ok (n,new)=>V0 es bytes s n new h
 | .error e=>.error e
def e0b (es bytes:Nat) (z:List AV) (s x:AV) (h:AH):RN :=
 match x with
 | .int _ n=>if 0≤n∧n≤2 ^ 40∧n*bytes≤2 ^ 40 then V0 es bytes s n.toNat (a0t z n.toNat) h else .error "append: make"
 | _=>.error "append: make"
def c0x (es:Nat) (d s:AV) (h:AH):RN :=
 match O3 h es s with
 | .ok (n,l)=>match d with
  | .nils=>okV (.int .i64 0) h
  | .slice id off len _ _ es'=>if es=es' then
   match v7 h id off (l.take (min n len*es)) with
   | .ok h=>okV (.int .i64 (.ofNat (min n len))) h
   | .error e=>.error e
   else .error "copy: size"
  | _=>.error "copy"
 | .error e=>.error e
def c0k (es:Nat) (z:List AV) (x:AV) (h:AH):RN :=
 match x with
 | .nils=>okV (.tuple []) h
 | .slice id off len _ _ es'=>if es'=es then (if len=0 then okV (.tuple []) h else match v7 h id off (a0t z len) with
  | .ok h=>okV (.tuple []) h
  | .error e=>.error e) else .error "clear: size"
 | _=>.error "clear"
def a0F:Nat→List AEntry→List AEntry
 | _,[]=>[]
 | 0,_::es=>es
 | i+1,e::es=>e::a0F i es
def a0T (kt:TypeId) (m k:AV) (h:AH):RN :=
 match m with
 | .nilm=>if c0N P 10 kt k then okV (.tuple []) h else .error "delete"
 | .map id=>match h.get id with
  | some (.map es clock)=>if c0N P 10 kt k then match a09 P kt k es 0 with
    | .ok (some (i,_))=>okV (.tuple []) (h.set id (.map (a0F i es) clock))
    | .ok none=>okV (.tuple []) h
    | .error e=>.error e
   else .error "delete: key"
  | _=>.error "delete"
 | _=>.error "delete"
def mm2 (isMax:Bool) (a b:AV):R AV :=
 match a,b with
 | .int k x,.int _ y=>match isMax with
  | true=>.ok (.int k (if y>x then y else x))
  | false=>.ok (.int k (if y<x then y else x))
 | _,_=>.error "min, max"
def a04 (isMax:Bool) (a:AV):List AV→R AV
 | []=>.ok a
 | b::l=>match mm2 isMax a b with | .ok c=>a04 isMax c l | .error e=>.error e
def Y7 (ok:Bool) (t:TypeId):R AV :=
 match ok with
 | true=>match J6 P t with | .ok z=>.ok (.tuple [z,.bool false]) | .error e=>.error e
 | false=>.error "assertion"
def a0e (x:AV) (asserted:TypeId) (ok:Bool):R AV :=
 match und P asserted with
 | .ok (.interface want)=>match x with
  | .iface t v=>match P.info? t with
   | some i=>match Instr.missingMethod want i.methods with
    | none=>.ok (g08 ok (.iface t v) true)
    | some _=>Y7 P ok asserted
   | none=>.error "typeAssert"
  | .nili=>Y7 P ok asserted
  | _=>.error "typeAssert"
 | .ok _=>match x with
  | .nili=>Y7 P ok asserted
  | .iface t v=>if t=asserted then .ok (g08 ok v true) else Y7 P ok asserted
  | _=>.error "typeAssert"
 | .error e=>.error e
def a0f (fn:Fn) (captured args:List AV) (h:AH):RN :=
 match fn with
 | .func f=>.ok (.enter f (args++captured),h)
 | .yield l=>.ok (.yield l args,h)
 | _=>.error "call: kind of function"
def d0k (f:AV) (args:List AV) (h:AH):RN :=
 match f with
 | .func fn first captured=>a0f fn captured (first++args) h
 | _=>.error "call: of what"
def c0O (recv:AV) (name:String) (args:List AV) (h:AH):RN :=
 match recv with
 | .iface t v=>match P.info? t with
  | some i=>match i.methods.find? (·.name == name) with
   | some m=>if m.path.isEmpty then match m.func with
     | some (f,ptrRecv)=>match P.underlying t,ptrRecv with
      | some (.pointer _),true=>a0f (.func f) [] (v::args) h
      | some (.pointer _),false=>.error "method: a value's, by a pointer"
      | some _,false=>a0f (.func f) [] (v::args) h
      | _,_=>.error "method"
     | none=>.error "method"
    else .error "method: a road"
   | none=>.error "method"
  | none=>.error "method"
 | _=>.error "invoke"
def g0m (f:AV) (args:List AV) (h:AH):RN :=
 match f with
 | .func fn first captured=>match fn with
  | .func _=>.ok (.defer (.call fn captured (first++args)),h)
  | _=>.error "defer"
 | _=>.error "defer"
def c0l (x:AV) (h:AH):RN:=match x with | .ptr id off=>m9 h (load1 h id off) | _=>.error "load"
def A5 (n:Nat) (x:AV) (h:AH):RN :=
 match x with
 | .ptr id off=>match loadN h id off n with | .ok l=>okV (.agg l) h | .error e=>.error e
 | _=>.error "load"
def T6 (n:Nat) (x v:AV) (h:AH):RN :=
 match x with
 | .ptr id off=>bif Nat.beq v.cells.length n then a0a (v7 h id off v.cells) else .error "store: size"
 | _=>.error "store"
def L1 (x:AV) (h:AH):RN :=
 match x with
 | .ptr id off=>okV (.ptr id off) h
 | .map id=>okV (.map id) h
 | .iface t v=>okV (.iface t v) h
 | .func fn a b=>match fn with
  | .func f=>okV (.func (.func f) a b) h
  | .yield f=>okV (.func (.yield f) a b) h
  | _=>.error "nilCheck"
 | _=>.error "nilCheck"
def Y8 (off:Nat) (x:AV):R AV:=match x with | .ptr id o=>.ok (.ptr id (o+off)) | _=>.error "fieldAddr"
def h0b (c a b:AV):R AV:=match c with | .bool true=>.ok a | .bool false=>.ok b | _=>.error "pick"
def Y9 (x:AV) (i:Nat):R AV:=match x with | .tuple l=>ofO "extract" l[i]? | _=>.error "extract"
def e03 (r:Option AV) (h:AH):RN :=
 match r with
 | none=>okV (.map h.next) (h.push (.map [] 0))
 | some (.int _ _)=>okV (.map h.next) (h.push (.map [] 0))
 | _=>.error "makeMap"
def d0l (z:List AV) (pl:List (Nat×Nat×CO)) (a:AAct):R AV:=match d0z a z pl with | .ok l=>.ok (.agg l) | .error e=>.error e
def Q2 (len es:Nat) (z:List AV) (pl:List (Nat×Nat×CO)) (a:AAct) (h:AH):RN :=
 match d0z a z pl with
 | .ok l=>okV (.slice h.next 0 len len true es) (h.push (.cells l false))
 | .error e=>.error e
def B7 (z:List AV) (h:AH):RN:=okV (.ptr h.next 0) (h.push (.cells z false))
def evC (c:COp):AAct→AH→RN :=
 match c with
 | .move x=>fun a h=>okV (x.ev a) h
 | .pick c x y=>fun a h=>m9 h (h0b (c.ev a) (x.ev a) (y.ev a))
 | .new z=>fun _ h=>B7 z h
 | .box x=>fun a h=>B7 (x.ev a).cells h
 | .build z pl=>fun a h=>m9 h (d0l z pl a)
 | .buildSlice len es z pl=>fun a h=>Q2 len es z pl a h
 | .load1 x=>fun a h=>c0l (x.ev a) h
 | .loadN n x=>fun a h=>A5 n (x.ev a) h
 | .store n x y=>fun a h=>T6 n (x.ev a) (y.ev a) h
 | .nilCheck x=>fun a h=>L1 (x.ev a) h
 | .bin op t lit x y=>fun a h=>m9 h (A0 P op t lit (x.ev a) (y.ev a))
 | .un op x=>fun a h=>m9 h (n0S op (x.ev a))
 | .conv c x=>fun a h=>J7 c (x.ev a) h
 | .mkI t x=>fun a h=>okV (.iface t (x.ev a)) h
 | .mkF f first captured=>fun a h=>okV (.func (.func f) (evL a first) (evL a captured)) h
 | .mkM r=>fun a h=>e03 (d06 a r) h
 | .mkS es bytes z l c=>fun a h=>d05 es bytes z (l.ev a) (c.ev a) h
 | .sliceS x lo hi=>fun a h=>m9 h (d07 (x.ev a) (d06 a lo) (d06 a hi))
 | .sliceV es x lo hi mx=>fun a h=>m9 h (r9 es (x.ev a) (d06 a lo) (d06 a hi) (d06 a mx))
 | .sliceA n es x lo hi mx=>fun a h=>m9 h (d08 n es h (x.ev a) (d06 a lo) (d06 a hi) (d06 a mx))
 | .fieldAddr off x=>fun a h=>m9 h (Y8 off (x.ev a))
 | .field1 off x=>fun a h=>m9 h (f0r (x.ev a) off)
 | .fieldN off n x=>fun a h=>m9 h (d0i (x.ev a) off n)
 | .idxA len es x i=>fun a h=>m9 h (i05 len es (x.ev a) (i.ev a))
 | .idxV es x i=>fun a h=>m9 h (I3 es (x.ev a) (i.ev a))
 | .index1 len es x i=>fun a h=>m9 h (a0E true len es (x.ev a) (i.ev a))
 | .indexN len es x i=>fun a h=>m9 h (a0E false len es (x.ev a) (i.ev a))
 | .indexS x i=>fun a h=>m9 h (b0U (x.ev a) (i.ev a))
 | .lookup kt z ok x k=>fun a h=>m9 h (d09 P kt z ok h (x.ev a) (k.ev a))
 | .upd kt m k v=>fun a h=>a0a (d0B P kt h (m.ev a) (k.ev a) (v.ev a))
 | .mapEntry kt z m k=>fun a h=>a0u P kt z h (m.ev a) (k.ev a)
 | .entryStore m s v=>fun a h=>a0a (a0c h (m.ev a) (s.ev a) (v.ev a))
 | .rangeS x=>fun a h=>a0d h (x.ev a)
 | .rangeM x=>fun a h=>U9 h (x.ev a)
 | .next it s=>fun a h=>a0v h (it.ev a) s
 | .entry it=>fun a h=>m9 h (d0j h (it.ev a))
 | .tassert x t ok=>fun a h=>m9 h (a0e P (x.ev a) t ok)
 | .extract x i=>fun a h=>m9 h (Y9 (x.ev a) i)
 | .app es bytes s x=>fun a h=>a0S es bytes (s.ev a) (x.ev a) h
 | .appZ es bytes z s x=>fun a h=>e0b es bytes z (s.ev a) (x.ev a) h
 | .lenK n=>fun _ h=>okV (.int .i64 (.ofNat n)) h
 | .lenS x=>fun a h=>m9 h (g09 (x.ev a))
 | .lenV x=>fun a h=>m9 h (O1 (x.ev a))
 | .lenM x=>fun a h=>m9 h (f0s h (x.ev a))
 | .capV x=>fun a h=>m9 h (h0a (x.ev a))
 | .copy es d s=>fun a h=>c0x es (d.ev a) (s.ev a) h
 | .delete kt m k=>fun a h=>a0T P kt (m.ev a) (k.ev a) h
 | .clear es z x=>fun a h=>c0k es z (x.ev a) h
 | .mm isMax x l=>fun a h=>m9 h (a04 isMax (x.ev a) (evL a l))
 | .callV f args=>fun a h=>d0k (f.ev a) (evL a args) h
 | .callM r name args=>fun a h=>c0O P (r.ev a) name (evL a args) h
 | .defer f args=>fun a h=>g0m (f.ev a) (evL a args) h
end
inductive AX where
 | normal
 | exit (id:Nat)
 | goto (l:Nat)
 | ret
 deriving Inhabited
inductive Tgt where
 | fn (f:FuncId)
 | yield (l:Nat)
abbrev E0:=Tgt→List AV→AH→R (AV×AH)
section
variable (P:Program)
def s6 (ops:Array Oper) (o:Oper) (a:AAct):R Bool :=
 match o.guard with
 | none=>.ok true
 | some (j,want)=>match (ops[j]?).bind (·.dst) with
  | some d=>match a.val d with
   | .bool b=>.ok (b == want)
   | .raw _=>.error "guard"
   | _=>.ok false
  | none=>.ok false
inductive DKind where
 | heavy
 | pure
 | read
 | alloc
def COp.kind:COp→DKind
 | .move _ | .pick _ _ _ | .build _ _ | .bin _ _ _ _ _ | .un _ _ | .mkI _ _ | .mkF _ _ _ | .sliceS _ _ _ | .sliceV _ _ _ _ _ | .fieldAddr _ _ | .field1 _ _ | .fieldN _ _ _
 | .idxA _ _ _ _ | .idxV _ _ _ | .index1 _ _ _ _ | .indexN _ _ _ _ | .indexS _ _ | .tassert _ _ _ | .extract _ _ | .lenK _ | .lenS _ | .lenV _ | .capV _ | .mm _ _ _ | .nilCheck _=>.pure
 | .load1 _ | .loadN _ _ | .lookup _ _ _ _ _ | .entry _ | .lenM _ | .sliceA _ _ _ _ _ _=>.read
 | .new _ | .box _ | .buildSlice _ _ _ _ | .mkM _ | .mkS _ _ _ _ _=>.alloc
 | .conv c _=>match c with | .int _ | .str=>.pure | .strB=>.read | .bytes | .runes=>.alloc
 | _=>.heavy
def b0w:Op→Bool
 | .alloc _=>true
 | .box _ _=>true
 | .buildSlice _ _ _=>true
 | .makeMap _ _=>true
 | .makeSlice _ _ _=>true
 | .convert _ _ _=>true
 | _=>false
def b0o (o:Oper) (c:COp):DKind :=
 match c.kind with
 | .alloc=>bif b0w o.op then .alloc else .heavy
 | k=>k
def CO.reads:CO→List Nat
 | .t i=>[i]
 | .c _=>[]
def h0c:List CO→List Nat
 | []=>[]
 | x::l=>x.reads++h0c l
def f0t:Option CO→List Nat
 | some x=>x.reads
 | none=>[]
def k07:List (Nat×Nat×CO)→List Nat
 | []=>[]
 | (_,_,x)::l=>x.reads++k07 l
def COp.reads:COp→List Nat
 | .move x | .box x | .load1 x | .loadN _ x | .nilCheck x | .un _ x | .conv _ x | .mkI _ x | .fieldAddr _ x | .field1 _ x | .fieldN _ _ x | .rangeS x | .rangeM x | .next x _ | .entry x
 | .tassert x _ _ | .extract x _ | .lenS x | .lenV x | .lenM x | .capV x | .clear _ _ x=>x.reads
 | .pick c x y=>c.reads++(x.reads++y.reads)
 | .new _ | .lenK _=>[]
 | .build _ pl | .buildSlice _ _ _ pl=>k07 pl
 | .store _ x y | .bin _ _ _ x y | .idxA _ _ x y | .idxV _ x y | .index1 _ _ x y | .indexN _ _ x y | .indexS x y | .lookup _ _ _ x y | .mapEntry _ _ x y | .app _ _ x y | .appZ _ _ _ x y
 | .copy _ x y | .delete _ x y | .mkS _ _ _ x y=>x.reads++y.reads
 | .upd _ x y z | .entryStore x y z=>x.reads++(y.reads++z.reads)
 | .mkF _ x y=>h0c x++h0c y
 | .mkM r=>f0t r
 | .sliceS x l r=>x.reads++(f0t l++f0t r)
 | .sliceV _ x l r m | .sliceA _ _ x l r m=>x.reads++(f0t l++(f0t r++f0t m))
 | .mm _ x l | .callV x l | .callM x _ l | .defer x l=>x.reads++h0c l
def j0O (i:Nat):Nat:=Nat.shiftLeft 1 i
def p0E (a b:Nat):Bool:=Nat.beq (Nat.lor a b) b
def G9 (m i:Nat):Bool:=Nat.beq (Nat.land (Nat.shiftRight m i) 1) 1
structure DRow where
 i:Nat
 o:Oper
 c:COp
 k:DKind
 af:Nat
 rd:List Nat
inductive DEnt where
 | op (o:Oper)
 | stage (re:List DRow)
structure DSt where
 done:Nat
 hv:Nat
 last:Nat
 wr:Nat
 tbl:PT (Nat×Nat)
 rs:List DRow
 old:List (Nat×Nat)
def X9 (e:Edge):Bool :=
 match e.ground with
 | .textOnly _=>false
 | .gcOnly _=>false
 | _=>true
def b0x:List Edge→Nat
 | []=>0
 | e::l=>bif X9 e then Nat.lor (j0O e.on) (b0x l) else b0x l
def g0n (t:PT (Nat×Nat)):List Edge→Nat×Nat
 | []=>(0,0)
 | e::l=>match g0n t l with
  | (x,y)=>bif X9 e then match t.get e.on with
    | some (x',y')=>(Nat.lor x x',Nat.lor y y')
    | none=>(x,y)
   else (x,y)
def DKind.isHeavy:DKind→Bool | .heavy=>true | _=>false
def DKind.isRead:DKind→Bool | .read=>true | _=>false
def b0y (heavy:Bool) (done:Nat):List DRow→Option (DRow×List DRow)
 | []=>none
 | r::l=>bif Bool.and (r.k.isHeavy == heavy) (p0E r.af done) then some (r,l)
  else match b0y heavy done l with
   | some (x,l')=>some (x,r::l')
   | none=>none
def e0E (W D wr:Nat):List Nat→Bool
 | []=>true
 | t::l=>bif G9 W t then Bool.and (Bool.or (G9 D t) (Bool.not (G9 wr t))) (e0E W D wr l) else e0E W D wr l
def e0c (W D i:Nat):List Nat→List (Nat×Nat)
 | []=>[]
 | t::l=>bif Bool.and (G9 W t) (Bool.not (G9 D t)) then (t,i)::e0c W D i l else e0c W D i l
def m0A (d x i:Nat):List (Nat×Nat)→Bool
 | []=>true
 | (t,j)::l=>bif Nat.beq t d then Bool.and (Bool.or (Nat.beq j i) (G9 x j)) (m0A d x i l) else m0A d x i l
def q09 (d:Option Tmp) (x i:Nat) (l:List (Nat×Nat)):Bool :=
 match d with
 | some d=>m0A d x i l
 | none=>true
def r0a {α:Type}:List α→Bool
 | []=>true
 | _=>false
def r0b:Option Tmp→Nat
 | some d=>j0O d
 | none=>0
def i07 (last:Nat):List DRow→List DRow
 | []=>[]
 | r::l=>bif G9 last r.i then i07 last l else r::i07 last l
def DSt.put (W:Nat) (st:DSt) (r:DRow):R DSt :=
 X8 (g0n st.tbl r.o.after.toList).1 fun x =>
 X8 (g0n st.tbl r.o.after.toList).2 fun y =>
 bif Bool.and (p0E st.hv x) (Bool.and (e0E W y st.wr r.rd) (Bool.and (q09 r.o.dst x r.i (e0c W y r.i r.rd++st.old)) (Bool.or (Bool.not r.k.isRead) (r0a (e0c W y r.i r.rd))))) then
  X8 (Nat.lor x (j0O r.i)) fun x'=>X8 (Nat.lor y (r0b r.o.dst)) fun y'=>X8 (Nat.lor st.done (j0O r.i)) fun dn=>X8 (Nat.lor st.wr (r0b r.o.dst)) fun wr =>
   .ok ⟨dn,(bif r.k.isHeavy then Nat.lor st.hv (j0O r.i) else st.hv),(bif r.k.isHeavy then x' else st.last),wr,st.tbl.set (some (x',y')) r.i,
    (bif r.k.isRead then r::st.rs else bif r.k.isHeavy then i07 x' st.rs else st.rs),e0c W y r.i r.rd++st.old⟩
 else .error "draw: order"
def k0t (W:Nat):Nat→DSt→List DRow→R (List DEnt)
 | _,st,[]=>.ok [.stage st.rs]
 | 0,_,_=>.error "draw: fuel"
 | n+1,st,rem=>match b0y false st.done rem with
  | some (r,rem')=>match st.put W r with
   | .ok st'=>match k0t W n st' rem' with
    | .ok l=>.ok (.op r.o::l)
    | .error e=>.error e
   | .error e=>.error e
  | none=>match b0y true st.done rem with
   | some (r,rem')=>match st.put W r with
    | .ok st'=>match k0t W n st' rem' with
     | .ok l=>.ok (.stage st.rs::.op r.o::l)
     | .error e=>.error e
    | .error e=>.error e
   | none=>.error "draw: stuck"
def d0m (ops:Array Oper) (o:Oper):List Nat :=
 match o.guard with
 | none=>[]
 | some (j,_)=>match (ops[j]?).bind (·.dst) with
  | some d=>[d]
  | none=>[]
def k08 (ops:Array Oper):List Oper→Nat→R (List DRow)
 | [],_=>.ok []
 | o::l,i=>match comp P o with
  | .ok c=>match k08 ops l (i+1) with
   | .ok r=>.ok (⟨i,o,c,b0o o c,b0x o.after.toList,d0m ops o++c.reads⟩::r)
   | .error e=>.error e
  | .error e=>.error (o.pos++": read: "++e)
def g0o:List Oper→R Nat
 | []=>.ok 0
 | o::l=>match g0o l with
  | .ok W=>match o.dst with
   | some d=>bif G9 W d then .error "draw: written twice" else .ok (Nat.lor W (j0O d))
   | none=>.ok W
  | .error e=>.error e
def s0B (ops:Array Oper):R (List DEnt) :=
 match g0o ops.toList,k08 P ops ops.toList 0 with
 | .ok W,.ok rows=>k0t W ops.size ⟨0,0,0,0,.leaf,[],[]⟩ rows
 | .error e,_=>.error e
 | _,.error e=>.error e
def again (ops:Array Oper) (re:List DRow) (a:AAct) (h:AH):Bool :=
 match re with
 | []=>true
 | r::l=>match s6 ops r.o a with
  | .ok true=>match evC P r.c a h with
   | .ok (.value v,_)=>Bool.and (match r.o.dst with | some d=>R8 12 v (a.val d) | none=>true) (again ops l a h)
   | _=>false
  | .ok false=>again ops l a h
  | .error _=>false
def M9 (call:E0) (o:Oper) (a:AAct) (h:AH):R (AAct×AH) :=
 match comp P o with
 | .ok c=>match evC P c a h with
  | .ok (r,h)=>match r with
   | .value v=>g07 v fun v=>.ok (a.put o.dst v,h)
   | .skip=>.ok (a.put o.dst n8,h)
   | .defer d=>bif a.rd then .error "defer in a round" else .ok ((⟨a.n,a.ts,d::a.ds,a.rd⟩:AAct).put o.dst n8,h)
   | .enter f args=>match call (.fn f) args h with
    | .ok (v,h)=>g07 v fun v=>.ok (a.put o.dst v,h)
    | .error e=>.error e
   | .yield f args=>match call (.yield f) args h with
    | .ok (v,h)=>g07 v fun v=>.ok (a.put o.dst v,h)
    | .error e=>.error e
  | .error e=>.error (o.pos++": "++e)
 | .error e=>.error (o.pos++": read: "++e)
def c0m (call:E0) (ops:Array Oper):List Oper→AAct→AH→R (AAct×AH)
 | [],a,h=>.ok (a,h)
 | o::l,a,h =>
  match s6 ops o a with
  | .ok true=>match M9 P call o a h with
   | .ok (a,h)=>c0m call ops l a h
   | .error e=>.error e
  | .ok false=>c0m call ops l (a.put o.dst n8) h
  | .error e=>.error e
def O4 (call:E0) (ops:Array Oper):List DEnt→AAct→AH→R (AAct×AH)
 | [],a,h=>.ok (a,h)
 | .op o::l,a,h =>
  match s6 ops o a with
  | .ok true=>match M9 P call o a h with
   | .ok (a,h)=>O4 call ops l a h
   | .error e=>.error e
  | .ok false=>O4 call ops l (a.put o.dst n8) h
  | .error e=>.error e
 | .stage re::l,a,h=>bif again P ops re a h then O4 call ops l a h else .error "draw: a read comes out otherwise"
def b0V (call:E0) (ops:Array Oper) (a:AAct) (h:AH):R (AAct×AH) :=
 match s0B P ops with
 | .ok l=>O4 P call ops l a h
 | .error e=>.error e
def a0w (body:AAct→AH→R (AX×AAct×AH)):Nat→AAct→AH→R (AX×AAct×AH)
 | 0,_,_=>.error "fuel"
 | n+1,a,h=>match body a h with
  | .ok (.normal,a,h)=>a0w body n a h
  | r=>r
def k09 (call:E0) (f:AV) (params:Array Tmp) (assign body:Code) (a:AAct) (h:AH):R (AX×AAct×AH) :=
 match f with
 | .func (.func g) first captured=>bif a.rd then .error "rangeFunc in a round" else
  X8 h.next fun did =>
  match call (.fn g) (first++(.func (.yield (did+1)) [] []::captured))
    ((h.push (.deferred (some []))).push (.loop { state:=.ready,pending:=none,n:=a.n,tmps:=a.ts,params,assign,body })) with
  | .ok (_,h)=>match h.get (did+1) with
   | some (.loop r)=>match r.state with
    | .busy=>.error "rangeFunc: busy"
    | _=>match r.pending with
     | none=>.ok (.normal,⟨a.n,a.ts,.collected did::a.ds,a.rd⟩,h.set (did+1) (.loop { r with state:=.exhausted }))
     | some .ret=>.ok (.ret,⟨a.n,a.ts,.collected did::a.ds,a.rd⟩,h.set (did+1) (.loop { r with state:=.exhausted }))
     | some (.exit id)=>.ok (.exit id,⟨a.n,a.ts,.collected did::a.ds,a.rd⟩,h.set (did+1) (.loop { r with state:=.exhausted }))
     | some _=>.error "rangeFunc: jump"
   | _=>.error "rangeFunc"
  | .error e=>.error e
 | _=>.error "rangeFunc: of what"
def h0d (v:AV) (x y:R (AX×AAct×AH)):R (AX×AAct×AH) :=
 match v with
 | .bool true=>x
 | .bool false=>y
 | _=>.error "cond"
def n9 (call:E0) (lf:Nat):Code→AAct→AH→R (AX×AAct×AH)
 | .skip,a,h=>.ok (.normal,a,h)
 | .label _,a,h=>.ok (.normal,a,h)
 | .region _ ops draw,a,h=>match (bif draw then b0V P call ops a h else c0m P call ops ops.toList a h) with
  | .ok (a,h)=>.ok (.normal,a,h)
  | .error e=>.error e
 | .seq x y,a,h=>match n9 call lf x a h with
  | .ok (.normal,a,h)=>n9 call lf y a h
  | r=>r
 | .cond c x y,a,h=>match cO P c with
  | .ok c=>h0d (c.ev a) (n9 call lf x a h) (n9 call lf y a h)
  | .error e=>.error e
 | .block id c,a,h=>match n9 call lf c a h with
  | .ok (.exit i,a,h)=>bif Nat.beq i id then .ok (.normal,a,h) else .ok (.exit i,a,h)
  | r=>r
 | .loop c,a,h=>a0w (n9 call lf c) lf a h
 | .exit id,a,h=>.ok (.exit id,a,h)
 | .ret,a,h=>.ok (.ret,a,h)
 | .scope c,a,h=>match n9 call lf c a h with
  | .ok (.goto _,_,_)=>.error "goto"
  | r=>r
 | .rangeFunc f params assign body,a,h=>match cO P f with
  | .ok f=>k09 call (f.ev a) params assign body a h
  | .error e=>.error e
 | .goto _,_,_=>.error "goto"
 | .refuse why,_,_=>.error why
def I8 (h:AH) (a:AAct):List ResultVar→R (List AV)
 | []=>.ok []
 | .tmp t::l=>match I8 h a l with | .ok r=>.ok (a.val t::r) | .error e=>.error e
 | .cell p t::l=>match a.val p with
  | .ptr id off=>match d0E P t,M2 P t with
   | .ok true,.ok n=>match loadN h id off n,I8 h a l with | .ok v,.ok r=>.ok (.agg v::r) | _,_=>.error "results"
   | .ok false,_=>match load1 h id off,I8 h a l with | .ok v,.ok r=>.ok (v::r) | _,_=>.error "results"
   | _,_=>.error "results"
  | _=>.error "results"
def a0n:List AV→AV
 | [v]=>v
 | l=>.tuple l
def H9 (call:E0):List ADef→AH→R AH
 | [],h=>.ok h
 | d::l,h=>match d with
  | .collected id=>match h.get id with
   | some (.deferred (some []))=>H9 call l (h.set id (.deferred none))
   | _=>.error "collected"
  | .call fn captured args=>match a0f fn captured args h with
   | .ok (.enter f args,h)=>match call (.fn f) args h with
    | .ok (_,h)=>H9 call l h
    | .error e=>.error e
   | .ok _=>.error "defer"
   | .error e=>.error e
def laid:List AV→Nat→PT AV→PT AV
 | [],_,t=>t
 | v::l,i,t=>laid l (i+1) (t.set (some v) i)
def Q9:List Tmp→List AV→AAct→AAct
 | t::ts,v::vs,a=>Q9 ts vs (a.put (some t) v)
 | _,_,a=>a
def N0 (call:E0) (fn:Func) (r:R (AX×AAct×AH)):R (AV×AH) :=
 match r with
 | .ok (x,a,h)=>match x with
  | .normal | .ret=>match H9 call a.ds h with
   | .ok h=>match I8 P h a fn.results.toList with
    | .ok l=>.ok (a0n l,h)
    | .error e=>.error (fn.name++": "++e)
   | .error e=>.error (fn.name++": "++e)
  | _=>.error "left by a jump"
 | .error e=>.error (fn.name++"/"++e)
def c0P (l:Nat) (r:R (AX×AAct×AH)):R (AV×AH) :=
 match r with
 | .ok (x,a,h)=>match a.ds with
  | []=>match h.get l with
   | some (.loop r)=>match x with
    | .normal=>.ok (.bool true,h.set l (.loop { r with state:=.ready,pending:=none }))
    | .ret=>.ok (.bool false,h.set l (.loop { r with state:=.done,pending:=some .ret }))
    | .exit id=>.ok (.bool false,h.set l (.loop { r with state:=.done,pending:=some (.exit id) }))
    | .goto _=>.error "yield: goto"
   | _=>.error "yield"
  | _=>.error "yield: defers"
 | .error e=>.error e
def e0d (call:E0) (lf:Nat) (l:Nat) (r:ALoop) (args:List AV) (h:AH):R (AV×AH) :=
 bif Nat.beq args.length r.params.size then
  match n9 P call lf r.assign (Q9 r.params.toList args ⟨r.n,r.tmps,[],true⟩) h with
  | .ok (.normal,a,h)=>match h.get l with
   | some (.loop q)=>match q.state with
    | .ready=>c0P l (n9 P call lf r.body a (h.set l (.loop { q with state:=.busy })))
    | _=>.error "yield: state"
   | _=>.error "yield: loop"
  | .ok _=>.error "yield: assign"
  | .error e=>.error e
 else .error "yield: arguments"
def b0a (S:FuncId→Option (List AV→AH→R (AV×AH))) (call:E0):E0:=fun t args h =>
 match t with
 | .fn f=>match S f with
  | some _=>.error "a deferred call of a summary"
  | none=>call (.fn f) args h
 | .yield l=>call (.yield l) args h
def A3 (S:FuncId→Option (List AV→AH→R (AV×AH))) (lf:Nat):Nat→E0
 | 0,_,_,_=>.error "depth"
 | n+1,.fn f,args,h=>match S f with
  | some g=>g args h
  | none=>match P.funcs[f]? with
   | some fn=>match fn.body with
    | some c=>bif Nat.ble args.length fn.ntmps
     then N0 P (b0a S (A3 S lf n)) fn (n9 P (A3 S lf n) lf c ⟨fn.ntmps,laid args 0 .leaf,[],false⟩ h) else .error "arguments"
    | none=>.error ("no body: "++fn.name)
   | none=>.error "no function"
 | n+1,.yield l,args,h=>match h.get l with
  | some (.loop r)=>e0d P (A3 S lf n) lf l r args h
  | _=>.error "yield: no loop"
end
end Go.Dr

namespace Go.Dr
open Go.RowKit
namespace PT
variable {α:Type}
theorem beqF {a b:Nat} (h:a≠b):Nat.beq a b=false:=by
 cases e:Nat.beq a b with
 | false=>rfl
 | true=>exact absurd (Nat.eq_of_beq_eq_true e) h
theorem beqT {a b:Nat} (h:a=b):Nat.beq a b=true:=by subst h;exact Nat.beq_refl a
theorem g0D (n:Nat):(PT.leaf:PT α).get n=none:=rfl
theorem a0j (l:PT α) (v:Option α) (r:PT α) (n:Nat) :
  (PT.node l v r).get n=if n=0 then v else if n%2=1 then l.get (n/2) else r.get (n/2 - 1):=by
 show (bif Nat.beq n 0 then v else bif Nat.beq (n%2) 1 then l.get (n/2) else r.get (n/2 - 1))=_
 by_cases h:n=0
 ·subst h;rfl
 ·have h0:Nat.beq n 0=false:=beqF h
  rw [h0,if_neg h]
  by_cases h1:n%2=1
  ·have:Nat.beq (n%2) 1=true:=beqT h1
   rw [this,if_pos h1];rfl
  ·have:Nat.beq (n%2) 1=false:=beqF h1
   rw [this,if_neg h1];rfl
theorem one_succ (v:Option α) (f n:Nat):one v (f+1) n =
  if n=0 then .node .leaf v .leaf else if n%2=1 then .node (one v f (n/2)) none .leaf else .node .leaf none (one v f (n/2 - 1)):=by
 show (bif Nat.beq n 0 then _ else bif Nat.beq (n%2) 1 then _ else _)=_
 by_cases h:n=0
 ·subst h;rfl
 ·have h0:Nat.beq n 0=false:=beqF h
  rw [h0,if_neg h]
  by_cases h1:n%2=1
  ·have:Nat.beq (n%2) 1=true:=beqT h1
   rw [this,if_pos h1];rfl
  ·have:Nat.beq (n%2) 1=false:=beqF h1
   rw [this,if_neg h1];rfl
theorem set_node (v:Option α) (l:PT α) (w:Option α) (r:PT α) (n:Nat):(PT.node l w r).set v n =
  if n=0 then .node l v r else if n%2=1 then .node (l.set v (n/2)) w r else .node l w (r.set v (n/2 - 1)):=by
 show (bif Nat.beq n 0 then _ else bif Nat.beq (n%2) 1 then _ else _)=_
 by_cases h:n=0
 ·subst h;rfl
 ·have h0:Nat.beq n 0=false:=beqF h
  rw [h0,if_neg h]
  by_cases h1:n%2=1
  ·have:Nat.beq (n%2) 1=true:=beqT h1
   rw [this,if_pos h1];rfl
  ·have:Nat.beq (n%2) 1=false:=beqF h1
   rw [this,if_neg h1];rfl
theorem s0V (v:Option α):∀ (f n m:Nat),n<f→(one v f n).get m=if m=n then v else none:=by
 intro f
 induction f with
 | zero=>intro n m h;omega
 | succ f ih =>
  intro n m h
  rw [one_succ]
  by_cases h0:n=0
  ·subst h0;rw [if_pos rfl,a0j];by_cases hm:m=0
   ·simp [hm]
   ·simp [hm,g0D]
  ·rw [if_neg h0]
   by_cases h1:n%2=1
   ·rw [if_pos h1,a0j,ih _ _ (by omega),g0D]
    by_cases hm:m=0
    ·rw [if_pos hm,if_neg (by omega)]
    ·rw [if_neg hm]
     by_cases hm1:m%2=1
     ·rw [if_pos hm1];by_cases e:m=n
      ·rw [if_pos (by omega),if_pos e]
      ·rw [if_neg (by omega),if_neg e]
     ·rw [if_neg hm1,if_neg (by omega)]
   ·rw [if_neg h1,a0j,ih _ _ (by omega),g0D]
    by_cases hm:m=0
    ·rw [if_pos hm,if_neg (by omega)]
    ·rw [if_neg hm]
     by_cases hm1:m%2=1
     ·rw [if_pos hm1,if_neg (by omega)]
     ·rw [if_neg hm1];by_cases e:m=n
      ·rw [if_pos (by omega),if_pos e]
      ·rw [if_neg (by omega),if_neg e]
theorem get_set (v:Option α):∀ (t:PT α) (n m:Nat),(t.set v n).get m=if m=n then v else t.get m:=by
 intro t
 induction t with
 | leaf=>intro n m;show (one v (n+1) n).get m=_;rw [s0V _ _ _ _ (by omega),g0D]
 | node l w r ihl ihr =>
  intro n m
  rw [set_node]
  by_cases h0:n=0
  ·rw [if_pos h0,a0j,a0j]
   by_cases hm:m=0
   ·rw [if_pos hm,if_pos (by omega)]
   ·have e:¬ m=n:=by omega
    rw [if_neg hm,if_neg e,if_neg hm]
  ·rw [if_neg h0]
   by_cases h1:n%2=1
   ·rw [if_pos h1,a0j,a0j,ihl]
    by_cases hm:m=0
    ·rw [if_pos hm,if_neg (by omega),if_pos hm]
    ·rw [if_neg hm,if_neg hm]
     by_cases hm1:m%2=1
     ·rw [if_pos hm1,if_pos hm1];by_cases e:m=n
      ·rw [if_pos (by omega),if_pos e]
      ·rw [if_neg (by omega),if_neg e]
     ·rw [if_neg hm1,if_neg hm1,if_neg (by omega)]
   ·rw [if_neg h1,a0j,a0j,ihr]
    by_cases hm:m=0
    ·rw [if_pos hm,if_neg (by omega),if_pos hm]
    ·rw [if_neg hm,if_neg hm]
     by_cases hm1:m%2=1
     ·rw [if_pos hm1,if_pos hm1,if_neg (by omega)]
     ·rw [if_neg hm1,if_neg hm1];by_cases e:m=n
      ·rw [if_pos (by omega),if_pos e]
      ·rw [if_neg (by omega),if_neg e]
end PT
theorem AH.get_set (h:AH) (i j:Nat) (o:AObj):(h.set i o).get j=if j=i then some o else h.get j:=PT.get_set _ _ _ _
theorem AH.get_kill (h:AH) (i j:Nat):(h.kill i).get j=if j=i then none else h.get j:=PT.get_set _ _ _ _
theorem AH.get_push (h:AH) (o:AObj) (j:Nat):(h.push o).get j=if j=h.next then some o else h.get j:=PT.get_set _ _ _ _
@[simp] theorem AH.next_set (h:AH) (i:Nat) (o:AObj):(h.set i o).next=h.next:=rfl
@[simp] theorem AH.next_kill (h:AH) (i:Nat):(h.kill i).next=h.next:=rfl
@[simp] theorem AH.next_push (h:AH) (o:AObj):(h.push o).next=h.next+1:=rfl
structure Pl where
 blk:Nat
 off:Nat
 room:Nat
structure Phi where
 at':Nat→Option Pl
 raw:Nat→Value
instance:CoeFun Phi (fun _=>Nat→Option Pl):=⟨Phi.at'⟩
structure Phi.le (φ ψ:Phi):Prop where
 le':∀ i p,φ i=some p→ψ i=some p
 raw:ψ.raw=φ.raw
instance {φ ψ:Phi}:CoeFun (φ.le ψ) (fun _=>∀ i p,φ i=some p→ψ i=some p):=⟨Phi.le.le'⟩
theorem Phi.le.refl (φ:Phi):φ.le φ:=⟨fun _ _ h=>h,rfl⟩
theorem Phi.le.trans {φ ψ χ:Phi} (h:φ.le ψ) (k:ψ.le χ):φ.le χ:=⟨fun i p e=>k i p (h i p e),k.raw.trans h.raw⟩
def l0p:Value→Bool
 | .agg _ | .tuple _=>false
 | _=>true
mutual
inductive Con (φ:Phi):AV→Value→Prop
 | bool (b:Bool):Con φ (.bool b) (.bool b)
 | int (k:IntKind) (n:Int):Con φ (.int k n) (.int k n)
 | str (s:List UInt8):Con φ (.str s) (.string ⟨⟨s⟩⟩)
 | nilp:Con φ .nilp (.pointer none)
 | ptr {id off:Nat} {p:Pl} (h:φ id=some p):Con φ (.ptr id off) (.pointer (some ⟨p.blk,p.off+off,none⟩))
 | nils:Con φ .nils (.slice none 0 0)
 | slice {id off len cap c es:Nat} {x:Bool} {p:Pl} {ad:Addr} (h:φ id=some p) (hx:x=true→c=cap) (hc:cap≤c) (hl:len≤c)
   (hr:c=0∨(off+c*es≤p.room∧ad=⟨p.blk,p.off+off,none⟩)):Con φ (.slice id off len cap x es) (.slice (some ad) len c)
 | nilm:Con φ .nilm (.map none)
 | map {id:Nat} {p:Pl} (h:φ id=some p):Con φ (.map id) (.map (some p.blk))
 | nilf:Con φ .nilf .nilFunc
 | func {f:FuncId} {a b:List AV} {a' b':List Value} (ha:ConL φ a a') (hb:ConL φ b b'):Con φ (.func (.func f) a b) (.func (.func f) ⟨a'⟩ ⟨b'⟩)
 | yield {l:Nat} {p:Pl} (h:φ l=some p):Con φ (.func (.yield l) [] []) (.func (.yield p.blk) #[] #[])
 | nili:Con φ .nili .nilIface
 | iface {t:TypeId} {v:AV} {v':Value} (h:Con φ v v'):Con φ (.iface t v) (.iface t v')
 | agg {l:List AV} {l':List Value} (h:ConL φ l l'):Con φ (.agg l) (.agg ⟨l'⟩)
 | tuple {l:List AV} {l':List Value} (h:ConL φ l l'):Con φ (.tuple l) (.tuple ⟨l'⟩)
 | raw {t:Nat} {v:Value} (h:l0p v=true) (e:φ.raw t=v):Con φ (.raw t) v
inductive ConL (φ:Phi):List AV→List Value→Prop
 | nil:ConL φ [] []
 | cons {a:AV} {v:Value} {l:List AV} {l':List Value} (h:Con φ a v) (t:ConL φ l l'):ConL φ (a::l) (v::l')
end
mutual
theorem Con.mono {φ ψ:Phi} (hle:φ.le ψ):∀ {a:AV} {v:Value},Con φ a v→Con ψ a v
 | _,_,.bool b=>.bool b
 | _,_,.int k n=>.int k n
 | _,_,.str s=>.str s
 | _,_,.nilp=>.nilp
 | _,_,.ptr h=>.ptr (hle _ _ h)
 | _,_,.nils=>.nils
 | _,_,.slice h hx hc hl hr=>.slice (hle _ _ h) hx hc hl hr
 | _,_,.nilm=>.nilm
 | _,_,.map h=>.map (hle _ _ h)
 | _,_,.nilf=>.nilf
 | _,_,.func ha hb=>.func (ha.mono hle) (hb.mono hle)
 | _,_,.yield h=>.yield (hle _ _ h)
 | _,_,.nili=>.nili
 | _,_,.iface h=>.iface (h.mono hle)
 | _,_,.agg h=>.agg (h.mono hle)
 | _,_,.tuple h=>.tuple (h.mono hle)
 | _,_,.raw h e=>.raw h (by rw [hle.raw];exact e)
theorem ConL.mono {φ ψ:Phi} (hle:φ.le ψ):∀ {a:List AV} {v:List Value},ConL φ a v→ConL ψ a v
 | _,_,.nil=>.nil
 | _,_,.cons h t=>.cons (h.mono hle) (t.mono hle)
end
theorem ConL.length {φ:Phi}:∀ {a:List AV} {v:List Value},ConL φ a v→a.length=v.length
 | _,_,.nil=>rfl
 | _,_,.cons _ t=>by simp [t.length]
theorem ConL.get {φ:Phi}:∀ {a:List AV} {v:List Value},ConL φ a v→∀ (i:Nat) (x:AV),a[i]? = some x→∃ y,v[i]? = some y∧Con φ x y
 | _,_,.nil,i,x,h=>by simp at h
 | _,_,.cons h t,0,x,e=>by simp at e;subst e;exact ⟨_,rfl,h⟩
 | _,_,.cons h t,i+1,x,e=>by simpa using t.get i x (by simpa using e)
theorem ConL.of_get {φ:Phi}:∀ {a:List AV} {v:List Value},a.length=v.length→(∀ (i:Nat) (x:AV),a[i]? = some x→∃ y,v[i]? = some y∧Con φ x y)→ConL φ a v
 | [],[],_,_=>.nil
 | [],_::_,h,_=>by simp at h
 | _::_,[],h,_=>by simp at h
 | x::a,y::v,h,g=>by
  obtain ⟨y',hy,hc⟩:=g 0 x rfl
  simp at hy;subst hy
  exact .cons hc (ConL.of_get (by simpa using h) fun i x hx=>by simpa using g (i+1) x (by simpa using hx))
theorem ConL.append {φ:Phi}:∀ {a b:List AV} {v u:List Value},ConL φ a v→ConL φ b u→ConL φ (a++b) (v++u)
 | _,_,_,_,.nil,h=>h
 | _,_,_,_,.cons h t,k=>.cons h (t.append k)
theorem ConL.take {φ:Phi}:∀ {a:List AV} {v:List Value} (n:Nat),ConL φ a v→ConL φ (a.take n) (v.take n)
 | _,_,0,_=>by simpa using ConL.nil
 | _,_,_+1,.nil=>by simpa using ConL.nil
 | _,_,n+1,.cons h t=>by simpa using ConL.cons h (t.take n)
theorem ConL.drop {φ:Phi}:∀ {a:List AV} {v:List Value} (n:Nat),ConL φ a v→ConL φ (a.drop n) (v.drop n)
 | _,_,0,h=>by simpa using h
 | _,_,_+1,.nil=>by simpa using ConL.nil
 | _,_,n+1,.cons h t=>by simpa using t.drop n
theorem Con.cells {φ:Phi} {a:AV} {v:Value} (h:Con φ a v):ConL φ a.cells v.cells.toList:=by
 cases h with
 | agg h=>exact h
 | tuple h=>exact .cons (.tuple h) .nil
 | raw h e=>cases v <;> simp_all [l0p,AV.cells,Value.cells] <;> exact .cons (.raw rfl e) .nil
 | _=>exact .cons (by constructor <;> assumption) .nil
theorem Con.scalar {φ:Phi} {a:AV} {v:Value} (h:Con φ a v) (hs:a.scalar=true):v.oneCell'=true:=by
 cases h <;> simp_all [AV.scalar,Value.oneCell']
end Go.Dr

namespace Go.Dr
open Go.RowKit
inductive ConE (φ:Phi):List AEntry→List MapEntry→Prop
 | nil:ConE φ [] []
 | cons {e:AEntry} {e':MapEntry} {l:List AEntry} {l':List MapEntry} (hk:Con φ e.key e'.key) (hv:Con φ e.val e'.val) (hb:e'.born=e.born) (t:ConE φ l l'):ConE φ (e::l) (e'::l')
theorem ConE.mono {φ ψ:Phi} (hle:φ.le ψ):∀ {a:List AEntry} {v:List MapEntry},ConE φ a v→ConE ψ a v
 | _,_,.nil=>.nil
 | _,_,.cons hk hv hb t=>.cons (hk.mono hle) (hv.mono hle) hb (t.mono hle)
def v0L (t:PT AV) (i:Nat):AV:=match t.get i with | some v=>v | none=>n8
structure LoopRel (φ:Phi) (r:ALoop) (r':Loop):Prop where
 state:r'.state=r.state
 pending:r'.pending=r.pending
 params:r'.params=r.params
 assign:r'.assign=r.assign
 body:r'.body=r.body
 size:r'.tmps.size=r.n
 tmps:∀ i,Con φ (v0L r.tmps i) (r'.tmps.getD i undef)
def ObjRel (φ:Phi) (w:World) (p:Pl):AObj→Prop
 | .cells vs ro=>∃ c e lo hi,w.heap[p.blk]? = some (.cells c e (lo,hi))∧vs.length≤p.room∧p.off+p.room≤c.size ∧
   (∀ i x,vs[i]? = some x→∃ y,c[p.off+i]? = some y∧Con φ x y)∧(ro=false→∀ i,p.off≤i→i<p.off+p.room→¬ (lo≤i∧i<hi))
 | .map l clock=>∃ es,w.heap[p.blk]? = some (.map ⟨es⟩ clock)∧ConE φ l es
 | .loop r=>∃ r',w.heap[p.blk]? = some (.loop r')∧LoopRel φ r r'
 | .deferred none=>w.heap[p.blk]? = some (.deferred none)
 | .deferred (some [])=>w.heap[p.blk]? = some (.deferred (some []))
 | .deferred (some (_::_))=>False
 | .siter s pos=>p.off=0∧w.heap[p.blk]? = some (.stringIter ⟨⟨s⟩⟩ pos)
 | .miter m since seen stepped=>p.off=0∧∃ m',w.heap[p.blk]? = some (.mapIter m' since ⟨seen⟩ stepped) ∧
   match m with | none=>m'=none | some id=>∃ q,φ id=some q∧m'=some q.blk
theorem LoopRel.mono {φ ψ:Phi} (hle:φ.le ψ) {r:ALoop} {r':Loop} (h:LoopRel φ r r'):LoopRel ψ r r' :=
 { h with tmps:=fun i=>(h.tmps i).mono hle }
theorem ObjRel.mono {φ ψ:Phi} (hle:φ.le ψ) {w:World} {p:Pl} {o:AObj} (h:ObjRel φ w p o):ObjRel ψ w p o:=by
 cases o with
 | cells vs ro =>
  obtain ⟨c,e,lo,hi,h1,h2,h3,h4,h5⟩:=h
  exact ⟨c,e,lo,hi,h1,h2,h3,fun i x hx=>let ⟨y,hy,hc⟩:=h4 i x hx;⟨y,hy,hc.mono hle⟩,h5⟩
 | map l clock=>obtain ⟨es,h1,h2⟩:=h;exact ⟨es,h1,h2.mono hle⟩
 | loop r=>obtain ⟨r',h1,h2⟩:=h;exact ⟨r',h1,h2.mono hle⟩
 | deferred ds =>
  cases ds with
  | none=>exact h
  | some l=>cases l <;> exact h
 | siter s pos=>exact h
 | miter m since seen stepped =>
  obtain ⟨h0,m',h1,h2⟩:=h
  refine ⟨h0,m',h1,?_⟩
  cases m with
  | none=>exact h2
  | some id=>obtain ⟨q,hq,hm⟩:=h2;exact ⟨q,hle _ _ hq,hm⟩
theorem ObjRel.world {φ:Phi} {w w':World} {p:Pl} {o:AObj} (h:ObjRel φ w p o) (hw:w'.heap[p.blk]? = w.heap[p.blk]?):ObjRel φ w' p o:=by
 cases o with
 | deferred ds =>
  cases ds with
  | none=>simp only [ObjRel] at *;rw [hw];exact h
  | some l=>cases l <;> simp only [ObjRel] at*<;> rw [hw];exact h
 | _=>simp only [ObjRel] at *;rw [hw];exact h
def AObj.writable:AObj→Bool
 | .cells _ ro=>!ro
 | _=>true
structure Rel (B:Nat) (w0:World) (φ:Phi) (h:AH) (w:World):Prop where
 lt:∀ i p,φ i=some p→i<h.next
 obj:∀ i p o,φ i=some p→h.get i=some o→ObjRel φ w p o
 own:∀ i p o,φ i=some p→h.get i=some o→o.writable=true→B≤p.blk
 inj:∀ i j p q oi oj,i≠j→φ i=some p→φ j=some q→h.get i=some oi→h.get j=some oj→(oi.writable=true∨oj.writable=true)→p.blk≠q.blk
 below:Below B w0 w
 base:B≤w0.heap.size
structure Ext (φ:Phi) (h:AH) (φ':Phi) (h':AH):Prop where
 le:φ.le φ'
 next:h.next≤h'.next
 keep:∀ i,i<h.next→φ i=none→φ' i=none∧h'.get i=h.get i
theorem Ext.refl (φ:Phi) (h:AH):Ext φ h φ h:=⟨.refl _,Nat.le_refl _,fun _ _ e=>⟨e,rfl⟩⟩
theorem Ext.trans {φ φ' φ'':Phi} {h h' h'':AH} (a:Ext φ h φ' h') (b:Ext φ' h' φ'' h''):Ext φ h φ'' h'' :=
 ⟨a.le.trans b.le,Nat.le_trans a.next b.next,fun i hi e=>by
  obtain ⟨e1,g1⟩:=a.keep i hi e
  obtain ⟨e2,g2⟩:=b.keep i (Nat.lt_of_lt_of_le hi a.next) e1
  exact ⟨e2,g2.trans g1⟩⟩
def Phi.set (φ:Phi) (i:Nat) (p:Pl):Phi:=⟨fun j=>if j=i then some p else φ j,φ.raw⟩
theorem Phi.set_same (φ:Phi) (i:Nat) (p:Pl):φ.set i p i=some p:=by simp [Phi.set]
theorem Phi.set_other (φ:Phi) {i j:Nat} (p:Pl) (h:j≠i):φ.set i p j=φ j:=by simp [Phi.set,h]
theorem Phi.le_set {φ:Phi} {i:Nat} (p:Pl) (h:φ i=none):φ.le (φ.set i p):=by
 refine ⟨fun j q e=>?_,rfl⟩
 by_cases hj:j=i
 ·subst hj;rw [h] at e;cases e
 ·rw [Phi.set_other _ _ hj];exact e
variable {B:Nat} {w0 w w':World} {φ:Phi} {h:AH}
theorem Rel.fresh (r:Rel B w0 φ h w):φ h.next=none:=by
 cases e:φ h.next with
 | none=>rfl
 | some p=>exact absurd (r.lt _ _ e) (Nat.lt_irrefl _)
theorem Rel.promise (r:Rel B w0 φ h w) (o:AObj):Rel B w0 φ (h.push o) w:=by
 have hn:=r.fresh
 have g:∀ i p,φ i=some p→(h.push o).get i=h.get i:=fun i p e=>by
  rw [AH.get_push,if_neg];intro e';subst e';rw [hn] at e;cases e
 exact ⟨fun i p e=>Nat.lt_succ_of_lt (r.lt i p e),fun i p o' e e'=>r.obj i p o' e (by rw [← g i p e];exact e'),
  fun i p o' e e'=>r.own i p o' e (by rw [← g i p e];exact e'),
  fun i j p q oi oj hij e1 e2 g1 g2 hw=>r.inj i j p q oi oj hij e1 e2 (by rw [← g i p e1];exact g1) (by rw [← g j q e2];exact g2) hw,r.below,r.base⟩
theorem Rel.lay (r:Rel B w0 φ h w) {i:Nat} {p:Pl} {o:AObj} (hi:i<h.next) (hn:φ i=none) (hg:h.get i=some o) (ho:ObjRel (φ.set i p) w p o)
  (hB:o.writable=true→B≤p.blk) (hd:∀ j q oj,φ j=some q→h.get j=some oj→(o.writable=true∨oj.writable=true)→q.blk≠p.blk):Rel B w0 (φ.set i p) h w:=by
 have hle:=Phi.le_set p hn
 refine ⟨fun j q e=>?_,fun j q o' e e'=>?_,fun j q o' e e' hw=>?_,fun j k q q' oj ok hjk e1 e2 g1 g2 hw=>?_,r.below,r.base⟩
 ·by_cases hj:j=i
  ·subst hj;exact hi
  ·rw [Phi.set_other _ _ hj] at e;exact r.lt _ _ e
 ·by_cases hj:j=i
  ·subst hj;rw [Phi.set_same] at e;cases e;rw [hg] at e';cases e';exact ho
  ·rw [Phi.set_other _ _ hj] at e;exact (r.obj _ _ _ e e').mono hle
 ·by_cases hj:j=i
  ·subst hj;rw [Phi.set_same] at e;cases e;rw [hg] at e';cases e';exact hB hw
  ·rw [Phi.set_other _ _ hj] at e;exact r.own _ _ _ e e' hw
 ·by_cases hj:j=i
  ·subst hj;rw [Phi.set_same] at e1;cases e1;rw [hg] at g1;cases g1
   rw [Phi.set_other _ _ (fun e=>hjk e.symm)] at e2
   exact fun e=>hd _ _ _ e2 g2 hw e.symm
  ·rw [Phi.set_other _ _ hj] at e1
   by_cases hk:k=i
   ·subst hk;rw [Phi.set_same] at e2;cases e2;rw [hg] at g2;cases g2
    exact hd _ _ _ e1 g1 hw.symm
   ·rw [Phi.set_other _ _ hk] at e2;exact r.inj _ _ _ _ _ _ hjk e1 e2 g1 g2 hw
theorem Rel.world (r:Rel B w0 φ h w) (hb:Below B w w') (hk:∀ i p o,φ i=some p→h.get i=some o→w'.heap[p.blk]? = w.heap[p.blk]?):Rel B w0 φ h w' :=
 ⟨r.lt,fun i p o e e'=>(r.obj i p o e e').world (hk i p o e e'),r.own,r.inj,r.below.trans hb,r.base⟩
theorem Rel.size (r:Rel B w0 φ h w):B≤w.heap.size:=Nat.le_trans r.base r.below.size
theorem ObjRel.lt {p:Pl} {o:AObj} (ho:ObjRel φ w p o):p.blk<w.heap.size:=by
 have:∃ o',w.heap[p.blk]? = some o':=by
  cases o with
  | cells vs ro=>obtain ⟨c,e,lo,hi,h1,_⟩:=ho;exact ⟨_,h1⟩
  | map l clock=>obtain ⟨es,h1,_⟩:=ho;exact ⟨_,h1⟩
  | loop r=>obtain ⟨es,h1,_⟩:=ho;exact ⟨_,h1⟩
  | deferred ds=>cases ds with
   | none=>exact ⟨_,ho⟩
   | some l=>cases l with
    | nil=>exact ⟨_,ho⟩
    | cons _ _=>exact ho.elim
  | siter s pos=>exact ⟨_,ho.2⟩
  | miter m a b c=>obtain ⟨_,m',h1,_⟩:=ho;exact ⟨_,h1⟩
 obtain ⟨o',e⟩:=this
 exact (Array.getElem?_eq_some_iff.1 e).1
theorem Rel.alloc (r:Rel B w0 φ h w) (O:Obj):Rel B w0 φ h (w.alloc O) :=
 r.world ((Below.refl _ _).alloc r.size O) fun i p o e e'=>Below.heap_alloc _ _ _ (r.obj i p o e e').lt
theorem Rel.drew (r:Rel B w0 φ h w):Rel B w0 φ h w.drew:=r.world (Below.refl _ _).drew fun _ _ _ _ _=>rfl
theorem Rel.kill (r:Rel B w0 φ h w) (i:Nat):Rel B w0 φ (h.kill i) w:=by
 have g:∀ j o,(h.kill i).get j=some o→h.get j=some o:=fun j o e=>by
  rw [AH.get_kill] at e;split at e
  ·cases e
  ·exact e
 exact ⟨r.lt,fun j p o e e'=>r.obj j p o e (g _ _ e'),fun j p o e e'=>r.own j p o e (g _ _ e'),
  fun j k p q oi oj hjk e1 e2 g1 g2=>r.inj j k p q oi oj hjk e1 e2 (g _ _ g1) (g _ _ g2),r.below,r.base⟩
theorem Rel.write (r:Rel B w0 φ h w) {i:Nat} {p:Pl} {o o':AObj} (hi:φ i=some p) (hg:h.get i=some o) (hw:o.writable=true) (_hw':o'.writable=true)
  (hb:Below B w w') (hk:∀ k,k≠p.blk→w'.heap[k]? = w.heap[k]?) (ho:ObjRel φ w' p o'):Rel B w0 φ (h.set i o') w':=by
 refine ⟨r.lt,fun j q o1 e e'=>?_,fun j q o1 e e'=>?_,fun j k q q' oj ok hjk e1 e2 g1 g2 _=>?_,r.below.trans hb,r.base⟩
 ·rw [AH.get_set] at e'
  by_cases hj:j=i
  ·subst hj;rw [if_pos rfl] at e';cases e';rw [hi] at e;cases e;exact ho
  ·rw [if_neg hj] at e'
   exact (r.obj _ _ _ e e').world (hk _ (r.inj _ _ _ _ _ _ hj e hi e' hg (.inr hw)))
 ·rw [AH.get_set] at e'
  by_cases hj:j=i
  ·subst hj;rw [if_pos rfl] at e';cases e';rw [hi] at e;cases e;exact fun _=>r.own _ _ _ hi hg hw
  ·rw [if_neg hj] at e';exact r.own _ _ _ e e'
 ·rw [AH.get_set] at g1 g2
  by_cases hj:j=i
  ·subst hj
   rw [if_neg (fun e=>hjk e.symm)] at g2
   exact r.inj _ _ _ _ _ _ hjk e1 e2 hg g2 (.inl hw)
  ·rw [if_neg hj] at g1
   by_cases hk':k=i
   ·subst hk';exact r.inj _ _ _ _ _ _ hjk e1 e2 g1 hg (.inr hw)
   ·rw [if_neg hk'] at g2;rename_i hh;exact r.inj _ _ _ _ _ _ hjk e1 e2 g1 g2 hh
theorem Rel.push (r:Rel B w0 φ h w) {room:Nat} {o:AObj} {O:Obj} (ho:ObjRel (φ.set h.next ⟨w.heap.size,0,room⟩) (w.alloc O) ⟨w.heap.size,0,room⟩ o) :
  Rel B w0 (φ.set h.next ⟨w.heap.size,0,room⟩) (h.push o) (w.alloc O) :=
 ((r.promise o).alloc O).lay (Nat.lt_succ_self _) r.fresh (by rw [AH.get_push,if_pos rfl]) ho (fun _=>r.size)
  fun j q oj e e' _=>Nat.ne_of_lt (by
   have hne:j≠h.next:=fun e'=>by subst e';rw [r.fresh] at e;cases e
   rw [AH.get_push,if_neg hne] at e'
   exact (r.obj _ _ _ e e').lt)
theorem Ext.push (r:Rel B w0 φ h w) (o:AObj) (p:Pl):Ext φ h (φ.set h.next p) (h.push o) :=
 ⟨Phi.le_set _ r.fresh,Nat.le_succ _,fun i hi e=>⟨by rw [Phi.set_other _ _ (Nat.ne_of_lt hi)];exact e,by rw [AH.get_push,if_neg (Nat.ne_of_lt hi)]⟩⟩
theorem Ext.write {i:Nat} {p:Pl} (hi:φ i=some p) (o:AObj):Ext φ h φ (h.set i o) :=
 ⟨.refl _,Nat.le_refl _,fun j _ e=>⟨e,by rw [AH.get_set,if_neg];intro e';subst e';rw [hi] at e;cases e⟩⟩
theorem Ext.kill {i:Nat} {p:Pl} (hi:φ i=some p):Ext φ h φ (h.kill i) :=
 ⟨.refl _,Nat.le_refl _,fun j _ e=>⟨e,by rw [AH.get_kill,if_neg];intro e';subst e';rw [hi] at e;cases e⟩⟩
theorem Addr.add_none (b o n:Nat):(⟨b,o,none⟩:Addr).add n=⟨b,o+n,none⟩:=by
 unfold Addr.add;split
 ·rename_i e;subst e;rfl
 ·rfl
theorem a0W {b o:Nat} {c:Array Value} {e:TypeId} {f:Nat×Nat} (hb:w.heap[b]? = some (.cells c e f)):w.cell? ⟨b,o,none⟩=c[o]?:=by
 simp [World.cell?,hb]
theorem e0o {P:Program} {b o:Nat} {v:Value} (hc:w.cell? ⟨b,o,none⟩=some v):(load ⟨b,o,none⟩).run P w=.ok v w:=by
 rw [run_load,hc]
theorem g0w {P:Program} {b o:Nat}:∀ (n i:Nat) (acc:Array Value) (vs:List Value),vs.length=n→(∀ j v,vs[j]? = some v→w.cell? ⟨b,o+(i+j),none⟩=some v) →
  (loadCellsFrom ⟨b,o,none⟩ i n acc).run P w=.ok ⟨acc.toList++vs⟩ w
 | 0,i,acc,vs,hl,_=>by
  obtain rfl:vs=[]:=List.length_eq_zero_iff.1 hl
  simp [loadCellsFrom]
 | n+1,i,acc,vs,hl,hc=>by
  cases vs with
  | nil=>simp at hl
  | cons v vs =>
   have h0:=hc 0 v rfl
   simp only [Nat.add_zero] at h0
   rw [loadCellsFrom,Sem.run_bind,Addr.add_none,e0o h0,Result.andThen_ok,
    g0w n (i+1) _ vs (by simpa using hl) (fun j u hj=>by have:=hc (j+1) u (by simpa using hj);rw [show i+1+j=i+(j+1) from by omega];exact this)]
   simp
theorem K6 {P:Program} {b o n:Nat} {vs:List Value} (hl:vs.length=n) (hc:∀ j v,vs[j]? = some v→w.cell? ⟨b,o+j,none⟩=some v) :
  (loadCells ⟨b,o,none⟩ n).run P w=.ok ⟨vs⟩ w:=by
 unfold loadCells
 rw [g0w n 0 #[] vs hl (fun j v hj=>by rw [Nat.zero_add];exact hc j v hj)]
 rfl
def putCells (w:World) (b o:Nat):List Value→World
 | []=>w
 | v::vs=>putCells (w.setCell ⟨b,o,none⟩ v) b (o+1) vs
theorem g0x {b o:Nat} {v:Value} {c:Array Value} {e:TypeId} {f:Nat×Nat} (hb:w.heap[b]? = some (.cells c e f)) :
  (w.setCell ⟨b,o,none⟩ v).heap[b]? = some (.cells (c.setIfInBounds o v) e f):=by
 simp only [World.setCell,Array.getElem?_modify]
 rw [if_pos trivial,hb];rfl
theorem R0 {b:Nat} {e:TypeId} {f:Nat×Nat}:∀ (vs:List Value) (o:Nat) (w:World) (c:Array Value),w.heap[b]? = some (.cells c e f) →
  ∃ c',(putCells w b o vs).heap[b]? = some (.cells c' e f)∧c'.size=c.size∧∀ j,c'[j]? = if o≤j∧j<o+vs.length∧j<c.size then vs[j - o]? else c[j]?
 | [],o,w,c,hb=>⟨c,hb,rfl,fun j=>by rw [if_neg];simp;omega⟩
 | v::vs,o,w,c,hb=>by
  obtain ⟨c',h1,h2,h3⟩:=R0 vs (o+1) _ _ (g0x (o:=o) (v:=v) hb)
  refine ⟨c',h1,by rw [h2];simp,fun j=>?_⟩
  rw [h3,Array.size_setIfInBounds,List.length_cons]
  by_cases h:o≤j∧j<o+(vs.length+1)∧j<c.size
  ·rw [if_pos h]
   by_cases hj:j=o
   ·subst hj
    rw [if_neg (by omega),Nat.sub_self,Array.getElem?_setIfInBounds_self_of_lt (by omega)];rfl
   ·rw [if_pos (by omega),show j - o=(j - (o+1))+1 from by omega];rfl
  ·rw [if_neg h,if_neg (by omega)]
   by_cases hj:j=o
   ·subst hj
    have hsz:¬ j<c.size:=by omega
    rw [Array.getElem?_eq_none (by simp;omega),Array.getElem?_eq_none (by omega)]
   ·rw [Array.getElem?_setIfInBounds_ne (by omega)]
theorem O6 {b:Nat}:∀ (vs:List Value) (o:Nat) (w:World) (k:Nat),k≠b→(putCells w b o vs).heap[k]? = w.heap[k]?
 | [],_,_,_,_=>rfl
 | v::vs,o,w,k,hk=>by rw [putCells,O6 vs _ _ _ hk,Below.heap_setCell _ _ _ _ hk]
theorem O7 {b:Nat} (hB:B≤b):∀ (vs:List Value) (o:Nat) (w:World),Below B w (putCells w b o vs)
 | [],_,_=>.refl _ _
 | v::vs,_,_=>((Below.refl _ _).setCell hB v).trans (O7 hB vs _ _)
theorem a0h {P:Program} {b:Nat} {e:TypeId} {lo hi:Nat}:∀ (vs:List Value) (o i:Nat) (w:World) (c:Array Value),w.heap[b]? = some (.cells c e (lo,hi)) →
  o+i+vs.length≤c.size→(∀ j,o+i≤j→j<o+i+vs.length→¬ (lo≤j∧j<hi))→(∀ v ∈ vs,v.oneCell'=true) →
  (storeCells ⟨b,o,none⟩ vs i).run P w=.ok () (putCells w b (o+i) vs)
 | [],o,i,w,c,_,_,_,_=>by simp [storeCells,putCells]
 | v::vs,o,i,w,c,hb,hs,hf,h1=>by
  rw [storeCells,Sem.run_bind,Addr.add_none,run_store _ _ _ _ _ (h1 v (by simp)),a0W hb]
  simp only [List.length_cons] at hs hf
  have hlt:o+i<c.size:=by omega
  rw [Array.getElem?_eq_getElem hlt]
  have hnf:w.frozen? ⟨b,o+i,none⟩=false:=by
   have:=hf (o+i) (by omega) (by omega)
   simp only [World.frozen?,hb]
   simp only [Bool.and_eq_false_iff,decide_eq_false_iff_not]
   omega
  simp only [hnf,putCells]
  exact a0h vs o (i+1) _ _ (g0x hb) (by simp;omega) (fun j a b=>hf j (by omega) (by omega)) (fun u hu=>h1 u (by simp [hu]))
end Go.Dr

namespace Go.Dr
open Go.RowKit
structure ActRel (φ:Phi) (a:AAct) (tm:Array Value):Prop where
 size:tm.size=a.n
 val:∀ i,Con φ (a.val i) (tm.getD i undef)
theorem ActRel.mono {φ ψ:Phi} (hle:φ.le ψ) {a:AAct} {tm:Array Value} (h:ActRel φ a tm):ActRel ψ a tm:=⟨h.size,fun i=>(h.val i).mono hle⟩
def GlobRel (P:Program) (φ:Phi):Prop:=∀ g,g<P.globals.size→∃ room,φ g=some ⟨g,0,room⟩
theorem GlobRel.mono {P:Program} {φ ψ:Phi} (hle:φ.le ψ) (h:GlobRel P φ):GlobRel P ψ:=fun g hg=>let ⟨r,e⟩:=h g hg;⟨r,hle _ _ e⟩
section basics
variable {P:Program} {φ:Phi} {w:World}
theorem h9 {t:TypeId} {d:TypeDesc} (h:und P t=.ok d):(underlying t).run P w=.ok d w:=by
 unfold und ofO at h
 split at h
 ·rename_i x hx;cases h;simp [underlying,hx]
 ·cases h
theorem f0G {t:TypeId} {d:TypeDesc} (h:und P t=.ok d):P.underlying t=some d:=by
 unfold und ofO at h
 split at h
 ·rename_i x hx;cases h;exact hx
 ·cases h
theorem V1 {t:TypeId} {i:TypeInfo} (h:P.info? t=some i):(typeInfo t).run P w=.ok i w:=by simp [typeInfo,h]
theorem k0y {t:TypeId} {n:Nat} (h:M2 P t=.ok n):∃ i,P.info? t=some i∧i.size=n:=by
 unfold M2 at h;split at h
 ·cases h;exact ⟨_,by assumption,rfl⟩
 ·cases h
theorem h0k {t:TypeId} {n:Nat} (h:m0x P t=.ok n):∃ i,P.info? t=some i∧i.bytes=n:=by
 unfold m0x at h;split at h
 ·cases h;exact ⟨_,by assumption,rfl⟩
 ·cases h
theorem D7 {t:TypeId} {n:Nat} (h:M2 P t=.ok n):(sizeOf t).run P w=.ok n w:=by
 obtain ⟨i,hi,rfl⟩:=k0y h
 simp [sizeOf,V1 hi]
theorem h0l {d:Nat} (ih:∀ {v:Value} {a:AV},k05 d v=.ok a→Con φ a v):∀ {vs:List Value} {l:List AV},n0R (k05 d) vs=.ok l→ConL φ l vs
 | [],_,h=>by cases h;exact .nil
 | v::vs,l,h=>by
  unfold n0R at h
  split at h
  ·rename_i a ha
   split at h
   ·rename_i as has;cases h;exact .cons (ih ha) (h0l ih has)
   ·cases h
  ·cases h
theorem p0Y {fn:Fn} {x y:Array Value} {a:AV} (h:q07 fn x y=.ok a):Con φ a (.func fn x y):=by
 unfold q07 at h
 split at h
 ·rcases x with ⟨x⟩;rcases y with ⟨y⟩
  cases x <;> cases y <;> simp at h
  subst h;exact .func .nil .nil
 ·cases h
theorem c0R:∀ {d:Nat} {v:Value} {a:AV},k05 d v=.ok a→Con φ a v
 | 0,_,_,h=>by cases h
 | d+1,v,a,h=>by
  unfold k05 at h
  split at h
  all_goals first
   | (cases h;done)
   | (cases h;first | exact .bool _ | exact .int _ _ | exact .nilp | exact .nils | exact .nilm | exact .nilf | exact .nili)
   | (cases h;rename_i s;rcases s with ⟨⟨s⟩⟩;exact .str s)
   | exact p0Y h
   | skip
  ·split at h
   ·rename_i a' ha;cases h;exact .iface (c0R ha)
   ·cases h
  ·split at h
   ·rename_i cs _ l hl;rcases cs with ⟨cs⟩;cases h;exact .agg (h0l c0R hl)
   ·cases h
  ·split at h
   ·rename_i cs _ l hl;rcases cs with ⟨cs⟩;cases h;exact .tuple (h0l c0R hl)
   ·cases h
theorem V2 {t:TypeId} {z:AV} (h:J6 P t=.ok z):∃ z',(zeroValue t).run P w=.ok z' w∧∀ φ,Con φ z z':=by
 unfold J6 at h
 split at h
 ·rename_i i hi
  split at h
  ·rename_i v hv
   exact ⟨v,by simp [zeroValue,V1 hi,hv],fun φ=>c0R h⟩
  ·cases h
 ·cases h
theorem e0L {t:TypeId} {z:AV} (h:J6 P t=.ok z):∃ i z',P.info? t=some i∧i.zero=some z'∧∀ φ,Con φ z z':=by
 unfold J6 at h
 split at h
 ·rename_i i hi
  split at h
  ·rename_i v hv
   exact ⟨i,v,hi,hv,fun φ=>c0R h⟩
  ·cases h
 ·cases h
theorem c0S {t:TypeId} {b:Bool} (h:d0E P t=.ok b):(isAgg t).run P w=.ok b w:=by
 unfold d0E at h
 split at h
 ·cases h;rename_i h;simp [isAgg,underlying,h]
 ·cases h;rename_i h;simp [isAgg,underlying,h]
 ·cases h;rename_i d h1 h2 hd
  simp only [isAgg,underlying,Sem.run_bind,run_program,Result.andThen_ok,hd,Sem.run_pure]
 ·cases h
theorem G1 {x:Operand} {c:CO} {a:AAct} {tm:Array Value} {ds:List Deferred} (h:cO P x=.ok c) (hG:GlobRel P φ) (hA:ActRel φ a tm):Con φ (c.ev a) (Act.eval ⟨tm,ds⟩ x):=by
 cases x with
 | tmp t=>cases h;exact hA.val _
 | const v =>
  simp only [cO] at h
  split at h
  ·rename_i hv;cases h;exact c0R hv
  ·cases h
 | global g =>
  simp only [cO] at h
  cases hlt:Nat.blt g P.globals.size with
  | false=>rw [hlt] at h;cases h
  | true =>
   rw [hlt] at h;cases h
   have hg:g<P.globals.size:=by simpa [Nat.blt_eq] using hlt
   obtain ⟨room,e⟩:=hG _ hg
   exact Con.ptr (off:=0) e
 | func f=>cases h;exact .func .nil .nil
theorem q9 {α:Type} {x:Operand} {f:CO→R α} {r:α} (h:H8 P x f=.ok r):∃ c,cO P x=.ok c∧f c=.ok r:=by
 unfold H8 at h;split at h
 ·exact ⟨_,by assumption,h⟩
 ·cases h
theorem O8 {α:Type} {x y:Operand} {f:CO→CO→R α} {r:α} (h:c0L P x y f=.ok r):∃ c d,cO P x=.ok c∧cO P y=.ok d∧f c d=.ok r:=by
 obtain ⟨c,hc,h⟩:=q9 h
 obtain ⟨d,hd,h⟩:=q9 h
 exact ⟨c,d,hc,hd,h⟩
theorem g0C {α:Type} {x y z:Operand} {f:CO→CO→CO→R α} {r:α} (h:m0y P x y z f=.ok r):∃ c d e,cO P x=.ok c∧cO P y=.ok d∧cO P z=.ok e∧f c d e=.ok r:=by
 obtain ⟨c,hc,h⟩:=q9 h
 obtain ⟨d,hd,h⟩:=q9 h
 obtain ⟨e,he,h⟩:=q9 h
 exact ⟨c,d,e,hc,hd,he,h⟩
theorem c0p {a:AAct} {tm:Array Value} {ds:List Deferred} (hG:GlobRel P φ) (hA:ActRel φ a tm):∀ {l:List Operand} {cs:List CO},cOs P l=.ok cs→ConL φ (evL a cs) (l.map (Act.eval ⟨tm,ds⟩))
 | [],_,h=>by cases h;exact .nil
 | x::l,cs,h=>by
  unfold cOs n0R at h
  split at h
  ·rename_i c hc
   split at h
   ·rename_i bs hb;cases h
    exact .cons (G1 hc hG hA) (c0p hG hA hb)
   ·cases h
  ·cases h
theorem s0T {a:AAct} {tm:Array Value} {ds:List Deferred} (hG:GlobRel P φ) (hA:ActRel φ a tm) {x:Option Operand} {c:Option CO} (h:cOO P x=.ok c) :
  (x=none∧c=none)∨∃ y d,x=some y∧c=some d∧Con φ (d.ev a) (Act.eval ⟨tm,ds⟩ y):=by
 unfold cOO at h
 split at h
 ·cases h;exact .inl ⟨rfl,rfl⟩
 ·rename_i y
  split at h
  ·rename_i d hd;cases h;exact .inr ⟨y,d,rfl,rfl,G1 hd hG hA⟩
  ·cases h
end basics
variable {P:Program} {B:Nat} {w0 w:World} {φ:Phi} {h h':AH}
def ValOf (P:Program) (B:Nat) (w0:World) (φ:Phi) (h:AH) (s:Sem Value) (w:World) (v:AV) (h':AH):Prop :=
 ∃ v' w' φ',s.run P w=.ok v' w'∧Con φ' v v'∧Rel B w0 φ' h' w'∧Ext φ h φ' h'
theorem ValOf.pure {s:Sem Value} {v:AV} {v':Value} (hR:Rel B w0 φ h w) (hs:s.run P w=.ok v' w) (hc:Con φ v v'):ValOf P B w0 φ h s w v h :=
 ⟨v',w,φ,hs,hc,hR,.refl _ _⟩
theorem e0p {r:R AV} {n:AN} (hr:m9 h r=.ok (n,h')):∃ v,r=.ok v∧n=.value v∧h'=h:=by
 unfold m9 at hr;split at hr
 ·cases hr;exact ⟨_,rfl,rfl,rfl⟩
 ·cases hr
theorem m02 {id off:Nat} {v:AV} {p:Pl} (hl:load1 h id off=.ok v) (hR:Rel B w0 φ h w) (hp:φ id=some p) :
  ∃ v',w.cell? ⟨p.blk,p.off+off,none⟩=some v'∧Con φ v v':=by
 unfold load1 at hl
 split at hl
 ·rename_i vs ro hg
  obtain ⟨c,e,lo,hi,h1,h2,h3,h4,h5⟩:=hR.obj _ _ _ hp hg
  split at hl
  ·rename_i x hx;cases hl
   obtain ⟨y,hy,hc⟩:=h4 _ _ hx
   exact ⟨y,by rw [a0W h1];exact hy,hc⟩
  ·cases hl
 ·cases hl
theorem c0T {id off n:Nat} {l:List AV} {p:Pl} (hl:loadN h id off n=.ok l) (hR:Rel B w0 φ h w) (hp:φ id=some p) :
  ∃ vs:List Value,vs.length=n∧(∀ j v,vs[j]? = some v→w.cell? ⟨p.blk,p.off+off+j,none⟩=some v)∧ConL φ l vs:=by
 unfold loadN at hl
 split at hl
 ·rename_i vs ro hg
  obtain ⟨c,e,lo,hi,h1,h2,h3,h4,h5⟩:=hR.obj _ _ _ hp hg
  cases hb:Nat.ble (off+n) vs.length with
  | false=>rw [hb] at hl;cases hl
  | true =>
   rw [hb] at hl
   have hle:off+n≤vs.length:=Nat.le_of_ble_eq_true hb
   cases hl
   have hsz:p.off+off+n≤c.size:=by omega
   have key:∀ (i:Nat) (x:AV),((vs.drop off).take n)[i]? = some x→∃ y,((c.toList.drop (p.off+off)).take n)[i]? = some y∧Con φ x y:=by
    intro i x hx
    rw [List.getElem?_take] at hx ⊢
    split at hx
    ·rename_i hi'
     rw [if_pos hi']
     rw [List.getElem?_drop] at hx ⊢
     obtain ⟨y,hy,hc⟩:=h4 _ _ hx
     exact ⟨y,by rw [Array.getElem?_toList,← hy];congr 1;omega,hc⟩
    ·cases hx
   refine ⟨(c.toList.drop (p.off+off)).take n,by simp;omega,fun j v hv=>?_,ConL.of_get (by simp;omega) key⟩
   rw [List.getElem?_take] at hv
   split at hv
   ·rw [List.getElem?_drop,Array.getElem?_toList] at hv
    rw [a0W h1];exact hv
   ·cases hv
 ·cases hl
theorem d0q (vs l:List AV) (off i:Nat) (hle:off+l.length≤vs.length):(B0 vs off l)[i]? = if off≤i∧i<off+l.length then l[i - off]? else vs[i]?:=by
 unfold B0
 by_cases h1:i<off
 ·rw [List.getElem?_append_left (by simp;omega),if_neg (by omega),List.getElem?_take,if_pos h1]
 ·rw [List.getElem?_append_right (by simp;omega)]
  have e:(vs.take off).length=off:=by simp;omega
  rw [e]
  by_cases h2:i<off+l.length
  ·rw [if_pos (by omega),List.getElem?_append_left (by omega)]
  ·rw [if_neg (by omega),List.getElem?_append_right (by omega),List.getElem?_drop];congr 1;omega
theorem N4 (vs l:List AV) (off:Nat) (hle:off+l.length≤vs.length):(B0 vs off l).length=vs.length:=by
 unfold B0;simp;omega
theorem c0z:∀ {l:List AV} {vs:List Value},i5 l=true→ConL φ l vs→∀ v ∈ vs,v.oneCell'=true
 | _,_,_,.nil=>by simp
 | _,_,hs,.cons hc t=>by
  simp only [i5,Bool.and_eq_true] at hs
  intro v hv
  rcases List.mem_cons.1 hv with rfl | hv
  ·exact hc.scalar hs.1
  ·exact c0z hs.2 t v hv
theorem B8 {id off:Nat} {l:List AV} {vs:List Value} {p:Pl} (hl:v7 h id off l=.ok h') (hR:Rel B w0 φ h w) (hp:φ id=some p) (hc:ConL φ l vs) :
  ∃ w',(storeCells ⟨p.blk,p.off+off,none⟩ vs).run P w=.ok () w'∧Rel B w0 φ h' w'∧Ext φ h φ h':=by
 cases hc with
 | nil=>cases hl;exact ⟨w,by simp [storeCells],hR,.refl _ _⟩
 | @cons a v l l' hcv ht =>
  have hcL:ConL φ (a::l) (v::l'):=.cons hcv ht
  simp only [v7] at hl
  split at hl
  ·rename_i old hg
   have hlen:=hcL.length
   cases hb:(Nat.ble (off+(a::l).length) old.length&&i5 (a::l)) with
   | false=>rw [hb] at hl;cases hl
   | true =>
    rw [hb] at hl;cases hl
    rw [Bool.and_eq_true] at hb
    have hle:off+(a::l).length≤old.length:=Nat.le_of_ble_eq_true hb.1
    obtain ⟨c,e,lo,hi,h1,h2,h3,h4,h5⟩:=hR.obj _ _ _ hp hg
    have hsz:p.off+off+(v::l').length≤c.size:=by rw [← hlen];omega
    have hrun:=a0h (P:=P) (v::l') (p.off+off) 0 w c h1 (by omega)
     (fun j ha hb'=>h5 rfl j (by omega) (by rw [← hlen] at hb';omega)) (c0z hb.2 hcL)
    obtain ⟨c',g1,g2,g3⟩:=R0 (v::l') (p.off+off) w c h1
    refine ⟨_,hrun,?_,.write hp _⟩
    refine hR.write hp hg rfl rfl (O7 (hR.own _ _ _ hp hg rfl) _ _ _) (fun k hk=>O6 _ _ _ _ hk) ?_
    refine ⟨c',e,lo,hi,g1,by rw [N4 _ _ _ hle];exact h2,by rw [g2];exact h3,fun i x hx=>?_,h5⟩
    rw [d0q _ _ _ _ hle] at hx
    rw [g3]
    by_cases hin:off≤i∧i<off+(a::l).length
    ·rw [if_pos hin] at hx
     obtain ⟨y,hy,hcy⟩:=hcL.get _ _ hx
     refine ⟨y,?_,hcy⟩
     rw [if_pos (by rw [← hlen];omega),← hy];congr 1;omega
    ·rw [if_neg hin] at hx
     obtain ⟨y,hy,hcy⟩:=h4 _ _ hx
     refine ⟨y,?_,hcy⟩
     rw [if_neg (by rw [← hlen];omega),hy]
  ·cases hl
theorem f0H {e:TypeId} {l:List AV} {vs rest:List Value} (hR:Rel B w0 φ h w) (hc:ConL φ l vs) (lo hi:Nat) (hf:∀ i,i<vs.length+rest.length→¬ (lo≤i∧i<hi)) :
  Rel B w0 (φ.set h.next ⟨w.heap.size,0,vs.length+rest.length⟩) (h.push (.cells l false)) (w.alloc (.cells ⟨vs++rest⟩ e (lo,hi))):=by
 refine hR.push ⟨⟨vs++rest⟩,e,lo,hi,?_,?_,?_,fun i x hx=>?_,fun _ i _ hi'=>?_⟩
 ·show (w.heap.push _)[w.heap.size]? = _;simp
 ·rw [hc.length];show _≤vs.length+rest.length;omega
 ·simp
 ·obtain ⟨y,hy,hcy⟩:=hc.get _ _ hx
  refine ⟨y,?_,hcy.mono (Phi.le_set _ hR.fresh)⟩
  show (⟨vs++rest⟩:Array Value)[0+i]? = _
  rw [Nat.zero_add,List.getElem?_toArray]
  rw [List.getElem?_append_left]
  ·exact hy
  ·exact (List.getElem?_eq_some_iff.1 hy).1
 ·simp only [Nat.zero_add] at hi';exact hf _ hi'
theorem e0q {e:TypeId} {l:List AV} {vs:List Value} (hR:Rel B w0 φ h w) (hc:ConL φ l vs) :
  Rel B w0 (φ.set h.next ⟨w.heap.size,0,vs.length⟩) (h.push (.cells l false)) (w.alloc (.cells ⟨vs⟩ e)):=by
 refine hR.push ⟨⟨vs⟩,e,0,0,?_,?_,?_,fun i x hx=>?_,fun _ i _ hi'=>?_⟩
 ·show (w.heap.push _)[w.heap.size]? = _;simp
 ·exact Nat.le_of_eq hc.length
 ·simp
 ·obtain ⟨y,hy,hcy⟩:=hc.get _ _ hx
  refine ⟨y,?_,hcy.mono (Phi.le_set _ hR.fresh)⟩
  show (⟨vs⟩:Array Value)[0+i]? = _
  rw [Nat.zero_add,List.getElem?_toArray];exact hy
 ·omega
theorem n0y {e:TypeId} {l:List AV} {v':Value} (hR:Rel B w0 φ h w) (hc:ConL φ l v'.cells.toList) {s:Sem Value}
  (hs:s.run P w=.ok (.pointer (some ⟨w.heap.size,0,none⟩)) (w.alloc (.cells v'.cells e))):ValOf P B w0 φ h s w (.ptr h.next 0) (h.push (.cells l false)):=by
 have:=e0q (e:=e) hR hc
 exact ⟨_,_,_,hs,Con.ptr (off:=0) (Phi.set_same _ _ _),this,Ext.push hR _ _⟩
end Go.Dr

namespace Go.Dr
open Go.RowKit
variable {P : Program} {B : Nat} {w0 w : World} {φ : Phi} {h h' : AH}
theorem a0X (k : IntKind) (n : Int) : x7 k n = k.wrap n := by
  cases n with
  | negSucc m => rfl
  | ofNat m =>
    show (bif Nat.blt m (2 ^ (k.bits - 1)) then Int.ofNat m else k.wrap (.ofNat m)) = _
    cases hb : Nat.blt m (2 ^ (k.bits - 1)) with
    | false => rfl
    | true =>
      have hlt : m < 2 ^ (k.bits - 1) := by simpa [Nat.blt_eq] using hb
      simp only [cond_true]
      cases k <;> simp only [IntKind.bits, IntKind.wrap, IntKind.signed] at * <;> simp at hlt <;> simp <;> omega
theorem l0m (s : List UInt8) : (⟨⟨s⟩⟩ : ByteArray).toList = s := ByteArray.toList_eq _
theorem r0n {op : BinOp} {k : IntKind} {a b : Int} {v : AV} {t : TypeId} (hs : R7 op = false) (hr : d0A op k a b = .ok v) :
    ∃ v', (binOp op t (.int k a) (.int k b)).run P w = .ok v' w ∧ ∀ φ, Con φ v v' := by
  cases op <;> simp only [d0A, h0G, R7] at hr hs
  all_goals first
    | (cases hs; done)
    | (cases hr; exact ⟨_, by simp only [binOp, Op.intArith, Op.intBits, Op.intCmp, ne_eq, not_true_eq_false, if_false]; rfl, fun φ => by first | exact .bool _ | (rw [a0X]; exact .int _ _)⟩)
    | (split at hr
       · cases hr
       · rename_i hb; cases hr
         exact ⟨_, by simp [binOp, Op.intDiv, hb]; rfl, fun φ => by first | exact .int _ _ | (rw [a0X]; exact .int _ _)⟩)
theorem n09 {op : BinOp} {k k' : IntKind} {a b : Int} {v : AV} {t : TypeId} (hr : g0k op k a b = .ok v) :
    ∃ v', (binOp op t (.int k a) (.int k' b)).run P w = .ok v' w ∧ ∀ φ, Con φ v v' := by
  cases op <;> simp only [g0k] at hr
  all_goals first
    | (cases hr; done)
    | (split at hr
       · cases hr
       · rename_i hb; cases hr
         exact ⟨_, by simp [binOp, Op.shift, hb]; rfl, fun φ => by first | exact .int _ _ | (rw [a0X]; exact .int _ _)⟩)
theorem r0o {op : BinOp} {a b : List UInt8} {v : AV} {t : TypeId} (hr : i04 op a b = .ok v) :
    ∃ v', (binOp op t (.string ⟨⟨a⟩⟩) (.string ⟨⟨b⟩⟩)).run P w = .ok v' w ∧ ∀ φ, Con φ v v' := by
  cases op <;> simp only [i04] at hr
  all_goals first
    | (cases hr; done)
    | (cases hr; exact ⟨.bool _, by simp only [binOp, Op.stringOp, l0m]; rfl, fun φ => .bool _⟩)
    | skip
  split at hr
  · rename_i hle; cases hr
    refine ⟨.string ⟨⟨a ++ b⟩⟩, ?_, fun φ => .str _⟩
    have hsz : ¬ ((((⟨⟨a⟩⟩ : ByteArray).size + (⟨⟨b⟩⟩ : ByteArray).size : Nat) : Int) > IntKind.i64.max) := by
      show ¬ (((a.length + b.length : Nat) : Int) > IntKind.i64.max)
      simp [IntKind.max, IntKind.signed, IntKind.bits]; omega
    have happ : (⟨⟨a⟩⟩ : ByteArray) ++ ⟨⟨b⟩⟩ = ⟨⟨a ++ b⟩⟩ := by
      have := ByteArray.data_append (l := ⟨⟨a⟩⟩) (l' := ⟨⟨b⟩⟩)
      cases h : (⟨⟨a⟩⟩ : ByteArray) ++ ⟨⟨b⟩⟩ with
      | mk d => rw [h] at this; simp at this; subst this; rfl
    simp only [binOp, Op.stringOp]
    rw [if_neg hsz, happ]; rfl
  · cases hr
end Go.Dr

namespace Go.Dr
open Go.RowKit
variable {P : Program} {B : Nat} {w0 w : World} {φ : Phi} {h h' : AH}
theorem d0c {t : TypeId} {n off : Nat} {cs : Array Value} (ha : d0E P t = .ok true) (hs : M2 P t = .ok n) :
    (Go.part t cs off).run P w = .ok (.agg (cs.extract off (off + n))) w := by
  simp [Go.part, c0S ha, D7 hs]
theorem d0d {t : TypeId} {off : Nat} {cs : Array Value} {v : Value} (ha : d0E P t = .ok false) (hv : cs[off]? = some v) :
    (Go.part t cs off).run P w = .ok v w := by
  simp [Go.part, c0S ha, hv]
theorem h0z {l : List AV} {l' : List Value} (hc : ConL φ l l') (off n : Nat) : Con φ (.agg ((l.drop off).take n)) (.agg ((⟨l'⟩ : Array Value).extract off (off + n))) := by
  have e : (⟨l'⟩ : Array Value).extract off (off + n) = ⟨(l'.drop off).take n⟩ := by
    apply Array.ext'
    simp
  rw [e]
  exact .agg ((hc.drop off).take n)
theorem g0h {t : TypeId} {l : List AV} {l' : List Value} {off : Nat} {v : AV} (hr : part P t l off = .ok v) (hc : ConL φ l l') :
    ∃ v', (Go.part t ⟨l'⟩ off).run P w = .ok v' w ∧ Con φ v v' := by
  unfold part at hr
  split at hr
  · rename_i ha
    split at hr
    · rename_i n hn
      split at hr
      · cases hr; exact ⟨_, d0c ha hn, h0z hc _ _⟩
      · cases hr
    · cases hr
  · rename_i ha
    split at hr
    · rename_i x hx; cases hr
      obtain ⟨y, hy, hcy⟩ := hc.get _ _ hx
      exact ⟨y, d0d ha (by simpa using hy), hcy⟩
    · cases hr
  · cases hr
theorem k0i {x : AV} {x' : Value} {off : Nat} {v : AV} (hr : f0r x off = .ok v) (hc : Con φ x x') : ∃ l' v', x' = .agg ⟨l'⟩ ∧ l'[off]? = some v' ∧ Con φ v v' := by
  unfold f0r at hr
  split at hr
  · cases hc with
    | agg hc =>
      split at hr
      · rename_i y hy; cases hr
        obtain ⟨z, hz, hcz⟩ := hc.get _ _ hy
        exact ⟨_, z, rfl, hz, hcz⟩
      · cases hr
  · cases hr
theorem i0Q {x : AV} {x' : Value} {off n : Nat} {v : AV} (hr : d0i x off n = .ok v) (hc : Con φ x x') : ∃ l', x' = .agg ⟨l'⟩ ∧ Con φ v (.agg ((⟨l'⟩ : Array Value).extract off (off + n))) := by
  unfold d0i at hr
  split at hr
  · cases hc with
    | agg hc =>
      cases hb : Nat.ble (off + n) _ with
      | false => rw [hb] at hr; cases hr
      | true => rw [hb] at hr; cases hr; exact ⟨_, rfl, h0z hc _ _⟩
  · cases hr
theorem q00 (a b : List UInt8) : ((⟨⟨a⟩⟩ : ByteArray) == ⟨⟨b⟩⟩) = (a == b) := by
  show ((⟨a⟩ : Array UInt8) == ⟨b⟩) = (a == b)
  simp
theorem m0m {td : TypeDesc} {t : TypeId} {x y : AV} {x' y' : Value} {b : Bool} {D : Nat} (ht : und P t = .ok td) (hf : M8 td x y = true) (hb : a0b x y = some b)
    (hx : Con φ x x') (hy : Con φ y y') : (Op.equalIn (D + 1) t x' y').run P w = .ok b w := by
  have hu := h9 (P := P) (w := w) ht
  unfold a0b at hb
  split at hb
  all_goals (try (cases hb; done))
  all_goals (split at hb)
  all_goals (try (cases hb; done))
  all_goals (cases hx; cases hy)
  all_goals (cases td <;> simp only [M8] at hf)
  all_goals (first | (cases hf; done) | skip)
  all_goals (try (cases hb))
  all_goals (first
    | (simp only [Op.equalIn, Sem.run_bind, hu, Result.andThen_ok]; rfl)
    | (split at hb
       · rename_i hk; cases hb; subst hk; simp only [Op.equalIn, Sem.run_bind, hu, Result.andThen_ok, if_true]; rfl
       · cases hb)
    | (simp only [Op.equalIn, Sem.run_bind, hu, Result.andThen_ok, q00]; rfl)
    | (cases hy; simp only [Op.equalIn, Sem.run_bind, hu, Result.andThen_ok]; rfl))
def d0e (_P : Program) (D : Nat) (xs ys : Array Value) (f : Field) (_ : Option Bool × Unit) : Sem (ForInStep (Option Bool × Unit)) :=
  if f.name ≠ "_" then do
    let a ← Go.part f.type xs f.offset
    let b ← Go.part f.type ys f.offset
    let r ← Op.equalIn D f.type a b
    if (!r) = true then pure (ForInStep.done (some false, ())) else pure (ForInStep.yield (none, ()))
  else pure (ForInStep.yield (none, ()))
theorem d00 {d D : Nat} {xs ys : List AV} {xs' ys' : List Value} (ih : ∀ {t : TypeId} {x y : AV} {x' y' : Value} {b : Bool}, a03 P d t x y = .ok b → Con φ x x' → Con φ y y' → (Op.equalIn D t x' y').run P w = .ok b w)
    (hx : ConL φ xs xs') (hy : ConL φ ys ys') : ∀ {l : List Field} {b : Bool}, d04 P (a03 P d) l xs ys = .ok b →
      (forIn l ((none, ()) : Option Bool × Unit) (d0e P D ⟨xs'⟩ ⟨ys'⟩)).run P w = .ok ((if b then none else some false), ()) w
  | [], b, h => by cases h; simp
  | f :: l, b, h => by
    unfold d04 at h
    rw [List.forIn_cons]
    by_cases hn : f.name ≠ "_"
    · rw [if_pos hn] at h
      split at h
      · rename_i a c ha hc
        obtain ⟨a', ra, ca⟩ := g0h (w := w) ha hx
        obtain ⟨c', rc, cc⟩ := g0h (w := w) hc hy
        split at h
        · rename_i he
          have hr := ih he ca cc
          have := d00 ih hx hy h
          simp only [d0e, if_pos hn, Sem.run_bind, ra, rc, hr, Result.andThen_ok, Bool.not_true, Bool.false_eq_true, if_false, Sem.run_pure]
          exact this
        · rename_i he
          cases h
          have hr := ih he ca cc
          simp only [d0e, if_pos hn, Sem.run_bind, ra, rc, hr, Result.andThen_ok, Bool.not_false, if_true, Sem.run_pure, Bool.false_eq_true, if_false]
        · cases h
      · cases h
    · rw [if_neg hn] at h
      have := d00 ih hx hy h
      simp only [d0e, if_neg hn, Sem.run_bind, Sem.run_pure, Result.andThen_ok]
      exact this
def g0Y (D : Nat) (elem : TypeId) (n : Nat) (xs ys : Array Value) (i : Nat) (_ : Option Bool × Unit) : Sem (ForInStep (Option Bool × Unit)) := do
  let a ← Go.part elem xs (i * n)
  let b ← Go.part elem ys (i * n)
  let r ← Op.equalIn D elem a b
  if (!r) = true then pure (ForInStep.done (some false, ())) else pure (ForInStep.yield (none, ()))
theorem i0R {d D n : Nat} {elem : TypeId} {xs ys : List AV} {xs' ys' : List Value} (ih : ∀ {t : TypeId} {x y : AV} {x' y' : Value} {b : Bool}, a03 P d t x y = .ok b → Con φ x x' → Con φ y y' → (Op.equalIn D t x' y').run P w = .ok b w)
    (hx : ConL φ xs xs') (hy : ConL φ ys ys') : ∀ {k i : Nat} {b : Bool}, h04 P (a03 P d) elem n xs ys k i = .ok b →
      (forIn (List.range' i k) ((none, ()) : Option Bool × Unit) (g0Y D elem n ⟨xs'⟩ ⟨ys'⟩)).run P w = .ok ((if b then none else some false), ()) w
  | 0, i, b, h => by cases h; simp
  | k + 1, i, b, h => by
    unfold h04 at h
    rw [List.range'_succ, List.forIn_cons]
    split at h
    · rename_i a c ha hc
      obtain ⟨a', ra, ca⟩ := g0h (w := w) ha hx
      obtain ⟨c', rc, cc⟩ := g0h (w := w) hc hy
      split at h
      · rename_i he
        have hr := ih he ca cc
        have := i0R ih hx hy h
        simp only [g0Y, Sem.run_bind, ra, rc, hr, Result.andThen_ok, Bool.not_true, Bool.false_eq_true, if_false, Sem.run_pure]
        exact this
      · rename_i he
        cases h
        have hr := ih he ca cc
        simp only [g0Y, Sem.run_bind, ra, rc, hr, Result.andThen_ok, Bool.not_false, if_true, Sem.run_pure, Bool.false_eq_true, if_false]
      · cases h
    · cases h
theorem e0B : ∀ {d D : Nat}, d ≤ D → ∀ {t : TypeId} {x y : AV} {x' y' : Value} {b : Bool}, a03 P d t x y = .ok b → Con φ x x' → Con φ y y' → (Op.equalIn D t x' y').run P w = .ok b w
  | 0, _, _, _, _, _, _, _, _, h, _, _ => by cases h
  | d + 1, 0, hd, _, _, _, _, _, _, _, _, _ => by omega
  | d + 1, D + 1, hd, t, x, y, x', y', b, h, hx, hy => by
    have ih := fun {t : TypeId} {x y : AV} {x' y' : Value} {b : Bool} => @e0B d D (by omega) t x y x' y' b
    unfold a03 at h
    split at h
    · rename_i fields ht
      split at h
      · rename_i xs ys
        split at h
        · cases h
        · rename_i hs
          cases hx with
          | agg hx => cases hy with
            | agg hy =>
              have := d00 ih hx hy h
              simp only [Op.equalIn, Sem.run_bind, h9 ht, Result.andThen_ok, run_program, hs, if_false, Bool.false_eq_true]
              rw [← Array.forIn_toList]
              erw [this]
              cases b <;> simp
      · cases h
    · rename_i len elem ht
      split at h
      · rename_i xs ys
        split at h
        · rename_i n hn
          cases hx with
          | agg hx => cases hy with
            | agg hy =>
              have := i0R ih hx hy h
              simp only [Op.equalIn, Sem.run_bind, h9 ht, Result.andThen_ok, D7 hn, Std.Legacy.Range.forIn_eq_forIn_range', Std.Legacy.Range.size, Nat.sub_zero, Nat.add_sub_cancel, Nat.div_one]
              erw [this]
              cases b <;> simp
        · cases h
      · cases h
    · rename_i td h1 h2 ht
      split at h
      · rename_i hf
        unfold ofO at h
        split at h
        · rename_i r hr; cases h; exact m0m ht hf hr hx hy
        · cases h
      · cases h
    · cases h
end Go.Dr

namespace Go.Dr
open Go.RowKit
variable {P:Program} {B:Nat} {w0 w:World} {φ:Phi} {h h':AH}
def l0h:Value→Bool
 | .int _ _ | .float _ _ | .complex _ _ _ | .string _=>false
 | _=>true
theorem p0N {t:TypeId} {a b:Value} (hn:l0h a=true):Go.binOp .eql t a b=(do pure (.bool (← Op.equal t a b))):=by
 cases a <;> first | (cases hn;done) | (cases b <;> rfl)
theorem p0O {t:TypeId} {a b:Value} (hn:l0h a=true):Go.binOp .neq t a b=(do pure (.bool (!(← Op.equal t a b)))):=by
 cases a <;> first | (cases hn;done) | (cases b <;> rfl)
theorem e0n {op:BinOp} {t:TypeId} {x y:Operand} {a b:Value} (h1:a≠.nilIface) (h2:∀ cs,a≠.agg cs):(eqGuard op t x y a b).run P w=.ok () w:=by
 unfold eqGuard
 cases op <;> simp
 all_goals (cases a <;> simp_all)
theorem g0v (x:Operand):b0T x=(match x with | .const _=>true | _=>false):=by cases x <;> rfl
theorem m0L {op:BinOp} {t:TypeId} {x y:Operand} (hl:(b0T x||b0T y)=true):(eqGuard op t x y .nilIface .nilIface).run P w=.ok () w:=by
 rw [g0v,g0v] at hl
 unfold eqGuard
 cases op <;> simp
 all_goals (cases x <;> cases y <;> simp_all)
theorem l0i {op:BinOp} {t:TypeId} {x y:Operand} {b:Value} (hb:b≠.nilIface):(eqGuard op t x y .nilIface b).run P w=.ok () w:=by
 unfold eqGuard
 cases op <;> simp
 all_goals (cases b <;> simp_all)
theorem m0M {op:BinOp} {t:TypeId} {x y:Operand} {as bs:Array Value} (hg:P.eqGuardType P.depth t=false):(eqGuard op t x y (.agg as) (.agg bs)).run P w=.ok () w:=by
 unfold eqGuard
 cases op <;> simp [hg]
theorem l0j {op:BinOp} {t:TypeId} {x y:Operand} {as:Array Value} {b:Value} (hb:∀ bs,b≠.agg bs):(eqGuard op t x y (.agg as) b).run P w=.ok () w:=by
 unfold eqGuard
 cases op <;> simp
 all_goals (cases b <;> simp_all)
theorem j0i {op:BinOp} {t:TypeId} {x y v:AV} {x' y':Value} (hr:c0M op (a03 P 20 t x y)=.ok v) (hx:Con φ x x') (hy:Con φ y y') (hn:l0h x'=true) :
  ∃ v',(Go.binOp op t x' y').run P w=.ok v' w∧Con φ v v':=by
 unfold c0M at hr
 split at hr
 ·rename_i b he
  have hq:=e0B (P:=P) (w:=w) (show 20≤Op.maxDepth from by decide) he hx hy
  split at hr
  ·cases hr;exact ⟨.bool b,by rw [p0N hn];simp [Op.equal,hq],.bool _⟩
  ·cases hr;exact ⟨.bool !b,by rw [p0O hn];simp [Op.equal,hq],.bool _⟩
  ·cases hr
 ·cases hr
theorem n04 {d:Nat} {t:TypeId} {xs:List AV} {y:AV} {b:Bool} (h:a03 P d t (.agg xs) y=.ok b):∃ ys,y=.agg ys:=by
 cases d with
 | zero=>cases h
 | succ d =>
  unfold a03 at h
  split at h
  ·split at h
   ·rename_i e1 e2;exact ⟨_,rfl⟩
   ·cases h
  ·split at h
   ·exact ⟨_,rfl⟩
   ·cases h
  ·rename_i td _ _ _
   split at h
   ·rename_i hf;cases td <;> simp [M8] at hf
   ·cases h
  ·cases h
theorem r0g {d:Nat} {t:TypeId} {u:Nat} {y:AV} {b:Bool} (h:a03 P d t (.raw u) y=.ok b):False:=by
 cases d with
 | zero=>cases h
 | succ d =>
  unfold a03 at h
  split at h
  ·cases h
  ·cases h
  ·rename_i td _ _ _
   split at h
   ·rename_i hf;cases td <;> simp [M8] at hf
   ·cases h
  ·cases h
theorem r0h {op:BinOp} {t:TypeId} {x y:Operand} {a b v:AV} {a' b':Value} (hr:A0 P op t (b0T x||b0T y) a b=.ok v) (ha:Con φ a a') (hb:Con φ b b') :
  ∃ v',(do eqGuard op t x y a' b';Go.binOp op t a' b').run P w=.ok v' w∧Con φ v v':=by
 unfold A0 at hr
 split at hr
 ·split at hr
  ·cases ha;cases hb
   rw [Sem.run_bind,e0n (by simp) (by simp),Result.andThen_ok]
   split at hr
   ·obtain ⟨v',h1,h2⟩:=n09 (P:=P) (w:=w) (t:=t) hr;exact ⟨v',h1,h2 φ⟩
   ·rename_i hs
    split at hr
    ·rename_i hk;subst hk
     obtain ⟨v',h1,h2⟩:=r0n (P:=P) (w:=w) (t:=t) (by simpa using hs) hr;exact ⟨v',h1,h2 φ⟩
    ·cases hr
  ·cases hr
 ·split at hr
  ·cases ha;cases hb
   rw [Sem.run_bind,e0n (by simp) (by simp),Result.andThen_ok]
   obtain ⟨v',h1,h2⟩:=r0o (P:=P) (w:=w) (t:=t) hr;exact ⟨v',h1,h2 φ⟩
  ·cases hr
 ·rename_i hni hns
  unfold d0h at hr
  split at hr
  ·cases ha;cases hb
   split at hr
   ·rename_i hl
    rw [Sem.run_bind,m0L hl,Result.andThen_ok]
    exact j0i hr .nili .nili rfl
   ·cases hr
  ·cases ha with
   | agg ha=>cases hb with
    | agg hb =>
     split at hr
     ·cases hr
     ·rename_i hg
      rw [Sem.run_bind,m0M (by simpa using hg),Result.andThen_ok]
      exact j0i hr (.agg ha) (.agg hb) rfl
  ·rename_i h1 h2
   have hnr:∀ u,a≠.raw u:=fun u e=>by
    subst e
    unfold c0M at hr
    split at hr
    ·rename_i he;exact r0g he
    ·cases hr
   have hn:l0h a'=true:=by
    cases ha <;> first | rfl | skip
    ·exact absurd rfl (hni _ _)
    ·exact absurd rfl (hns _)
    ·exact absurd rfl (hnr _)
   have hg:(eqGuard op t x y a' b').run P w=.ok () w:=by
    cases ha with
    | nili =>
     refine l0i ?_
     intro e;subst e;cases hb
     ·exact h1 rfl rfl
     ·rename_i hraw
      unfold c0M at hr
      split at hr
      ·rename_i he
       unfold a03 at he
       split at he
       ·cases he
       ·cases he
       ·split at he
        ·unfold ofO at he;split at he
         ·rename_i hs;simp [a0b] at hs
         ·cases he
        ·cases he
       ·cases he
      ·cases hr
    | agg ha =>
     refine l0j ?_
     intro bs e;subst e
     unfold c0M at hr
     split at hr
     ·rename_i he
      obtain ⟨ys,rfl⟩:=n04 he
      exact h2 _ _ rfl rfl
     ·cases hr
    | raw hraw _=>exact absurd rfl (hnr _)
    | _=>refine e0n ?_ ?_ <;> simp
   rw [Sem.run_bind,hg,Result.andThen_ok]
   exact j0i hr ha hb hn
theorem s0I {op:UnOp} {x v:AV} {x':Value} (hr:n0S op x=.ok v) (hx:Con φ x x'):∃ v',(Op.unary op x').run P w=.ok v' w∧Con φ v v':=by
 unfold n0S at hr
 split at hr
 ·cases hx
  split at hr
  ·cases hr;exact ⟨_,rfl,by rw [a0X];exact .int _ _⟩
  ·cases hr;exact ⟨_,rfl,by rw [a0X];exact .int _ _⟩
  ·cases hr
 ·cases hx
  split at hr
  ·cases hr;exact ⟨_,rfl,.bool _⟩
  ·cases hr
 ·cases hr
end Go.Dr

namespace Go.Dr
open Go.RowKit
variable {P:Program} {B:Nat} {w0 w:World} {φ:Phi} {h h':AH}
theorem e0w {v:AV} {v':Value} {y y' n:Nat} {code:BoundsCode} (hr:G7 v y=.ok n) (hc:Con φ v v') (hy:y≤y'):n≤y∧(Instr.sliceBound v' y' code).run P w=.ok n w:=by
 unfold G7 at hr
 split at hr
 ·cases hc
  split at hr
  ·rename_i i hi;cases hr
   refine ⟨by omega,?_⟩
   simp only [Instr.sliceBound,asIntOf,Sem.run_bind,Sem.run_pure,Result.andThen_ok]
   rw [if_pos ⟨hi.1,by omega⟩];rfl
  ·cases hr
 ·cases hr
inductive ConO (φ:Phi):Option AV→Option Value→Prop
 | none:ConO φ none none
 | some {v:AV} {v':Value} (h:Con φ v v'):ConO φ (some v) (some v')
theorem c06 {len cap c l hi m:Nat} {lo high mx:Option AV} {lo' high' mx':Option Value} {b:Bool} (hr:J8 len cap lo high mx=.ok (l,hi,m)) (hcap:cap≤c) (hlen:len≤c)
  (hl:ConO φ lo lo') (hh:ConO φ high high') (hm:ConO φ mx mx') :
  ∃ m',(Instr.sliceBounds b len c lo' high' mx').run P w=.ok (l,hi,m') w∧l≤hi∧hi≤m'∧m≤m'∧m'≤c∧(mx=none→m'=c∧m=cap)∧(mx.isSome=true→m'=m):=by
 unfold J8 at hr
 split at hr
 ·rename_i m0 hm0
  split at hr
  ·rename_i hi0 hhi0
   split at hr
   ·rename_i lo0 hlo0
    split at hr
    ·cases hr
    ·rename_i hne
     cases hr
     have key:∃ m',(match mx' with | some v=>Instr.sliceBound v c (if b then .slice3Acap else .slice3Alen) | none=>(pure c:Sem Nat)).run P w=.ok m' w∧m≤m'∧m'≤c∧(mx=none→m'=c∧m=cap)∧(mx.isSome=true→m'=m):=by
      cases hm with
      | none=>simp only [G8] at hm0;cases hm0;exact ⟨c,by simp,hcap,Nat.le_refl _,fun _=>⟨rfl,rfl⟩,fun e=>by cases e⟩
      | some hm =>
       simp only [G8] at hm0
       obtain ⟨h1,h2⟩:=e0w (P:=P) (w:=w) (code:=if b then .slice3Acap else .slice3Alen) hm0 hm hcap
       exact ⟨m,h2,Nat.le_refl _,by omega,fun e=>(by cases e),fun _=>rfl⟩
     obtain ⟨m',k1,k2,k3,k4,k5⟩:=key
     have key2:(match high',mx' with | some v,some _=>Instr.sliceBound v m' .slice3B | some v,none=>Instr.sliceBound v m' (if b then .sliceAcap else .sliceAlen) | none,none=>(pure len:Sem Nat) | none,some _=>stuck "Slice: max without high").run P w=.ok hi w∧hi≤m':=by
      cases hh with
      | none =>
       simp only [G8] at hhi0;cases hhi0
       cases hm with
       | none=>exact ⟨by simp,by rw [(k4 rfl).1];exact hlen⟩
       | some _=>simp at hne
      | some hh =>
       simp only [G8] at hhi0
       cases hm with
       | none=>obtain ⟨h1,h2⟩:=e0w (P:=P) (w:=w) (code:=if b then .sliceAcap else .sliceAlen) hhi0 hh k2;exact ⟨h2,by omega⟩
       | some _=>obtain ⟨h1,h2⟩:=e0w (P:=P) (w:=w) (code:=.slice3B) hhi0 hh k2;exact ⟨h2,by omega⟩
     have key3:(match lo' with | some v=>Instr.sliceBound v hi (if mx'.isSome then .slice3C else .sliceB) | none=>(pure 0:Sem Nat)).run P w=.ok l w∧l≤hi:=by
      cases hl with
      | none=>simp only [G8] at hlo0;cases hlo0;exact ⟨by simp,Nat.zero_le _⟩
      | some hl =>
       simp only [G8] at hlo0
       obtain ⟨h1,h2⟩:=e0w (P:=P) (w:=w) (code:=if mx'.isSome then .slice3C else .sliceB) hlo0 hl (Nat.le_refl _)
       exact ⟨h2,h1⟩
     refine ⟨m',?_,key3.2,key2.2,k2,k3,k4,k5⟩
     obtain ⟨key2,_⟩:=key2
     obtain ⟨key3,_⟩:=key3
     clear hl hh hm hlo0 hm0 hhi0 hne k4 k5
     unfold Instr.sliceBounds
     cases mx' <;> cases high' <;> cases lo' <;> simp only [Option.isSome_some,Option.isSome_none,if_true,Bool.false_eq_true,if_false] at k1 key2 key3 ⊢ <;>
      first
      | (simp only [Sem.run_bind,k1,key2,key3,Result.andThen_ok,Sem.run_pure];done)
      | (simp at key2;done)
      | (simp only [Sem.run_pure,Result.ok.injEq,and_true] at k1 key2 key3;subst_vars;simp only [Sem.run_bind, *,Result.andThen_ok,Sem.run_pure])
   ·cases hr
  ·cases hr
 ·cases hr
theorem l04 {t:TypeId} {x v:AV} {x':Value} {lo hi:Option AV} {lo' hi':Option Value} (ht:und P t=.ok .string) (hr:d07 x lo hi=.ok v) (hx:Con φ x x') (hl:ConO φ lo lo') (hh:ConO φ hi hi') :
  ∃ v',(Instr.sliceAt t x' lo' hi' none).run P w=.ok v' w∧Con φ v v':=by
 unfold d07 at hr
 split at hr
 ·rename_i s
  split at hr
  ·rename_i l h0 m hb
   cases hr;cases hx
   obtain ⟨m',h1,h2,h3,h4,h5,h6,h7⟩:=c06 (P:=P) (w:=w) (b:=false) hb (Nat.le_refl s.length) (Nat.le_refl _) hl hh .none
   have hsz:(⟨⟨s⟩⟩:ByteArray).size=s.length:=rfl
   refine ⟨.string ⟨⟨(s.drop l).take (h0 - l)⟩⟩,?_,.str _⟩
   simp only [Instr.sliceAt,Instr.slice,Sem.run_bind,h9 ht,Result.andThen_ok,Option.isSome_none,Bool.false_eq_true,if_false,hsz,h1,Sem.run_pure]
   congr 2
   have:=Lib.extract_data ⟨⟨s⟩⟩ l h0
   cases e:(⟨⟨s⟩⟩:ByteArray).extract l h0 with
   | mk d=>rw [e] at this;rcases d with ⟨d⟩;simp at this;subst this;rfl
  ·cases hr
 ·cases hr
theorem l05 {t e:TypeId} {es:Nat} {x v:AV} {x':Value} {lo hi mx:Option AV} {lo' hi' mx':Option Value} (ht:und P t=.ok (.slice e)) (hs:M2 P e=.ok es) (hr:r9 es x lo hi mx=.ok v) (hx:Con φ x x')
  (hl:ConO φ lo lo') (hh:ConO φ hi hi') (hm:ConO φ mx mx'):∃ v',(Instr.sliceAt t x' lo' hi' mx').run P w=.ok v' w∧Con φ v v':=by
 unfold r9 at hr
 split at hr
 ·split at hr
  ·rename_i q hb;rcases q with ⟨l,h0,m⟩
   cases hr;cases hx
   ·obtain ⟨m',h1,h2,h3,h4,h5,h6,h7⟩:=c06 (P:=P) (w:=w) (b:=true) hb (Nat.le_refl 0) (Nat.le_refl _) hl hh hm
    refine ⟨.slice none 0 0,?_,.nils⟩
    obtain rfl:m'=0:=by omega
    obtain rfl:h0=0:=by omega
    obtain rfl:l=0:=by omega
    simp only [Instr.sliceAt,Instr.slice,Sem.run_bind,h9 ht,Result.andThen_ok,h1,D7 hs,Sem.run_pure]
    rfl
  ·cases hr
 ·rename_i id off len cap xx es'
  split at hr
  ·rename_i hes;subst hes
   split at hr
   ·rename_i l h0 m hb
    cases hr
    cases hx with
    | @slice _ _ _ _ c _ _ p ad hp hx hc hlc hrm =>
     obtain ⟨m',h1,h2,h3,h4,h5,h6,h7⟩:=c06 (P:=P) (w:=w) (b:=true) hb hc hlc hl hh hm
     refine ⟨.slice (some (if m'=l then ad else ad.add (l*es))) (h0 - l) (m' - l),?_,?_⟩
     ·simp only [Instr.sliceAt,Instr.slice,Sem.run_bind,h9 ht,Result.andThen_ok,h1,D7 hs,Sem.run_pure]
      split <;> rfl
     ·refine .slice hp (fun hxx=>?_) (by omega) (by omega) ?_
      ·cases hmx:mx.isSome with
       | true=>rw [h7 hmx]
       | false =>
        rw [hmx,Bool.or_false] at hxx
        have e1:=hx hxx
        have e2:=h6 (by cases mx <;> simp_all)
        omega
      ·by_cases hml:m'=l
       ·left;omega
       ·right
        rcases hrm with hz | ⟨hroom,had⟩
        ·omega
        ·rw [if_neg hml,had,Addr.add_none]
         refine ⟨?_,by rw [Nat.add_assoc]⟩
         have:off+l*es+(m' - l)*es=off+m'*es:=by
          rw [Nat.add_assoc,← Nat.add_mul];congr 2;omega
         rw [this]
         have:=Nat.mul_le_mul_right es h5
         omega
   ·cases hr
  ·cases hr
 ·cases hr
theorem l06 {t e:TypeId} {n es:Nat} {x v:AV} {x':Value} {lo hi mx:Option AV} {lo' hi' mx':Option Value} (ht:und P t=.ok (.array n e)) (hs:M2 P e=.ok es) (hr:d08 n es h x lo hi mx=.ok v) (hx:Con φ x x')
  (hR:Rel B w0 φ h w) (hl:ConO φ lo lo') (hh:ConO φ hi hi') (hm:ConO φ mx mx'):∃ v',(Instr.sliceAt t x' lo' hi' mx').run P w=.ok v' w∧Con φ v v':=by
 unfold d08 at hr
 split at hr
 ·rename_i id off
  split at hr
  ·rename_i vs ro hg
   cases hb0:Nat.ble (off+n*es) vs.length with
   | false=>rw [hb0] at hr;cases hr
   | true =>
    rw [hb0] at hr
    have hle:off+n*es≤vs.length:=Nat.le_of_ble_eq_true hb0
    simp only [cond_true] at hr
    split at hr
    ·rename_i l h0 m hb
     cases hr
     cases hx with
     | @ptr _ _ p hp =>
      obtain ⟨c,_,_,_,_,hroom,_⟩:=hR.obj _ _ _ hp hg
      obtain ⟨m',h1,h2,h3,h4,h5,h6,h7⟩:=c06 (P:=P) (w:=w) (b:=false) hb (Nat.le_refl n) (Nat.le_refl n) hl hh hm
      have hmm:m'=m:=by
       cases hmx:mx with
       | none=>have:=h6 hmx;omega
       | some q=>exact h7 (by rw [hmx];rfl)
      subst hmm
      refine ⟨.slice (some (if m'=l then ⟨p.blk,p.off+off,none⟩ else (⟨p.blk,p.off+off,none⟩:Addr).add (l*es))) (h0 - l) (m' - l),?_,?_⟩
      ·simp only [Instr.sliceAt,Instr.sureAddr,Sem.run_bind,h9 ht,Result.andThen_ok,h1,D7 hs,Sem.run_pure]
      ·refine .slice hp (fun _=>rfl) (Nat.le_refl _) (by omega) ?_
       by_cases hml:m'=l
       ·left;omega
       ·right
        rw [if_neg hml,Addr.add_none]
        refine ⟨?_,by rw [Nat.add_assoc]⟩
        have:off+l*es+(m' - l)*es=off+m'*es:=by
         rw [Nat.add_assoc,← Nat.add_mul];congr 2;omega
        rw [this]
        have:=Nat.mul_le_mul_right es h5
        omega
    ·cases hr
  ·cases hr
 ·cases hr
end Go.Dr

namespace Go.Dr
open Go.RowKit
variable {P:Program} {B:Nat} {w0 w:World} {φ:Phi} {h h':AH}
theorem d0T {id:Nat} {p:Pl} (hp:φ id=some p) (off n:Nat):Con φ (.ptr id (off+n)) (.pointer (some ((⟨p.blk,p.off+off,none⟩:Addr).add n))):=by
 rw [Addr.add_none,Nat.add_assoc];exact .ptr hp
theorem p0t {t e:TypeId} {n es:Nat} {x i v:AV} {x' i':Value} (ht:und P t=.ok (.array n e)) (hs:M2 P e=.ok es) (hr:i05 n es x i=.ok v) (hx:Con φ x x') (hi:Con φ i i') :
  ∃ v',(Instr.indexAt t x' i').run P w=.ok v' w∧Con φ v v':=by
 unfold i05 at hr
 split at hr
 ·split at hr
  ·split at hr
   ·rename_i hb;cases hr
    cases hi
    cases hx with
    | ptr hp =>
     refine ⟨_,?_,d0T hp _ _⟩
     simp only [Instr.indexAt,asIntOf,Instr.sureAddr,Sem.run_bind,h9 ht,Result.andThen_ok,Sem.run_pure]
     rw [if_pos hb]
     simp only [Sem.run_bind,D7 hs,Result.andThen_ok,Sem.run_pure]
   ·cases hr
  ·cases hr
 ·cases hr
theorem p0u {t e:TypeId} {es:Nat} {x i v:AV} {x' i':Value} (ht:und P t=.ok (.slice e)) (hs:M2 P e=.ok es) (hr:I3 es x i=.ok v) (hx:Con φ x x') (hi:Con φ i i') :
  ∃ v',(Instr.indexAt t x' i').run P w=.ok v' w∧Con φ v v':=by
 unfold I3 at hr
 split at hr
 ·split at hr
  ·split at hr
   ·rename_i hes;subst hes
    split at hr
    ·rename_i hb;cases hr
     cases hi
     cases hx with
     | @slice id off len cap c _ _ p ad hp hxx hc hl hrm =>
      rcases hrm with hz | ⟨hroom,had⟩
      ·omega
      ·subst had
       refine ⟨_,?_,d0T hp _ _⟩
       simp only [Instr.indexAt,asIntOf,Sem.run_bind,h9 ht,Result.andThen_ok,Sem.run_pure]
       rw [if_pos hb]
       simp only [Sem.run_bind,D7 hs,Result.andThen_ok,Sem.run_pure]
    ·cases hr
   ·cases hr
  ·cases hr
 ·cases hr
theorem m0a {t e:TypeId} {n es:Nat} {x i v:AV} {x' i':Value} (ht:und P t=.ok (.array n e)) (ha:d0E P e=.ok false) (hs:M2 P e=.ok es) (hr:a0E true n es x i=.ok v) (hx:Con φ x x') (hi:Con φ i i') :
  ∃ v',(Instr.index t x' i').run P w=.ok v' w∧Con φ v v':=by
 unfold a0E at hr
 split at hr
 ·split at hr
  ·rename_i hb
   cases hi
   obtain ⟨l',v',rfl,hv,hc⟩:=k0i hr hx
   refine ⟨v',?_,hc⟩
   simp only [Instr.index,asIntOf,Sem.run_bind,Sem.run_pure,h9 ht,Result.andThen_ok]
   rw [if_pos hb]
   simp only [Sem.run_bind,D7 hs,Result.andThen_ok]
   exact d0d ha (by simpa using hv)
  ·cases hr
 ·cases hr
theorem m0b {t e:TypeId} {n es:Nat} {x i v:AV} {x' i':Value} (ht:und P t=.ok (.array n e)) (ha:d0E P e=.ok true) (hs:M2 P e=.ok es) (hr:a0E false n es x i=.ok v) (hx:Con φ x x') (hi:Con φ i i') :
  ∃ v',(Instr.index t x' i').run P w=.ok v' w∧Con φ v v':=by
 unfold a0E at hr
 split at hr
 ·split at hr
  ·rename_i hb
   cases hi
   obtain ⟨l',rfl,hc⟩:=i0Q hr hx
   refine ⟨_,?_,hc⟩
   simp only [Instr.index,asIntOf,Sem.run_bind,Sem.run_pure,h9 ht,Result.andThen_ok]
   rw [if_pos hb]
   simp only [Sem.run_bind,D7 hs,Result.andThen_ok]
   exact d0c ha hs
  ·cases hr
 ·cases hr
theorem m0c {t:TypeId} {x i v:AV} {x' i':Value} (ht:und P t=.ok .string) (hr:b0U x i=.ok v) (hx:Con φ x x') (hi:Con φ i i') :
  ∃ v',(Instr.index t x' i').run P w=.ok v' w∧Con φ v v':=by
 unfold b0U at hr
 split at hr
 ·rename_i s
  split at hr
  ·rename_i k i
   split at hr
   ·rename_i h0
    split at hr
    ·rename_i b hb;cases hr
     cases hx;cases hi
     refine ⟨.int .u8 b.toNat,?_,.int _ _⟩
     simp only [Instr.index,asIntOf,Sem.run_bind,Sem.run_pure,h9 ht,Result.andThen_ok]
     rw [if_pos h0]
     have:(⟨⟨s⟩⟩:ByteArray)[i.toNat]? = some b:=by
      rw [List.getElem?_eq_some_iff] at hb
      obtain ⟨hlt,hb⟩:=hb
      have hsz:i.toNat<(⟨⟨s⟩⟩:ByteArray).size:=hlt
      rw [getElem?_pos (⟨⟨s⟩⟩:ByteArray) i.toNat hsz,← hb];rfl
     rw [this];rfl
    ·cases hr
   ·cases hr
  ·cases hr
 ·cases hr
theorem i0I {s:TypeId} {fields:Array Field} {f:Nat} {fd:Field} {n:Nat} {x v:AV} {x':Value} (ht:und P s=.ok (.struct fields)) (hf:fields[f]? = some fd) (hs:M2 P fd.type=.ok n) (hn:n≠0)
  (hr:Y8 fd.offset x=.ok v) (hx:Con φ x x'):∃ v',(Instr.fieldAt s x' f).run P w=.ok v' w∧Con φ v v':=by
 unfold Y8 at hr
 split at hr
 ·cases hr
  cases hx with
  | ptr hp =>
   refine ⟨_,?_,d0T hp _ _⟩
   simp only [Instr.fieldAt,Sem.run_bind,h9 ht,Result.andThen_ok,hf,Instr.sureAddr,Sem.run_pure,fieldPlace,D7 hs,if_neg hn]
 ·cases hr
theorem p0v {t:TypeId} {fields:Array Field} {f:Nat} {fd:Field} {x v:AV} {x':Value} (ht:und P t=.ok (.struct fields)) (hf:fields[f]? = some fd) (ha:d0E P fd.type=.ok false)
  (hr:f0r x fd.offset=.ok v) (hx:Con φ x x'):∃ v',(Instr.field t x' f).run P w=.ok v' w∧Con φ v v':=by
 obtain ⟨l',v',rfl,hv,hc⟩:=k0i hr hx
 refine ⟨v',?_,hc⟩
 simp only [Instr.field,Sem.run_bind,h9 ht,Result.andThen_ok,hf,asAgg,Sem.run_pure]
 exact d0d ha (by simpa using hv)
theorem p0w {t:TypeId} {fields:Array Field} {f n:Nat} {fd:Field} {x v:AV} {x':Value} (ht:und P t=.ok (.struct fields)) (hf:fields[f]? = some fd) (ha:d0E P fd.type=.ok true) (hs:M2 P fd.type=.ok n)
  (hr:d0i x fd.offset n=.ok v) (hx:Con φ x x'):∃ v',(Instr.field t x' f).run P w=.ok v' w∧Con φ v v':=by
 obtain ⟨l',rfl,hc⟩:=i0Q hr hx
 refine ⟨_,?_,hc⟩
 simp only [Instr.field,Sem.run_bind,h9 ht,Result.andThen_ok,hf,asAgg,Sem.run_pure]
 exact d0c ha hs
theorem Y6:∀ (s:List UInt8),ConL φ (b0n s) (s.map fun b=>Value.int .u8 b.toNat)
 | []=>.nil
 | _::s=>.cons (.int _ _) (Y6 s)
theorem h0x:∀ {l:List AV} {vs:List Value} {s:List UInt8},h05 l=.ok s→ConL φ l vs→∃ ns:List Int,vs=ns.map (Value.int .u8)∧s=ns.map fun n=>UInt8.ofNat n.toNat
 | _,_,_,h,.nil=>by cases h;exact ⟨[],rfl,rfl⟩
 | _::_,_::_,s,h,.cons hc t=>by
  unfold h05 at h
  split at h
  ·cases hc
   split at h
   ·rename_i n _ r hr;cases h
    obtain ⟨ns,rfl,rfl⟩:=h0x hr t
    exact ⟨n::ns,rfl,rfl⟩
   ·cases h
  ·cases h
theorem n0I (l:List Int):∀ (r:ByteArray),l.foldl (fun r n=>r.push (UInt8.ofNat n.toNat)) r=⟨⟨r.data.toList++l.map fun n=>UInt8.ofNat n.toNat⟩⟩:=by
 induction l with
 | nil=>intro r;rcases r with ⟨⟨r⟩⟩;simp
 | cons n l ih=>intro r;rw [List.foldl_cons,ih];rcases r with ⟨⟨r⟩⟩;simp [ByteArray.push]
theorem i0J (s:ByteArray):∀ (b i:Nat) (acc:Array Value),(Conv.runesFrom s b i acc).size≤acc.size+b
 | 0,_,acc=>by simp [Conv.runesFrom]
 | b+1,i,acc=>by
  unfold Conv.runesFrom
  split
  ·have:=i0J s b (i+(Utf8.decode s i).2) (acc.push (.int .i32 (Int.ofNat (Utf8.decode s i).1)))
   simp at this ⊢
   omega
  ·omega
theorem d0U (s:List UInt8):∀ (b i:Nat) (acc:Array Value),∃ vs,Conv.runesFrom ⟨⟨s⟩⟩ b i acc=acc++⟨vs⟩∧ConL φ (c0j s b i) vs
 | 0,i,acc=>⟨[],by simp [Conv.runesFrom],.nil⟩
 | b+1,i,acc=>by
  unfold Conv.runesFrom c0j
  by_cases hi:i<s.length
  ·have h1:i<(⟨⟨s⟩⟩:ByteArray).size:=hi
   have h2:Nat.blt i s.length=true:=by simpa [Nat.blt_eq] using hi
   rw [if_pos h1,h2]
   cases hd:Utf8.decode ⟨⟨s⟩⟩ i with
   | mk r w =>
    obtain ⟨vs,e1,e2⟩:=d0U s b (i+w) (acc.push (.int .i32 (Int.ofNat r)))
    refine ⟨.int .i32 (Int.ofNat r)::vs,?_,?_⟩
    ·simp only []
     rw [e1]
     apply Array.ext';simp
    ·simp only [cond_true,o8]
     exact .cons (.int _ _) e2
  ·have h1:¬ i<(⟨⟨s⟩⟩:ByteArray).size:=hi
   have h2:Nat.blt i s.length=false:=by
    cases e:Nat.blt i s.length with
    | false=>rfl
    | true=>exact absurd (by simpa [Nat.blt_eq] using e) hi
   rw [if_neg h1,h2]
   exact ⟨[],by simp,.nil⟩
theorem m0d {s d:TypeId} {sd:TypeDesc} {k:IntKind} {x:AV} {x':Value} {n:AN} (hs:und P s=.ok sd) (hd:und P d=.ok (.int k)) (hr:J7 (.int k) x h=.ok (n,h')) (hx:Con φ x x') (hR:Rel B w0 φ h w) :
  ∃ v,n=.value v∧ValOf P B w0 φ h (convert s d x') w v h':=by
 simp only [J7] at hr
 split at hr
 ·rename_i k0 i;cases hr;cases hx
  refine ⟨_,rfl,.pure hR ?_ (v':=.int k (k.wrap i)) (by rw [a0X];exact .int _ _)⟩
  simp only [convert,Sem.run_bind,h9 hs,h9 hd,Result.andThen_ok]
  cases sd <;> rfl
 ·cases hr
theorem h0y {s d:TypeId} {sd:TypeDesc} {x:AV} {x':Value} {n:AN} (hs:und P s=.ok sd) (hd:und P d=.ok .string) (hsd:sd=.string∨∃ k,sd=.int k) (hr:J7 .str x h=.ok (n,h')) (hx:Con φ x x') (hR:Rel B w0 φ h w) :
  ∃ v,n=.value v∧ValOf P B w0 φ h (convert s d x') w v h':=by
 simp only [J7] at hr
 split at hr
 ·rename_i k0 i;cases hr;cases hx
  refine ⟨_,rfl,.pure hR ?_ (v':=.string (Utf8.encode i)) ?_⟩
  ·simp only [convert,Sem.run_bind,h9 hs,h9 hd,Result.andThen_ok]
   rcases hsd with rfl | ⟨k,rfl⟩ <;> rfl
  ·cases Utf8.encode i with | mk b=>rcases b with ⟨b⟩;exact .str _
 ·cases hr;cases hx
  refine ⟨_,rfl,.pure hR ?_ (.str _)⟩
  simp only [convert,Sem.run_bind,h9 hs,h9 hd,Result.andThen_ok]
  rcases hsd with rfl | ⟨k,rfl⟩ <;> rfl
 ·cases hr
theorem k0V {s d e:TypeId} {x:AV} {x':Value} {n:AN} (hs:und P s=.ok (.slice e)) (he:und P e=.ok (.int .u8)) (hd:und P d=.ok .string) (hr:J7 .strB x h=.ok (n,h')) (hx:Con φ x x') (hR:Rel B w0 φ h w) :
  ∃ v,n=.value v∧ValOf P B w0 φ h (convert s d x') w v h':=by
 simp only [J7] at hr
 split at hr
 ·cases hr;cases hx
  refine ⟨_,rfl,.pure hR ?_ (.str [])⟩
  simp only [convert,Sem.run_bind,h9 hs,h9 hd,h9 he,Result.andThen_ok]
  rfl
 ·rename_i id off len cap xx es
  split at hr
  ·rename_i hes;subst hes
   split at hr
   ·rename_i l hl
    split at hr
    ·rename_i s' hs'
     cases hr
     cases hx with
     | @slice _ _ _ _ c _ _ p ad hp hxx hc hlc hrm =>
      obtain ⟨vs,hlen,hcells,hcon⟩:=c0T hl hR hp
      obtain ⟨ns,rfl,rfl⟩:=h0x hs' hcon
      have hrun:(loadCells ad len).run P w=.ok (ns.map (Value.int .u8)).toArray w:=by
       by_cases h0:len=0
       ·subst h0
        have:ns=[]:=by cases ns with | nil=>rfl | cons _ _=>simp at hlen
        subst this
        simp [loadCells,loadCellsFrom]
       ·rcases hrm with hz | ⟨_,had⟩
        ·omega
        ·subst had;exact K6 hlen hcells
      refine ⟨_,rfl,.pure hR ?_ (.str _)⟩
      simp only [convert,Sem.run_bind,h9 hs,h9 hd,h9 he,Result.andThen_ok]
      rw [run_bytesToString w ad len c ns hrun,n0I]
      rfl
    ·cases hr
   ·cases hr
  ·cases hr
 ·cases hr
theorem j0F {s d e:TypeId} {x:AV} {x':Value} {n:AN} (hs:und P s=.ok .string) (hd:und P d=.ok (.slice e)) (he:und P e=.ok (.int .u8)) (hr:J7 .bytes x h=.ok (n,h')) (hx:Con φ x x') (hR:Rel B w0 φ h w) :
  ∃ v,n=.value v∧ValOf P B w0 φ h (convert s d x') w v h':=by
 simp only [J7] at hr
 split at hr
 ·rename_i s';cases hr;cases hx
  have hrun:=run_bytes_of_string (P:=P) w s d e ⟨⟨s'⟩⟩ (f0G hs) (f0G hd) (f0G he)
  generalize hgc:grownCap w (⟨⟨s'⟩⟩:ByteArray).size 0 e=c at hrun
  have hge:s'.length≤c:=by rw [← hgc];exact grownCap_ge w _ _ _
  have hrow:bytesRow (⟨⟨s'⟩⟩:ByteArray) c=⟨s'.map (fun b=>Value.int .u8 b.toNat)++List.replicate (c - s'.length) (.int .u8 0)⟩:=by
   unfold bytesRow;apply Array.ext';simp;rfl
  have hsz:(bytesRow (⟨⟨s'⟩⟩:ByteArray) c).size=c:=by rw [hrow];simp;omega
  rw [hsz,hrow] at hrun
  have hp:=f0H (e:=e) (rest:=List.replicate (c - s'.length) (.int .u8 0)) hR.drew (Y6 (φ:=φ) s') c (c+1) (by intro i hi';simp at hi';omega)
  refine ⟨_,rfl,_,_,_,hrun,?_,hp,Ext.push hR _ _⟩
  refine .slice (Phi.set_same _ _ _) (fun e=>by cases e) (by exact hge) (by exact hge) (.inr ⟨?_,by simp⟩)
  simp;omega
 ·cases hr
theorem j0G {s d e:TypeId} {x:AV} {x':Value} {n:AN} (hs:und P s=.ok .string) (hd:und P d=.ok (.slice e)) (he:und P e=.ok (.int .i32)) (hr:J7 .runes x h=.ok (n,h')) (hx:Con φ x x') (hR:Rel B w0 φ h w) :
  ∃ v,n=.value v∧ValOf P B w0 φ h (convert s d x') w v h':=by
 simp only [J7] at hr
 split at hr
 ·rename_i s'
  split at hr
  ·rename_i hle
   simp only [o8] at hr
   cases hr;cases hx
   obtain ⟨vs,e1,e2⟩:=d0U (φ:=φ) s' s'.length 0 #[]
   have e1:Conv.runesFrom ⟨⟨s'⟩⟩ (⟨⟨s'⟩⟩:ByteArray).size 0 #[]=⟨vs⟩:=by
    have:Conv.runesFrom ⟨⟨s'⟩⟩ (⟨⟨s'⟩⟩:ByteArray).size 0 #[]=#[]++⟨vs⟩:=e1
    rw [this];simp
   have h46:(Conv.runesFrom ⟨⟨s'⟩⟩ (⟨⟨s'⟩⟩:ByteArray).size 0 #[]).size≤70368744177664:=by
    have:=i0J ⟨⟨s'⟩⟩ (⟨⟨s'⟩⟩:ByteArray).size 0 #[]
    have h2:(⟨⟨s'⟩⟩:ByteArray).size=s'.length:=rfl
    simp at this
    omega
   have hrun:=run_runes_of_string (P:=P) w s d e ⟨⟨s'⟩⟩ (f0G hs) (f0G hd) (f0G he) h46
   rw [e1] at hrun
   generalize hgc:grownCap w (⟨vs⟩:Array Value).size 0 e=c at hrun
   have hge:vs.length≤c:=by rw [← hgc];exact grownCap_ge w _ _ _
   have hl:=e2.length
   have hrow:((⟨vs⟩:Array Value)++Array.replicate (c - (⟨vs⟩:Array Value).size) (.int .i32 0))=⟨vs++List.replicate (c - vs.length) (.int .i32 0)⟩:=by apply Array.ext';simp
   rw [hrow] at hrun
   have hp:=f0H (e:=e) (rest:=List.replicate (c - vs.length) (.int .i32 0)) hR.drew e2 0 0 (by omega)
   refine ⟨_,rfl,_,_,_,hrun,?_,hp,Ext.push hR _ _⟩
   have hsz:(⟨vs⟩:Array Value).size=(c0j s' s'.length 0).length:=by rw [hl];simp
   rw [hsz]
   refine .slice (Phi.set_same _ _ _) (fun e=>by cases e) (by omega) (by omega) (.inr ⟨?_,by simp⟩)
   simp;omega
  ·cases hr
 ·cases hr
end Go.Dr

namespace Go.Dr
open Go.RowKit
variable {P:Program} {B:Nat} {w0 w:World} {φ:Phi} {h h':AH}
theorem a0N (z:List AV):∀ n,(a0t z n).length=n*z.length
 | 0=>by simp [a0t]
 | n+1=>by simp [a0t,a0N z n,Nat.add_mul,Nat.add_comm]
theorem l08 (z:List AV) (k:Nat) (hk:z.length=k):∀ n i,i<n*k→(a0t z n)[i]? = z[i%k]?
 | 0,i,hi=>by omega
 | n+1,i,hi=>by
  unfold a0t
  by_cases h1:i<k
  ·rw [List.getElem?_append_left (by omega),Nat.mod_eq_of_lt h1]
  ·rw [List.getElem?_append_right (by omega),hk,l08 z k hk n _ (by rw [Nat.add_mul] at hi;omega)]
   congr 1
   rw [show i%k=((i - k)+k)%k from by congr 1;omega,Nat.add_mod_right]
theorem c0G {z:List AV} {z':Array Value} {k:Nat} (hz:ConL φ z z'.toList) (hk:z.length=k) (hk0:0<k) (n:Nat) :
  ConL φ (a0t z n) ((Array.range (n*k)).map (z'[·%z'.size]!)).toList:=by
 have hzl:z'.size=k:=by have:=hz.length;simp at this;omega
 refine ConL.of_get (by rw [a0N];simp [hk]) fun i x hx=>?_
 have hlt:i<n*k:=by
  have:=(List.getElem?_eq_some_iff.1 hx).1
  rw [a0N,hk] at this;exact this
 rw [l08 z k hk n i hlt] at hx
 obtain ⟨y,hy,hc⟩:=hz.get _ _ hx
 refine ⟨y,?_,hc⟩
 have hm:i%k<z'.size:=by rw [hzl];exact Nat.mod_lt _ hk0
 rw [Array.getElem?_toList] at hy
 simp only [Array.toList_map,Array.toList_range,List.getElem?_map,List.getElem?_range hlt,Option.map_some]
 rw [hzl,getElem!_pos z' (i%k) hm,Option.some.injEq]
 rw [Array.getElem?_eq_getElem hm] at hy
 exact Option.some.inj hy
theorem q0N {t e:TypeId} {es bytes:Nat} {z l c:AV} {l' c':Value} {n:AN} (ht:und P t=.ok (.slice e)) (hs:M2 P e=.ok es) (hby:m0x P e=.ok bytes) (hz:J6 P e=.ok z) (hes:es≠0) (hzl:z.cells.length=es)
  (hr:d05 es bytes z.cells l c h=.ok (n,h')) (hl:Con φ l l') (hc:Con φ c c') (hR:Rel B w0 φ h w):∃ v,n=.value v∧ValOf P B w0 φ h (Instr.makeSlice t l' c') w v h':=by
 unfold d05 at hr
 split at hr
 ·rename_i kl l kc c
  split at hr
  ·rename_i hb;cases hr
   cases hl;cases hc
   obtain ⟨i,z',hi,hiz,hzc⟩:=e0L hz
   obtain ⟨i2,hi2,rfl⟩:=k0y hs
   rw [hi] at hi2;cases hi2
   obtain ⟨i3,hi3,rfl⟩:=h0k hby
   rw [hi] at hi3;cases hi3
   obtain ⟨b1,b2,b3,b4⟩:=hb
   have hrun:=run_make (P:=P) w t e i z' (f0G ht) hi hiz kl kc l c b1 b2 (by omega) (by omega)
   have hcon:=c0G (φ:=φ) (hzc φ).cells hzl (by omega) c.toNat
   have hp:=e0q (e:=e) hR hcon
   refine ⟨_,rfl,_,_,_,hrun,?_,hp,Ext.push hR _ _⟩
   refine .slice (Phi.set_same _ _ _) (fun _=>rfl) (Nat.le_refl _) (by omega) (.inr ⟨?_,by simp⟩)
   simp
  ·cases hr
 ·cases hr
theorem i0H:∀ (vs:List Value) (off j:Nat) (cs:Array Value),off+j+vs.length≤cs.size →
  (vs.zipIdx j).foldl (fun cs (p:Value×Nat)=>cs.setIfInBounds (off+p.2) p.1) cs=⟨cs.toList.take (off+j)++(vs++cs.toList.drop (off+j+vs.length))⟩
 | [],off,j,cs,_=>by apply Array.ext';simp
 | v::vs,off,j,cs,hle=>by
  rw [List.zipIdx_cons,List.foldl_cons,show off+j+(v::vs).length=off+(j+1)+vs.length from by simp;omega]
  rw [i0H vs off (j+1) _ (by simp at hle ⊢;omega)]
  apply Array.ext'
  simp only [Array.toList_setIfInBounds]
  simp only [List.length_cons] at hle
  have hlt:off+j<cs.toList.length:=by simp;omega
  rw [← Nat.add_assoc,List.take_set,List.drop_set_of_lt (by omega)]
  rw [List.take_succ_eq_append_getElem (by omega)]
  rw [List.set_append,if_neg (by simp;omega)]
  have e1:off+j - (cs.toList.take (off+j)).length=0:=by simp;omega
  rw [e1]
  simp [List.append_assoc]
theorem d0R {place:Nat→Option (Nat×Nat)} {a:AAct} {tm:Array Value} {ds:List Deferred} (hG:GlobRel P φ) (hA:ActRel φ a tm):∀ {parts:List (Nat×Operand)} {pl:List (Nat×Nat×CO)} {cells l:List AV} {cells':List Value},
  d0g P place parts=.ok pl→d0z a cells pl=.ok l→ConL φ cells cells'→∃ l',Instr.fill place ⟨cells'⟩ (parts.map fun (i,x)=>(i,Act.eval ⟨tm,ds⟩ x))=some ⟨l'⟩∧ConL φ l l'
 | [],pl,cells,l,cells',hp,hf,hc=>by cases hp;cases hf;exact ⟨cells',rfl,hc⟩
 | (i,x)::parts,pl,cells,l,cells',hp,hf,hc=>by
  unfold d0g at hp
  split at hp
  ·rename_i off size hpl
   split at hp
   ·rename_i c hcx
    split at hp
    ·rename_i r hr
     cases hp
     have hcv:=G1 (ds:=ds) hcx hG hA
     unfold d0z at hf
     simp only at hf
     cases hb:(Nat.beq (c.ev a).cells.length size&&Nat.ble (off+(c.ev a).cells.length) cells.length) with
     | false=>rw [hb] at hf;cases hf
     | true =>
      rw [hb] at hf
      rw [Bool.and_eq_true] at hb
      have h1:=Nat.eq_of_beq_eq_true hb.1
      have h2:=Nat.le_of_ble_eq_true hb.2
      have hlen:=hcv.cells.length
      have hlc:=hc.length
      simp only [Array.length_toList] at hlen
      have hcon:ConL φ (B0 cells off (c.ev a).cells) (cells'.take off++((Act.eval ⟨tm,ds⟩ x).cells.toList++cells'.drop (off+(Act.eval ⟨tm,ds⟩ x).cells.toList.length))):=by
       unfold B0
       refine (hc.take off).append (hcv.cells.append ?_)
       rw [hcv.cells.length];exact hc.drop _
      obtain ⟨l',g1,g2⟩:=d0R hG hA hr hf hcon
      refine ⟨l',?_,g2⟩
      simp only [List.map_cons,Instr.fill,hpl]
      rw [if_neg (by simp;constructor <;> omega)]
      have hz:=i0H (Act.eval ⟨tm,ds⟩ x).cells.toList off 0 ⟨cells'⟩ (by simp;omega)
      simp only [Nat.add_zero] at hz
      rw [← g1]
      congr 1
      rw [← hz,← Array.foldl_toList]
      simp [Array.toList_zipIdx]
    ·cases hp
   ·cases hp
  ·cases hp
theorem d0S:∀ {l:List Field} {pl:List (Nat×Nat)},a0R P l=.ok pl→(l.mapM fun (f:Field)=>do pure (f.offset,← sizeOf f.type)).run P w=.ok pl w
 | [],pl,hp=>by cases hp;simp
 | f::l,pl,hp=>by
  unfold a0R at hp
  split at hp
  ·rename_i n hn
   split at hp
   ·rename_i r hr;cases hp
    simp only [List.mapM_cons,Sem.run_bind,D7 hn,Result.andThen_ok,Sem.run_pure,d0S hr]
   ·cases hp
  ·cases hp
theorem q0O {t:TypeId} {fields:Array Field} {z v:AV} {pl:List (Nat×Nat)} {parts:Array (Nat×Operand)} {q:List (Nat×Nat×CO)} {a:AAct} {tm:Array Value} {ds:List Deferred} (hG:GlobRel P φ) (hA:ActRel φ a tm)
  (ht:und P t=.ok (.struct fields)) (hz:J6 P t=.ok z) (hpl:a0R P fields.toList=.ok pl) (hq:d0g P (pl[·]?) parts.toList=.ok q) (hr:d0l z.cells q a=.ok v) :
  ∃ v',(Instr.build t (parts.map fun (i,x)=>(i,Act.eval ⟨tm,ds⟩ x))).run P w=.ok v' w∧Con φ v v':=by
 unfold d0l at hr
 split at hr
 ·rename_i l hl;cases hr
  obtain ⟨z',hz1,hz2⟩:=V2 (P:=P) (w:=w) hz
  have hcz:=(hz2 φ).cells
  obtain ⟨l',g1,g2⟩:=d0R (ds:=ds) hG hA hq hl hcz
  refine ⟨.agg ⟨l'⟩,?_,.agg g2⟩
  have hm:=d0S (w:=w) hpl
  have hmm:(fields.mapM fun (f:Field)=>do pure (f.offset,← sizeOf f.type)).run P w=.ok ⟨pl⟩ w:=by
   rw [Array.mapM_eq_mapM_toList,Sem.run_map,hm];rfl
  have e:(fun (i:Nat)=>(⟨pl⟩:Array (Nat×Nat))[i]?)=fun (i:Nat)=>pl[i]?:=by funext i;simp
  simp only [Instr.build,Sem.run_bind,hz1,Result.andThen_ok,h9 ht,hmm,e,Array.toList_map]
  simp only [g1,Sem.run_pure]
 ·cases hr
theorem p0s {t e:TypeId} {n size:Nat} {z v:AV} {parts:Array (Nat×Operand)} {q:List (Nat×Nat×CO)} {a:AAct} {tm:Array Value} {ds:List Deferred} (hG:GlobRel P φ) (hA:ActRel φ a tm)
  (ht:und P t=.ok (.array n e)) (hz:J6 P t=.ok z) (hs:M2 P e=.ok size) (hq:d0g P (fun i=>some (i*size,size)) parts.toList=.ok q) (hr:d0l z.cells q a=.ok v) :
  ∃ v',(Instr.build t (parts.map fun (i,x)=>(i,Act.eval ⟨tm,ds⟩ x))).run P w=.ok v' w∧Con φ v v':=by
 unfold d0l at hr
 split at hr
 ·rename_i l hl;cases hr
  obtain ⟨z',hz1,hz2⟩:=V2 (P:=P) (w:=w) hz
  have hcz:=(hz2 φ).cells
  obtain ⟨l',g1,g2⟩:=d0R (ds:=ds) hG hA hq hl hcz
  refine ⟨.agg ⟨l'⟩,?_,.agg g2⟩
  simp only [Instr.build,Sem.run_bind,hz1,Result.andThen_ok,h9 ht,D7 hs,Array.toList_map]
  simp only [g1,Sem.run_pure]
 ·cases hr
theorem j0E {t e:TypeId} {len es:Nat} {z:AV} {n:AN} {parts:Array (Nat×Operand)} {q:List (Nat×Nat×CO)} {a:AAct} {tm:Array Value} {ds:List Deferred} (hG:GlobRel P φ) (hA:ActRel φ a tm) (hR:Rel B w0 φ h w)
  (ht:und P t=.ok (.slice e)) (hz:J6 P e=.ok z) (hs:M2 P e=.ok es) (hle:¬ len*es>2 ^ 24) (hes:es≠0) (hzl:z.cells.length=es) (hq:d0g P (fun i=>some (i*es,es)) parts.toList=.ok q)
  (hr:Q2 len es (a0t z.cells len) q a h=.ok (n,h')) :
  ∃ v,n=.value v∧ValOf P B w0 φ h (Instr.buildSlice t len (parts.map fun (i,x)=>(i,Act.eval ⟨tm,ds⟩ x))) w v h':=by
 unfold Q2 at hr
 split at hr
 ·rename_i l hl;cases hr
  obtain ⟨z',hz1,hz2⟩:=V2 (P:=P) (w:=w) hz
  have hcz:=c0G (φ:=φ) (hz2 φ).cells hzl (by omega) len
  have hcz':ConL φ (a0t z.cells len) ((Array.range (len*es)).map (z'.cells[·%z'.cells.size]!)).toList:=hcz
  obtain ⟨l',g1,g2⟩:=d0R (ds:=ds) hG hA hq hl hcz'
  have hp:=e0q (e:=e) hR g2
  have hlen:l'.length=len*es:=by
   have:=g2.length
   have h2:l.length=(a0t z.cells len).length:=by
    clear hp g1 g2 hcz hcz' this
    have key:∀ {q:List (Nat×Nat×CO)} {c l:List AV},d0z a c q=.ok l→l.length=c.length:=by
     intro q
     induction q with
     | nil=>intro c l h;cases h;rfl
     | cons x q ih =>
      intro c l h
      rcases x with ⟨off,size,x⟩
      unfold d0z at h
      simp only at h
      cases hb:(Nat.beq (x.ev a).cells.length size&&Nat.ble (off+(x.ev a).cells.length) c.length) with
      | false=>rw [hb] at h;cases h
      | true =>
       rw [hb] at h
       rw [Bool.and_eq_true] at hb
       rw [ih h,N4 _ _ _ (Nat.le_of_ble_eq_true hb.2)]
    exact key hl
   rw [a0N,hzl] at h2;omega
  refine ⟨_,rfl,.slice (some ⟨w.heap.size,0,none⟩) len len,_,_,?_,?_,hp,Ext.push hR _ _⟩
  ·simp only [Instr.buildSlice,Sem.run_bind,h9 ht,Result.andThen_ok,D7 hs]
   rw [if_neg hle]
   by_cases h0:len*es=0
   ·rw [if_pos h0]
    have hl0:len=0:=by
     rcases Nat.mul_eq_zero.1 h0 with h | h
     ·exact h
     ·exact absurd h hes
    subst hl0
    simp only [Sem.run_bind,Sem.run_pure,Result.andThen_ok,Array.toList_map]
    have e1:(Array.range (0*es)).map (fun x=>(#[]:Array Value)[x%(#[]:Array Value).size]!)=(⟨((Array.range (0*es)).map (z'.cells[·%z'.cells.size]!)).toList⟩:Array Value):=by
     apply Array.ext';simp
    rw [e1]
    simp only [g1]
    simp [newRow]
   ·rw [if_neg h0]
    simp only [Sem.run_bind,hz1,Result.andThen_ok,Sem.run_pure,Array.toList_map]
    have e1:(Array.range (len*es)).map (fun x=>z'.cells[x%z'.cells.size]!)=(⟨((Array.range (len*es)).map (z'.cells[·%z'.cells.size]!)).toList⟩:Array Value):=by
     apply Array.ext';simp
    rw [e1]
    simp only [g1]
    simp [newRow]
  ·refine .slice (Phi.set_same _ _ _) (fun _=>rfl) (Nat.le_refl _) (Nat.le_refl _) (.inr ⟨?_,by simp⟩)
   show 0+len*es≤l'.length;omega
 ·cases hr
end Go.Dr

namespace Go.Dr
open Go.RowKit
variable {P:Program} {B:Nat} {w0 w:World} {φ:Phi} {h h':AH}
structure Src (P:Program) (B:Nat) (w0:World) (φ:Phi) (h:AH) (es n:Nat) (l:List AV) (len:Sem Nat) (cells:Sem (Array Value)):Prop where
 len:∀ w,len.run P w=.ok n w
 size:l.length=n*es
 cells:∀ w,Rel B w0 φ h w→∃ vs:List Value,ConL φ l vs∧cells.run P w=.ok ⟨vs⟩ w
theorem d0F {es n:Nat} {x:AV} {x':Value} {l:List AV} (hr:O3 h es x=.ok (n,l)) (hx:Con φ x x'):Src P B w0 φ h es n l (Builtin.lenOf x') (Builtin.firstCells es n x'):=by
 unfold O3 at hr
 split at hr
 ·cases hr;cases hx
  exact ⟨fun w=>rfl,by simp,fun w _=>⟨[],.nil,rfl⟩⟩
 ·rename_i id off len cap xx es'
  split at hr
  ·rename_i hes;subst hes
   split at hr
   ·rename_i l0 hl
    cases hr
    cases hx with
    | @slice _ _ _ _ c _ _ p ad hp hxx hc hlc hrm =>
     refine ⟨fun w=>rfl,?_,fun w hR=>?_⟩
     ·unfold loadN at hl
      split at hl
      ·rename_i vs ro hg
       cases hb:Nat.ble (off+n*es) vs.length with
       | false=>rw [hb] at hl;cases hl
       | true=>rw [hb] at hl;cases hl;have:=Nat.le_of_ble_eq_true hb;simp;omega
      ·cases hl
     ·obtain ⟨vs,hlen,hcells,hcon⟩:=c0T hl hR hp
      refine ⟨vs,hcon,?_⟩
      by_cases h0:n*es=0
      ·have:vs=[]:=List.length_eq_zero_iff.1 (by omega)
       subst this
       simp [Builtin.firstCells,h0,loadCells,loadCellsFrom]
      ·rcases hrm with hz | ⟨_,had⟩
       ·subst hz
        have:n=0:=by omega
        subst this;simp at h0
       ·subst had;exact K6 hlen hcells
   ·cases hr
  ·cases hr
 ·rename_i s
  split at hr
  ·rename_i hes;subst hes
   cases hr;cases hx
   refine ⟨fun w=>rfl,?_,fun w _=>⟨s.map fun b=>Value.int .u8 b.toNat,Y6 s,?_⟩⟩
   ·have:=(Y6 (φ:=φ) s).length;simp at this;simp [this]
   ·have e:(⟨⟨s⟩⟩:ByteArray).extract 0 s.length=⟨⟨s⟩⟩:=by
     have:=Lib.extract_data ⟨⟨s⟩⟩ 0 s.length
     cases e:(⟨⟨s⟩⟩:ByteArray).extract 0 s.length with
     | mk d=>rw [e] at this;rcases d with ⟨d⟩;simp at this;subst this;rfl
    show Result.ok _ w=_
    rw [e];simp
  ·cases hr
 ·cases hr
def Y0 (_P:Program) (e:TypeId) (zeros:Prop) [Decidable zeros] (size:Nat) (s:Value) (n:Nat) (appended:Sem (Array Value)) (base:Option Addr) (sLen sCap:Nat) (x:Value):Sem Value :=
 let need:=sLen+n
 if need≤sCap then do
  let new ← appended
  if let some a:=base then storeCells (a.add (sLen*size)) new.toList
  pure (.slice base need sCap)
 else do
  if (need:Int)>IntKind.i64.max∧(zeros∨(← typeInfo e).bytes=0) then runtimePanic (.error "growslice: len out of range")
  if Builtin.nextslicecap need sCap*(← typeInfo e).bytes>2 ^ 48 then (if zeros then runtimePanic (.error "growslice: len out of range") else do
   if !(← Builtin.mayShare size sLen n base x) then mark .noRoom
   unsupported (.resourceLimit "append: a slice or a string whose bytes no memory bears"))
  let newCap ← choose (.appendCap need sCap e)
  askRoom (newCap*(← typeInfo e).bytes)
  let old ← Builtin.firstCells size sLen s
  let new ← appended
  let rest:=Builtin.zeroCells (← zeroValue e).cells (newCap - need)
  pure (.slice (some (← newRow e (old++new++rest))) need newCap)
theorem l0v {e:TypeId} {zeros:Prop} [Decidable zeros] {es bytes n sLen sCap:Nat} {s x:Value} {appended:Sem (Array Value)} {base:Option Addr} {i:TypeInfo} {z':Value} {oldv newv:List Value}
  (hi:P.info? e=some i) (hiz:i.zero=some z') (hby:i.bytes=bytes)
  (hgt:sCap<sLen+n) (hb:(sLen+n)*bytes≤2 ^ 40) (hm:sLen+n≤2 ^ 40)
  (hold:(Builtin.firstCells es sLen s).run P w.drew=.ok ⟨oldv⟩ w.drew) (hnew:appended.run P w.drew=.ok ⟨newv⟩ w.drew) :
  ∃ c,sLen+n≤c∧(Y0 P e zeros es s n appended base sLen sCap x).run P w=.ok (.slice (some ⟨w.heap.size,0,none⟩) (sLen+n) c)
   (w.drew.alloc (.cells ⟨(oldv++newv)++(Builtin.zeroCells z'.cells (c - (sLen+n))).toList⟩ e)):=by
 subst hby
 refine ⟨grownCap w (sLen+n) sCap e,grownCap_ge w _ _ _,?_⟩
 have hn:Builtin.nextslicecap (sLen+n) sCap*i.bytes≤2*((sLen+n)*i.bytes):=by
  have:=nextslicecap_le hgt
  calc _≤(2*(sLen+n))*i.bytes:=Nat.mul_le_mul_right _ this
   _=_:=by rw [Nat.mul_assoc]
 have hn2:¬ (Builtin.nextslicecap (sLen+n) sCap*i.bytes>2 ^ 48):=by omega
 have hm2:¬ (((sLen+n:Nat):Int)>IntKind.i64.max):=by simp [IntKind.max,IntKind.signed,IntKind.bits];omega
 simp only [Y0]
 rw [if_neg (by omega)]
 simp only [Sem.run_bind,V1 hi,Result.andThen_ok,hm2,false_and,if_false,Sem.run_pure,hn2,run_choose,Question.forced,Bool.false_eq_true,World.drew_eq,run_askRoom,hold,hnew,zeroValue,hiz,newRow,run_newObj]
 have ez:∀ Z:Array Value,((⟨oldv⟩:Array Value)++⟨newv⟩++Z)=⟨oldv++newv++Z.toList⟩:=fun Z=>by apply Array.ext';simp
 rw [ez];rfl
theorem g0G {e:TypeId} {zeros:Prop} [Decidable zeros] {es n sLen sCap:Nat} {s x:Value} {appended:Sem (Array Value)} {base:Option Addr} {newv:List Value} {w':World}
  (hle:sLen+n≤sCap) (hnew:appended.run P w=.ok ⟨newv⟩ w) (hst:∀ a,base=some a→(storeCells (a.add (sLen*es)) newv).run P w=.ok () w') (hno:base=none→w'=w) :
  (Y0 P e zeros es s n appended base sLen sCap x).run P w=.ok (.slice base (sLen+n) sCap) w':=by
 simp only [Y0]
 rw [if_pos hle]
 cases base with
 | none=>simp only [Sem.run_bind,hnew,Result.andThen_ok,Sem.run_pure,hno rfl]
 | some a=>simp only [Sem.run_bind,hnew,Result.andThen_ok,Sem.run_pure,hst a rfl]
theorem j0v (z:Array Value) (n:Nat):(Builtin.zeroCells z n).toList.length=n*z.size:=by simp [Builtin.zeroCells]
theorem o0U {id off n:Nat} {l:List AV} (hl:loadN h id off n=.ok l):l.length=n:=by
 unfold loadN at hl
 split at hl
 ·rename_i vs ro hg
  cases hb:Nat.ble (off+n) vs.length with
  | false=>rw [hb] at hl;cases hl
  | true=>rw [hb] at hl;cases hl;have:=Nat.le_of_ble_eq_true hb;simp;omega
 ·cases hl
theorem l0w {e:TypeId} {es m c:Nat} {oldl new:List AV} {oldv newv:List Value} {z':Value} (hR:Rel B w0 φ h w) (hco:ConL φ oldl oldv) (hcn:ConL φ new newv) (hm:oldl.length+new.length=m*es) (hc:m≤c)
  (hzsz:z'.cells.size=es):∃ φ',Con φ' (.slice h.next 0 m m false es) (.slice (some ⟨w.heap.size,0,none⟩) m c) ∧
   Rel B w0 φ' (h.push (.cells (oldl++new) false)) (w.drew.alloc (.cells ⟨(oldv++newv)++(Builtin.zeroCells z'.cells (c - m)).toList⟩ e))∧Ext φ h φ' (h.push (.cells (oldl++new) false)):=by
 have hp:=f0H (e:=e) (rest:=(Builtin.zeroCells z'.cells (c - m)).toList) hR.drew (hco.append hcn) 0 0 (fun i _=>by omega)
 refine ⟨_,?_,hp,Ext.push hR _ _⟩
 refine .slice (Phi.set_same _ _ _) (fun e=>by cases e) hc hc (.inr ⟨?_,by simp⟩)
 show 0+c*es≤(oldv++newv).length+_
 rw [j0v,hzsz,List.length_append,← hco.length,← hcn.length,hm,← Nat.add_mul]
 have:m+(c - m)=c:=by omega
 rw [this];omega
theorem l0x {e:TypeId} {zeros:Prop} [Decidable zeros] {es bytes n:Nat} {s:AV} {s' x':Value} {new:List AV} {len:Sem Nat} {appended:Sem (Array Value)} {z:AV} {r:AN}
  (hby:m0x P e=.ok bytes) (hz:J6 P e=.ok z) (hes:es≠0) (hzl:z.cells.length=es)
  (hsrc:Src P B w0 φ h es n new len appended) (hR:Rel B w0 φ h w) (hs:Con φ s s') (hr:V0 es bytes s n new h=.ok (r,h')) :
  ∃ v base sLen sCap,s'=.slice base sLen sCap∧r=.value v∧ValOf P B w0 φ h (Y0 P e zeros es s' n appended base sLen sCap x') w v h':=by
 obtain ⟨i,z',hi,hiz,hzc⟩:=e0L hz
 obtain ⟨i2,hi2,hb2⟩:=h0k hby
 rw [hi] at hi2;cases hi2
 have hzsz:z'.cells.size=es:=by have:=(hzc φ).cells.length;simp at this;omega
 unfold V0 at hr
 split at hr
 ·
  cases hs
  ·split at hr
   ·rename_i h0;subst h0;cases hr
    obtain ⟨vs,hc,hrun⟩:=hsrc.cells w hR
    refine ⟨_,none,0,0,rfl,rfl,.pure hR (g0G (w':=w) (Nat.le_refl _) hrun (fun a e=>by cases e) (fun _=>rfl)) .nils⟩
   ·rename_i h0
    split at hr
    ·rename_i hb;cases hr
     obtain ⟨vs,hc,hrun⟩:=hsrc.cells _ hR.drew
     obtain ⟨c,hge,hrun2⟩:=l0v (zeros:=zeros) (es:=es) (bytes:=bytes) (n:=n) (sLen:=0) (sCap:=0) (s:=.slice none 0 0) (x:=x') (base:=none) (oldv:=[]) hi hiz hb2 (by omega) (by simpa using hb.1) (by simpa using hb.2) rfl hrun
     simp only [Nat.zero_add] at hge hrun2
     obtain ⟨φ',g1,g2,g3⟩:=l0w (e:=e) (es:=es) (m:=n) (c:=c) (oldl:=[]) (oldv:=[]) hR .nil hc (by simpa using hsrc.size) hge hzsz
     exact ⟨_,none,0,0,rfl,rfl,_,_,φ',hrun2,g1,g2,g3⟩
    ·cases hr
 ·rename_i id off ln cap xx es'
  split at hr
  ·cases hr
  ·rename_i hee
   have hee:es'=es:=by simpa using hee
   subst hee
   rw [o8] at hr
   cases hs with
   | @slice _ _ _ _ c _ _ p ad hp hxx hcc hlc hrm =>
    cases hbm:Nat.ble (ln+n) cap with
    | true =>
     rw [hbm] at hr
     have hle:ln+n≤cap:=Nat.le_of_ble_eq_true hbm
     simp only [cond_true] at hr
     split at hr
     ·rename_i h2 hst
      cases hr
      obtain ⟨vs,hc,hrun⟩:=hsrc.cells w hR
      obtain ⟨w',hs1,hs2,hs3⟩:=B8 (P:=P) hst hR hp hc
      refine ⟨_,some ad,ln,c,rfl,rfl,.slice (some ad) (ln+n) c,w',φ,?_,.slice hp hxx hcc (by omega) hrm,hs2,hs3⟩
      refine g0G (by omega) hrun (fun a ha=>?_) (fun e=>by cases e)
      cases ha
      rcases hrm with hz0 | ⟨_,had⟩
      ·have hn0:n=0:=by omega
       have:new=[]:=List.length_eq_zero_iff.1 (by rw [hsrc.size,hn0];simp)
       subst this
       cases hc
       cases hst
       simp only [storeCells,Sem.run_pure] at hs1 ⊢
       exact hs1
      ·subst had;rw [Addr.add_none,Nat.add_assoc];exact hs1
     ·cases hr
    | false =>
     rw [hbm] at hr
     have hgt:cap<ln+n:=by
      rcases Nat.lt_or_ge cap (ln+n) with h | h
      ·exact h
      ·rw [Nat.ble_eq_true_of_le h] at hbm;cases hbm
     simp only [cond_false] at hr
     split at hr
     ·rename_i hb
      split at hr
      ·rename_i old hold
       split at hr
       ·rename_i hsc
        have hlold:=o0U hold
        have hm:old.length+new.length=(ln+n)*es':=by rw [hlold,hsrc.size,Nat.add_mul]
        have hfirst:∀ w1:World,Rel B w0 φ h w1→∃ ov,ConL φ old ov∧(Builtin.firstCells es' ln (.slice (some ad) ln c)).run P w1=.ok ⟨ov⟩ w1:=by
         intro w1 hR1
         obtain ⟨ov,h1,h2,h3⟩:=c0T hold hR1 hp
         refine ⟨ov,h3,?_⟩
         by_cases h0:ln*es'=0
         ·have:ov=[]:=List.length_eq_zero_iff.1 (by omega)
          subst this
          simp [Builtin.firstCells,h0,loadCells,loadCellsFrom]
         ·rcases hrm with hz0 | ⟨_,had⟩
          ·have:ln=0:=by omega
           subst this;simp at h0
          ·subst had;exact K6 h1 h2
        have hrealloc:c<ln+n→∀ h1:AH,Rel B w0 φ h1 w→h1.next=h.next→∃ c' φ' w2,(Y0 P e zeros es' (.slice (some ad) ln c) n appended (some ad) ln c x').run P w=.ok (.slice (some ⟨w.heap.size,0,none⟩) (ln+n) c') w2 ∧
          Con φ' (.slice h.next 0 (ln+n) (ln+n) false es') (.slice (some ⟨w.heap.size,0,none⟩) (ln+n) c')∧Rel B w0 φ' (h1.push (.cells (old++new) false)) w2∧Ext φ h1 φ' (h1.push (.cells (old++new) false)):=by
         intro hlt h1 hR1 hn1
         obtain ⟨vs,hc,hrun⟩:=hsrc.cells _ hR.drew
         obtain ⟨ov,ho1,ho2⟩:=hfirst _ hR.drew
         obtain ⟨c',hge,hrun2⟩:=l0v (zeros:=zeros) (es:=es') (bytes:=bytes) (n:=n) (sLen:=ln) (sCap:=c) (s:=.slice (some ad) ln c) (x:=x') (base:=some ad) hi hiz hb2 hlt hb.1 hb.2 ho2 hrun
         obtain ⟨φ',g1,g2,g3⟩:=l0w (e:=e) (es:=es') (m:=ln+n) (c:=c') hR1 ho1 hc hm hge hzsz
         rw [hn1] at g1
         exact ⟨c',φ',_,hrun2,g1,g2,g3⟩
        split at hr
        ·
         cases hr
         have hc0:=hxx rfl
         obtain ⟨c',φ',w2,g1,g2,g3,g4⟩:=hrealloc (by omega) h hR rfl
         exact ⟨_,some ad,ln,c,rfl,rfl,_,w2,φ',g1,g2,g3,g4⟩
        ·split at hr
         ·rename_i ovs hg
          cases hr
          by_cases hin:ln+n≤c
          ·
           rcases hrm with hz0 | ⟨hroom,had⟩
           ·omega
           ·subst had
            obtain ⟨vs,hc,hrun⟩:=hsrc.cells w hR
            obtain ⟨ca,ce,lo,hi',k1,k2,k3,k4,k5⟩:=hR.obj _ _ _ hp hg
            have hlv:=hc.length
            have hnv:vs.length=n*es':=by rw [← hlv];exact hsrc.size
            have hmul:(ln+n)*es'≤c*es':=Nat.mul_le_mul_right _ hin
            have hsum:(ln+n)*es'=ln*es'+n*es':=Nat.add_mul _ _ _
            have hst:=a0h (P:=P) vs (p.off+off+ln*es') 0 w ca k1 (by omega) (fun j ja jb=>k5 rfl j (by omega) (by omega)) (c0z hsc hc)
            obtain ⟨ca',q1,q2,q3⟩:=R0 vs (p.off+off+ln*es') w ca k1
            have hw':Rel B w0 φ (h.kill id) (putCells w p.blk (p.off+off+ln*es') vs):=by
             refine (hR.kill id).world (O7 (hR.own _ _ _ hp hg rfl) _ _ _) fun j q oj e1 e2=>O6 _ _ _ _ ?_
             rw [AH.get_kill] at e2
             split at e2
             ·cases e2
             ·rename_i hj;exact hR.inj _ _ _ _ _ _ hj e1 hp e2 hg (.inr rfl)
            have hfr:φ h.next=none:=hR.fresh
            have hlay:=(hw'.promise (.cells (old++new) false)).lay (i:=h.next) (p:=⟨p.blk,p.off+off,p.room - off⟩) (o:=.cells (old++new) false) (Nat.lt_succ_self _) hfr (by rw [AH.get_push,if_pos (show h.next=(h.kill id).next from rfl)]) ?_ ?_ ?_
            ·refine ⟨_,some _,ln,c,rfl,rfl,.slice (some ⟨p.blk,p.off+off,none⟩) (ln+n) c,_,_,?_,?_,hlay,?_⟩
             ·refine g0G hin hrun (fun a ha=>?_) (fun e=>by cases e)
              cases ha
              rw [Addr.add_none];exact hst
             ·refine .slice (Phi.set_same _ _ _) (fun e=>by cases e) hin hin (.inr ⟨?_,by simp⟩)
              show 0+c*es'≤p.room - off;omega
             ·exact (Ext.kill hp).trans (Ext.push (hR.kill id) _ _)
            ·refine ⟨ca',ce,lo,hi',q1,?_,?_,fun i x hx=>?_,fun _ i ia ib=>k5 rfl i ?_ ?_⟩
             ·show (old++new).length≤p.room - off
              rw [List.length_append,hm];omega
             ·show p.off+off+(p.room - off)≤ca'.size;omega
             ·show ∃ y,ca'[p.off+off+i]? = some y∧_
              rw [q3]
              by_cases hi2:i<ln*es'
              ·rw [List.getElem?_append_left (by omega)] at hx
               rw [if_neg (by omega)]
               unfold loadN at hold
               rw [hg] at hold
               simp only at hold
               cases hbb:Nat.ble (off+ln*es') ovs.length with
               | false=>rw [hbb] at hold;cases hold
               | true =>
                rw [hbb] at hold;cases hold
                rw [List.getElem?_take,if_pos hi2,List.getElem?_drop] at hx
                obtain ⟨y,hy,hcy⟩:=k4 _ _ hx
                exact ⟨y,by rw [Nat.add_assoc];exact hy,hcy.mono (Phi.le_set _ hfr)⟩
              ·rw [List.getElem?_append_right (by omega)] at hx
               obtain ⟨y,hy,hcy⟩:=hc.get _ _ hx
               have hlt:=(List.getElem?_eq_some_iff.1 hy).1
               refine ⟨y,?_,hcy.mono (Phi.le_set _ hfr)⟩
               rw [if_pos (by omega),← hy];congr 1;omega
             ·show p.off≤i;have:p.off+off≤i:=ia;omega
             ·have h1:i<p.off+off+(p.room - off):=ib
              have h2:p.off+off≤i:=ia
              omega
            ·exact fun _=>(show B≤p.blk from hR.own _ p _ hp hg rfl)
            ·intro j q oj e1 e2 _
             have hne:j≠h.next:=fun e'=>by subst e';rw [hfr] at e1;cases e1
             rw [AH.get_push,if_neg (show ¬ j=(h.kill id).next from hne),AH.get_kill] at e2
             split at e2
             ·cases e2
             ·rename_i hj;exact (show q.blk≠p.blk from hR.inj _ _ _ _ _ _ hj e1 hp e2 hg (.inr rfl))
          ·obtain ⟨c',φ',w2,g1,g2,g3,g4⟩:=hrealloc (by omega) (h.kill id) (hR.kill id) rfl
           exact ⟨_,some ad,ln,c,rfl,rfl,_,w2,φ',g1,g2,g3,(Ext.kill hp).trans g4⟩
         ·cases hr
       ·cases hr
      ·cases hr
     ·cases hr
 ·cases hr
end Go.Dr

namespace Go.Dr
open Go.RowKit
variable {P:Program} {B:Nat} {w0 w:World} {φ:Phi} {h h':AH}
def q0g:TypeDesc→Bool
 | .int _=>true
 | _=>false
theorem n0d {t xt ty e:TypeId} {xd:TypeDesc} {es n sLen sCap:Nat} {base:Option Addr} {x':Value} (ht:und P t=.ok (.slice e)) (hxt:und P xt=.ok xd) (hi:q0g xd=false) (hs:M2 P e=.ok es) (hn:(Builtin.lenOf x').run P w=.ok n w) :
  (Builtin.append_ #[t,xt] ty #[.slice base sLen sCap,x']).run P w=(Y0 P e (false=true) es (.slice base sLen sCap) n (Builtin.firstCells es n x') base sLen sCap x').run P w:=by
 unfold Builtin.append_
 simp only [List.getElem?_toArray,List.getElem?_cons_zero,List.getElem?_cons_succ,Sem.run_bind,h9 ht,Result.andThen_ok,D7 hs,h9 hxt,Sem.run_pure]
 cases xd <;> first | (cases hi;done) | (rw [if_neg (by simp),Sem.run_bind,hn];rfl)
theorem l0u {t xt ty e:TypeId} {k k':IntKind} {i:TypeInfo} {es sLen sCap:Nat} {n:Int} {base:Option Addr} (ht:und P t=.ok (.slice e)) (hxt:und P xt=.ok (.int k)) (hs:M2 P e=.ok es) (hi:P.info? e=some i)
  (h0:0≤n) (h1:n≤2 ^ 40) (h2:n*i.bytes≤2 ^ 40) :
  (Builtin.append_ #[t,xt] ty #[.slice base sLen sCap,.int k' n]).run P w =
   (Y0 P e True es (.slice base sLen sCap) n.toNat (if n.toNat*es=0 then pure #[] else do pure (Builtin.zeroCells (← zeroValue e).cells n.toNat)) base sLen sCap (.int k' n)).run P w:=by
 have hw:IntKind.i64.wrap n=n:=by rw [IntKind.wrap_i64];omega
 unfold Builtin.append_
 simp only [List.getElem?_toArray,List.getElem?_cons_zero,List.getElem?_cons_succ,Sem.run_bind,h9 ht,Result.andThen_ok,D7 hs,h9 hxt,Sem.run_pure]
 have ha:(asInt (.int k' n)).run P w=.ok n w:=rfl
 rw [if_pos trivial,Sem.run_bind,ha,Result.andThen_ok,hw]
 rw [if_neg (by omega),Sem.run_bind,V1 hi,Result.andThen_ok]
 rw [if_neg (by omega)]
 rfl
theorem q0h {t xt ty e:TypeId} {xd:TypeDesc} {es bytes:Nat} {s x z:AV} {s' x':Value} {r:AN} (ht:und P t=.ok (.slice e)) (hxt:und P xt=.ok xd) (hi:q0g xd=false) (hs:M2 P e=.ok es)
  (hby:m0x P e=.ok bytes) (hz:J6 P e=.ok z) (hes:es≠0) (hzl:z.cells.length=es) (hR:Rel B w0 φ h w) (hcs:Con φ s s') (hcx:Con φ x x') (hr:a0S es bytes s x h=.ok (r,h')) :
  ∃ v,r=.value v∧ValOf P B w0 φ h (Builtin.append_ #[t,xt] ty #[s',x']) w v h':=by
 unfold a0S at hr
 split at hr
 ·rename_i n new hsrc
  have src:=d0F (P:=P) (B:=B) (w0:=w0) hsrc hcx
  obtain ⟨v,base,sLen,sCap,rfl,rfl,v',w',φ',g1,g2,g3,g4⟩:=l0x (zeros:=false=true) (x':=x') hby hz hes hzl src hR hcs hr
  exact ⟨v,rfl,v',w',φ',by rw [n0d ht hxt hi hs (src.len w)];exact g1,g2,g3,g4⟩
 ·cases hr
theorem o0R {t xt ty e:TypeId} {k:IntKind} {es bytes:Nat} {s x z:AV} {s' x':Value} {r:AN} (ht:und P t=.ok (.slice e)) (hxt:und P xt=.ok (.int k)) (hs:M2 P e=.ok es)
  (hby:m0x P e=.ok bytes) (hz:J6 P e=.ok z) (hes:es≠0) (hzl:z.cells.length=es) (hR:Rel B w0 φ h w) (hcs:Con φ s s') (hcx:Con φ x x') (hr:e0b es bytes z.cells s x h=.ok (r,h')) :
  ∃ v,r=.value v∧ValOf P B w0 φ h (Builtin.append_ #[t,xt] ty #[s',x']) w v h':=by
 unfold e0b at hr
 split at hr
 ·rename_i k' n
  split at hr
  ·rename_i hb
   cases hcx
   obtain ⟨i,z',hi,hiz,hzc⟩:=e0L hz
   obtain ⟨i2,hi2,hb2⟩:=h0k hby
   rw [hi] at hi2;cases hi2
   have src:Src P B w0 φ h es n.toNat (a0t z.cells n.toNat) (pure n.toNat) (if n.toNat*es=0 then pure #[] else do pure (Builtin.zeroCells (← zeroValue e).cells n.toNat)):=by
    refine ⟨fun w=>rfl,by rw [a0N,hzl],fun w _=>?_⟩
    have hc:=c0G (φ:=φ) (hzc φ).cells hzl (by omega) n.toNat
    refine ⟨_,hc,?_⟩
    have hzsz:z'.cells.size=es:=by have:=(hzc φ).cells.length;simp at this;omega
    split
    ·rename_i h0
     have:(Array.range (n.toNat*es)).map (fun x=>z'.cells[x%z'.cells.size]!)=#[]:=by
      apply Array.ext';simp [h0]
     rw [this];rfl
    ·simp only [zeroValue,Sem.run_bind,V1 hi,hiz,Result.andThen_ok,Sem.run_pure]
     congr 1
     unfold Builtin.zeroCells
     rw [hzsz]
   obtain ⟨v,base,sLen,sCap,rfl,rfl,v',w',φ',g1,g2,g3,g4⟩:=l0x (zeros:=True) (x':=.int k' n) hby hz hes hzl src hR hcs hr
   exact ⟨v,rfl,v',w',φ',by rw [l0u ht hxt hs hi hb.1 hb.2.1 (by rw [hb2];exact hb.2.2)];exact g1,g2,g3,g4⟩
  ·cases hr
 ·cases hr
theorem i0d {es n k:Nat} {x:AV} {x':Value} {l:List AV} (hr:O3 h es x=.ok (n,l)) (hx:Con φ x x') (hk:k≤n) (hR:Rel B w0 φ h w) :
  ∃ vs:List Value,ConL φ (l.take (k*es)) vs∧(Builtin.firstCells es k x').run P w=.ok ⟨vs⟩ w:=by
 unfold O3 at hr
 split at hr
 ·cases hr;cases hx
  exact ⟨[],by simpa using ConL.nil,rfl⟩
 ·rename_i id off len cap xx es'
  split at hr
  ·rename_i hes;subst hes
   split at hr
   ·rename_i l0 hl
    cases hr
    cases hx with
    | @slice _ _ _ _ c _ _ p ad hp hxx hc hlc hrm =>
     obtain ⟨vs,hlen,hcells,hcon⟩:=c0T hl hR hp
     refine ⟨vs.take (k*es),hcon.take _,?_⟩
     have hle:k*es≤n*es:=Nat.mul_le_mul_right _ hk
     by_cases h0:k*es=0
     ·simp [Builtin.firstCells,h0,loadCells,loadCellsFrom]
     ·rcases hrm with hz | ⟨_,had⟩
      ·have:k=0:=by omega
       subst this;simp at h0
      ·subst had
       refine K6 (by simp;omega) fun j v hj=>?_
       rw [List.getElem?_take] at hj
       split at hj
       ·exact hcells j v hj
       ·cases hj
   ·cases hr
  ·cases hr
 ·rename_i s
  split at hr
  ·rename_i hes;subst hes
   cases hr;cases hx
   have hc:=(Y6 (φ:=φ) s).take (k*1)
   rw [Nat.mul_one] at hc ⊢
   refine ⟨_,hc,?_⟩
   have:=Lib.extract_data ⟨⟨s⟩⟩ 0 k
   show Result.ok _ w=_
   cases e:(⟨⟨s⟩⟩:ByteArray).extract 0 k with
   | mk d=>rw [e] at this;rcases d with ⟨d⟩;simp at this;subst this;simp
  ·cases hr
 ·cases hr
theorem o0S {t xt ty e:TypeId} {es:Nat} {d s:AV} {d' s':Value} {r:AN} (ht:und P t=.ok (.slice e)) (hs:M2 P e=.ok es) (hR:Rel B w0 φ h w) (hcd:Con φ d d') (hcs:Con φ s s') (hr:c0x es d s h=.ok (r,h')) :
  ∃ v,r=.value v∧ValOf P B w0 φ h (Builtin.copy_ #[t,xt] ty #[d',s']) w v h':=by
 unfold c0x at hr
 split at hr
 ·rename_i n l hsrc
  split at hr
  ·cases hr
   cases hcd
   have src:=d0F (P:=P) (B:=B) (w0:=w0) hsrc hcs
   refine ⟨_,rfl,.pure hR (v':=.int .i64 0) ?_ (.int _ _)⟩
   have hf:(Builtin.firstCells es 0 s').run P w=.ok #[] w:=by
    obtain ⟨vs,hc,hrun⟩:=i0d (P:=P) hsrc hcs (Nat.zero_le _) hR
    simp only [Nat.zero_mul,List.take_zero] at hc
    cases hc
    exact hrun
   unfold Builtin.copy_
   simp only [List.getElem?_toArray,List.getElem?_cons_zero,List.getElem?_cons_succ,Sem.run_bind,h9 ht,Result.andThen_ok,src.len w,Sem.run_pure,D7 hs,Nat.min_zero]
   rw [hf]
   rfl
  ·rename_i id off len cap xx es'
   split at hr
   ·rename_i hee;subst hee
    split at hr
    ·rename_i h2 hst
     cases hr
     cases hcd with
     | @slice _ _ _ _ c _ _ p ad hp hxx hcc hlc hrm =>
      have hfirst:∃ vs,ConL φ (l.take (min n len*es)) vs∧(Builtin.lenOf s').run P w=.ok n w∧(Builtin.firstCells es (Nat.min n len) s').run P w=.ok ⟨vs⟩ w:=by
       have src:=d0F (P:=P) (B:=B) (w0:=w0) hsrc hcs
       obtain ⟨vs,hc,hrun⟩:=i0d (P:=P) (k:=min n len) hsrc hcs (Nat.min_le_left _ _) hR
       exact ⟨vs,hc,src.len w,hrun⟩
      obtain ⟨vs,hc,hl1,hrun⟩:=hfirst
      obtain ⟨w',hs1,hs2,hs3⟩:=B8 (P:=P) hst hR hp hc
      refine ⟨_,rfl,.int .i64 (Nat.min n len:Nat),w',φ,?_,.int _ _,hs2,hs3⟩
      unfold Builtin.copy_
      simp only [List.getElem?_toArray,List.getElem?_cons_zero,List.getElem?_cons_succ,Sem.run_bind,h9 ht,Result.andThen_ok,hl1,Sem.run_pure,D7 hs,hrun]
      have hst2:(storeCells ad vs).run P w=.ok () w':=by
       rcases hrm with hz0 | ⟨_,had⟩
       ·have:len=0:=by omega
        subst this
        have h0:l.take (min n 0*es)=[]:=by simp
        rw [h0] at hc hst
        cases hc;cases hst
        exact hs1
       ·subst had;exact hs1
      rw [hst2];rfl
    ·cases hr
   ·cases hr
  ·cases hr
 ·cases hr
end Go.Dr

namespace Go.Dr
open Go.RowKit
variable {P : Program} {B : Nat} {w0 w : World} {φ : Phi} {h h' : AH}
def k03 (_P : Program) (empty : Bool) (n : Nat) (cs : Array Value) (f : Field) (_ : Unit) : Sem (ForInStep Unit) :=
  if f.name ≠ "_" then do
    Instr.checkKey empty n f.type (← Go.part f.type cs f.offset)
    pure (ForInStep.yield ())
  else pure (ForInStep.yield ())
theorem d0f {d n : Nat} {empty : Bool} {cs : List AV} {cs' : List Value} (ih : ∀ {t : TypeId} {v : AV} {v' : Value}, c0N P d t v = true → Con φ v v' → (Instr.checkKey empty n t v').run P w = .ok () w)
    (hc : ConL φ cs cs') : ∀ {l : List Field}, e0D P (c0N P d) cs l = true → (forIn l () (k03 P empty n ⟨cs'⟩)).run P w = .ok () w
  | [], _ => by simp
  | f :: l, h => by
    unfold e0D at h
    split at h
    · rename_i v hv
      rw [Bool.and_eq_true] at h
      obtain ⟨v', hrun, hcv⟩ := g0h (w := w) hv hc
      rw [List.forIn_cons]
      by_cases hn : f.name ≠ "_"
      · simp only [k03, if_pos hn, Sem.run_bind, hrun, Result.andThen_ok, ih h.1 hcv, Sem.run_pure]
        exact d0f ih hc h.2
      · simp only [k03, if_neg hn, Sem.run_bind, Sem.run_pure, Result.andThen_ok]
        exact d0f ih hc h.2
    · cases h
theorem c0K {empty : Bool} : ∀ {d n : Nat}, d ≤ n → ∀ {t : TypeId} {v : AV} {v' : Value}, c0N P d t v = true → Con φ v v' → (Instr.checkKey empty n t v').run P w = .ok () w
  | 0, _, _, _, _, _, h, _ => by cases h
  | d + 1, 0, hd, _, _, _, _, _ => by omega
  | d + 1, n + 1, hd, t, v, v', h, hc => by
    have ih := fun {t : TypeId} {v : AV} {v' : Value} => @c0K empty d n (by omega) t v v'
    unfold c0N at h
    split at h
    · rename_i k ht
      have hu : (underlying t).run P w = .ok (.int k) w := by simp [underlying, ht]
      split at h
      · cases hc; simp only [Instr.checkKey, Sem.run_bind, hu, Result.andThen_ok]; rfl
      · cases h
    · rename_i ht
      have hu : (underlying t).run P w = .ok .string w := by simp [underlying, ht]
      split at h
      · cases hc; simp only [Instr.checkKey, Sem.run_bind, hu, Result.andThen_ok]; rfl
      · cases h
    · rename_i ht
      have hu : (underlying t).run P w = .ok .bool w := by simp [underlying, ht]
      split at h
      · cases hc; simp only [Instr.checkKey, Sem.run_bind, hu, Result.andThen_ok]; rfl
      · cases h
    · rename_i fields ht
      have hu : (underlying t).run P w = .ok (.struct fields) w := by simp [underlying, ht]
      split at h
      · cases hc with
        | agg hc =>
          have := d0f (empty := empty) (n := n) ih hc h
          simp only [Instr.checkKey, Sem.run_bind, hu, Result.andThen_ok]
          rw [← Array.forIn_toList]
          erw [this]
          rfl
      · cases h
    · cases h
inductive ConF (φ : Phi) : Option (Nat × AV) → Option (Nat × Value) → Prop
  | none : ConF φ none none
  | some {i : Nat} {v : AV} {v' : Value} (h : Con φ v v') : ConF φ (some (i, v)) (some (i, v'))
theorem e02 {kt : TypeId} {k : AV} {k' : Value} (hk : Con φ k k') : ∀ {l : List AEntry} {es : List MapEntry} {i : Nat} {r : Option (Nat × AV)}, a09 P kt k l i = .ok r → ConE φ l es →
    ∃ r', (Instr.findAsking kt k' es i).run P w = .ok r' w ∧ ConF φ r r'
  | _, _, i, r, h, .nil => by cases h; exact ⟨none, rfl, .none⟩
  | e :: l, e' :: es, i, r, h, .cons hke hv hb t => by
    unfold a09 at h
    split at h
    · rename_i he; cases h
      have := e0B (P := P) (w := w) (show 20 ≤ Op.maxDepth from by decide) he hk hke
      exact ⟨_, by simp only [Instr.findAsking, Op.equal, Sem.run_bind, this, Result.andThen_ok, if_true, Sem.run_pure], .some hv⟩
    · rename_i he
      have := e0B (P := P) (w := w) (show 20 ≤ Op.maxDepth from by decide) he hk hke
      obtain ⟨r', h1, h2⟩ := e02 hk h t
      refine ⟨r', ?_, h2⟩
      simp only [Instr.findAsking, Op.equal, Sem.run_bind, this, Result.andThen_ok, Bool.false_eq_true, if_false]
      exact h1
    · cases h
theorem i02 {D : Nat} {kt : TypeId} {kind : TypeDesc} {x y : Value} {b b0 : Bool} (ht : und P kt = .ok kind) (hs : Instr.sameNow kind x y = some b) (he : (Op.equalIn (D + 1) kt x y).run P w = .ok b0 w) : b0 = b := by
  unfold Instr.sameNow at hs
  split at hs
  · split at hs
    · rename_i hk; cases hs; subst hk
      simp only [Op.equalIn, Sem.run_bind, h9 ht, Result.andThen_ok, if_true, Sem.run_pure] at he
      cases he; rfl
    · cases hs
  · cases hs
    simp only [Op.equalIn, Sem.run_bind, h9 ht, Result.andThen_ok, Sem.run_pure] at he
    cases he; rfl
  · cases hs
    simp only [Op.equalIn, Sem.run_bind, h9 ht, Result.andThen_ok, Sem.run_pure] at he
    cases he; rfl
  · cases hs
theorem i03 {kt : TypeId} {kind : TypeDesc} {k : AV} {k' : Value} (ht : und P kt = .ok kind) (hk : Con φ k k') : ∀ {l : List AEntry} {es : List MapEntry} {i : Nat} {r : Option (Nat × AV)} {r' : Option (Nat × Value)},
    a09 P kt k l i = .ok r → ConE φ l es → Instr.findNow kind k' es i = some r' → ConF φ r r'
  | _, _, i, r, r', h, .nil, hn => by cases h; cases hn; exact .none
  | e :: l, e' :: es, i, r, r', h, .cons hke hv hb t, hn => by
    unfold a09 at h
    unfold Instr.findNow at hn
    split at h
    · rename_i he; cases h
      have hq := e0B (P := P) (w := default) (show 20 ≤ 19 + 1 from by decide) he hk hke
      split at hn
      · cases hn; exact .some hv
      · rename_i hs; have := i02 ht hs hq; cases this
      · cases hn
    · rename_i he
      have hq := e0B (P := P) (w := default) (show 20 ≤ 19 + 1 from by decide) he hk hke
      split at hn
      · rename_i hs; have := i02 ht hs hq; cases this
      · exact i03 ht hk h t hn
      · cases hn
    · cases h
theorem X6 {kt : TypeId} {kind : TypeDesc} {k : AV} {k' : Value} {l : List AEntry} {es : List MapEntry} {r : Option (Nat × AV)} (ht : und P kt = .ok kind) (hk : Con φ k k') (h : a09 P kt k l 0 = .ok r) (hc : ConE φ l es) :
    ∃ r', (Instr.findKey kt k' es).run P w = .ok r' w ∧ ConF φ r r' := by
  unfold Instr.findKey
  simp only [Sem.run_bind, h9 ht, Result.andThen_ok]
  cases hn : Instr.findNow kind k' es 0 with
  | some r' => exact ⟨r', rfl, i03 ht hk h hc hn⟩
  | none => exact e02 hk h hc
theorem e0C {d : Nat} {t : TypeId} {v : AV} (h : c0N P d t v = true) : ∃ kind, und P t = .ok kind := by
  cases d with
  | zero => cases h
  | succ d =>
    unfold c0N at h
    split at h
    all_goals first
      | (rename_i ht; exact ⟨_, by unfold und ofO; rw [ht]⟩)
      | cases h
theorem D3 {b clock : Nat} {es : Array MapEntry} (hb : w.heap[b]? = some (.map es clock)) : (getObj b).run P w = .ok (.map es clock) w := by simp [getObj, Sem.run, hb]
theorem m0u {t kt et : TypeId} {z : AV} {ok : Bool} {x k v : AV} {x' k' : Value} (ht : und P t = .ok (.map kt et)) (hz : J6 P et = .ok z) (hR : Rel B w0 φ h w) (hx : Con φ x x') (hk : Con φ k k') (hr : d09 P kt z ok h x k = .ok v) :
    ∃ v', (Instr.lookup t x' k' ok).run P w = .ok v' w ∧ Con φ v v' := by
  unfold d09 at hr
  split at hr
  · rename_i es he
    split at hr
    · rename_i hko
      obtain ⟨kind, hkind⟩ := e0C hko
      obtain ⟨z', hz1, hz2⟩ := V2 (P := P) (w := w) hz
      have hfin : ∀ r, a09 P kt k es 0 = .ok r → ∀ v, v = (match r with | some (_, v) => g08 ok v true | none => g08 ok z false) → ∃ v', (Instr.lookup t x' k' ok).run P w = .ok v' w ∧ Con φ v v' := by
        intro r hf v hv
        have key : ∀ es' : List MapEntry, ConE φ es es' → ((Instr.checkKey (⟨es'⟩ : Array MapEntry).isEmpty 10000 kt k').run P w = .ok () w) ∧ ∃ r', (Instr.findKey kt k' es').run P w = .ok r' w ∧ ConF φ r r' :=
          fun es' hce => ⟨c0K (show 10 ≤ 10000 from by decide) hko hk, X6 hkind hk hf hce⟩
        have hend : ∀ r', ConF φ r r' → ∃ v', ((match r' with | some (_, v) => (pure (v, true) : Sem (Value × Bool)) | none => (do pure (← zeroValue et, false))) >>= fun q => (pure (if ok = true then Value.tuple #[q.1, .bool q.2] else q.1) : Sem Value)).run P w = .ok v' w ∧ Con φ v v' := by
          intro r' hr'
          subst hv
          cases hr' with
          | none => cases ok
                    · exact ⟨z', by simp [hz1], hz2 φ⟩
                    · exact ⟨_, by simp [hz1], .tuple (.cons (hz2 φ) (.cons (.bool _) .nil))⟩
          | some hc => cases ok
                       · exact ⟨_, by simp, hc⟩
                       · exact ⟨_, by simp, .tuple (.cons hc (.cons (.bool _) .nil))⟩
        unfold k0q at he
        split at he
        · cases he; cases hx
          obtain ⟨h1, r', h2, h3⟩ := key [] .nil
          obtain ⟨v', h4, h5⟩ := hend r' h3
          refine ⟨v', ?_, h5⟩
          rw [← h4]
          unfold Instr.lookup
          simp only [Sem.run_bind, h9 ht, Result.andThen_ok, Sem.run_pure, h1, h2]
          cases r' <;> simp [hz1]
        · split at he
          · rename_i l0 c0 hg
            cases he
            cases hx with
            | map hp =>
              obtain ⟨es', g1, g2⟩ := hR.obj _ _ _ hp hg
              obtain ⟨h1, r', h2, h3⟩ := key es' g2
              obtain ⟨v', h4, h5⟩ := hend r' h3
              refine ⟨v', ?_, h5⟩
              rw [← h4]
              unfold Instr.lookup
              simp only [Sem.run_bind, h9 ht, Result.andThen_ok, Sem.run_pure, D3 g1, h1, h2]
              cases r' <;> simp [hz1]
          · cases he
        · cases he
      split at hr
      · rename_i i v0 hf; cases hr; exact hfin _ hf _ rfl
      · rename_i hf; cases hr; exact hfin _ hf _ rfl
      · cases hr
    · cases hr
  · cases hr
theorem World.putObj_below {b : Nat} (hB : B ≤ b) (o : Obj) : Below B w (w.putObj b o) :=
  ⟨rfl, rfl, rfl, by simp [World.putObj], fun k hk => World.putObj_heap_other (by omega)⟩
theorem X7 {b clock : Nat} {es : Array MapEntry} (o : Obj) (hb : w.heap[b]? = some (.map es clock)) : (setObj b o).run P w = .ok () (w.putObj b o) := by simp [setObj, Sem.run, hb, World.putObj]
theorem b0v {id clock clock' : Nat} {l l' : List AEntry} {es es' : List MapEntry} {p : Pl} (hR : Rel B w0 φ h w) (hp : φ id = some p) (hg : h.get id = some (.map l clock)) (hb : w.heap[p.blk]? = some (.map ⟨es⟩ clock)) (hc : ConE φ l' es') :
    Rel B w0 φ (h.set id (.map l' clock')) (w.putObj p.blk (.map ⟨es'⟩ clock')) :=
  hR.write hp hg rfl rfl (World.putObj_below (hR.own _ _ _ hp hg rfl) _) (fun _ hk => World.putObj_heap_other hk)
    ⟨es', World.putObj_heap_same (Array.getElem?_eq_some_iff.1 hb).1, hc⟩
theorem ConE.set {k v : AV} {k' v' : Value} (hk : Con φ k k') (hv : Con φ v v') : ∀ {i : Nat} {l : List AEntry} {es : List MapEntry}, ConE φ l es → ConE φ (setVal k v i l) (es.modify i fun e => { e with key := k', val := v' })
  | 0, _, _, .nil => by simpa [setVal] using ConE.nil
  | i + 1, _, _, .nil => by simpa [setVal] using ConE.nil
  | 0, _ :: _, _ :: _, .cons h1 h2 h3 t => .cons hk hv h3 t
  | i + 1, _ :: _, _ :: _, .cons h1 h2 h3 t => .cons h1 h2 h3 (t.set hk hv)
theorem ConE.setKey {k : AV} {k' : Value} (hk : Con φ k k') : ∀ {i : Nat} {l : List AEntry} {es : List MapEntry}, ConE φ l es → ConE φ (setKey k i l) (es.modify i fun e => { e with key := k' })
  | 0, _, _, .nil => by simpa [Go.Dr.setKey] using ConE.nil
  | i + 1, _, _, .nil => by simpa [Go.Dr.setKey] using ConE.nil
  | 0, _ :: _, _ :: _, .cons h1 h2 h3 t => .cons hk h2 h3 t
  | i + 1, _ :: _, _ :: _, .cons h1 h2 h3 t => .cons h1 h2 h3 (t.setKey hk)
theorem ConE.setVal {v : AV} {v' : Value} (hv : Con φ v v') : ∀ {i : Nat} {l : List AEntry} {es : List MapEntry}, ConE φ l es → ConE φ (e0a v i l) (es.modify i fun e => { e with val := v' })
  | 0, _, _, .nil => by simpa [e0a] using ConE.nil
  | i + 1, _, _, .nil => by simpa [e0a] using ConE.nil
  | 0, _ :: _, _ :: _, .cons h1 h2 h3 t => .cons h1 hv h3 t
  | i + 1, _ :: _, _ :: _, .cons h1 h2 h3 t => .cons h1 h2 h3 (t.setVal hv)
theorem ConE.erase : ∀ {i : Nat} {l : List AEntry} {es : List MapEntry}, ConE φ l es → ConE φ (a0F i l) (es.eraseIdx i)
  | 0, _, _, .nil => by simpa [a0F] using ConE.nil
  | i + 1, _, _, .nil => by simpa [a0F] using ConE.nil
  | 0, _ :: _, _ :: _, .cons h1 h2 h3 t => t
  | i + 1, _ :: _, _ :: _, .cons h1 h2 h3 t => .cons h1 h2 h3 t.erase
theorem ConE.append {k v : AV} {k' v' : Value} {b : Nat} (hk : Con φ k k') (hv : Con φ v v') : ∀ {l : List AEntry} {es : List MapEntry}, ConE φ l es → ConE φ (l ++ [⟨k, v, b⟩]) (es ++ [⟨k', v', b⟩])
  | _, _, .nil => .cons hk hv rfl .nil
  | _ :: _, _ :: _, .cons h1 h2 h3 t => .cons h1 h2 h3 (t.append hk hv)
theorem ConE.get {i : Nat} : ∀ {l : List AEntry} {es : List MapEntry}, ConE φ l es → ∀ {e : AEntry}, l[i]? = some e → ∃ e', es[i]? = some e' ∧ Con φ e.key e'.key ∧ Con φ e.val e'.val ∧ e'.born = e.born := by
  intro l es hc
  induction hc generalizing i with
  | nil => intro e h; simp at h
  | cons h1 h2 h3 t ih =>
    intro e h
    cases i with
    | zero => simp at h; subst h; exact ⟨_, rfl, h1, h2, h3⟩
    | succ i => simpa using ih (by simpa using h)
theorem m0v {x y : AV} {x' y' : Value} {n : Nat} (h : m0z x y = true) (hx : Con φ x x') (hy : Con φ y y') : Instr.sameBits n x' y' = true := by
  unfold m0z at h
  split at h
  · split at h
    · cases hx; cases hy; cases n <;> exact h
    · cases h
  · split at h
    · cases hx; cases hy
      rw [Bool.and_eq_true] at h
      have := beq_iff_eq.1 h.1; subst this
      have := beq_iff_eq.1 h.2; subst this
      cases n <;> simp [Instr.sameBits]
    · cases h
  · split at h
    · cases hx; cases hy
      cases n <;> (unfold Instr.sameBits; rw [q00]; exact h)
    · cases h
  · cases h
theorem k0o {n : Nat} : ∀ {x y : List AV} {x' y' : List Value}, k06 x y = true → ConL φ x x' → ConL φ y y' → x'.length = y'.length ∧ (x'.zip y').all (fun (a, b) => Instr.sameBits n a b) = true
  | [], [], _, _, _, .nil, .nil => ⟨rfl, rfl⟩
  | _ :: _, _ :: _, _, _, h, .cons hx tx, .cons hy ty => by
    simp only [k06, Bool.and_eq_true] at h
    obtain ⟨h1, h2⟩ := k0o h.2 tx ty
    refine ⟨by simp [h1], ?_⟩
    simp only [List.zip_cons_cons, List.all_cons, Bool.and_eq_true]
    exact ⟨m0v h.1 hx hy, h2⟩
theorem q05 {x y : AV} {x' y' : Value} {n : Nat} (h : k0r x y = true) (hx : Con φ x x') (hy : Con φ y y') : Instr.sameBits (n + 1) x' y' = true := by
  unfold k0r at h
  split at h
  · split at h
    · cases hx with
      | agg hx => cases hy with
        | agg hy =>
          obtain ⟨h1, h2⟩ := k0o (n := n) h hx hy
          simp only [Instr.sameBits, Bool.and_eq_true]
          exact ⟨by simp [h1], h2⟩
    · cases h
  · exact m0v h hx hy
theorem k0p {k : AV} : ∀ {i : Nat} {l : List AEntry}, h0H k i l = true → ∃ e, l[i]? = some e ∧ k0r e.key k = true
  | _, [], h => by simp [h0H] at h
  | 0, e :: _, h => ⟨e, rfl, h⟩
  | i + 1, _ :: l, h => by simpa using k0p (l := l) h
theorem h0F {i : Nat} {k : AV} {k' : Value} {l : List AEntry} {es : List MapEntry} (h : h0H k i l = true) (hk : Con φ k k') (hc : ConE φ l es) :
    (Instr.keyThatStays ((((⟨es⟩ : Array MapEntry)[i]?).map (·.key)).getD k') k').run P w = .ok k' w := by
  obtain ⟨e, he, hs⟩ := k0p h
  obtain ⟨e', he', h1, _, _⟩ := hc.get he
  have : (⟨es⟩ : Array MapEntry)[i]? = some e' := by simpa using he'
  rw [this]
  simp only [Option.map_some, Option.getD_some]
  unfold Instr.keyThatStays
  rw [show (10000 : Nat) = 9999 + 1 from rfl, if_pos (q05 hs h1 hk)]
  rfl
theorem g06 (es : List MapEntry) (i : Nat) (f : MapEntry → MapEntry) : (⟨es⟩ : Array MapEntry).modify i f = ⟨es.modify i f⟩ := by
  apply Array.ext'; simp
theorem m0w {t kt et : TypeId} {m k v : AV} {m' k' v' : Value} (ht : und P t = .ok (.map kt et)) (hR : Rel B w0 φ h w) (hm : Con φ m m') (hk : Con φ k k') (hv : Con φ v v') (hr : d0B P kt h m k v = .ok h') :
    ∃ w', (Instr.mapUpdate t m' k' v').run P w = .ok () w' ∧ Rel B w0 φ h' w' ∧ Ext φ h φ h' := by
  unfold d0B at hr
  split at hr
  · split at hr
    · rename_i l clock hg
      split at hr
      · rename_i hko
        obtain ⟨kind, hkind⟩ := e0C hko
        cases hm with
        | map hp =>
          obtain ⟨es, g1, g2⟩ := hR.obj _ _ _ hp hg
          have hck := c0K (P := P) (w := w) (empty := false) (show 10 ≤ 10000 from by decide) hko hk
          split at hr
          · rename_i i v0 hf
            obtain ⟨r', h1, h2⟩ := X6 (w := w) hkind hk hf g2
            cases h2 with
            | some h2 =>
              split at hr
              · rename_i hka
                cases hr
                refine ⟨_, ?_, b0v hR hp hg g1 (g2.set hk hv), .write hp _⟩
                simp only [Instr.mapUpdate, Sem.run_bind, h9 ht, Result.andThen_ok, D3 g1, hck, h1, h0F hka hk g2, g06]
                exact X7 _ g1
              · cases hr
          · rename_i hf
            obtain ⟨r', h1, h2⟩ := X6 (w := w) hkind hk hf g2
            cases h2
            cases hr
            refine ⟨_, ?_, b0v hR hp hg g1 (g2.append hk hv), .write hp _⟩
            simp only [Instr.mapUpdate, Sem.run_bind, h9 ht, Result.andThen_ok, D3 g1, hck, h1]
            rw [X7 _ g1]
            simp
          · cases hr
      · cases hr
    · cases hr
  · cases hr
theorem j0N {t kt et : TypeId} {z m k : AV} {m' k' : Value} {r : AN} (ht : und P t = .ok (.map kt et)) (hz : J6 P et = .ok z) (hR : Rel B w0 φ h w) (hm : Con φ m m') (hk : Con φ k k') (hr : a0u P kt z h m k = .ok (r, h')) :
    ∃ v, r = .value v ∧ ValOf P B w0 φ h (Instr.mapEntry t m' k') w v h' := by
  unfold a0u at hr
  split at hr
  · split at hr
    · rename_i l clock hg
      split at hr
      · rename_i hko
        obtain ⟨kind, hkind⟩ := e0C hko
        cases hm with
        | map hp =>
          obtain ⟨es, g1, g2⟩ := hR.obj _ _ _ hp hg
          have hck := c0K (P := P) (w := w) (empty := false) (show 10 ≤ 10000 from by decide) hko hk
          split at hr
          · rename_i i v0 hf
            obtain ⟨r', h1, h2⟩ := X6 (w := w) hkind hk hf g2
            cases h2 with
            | @some _ _ v1 h2 =>
              split at hr
              · rename_i e he
                split at hr
                · rename_i hka
                  cases hr
                  obtain ⟨e', he', _, _, hborn⟩ := g2.get he
                  have heA : (⟨es⟩ : Array MapEntry)[i]? = some e' := by simpa using he'
                  refine ⟨_, rfl, .tuple #[v1, goInt e.born], _, φ, ?_, .tuple (.cons h2 (.cons (.int _ _) .nil)), b0v hR hp hg g1 (g2.setKey hk), .write hp _⟩
                  simp only [Instr.mapEntry, Sem.run_bind, h9 ht, Result.andThen_ok, D3 g1, hck, h1, h0F hka hk g2, g06]
                  rw [X7 _ g1]
                  simp [heA, hborn]
                · cases hr
              · cases hr
          · rename_i hf
            obtain ⟨r', h1, h2⟩ := X6 (w := w) hkind hk hf g2
            cases h2
            cases hr
            obtain ⟨z', hz1, hz2⟩ := V2 (P := P) (w := w) hz
            refine ⟨_, rfl, .tuple #[z', goInt clock], _, φ, ?_, .tuple (.cons (hz2 φ) (.cons (.int _ _) .nil)), b0v hR hp hg g1 (g2.append hk (hz2 φ)), .write hp _⟩
            simp only [Instr.mapEntry, Sem.run_bind, h9 ht, Result.andThen_ok, D3 g1, hck, h1, hz1]
            rw [X7 _ g1]
            simp
          · cases hr
      · cases hr
    · cases hr
  · cases hr
end Go.Dr

namespace Go.Dr
open Go.RowKit
variable {P:Program} {B:Nat} {w0 w:World} {φ:Phi} {h h':AH}
theorem h0o {b:Int}:∀ {l:List AEntry} {es:List MapEntry} {i k:Nat},ConE φ l es→g0l b l k=some i→es.findIdx? (fun e=>(e.born:Int) == b)=some (i - k)∧k≤i
 | _,_,i,k,.nil,h=>by cases h
 | e::l,e'::es,i,k,.cons _ _ hb t,h=>by
  unfold g0l at h
  rw [List.findIdx?_cons,hb]
  cases hc:((e.born:Int) == b) with
  | true=>rw [hc] at h;cases h;simp
  | false =>
   rw [hc] at h
   obtain ⟨h1,h2⟩:=h0o t h
   simp only [Bool.false_eq_true,if_false,h1,Option.map_some]
   exact ⟨by congr 1;omega,by omega⟩
theorem h0Q {t:TypeId} {m s v:AV} {m' s' v':Value} (hR:Rel B w0 φ h w) (hm:Con φ m m') (hs:Con φ s s') (hv:Con φ v v') (hr:a0c h m s v=.ok h') :
  ∃ w',(Instr.entryStore t m' s' v').run P w=.ok () w'∧Rel B w0 φ h' w'∧Ext φ h φ h':=by
 unfold a0c at hr
 split at hr
 ·rename_i id _ b
  split at hr
  ·rename_i l clock hg
   split at hr
   ·rename_i i hi
    cases hr
    cases hs
    cases hm with
    | map hp =>
     obtain ⟨es,g1,g2⟩:=hR.obj _ _ _ hp hg
     obtain ⟨h1,h2⟩:=h0o g2 hi
     have h1':(⟨es⟩:Array MapEntry).findIdx? (fun e=>(e.born:Int) == b)=some i:=by
      rw [← List.findIdx?_toArray] at h1;simpa using h1
     refine ⟨_,?_,b0v hR hp hg g1 (g2.setVal hv),.write hp _⟩
     have ha:∀ k,(asInt (.int k b)).run P w=.ok b w:=fun _=>rfl
     simp only [Instr.entryStore,Sem.run_bind,D3 g1,Result.andThen_ok,ha,h1',g06]
     exact X7 _ g1
   ·cases hr
  ·cases hr
 ·cases hr
theorem n0j {t e ty:TypeId} {es:Nat} {z x:AV} {x':Value} {r:AN} (ht:und P t=.ok (.slice e)) (hz:J6 P e=.ok z) (hzl:z.cells.length=es) (hes:es≠0) (hR:Rel B w0 φ h w) (hx:Con φ x x')
  (hr:c0k es z.cells x h=.ok (r,h')):∃ v,r=.value v∧ValOf P B w0 φ h (Builtin.clear_ #[t] ty #[x']) w v h':=by
 unfold c0k at hr
 split at hr
 ·cases hr;cases hx
  refine ⟨_,rfl,.pure hR (v':=.tuple #[]) ?_ (.tuple .nil)⟩
  unfold Builtin.clear_
  simp only [List.getElem?_toArray,List.getElem?_cons_zero,Sem.run_bind,h9 ht,Result.andThen_ok,Sem.run_pure]
 ·rename_i id off len cap xx es'
  split at hr
  ·rename_i he
   subst he
   cases hx with
   | @slice _ _ _ _ c _ _ p ad hp hxx hc hlc hrm =>
    split at hr
    ·rename_i h0
     subst h0
     cases hr
     refine ⟨_,rfl,.pure hR (v':=.tuple #[]) ?_ (.tuple .nil)⟩
     unfold Builtin.clear_
     simp only [List.getElem?_toArray,List.getElem?_cons_zero,Sem.run_bind,h9 ht,Result.andThen_ok,Sem.run_pure]
    ·rename_i h0
     split at hr
     ·rename_i h1 hst
      cases hr
      rcases hrm with hz0 | ⟨_,rfl⟩
      ·omega
      obtain ⟨i,z',hi,hiz,hzc⟩:=e0L hz
      have hcz:=c0G (φ:=φ) (hzc φ).cells hzl (by omega) len
      have hzsz:z'.cells.size=es':=by have:=(hzc φ).cells.length;simp at this;omega
      rw [← hzsz] at hcz
      obtain ⟨w',g1,g2,g3⟩:=B8 (P:=P) hst hR hp hcz
      refine ⟨_,rfl,.tuple #[],w',φ,?_,.tuple .nil,g2,g3⟩
      unfold Builtin.clear_
      obtain ⟨n,rfl⟩:∃ n,len=n+1:=⟨len - 1,by omega⟩
      simp only [List.getElem?_toArray,List.getElem?_cons_zero,Sem.run_bind,h9 ht,Result.andThen_ok,zeroValue,V1 hi,hiz,Sem.run_pure,Builtin.zeroCells]
      rw [hzsz] at g1 ⊢
      rw [g1]
      rfl
     ·cases hr
  ·cases hr
 ·cases hr
theorem l0E {t kt et xt ty:TypeId} {m k:AV} {m' k':Value} {r:AN} (ht:und P t=.ok (.map kt et)) (hR:Rel B w0 φ h w) (hm:Con φ m m') (hk:Con φ k k') (hr:a0T P kt m k h=.ok (r,h')) :
  ∃ v,r=.value v∧ValOf P B w0 φ h (Builtin.delete_ #[t,xt] ty #[m',k']) w v h':=by
 unfold a0T at hr
 split at hr
 ·split at hr
  ·rename_i hko
   cases hr;cases hm
   have hck:=c0K (P:=P) (w:=w) (empty:=true) (show 10≤10000 from by decide) hko hk
   refine ⟨_,rfl,.pure hR (v':=.tuple #[]) ?_ (.tuple .nil)⟩
   unfold Builtin.delete_
   simp only [List.getElem?_toArray,List.getElem?_cons_zero,List.getElem?_cons_succ,Sem.run_bind,h9 ht,Result.andThen_ok,hck,Sem.run_pure]
  ·cases hr
 ·split at hr
  ·rename_i l clock hg
   split at hr
   ·rename_i hko
    obtain ⟨kind,hkind⟩:=e0C hko
    cases hm with
    | @map _ p hp =>
     obtain ⟨es,g1,g2⟩:=hR.obj _ _ _ hp hg
     have hck:=c0K (P:=P) (w:=w) (empty:=(⟨es⟩:Array MapEntry).isEmpty) (show 10≤10000 from by decide) hko hk
     split at hr
     ·rename_i i v0 hf
      obtain ⟨r',h1,h2⟩:=X6 (w:=w) hkind hk hf g2
      cases h2 with
      | some h2 =>
       cases hr
       refine ⟨_,rfl,.tuple #[],_,φ,?_,.tuple .nil,b0v hR hp hg g1 g2.erase,.write hp _⟩
       have he:(⟨es⟩:Array MapEntry).eraseIdxIfInBounds i=⟨es.eraseIdx i⟩:=by apply Array.ext';simp
       unfold Builtin.delete_
       simp only [List.getElem?_toArray,List.getElem?_cons_zero,List.getElem?_cons_succ,Sem.run_bind,h9 ht,Result.andThen_ok,D3 g1,hck,h1,he]
       rw [X7 _ g1]
       simp
     ·rename_i hf
      obtain ⟨r',h1,h2⟩:=X6 (w:=w) hkind hk hf g2
      cases h2
      cases hr
      have hsame:Rel B w0 φ h (w.putObj p.blk (.map ⟨es⟩ clock)):=hR.world (World.putObj_below (hR.own _ _ _ hp hg rfl) _) fun j q oj e1 e2=>by
       by_cases hq:q.blk=p.blk
       ·rw [hq,World.putObj_heap_same (Array.getElem?_eq_some_iff.1 g1).1,g1]
       ·exact World.putObj_heap_other hq
      refine ⟨_,rfl,.tuple #[],_,φ,?_,.tuple .nil,hsame,.refl _ _⟩
      unfold Builtin.delete_
      simp only [List.getElem?_toArray,List.getElem?_cons_zero,List.getElem?_cons_succ,Sem.run_bind,h9 ht,Result.andThen_ok,D3 g1,hck,h1]
      rw [X7 _ g1]
      simp
     ·cases hr
   ·cases hr
  ·cases hr
 ·cases hr
theorem o0W {t kt et ty:TypeId} {x v:AV} {x':Value} (ht:und P t=.ok (.map kt et)) (hR:Rel B w0 φ h w) (hx:Con φ x x') (hr:f0s h x=.ok v):∃ v',(Builtin.len_ #[t] ty #[x']).run P w=.ok v' w∧Con φ v v':=by
 unfold f0s at hr
 split at hr
 ·cases hr;cases hx
  exact ⟨.int .i64 0,by simp only [Builtin.len_,List.getElem?_toArray,List.getElem?_cons_zero,Sem.run_bind,h9 ht,Result.andThen_ok];rfl,.int _ _⟩
 ·split at hr
  ·rename_i l clock hg;cases hr
   cases hx with
   | map hp =>
    obtain ⟨es,g1,g2⟩:=hR.obj _ _ _ hp hg
    have hlen:es.length=l.length:=by
     clear hg g1
     induction g2 with
     | nil=>rfl
     | cons _ _ _ _ ih=>simp [ih]
    refine ⟨.int .i64 l.length,?_,.int _ _⟩
    simp only [Builtin.len_,List.getElem?_toArray,List.getElem?_cons_zero,Sem.run_bind,h9 ht,Result.andThen_ok,D3 g1]
    simp [goInt,hlen]
  ·cases hr
 ·cases hr
theorem o0X {t ty:TypeId} {x v:AV} {x':Value} (ht:und P t=.ok .string) (hx:Con φ x x') (hr:g09 x=.ok v):∃ v',(Builtin.len_ #[t] ty #[x']).run P w=.ok v' w∧Con φ v v':=by
 unfold g09 at hr
 split at hr
 ·cases hr;cases hx
  exact ⟨_,by simp only [Builtin.len_,List.getElem?_toArray,List.getElem?_cons_zero,Sem.run_bind,h9 ht,Result.andThen_ok];rfl,.int _ _⟩
 ·cases hr
theorem o0Y {t e ty:TypeId} {x v:AV} {x':Value} (ht:und P t=.ok (.slice e)) (hx:Con φ x x') (hr:O1 x=.ok v):∃ v',(Builtin.len_ #[t] ty #[x']).run P w=.ok v' w∧Con φ v v':=by
 unfold O1 at hr
 split at hr
 ·cases hr;cases hx
  exact ⟨_,by simp only [Builtin.len_,List.getElem?_toArray,List.getElem?_cons_zero,Sem.run_bind,h9 ht,Result.andThen_ok];rfl,.int _ _⟩
 ·cases hr;cases hx
  exact ⟨_,by simp only [Builtin.len_,List.getElem?_toArray,List.getElem?_cons_zero,Sem.run_bind,h9 ht,Result.andThen_ok];rfl,.int _ _⟩
 ·cases hr
theorem o0Z {t e ty:TypeId} {x v:AV} {x':Value} (ht:und P t=.ok (.slice e)) (hx:Con φ x x') (hr:h0a x=.ok v):∃ v',(Builtin.cap_ #[t] ty #[x']).run P w=.ok v' w∧Con φ v v':=by
 unfold h0a at hr
 split at hr
 ·cases hr;cases hx
  exact ⟨_,by simp only [Builtin.cap_,List.getElem?_toArray,List.getElem?_cons_zero,Sem.run_bind,h9 ht,Result.andThen_ok];rfl,.int _ _⟩
 ·cases hr
  cases hx with
  | slice hp hxx hc hl hr =>
   have:=hxx rfl
   subst this
   exact ⟨_,by simp only [Builtin.cap_,List.getElem?_toArray,List.getElem?_cons_zero,Sem.run_bind,h9 ht,Result.andThen_ok];rfl,.int _ _⟩
 ·cases hr
theorem i0m {o:AObj} {O:Obj} (hR:Rel B w0 φ h w) (ho:ObjRel (φ.set h.next ⟨w.heap.size,0,0⟩) (w.alloc O) ⟨w.heap.size,0,0⟩ o) {s:Sem Value} (hs:s.run P w=.ok (.pointer (some ⟨w.heap.size,0,none⟩)) (w.alloc O)) :
  ValOf P B w0 φ h s w (.ptr h.next 0) (h.push o) :=
 ⟨_,_,_,hs,Con.ptr (off:=0) (Phi.set_same _ _ _),hR.push ho,Ext.push hR _ _⟩
theorem Y2 (w:World) (O:Obj):(w.alloc O).heap[w.heap.size]? = some O:=by show (w.heap.push _)[_]? = _;simp
theorem l0F {t:TypeId} {x:AV} {x':Value} {r:AN} (ht:und P t=.ok .string) (hR:Rel B w0 φ h w) (hx:Con φ x x') (hr:a0d h x=.ok (r,h')):∃ v,r=.value v∧ValOf P B w0 φ h (Instr.range t x') w v h':=by
 unfold a0d at hr
 split at hr
 ·rename_i s;cases hr;cases hx
  refine ⟨_,rfl,i0m (o:=.siter s 0) (O:=.stringIter ⟨⟨s⟩⟩ 0) hR ⟨rfl,Y2 _ _⟩ ?_⟩
  simp only [Instr.range,Sem.run_bind,h9 ht,Result.andThen_ok,Sem.run_pure,run_newObj]
  rfl
 ·cases hr
theorem l0G {t kt et:TypeId} {x:AV} {x':Value} {r:AN} (ht:und P t=.ok (.map kt et)) (hR:Rel B w0 φ h w) (hx:Con φ x x') (hr:U9 h x=.ok (r,h')):∃ v,r=.value v∧ValOf P B w0 φ h (Instr.range t x') w v h':=by
 unfold U9 at hr
 split at hr
 ·cases hr;cases hx
  refine ⟨_,rfl,i0m (o:=.miter none 0 [] 0) (O:=.mapIter none 0 #[] 0) hR ⟨rfl,none,Y2 _ _,rfl⟩ ?_⟩
  simp only [Instr.range,Sem.run_bind,h9 ht,Result.andThen_ok,Sem.run_pure,run_newObj]
  rfl
 ·rename_i m
  split at hr
  ·rename_i l clock hg
   cases hr
   cases hx with
   | @map _ p hp =>
    obtain ⟨es,g1,g2⟩:=hR.obj _ _ _ hp hg
    refine ⟨_,rfl,i0m (o:=.miter (some m) clock [] clock) (O:=.mapIter (some p.blk) clock #[] clock) hR ⟨rfl,some p.blk,Y2 _ _,p,Phi.le_set _ hR.fresh _ _ hp,rfl⟩ ?_⟩
    simp only [Instr.range,Sem.run_bind,h9 ht,Result.andThen_ok,Sem.run_pure,run_newObj,D3 g1]
    rfl
  ·cases hr
 ·cases hr
theorem n0k {ty:TypeId} {id:Nat} {p:Pl} {r:AN} (hR:Rel B w0 φ h w) (hp:φ id=some p) (hr:i06 h id=.ok (r,h')) :
  ∃ v,r=.value v∧ValOf P B w0 φ h (Instr.next (.pointer (some ⟨p.blk,0,none⟩)) true ty) w v h':=by
 unfold i06 at hr
 split at hr
 ·rename_i s pos hg
  obtain ⟨g0,g1⟩:=hR.obj _ _ _ hp hg
  have hget:(getObj p.blk).run P w=.ok (.stringIter ⟨⟨s⟩⟩ pos) w:=by simp [getObj,Sem.run,g1]
  have hsz:(⟨⟨s⟩⟩:ByteArray).size=s.length:=rfl
  cases hb:Nat.blt pos s.length with
  | true =>
   have hlt:pos<s.length:=by simpa [Nat.blt_eq] using hb
   rw [hb] at hr
   simp only [cond_true] at hr
   rw [o8] at hr
   cases hr
   have hset:∀ o,(setObj p.blk o).run P w=.ok () (w.putObj p.blk o):=fun o=>by simp [setObj,Sem.run,g1,World.putObj]
   refine ⟨_,rfl,.tuple #[.bool true,goInt pos,.int .i32 (Utf8.decode ⟨⟨s⟩⟩ pos).1],w.putObj p.blk (.stringIter ⟨⟨s⟩⟩ (pos+(Utf8.decode ⟨⟨s⟩⟩ pos).2)),φ,?_,.tuple (.cons (.bool _) (.cons (.int _ _) (.cons (.int _ _) .nil))),?_,.write hp _⟩
   ·simp only [Instr.next,Sem.run_bind,hget,Result.andThen_ok]
    rw [hsz,if_pos hlt]
    simp only [Sem.run_bind,hset,Result.andThen_ok,Sem.run_pure]
   ·exact hR.write hp hg rfl rfl (World.putObj_below (hR.own _ _ _ hp hg rfl) _) (fun k hk=>World.putObj_heap_other hk) ⟨g0,World.putObj_heap_same (Array.getElem?_eq_some_iff.1 g1).1⟩
  | false =>
   have hlt:¬ pos<s.length:=by
    intro h;rw [show Nat.blt pos s.length=true from by simpa [Nat.blt_eq] using h] at hb;cases hb
   rw [hb] at hr
   cases hr
   refine ⟨_,rfl,.pure hR (v':=.tuple #[.bool false]) ?_ (.tuple (.cons (.bool _) .nil))⟩
   simp only [Instr.next,Sem.run_bind,hget,Result.andThen_ok]
   rw [hsz,if_neg hlt]
   rfl
 ·cases hr
theorem ConE.filter {f:Nat→Bool}:∀ {l:List AEntry} {es:List MapEntry},ConE φ l es→ConE φ (l.filter fun e=>f e.born) (es.filter fun e=>f e.born)
 | _,_,.nil=>.nil
 | e::l,e'::es,.cons h1 h2 h3 t=>by
  rw [List.filter_cons,List.filter_cons,h3]
  split
  ·exact .cons h1 h2 h3 t.filter
  ·exact t.filter
theorem ConE.all {f:Nat→Bool}:∀ {l:List AEntry} {es:List MapEntry},ConE φ l es→(es.all fun e=>f e.born)=l.all fun e=>f e.born
 | _,_,.nil=>rfl
 | _::_,_::_,.cons h1 h2 h3 t=>by simp [h3,t.all]
theorem ConE.isEmpty:∀ {l:List AEntry} {es:List MapEntry},ConE φ l es→es.isEmpty=l.isEmpty
 | _,_,.nil=>rfl
 | _::_,_::_,.cons ..=>rfl
theorem n0l {ty:TypeId} {id:Nat} {p:Pl} {r:AN} (hR:Rel B w0 φ h w) (hp:φ id=some p) (hr:k0s h id=.ok (r,h')) :
  ∃ v,r=.value v∧ValOf P B w0 φ h (Instr.next (.pointer (some ⟨p.blk,0,none⟩)) false ty) w v h':=by
 unfold k0s at hr
 split at hr
 ·rename_i m since seen last hg
  obtain ⟨g0,m',g1,g2⟩:=hR.obj _ _ _ hp hg
  have hget:(getObj p.blk).run P w=.ok (.mapIter m' since ⟨seen⟩ last) w:=by simp [getObj,Sem.run,g1]
  split at hr
  ·cases hr
   have:m'=none:=g2
   subst this
   refine ⟨_,rfl,.pure hR (v':=.tuple #[.bool false]) ?_ (.tuple (.cons (.bool _) .nil))⟩
   simp only [Instr.next,Sem.run_bind,hget,Result.andThen_ok]
   rfl
  ·rename_i m
   obtain ⟨q,hq,rfl⟩:=g2
   split at hr
   ·rename_i l clock hgm
    obtain ⟨es,k1,k2⟩:=hR.obj _ _ _ hq hgm
    split at hr
    ·cases hr
    ·rename_i hall
     have hall':¬ ((!(⟨seen⟩:Array Nat).isEmpty&&!(⟨es⟩:Array MapEntry).isEmpty&&(⟨es⟩:Array MapEntry).all (fun e=>decide (e.born ≥ last)))=true):=by
      intro hh
      apply hall
      rw [← hh]
      have e1:(⟨seen⟩:Array Nat).isEmpty=seen.isEmpty:=by cases seen <;> rfl
      have e2:(⟨es⟩:Array MapEntry).isEmpty=l.isEmpty:=by rw [← k2.isEmpty];cases es <;> rfl
      have e3:((⟨es⟩:Array MapEntry).all fun e=>decide (e.born ≥ last))=l.all fun e=>Nat.ble last e.born:=by
       rw [← k2.all (f:=fun b=>Nat.ble last b)]
       simp only [List.all_toArray]
       congr 1;funext e
       rw [Bool.eq_iff_iff];simp
      rw [e1,e2,e3]
     have hfil:=k2.filter (f:=fun b=>!seen.contains b)
     have hleft:(⟨es⟩:Array MapEntry).filter (fun e=>!(⟨seen⟩:Array Nat).contains e.born)=⟨es.filter fun e=>!seen.contains e.born⟩:=by
      apply Array.ext';simp
     generalize hL:es.filter (fun e=>!seen.contains e.born)=L at hleft hfil
     split at hr
     ·rename_i hl
      rw [hl] at hfil
      cases hfil
      cases hr
      refine ⟨_,rfl,.pure hR (v':=.tuple #[.bool false]) ?_ (.tuple (.cons (.bool _) .nil))⟩
      simp only [Instr.next,Sem.run_bind,hget,Result.andThen_ok,D3 k1]
      rw [if_neg hall']
      simp only [hleft]
      simp [Question.forced]
     ·rename_i e hl
      rw [hl] at hfil
      cases hfil with
      | @cons _ e' _ _ c1 c2 c3 t =>
       cases t
       split at hr
       ·rename_i hsince
        cases hr
        have hset:∀ o,(setObj p.blk o).run P w=.ok () (w.putObj p.blk o):=fun o=>by simp [setObj,Sem.run,g1,World.putObj]
        have hso:e'.born<since:=by rw [c3];exact hsince
        refine ⟨_,rfl,.tuple #[.bool true,e'.key,e'.val],w.putObj p.blk (.mapIter (some q.blk) since ((⟨seen⟩:Array Nat).push e'.born) clock),φ,?_,.tuple (.cons (.bool _) (.cons c1 (.cons c2 .nil))),?_,.write hp _⟩
        rotate_left
        ·refine hR.write (w':=w.putObj p.blk (.mapIter (some q.blk) since ((⟨seen⟩:Array Nat).push e'.born) clock)) hp hg rfl rfl (World.putObj_below (hR.own _ _ _ hp hg rfl) _) (fun k hk=>World.putObj_heap_other hk) ?_
         refine ⟨g0,some q.blk,?_,q,hq,rfl⟩
         rw [World.putObj_heap_same (Array.getElem?_eq_some_iff.1 g1).1,c3]
         simp
        ·simp only [Instr.next,Sem.run_bind,hget,Result.andThen_ok,D3 k1]
         rw [if_neg hall']
         simp only [hleft]
         simp [Question.forced,hso,hset]
       ·cases hr
     ·cases hr
   ·cases hr
 ·cases hr
theorem o00 {ty:TypeId} {it:AV} {it':Value} {s:Bool} {r:AN} (hR:Rel B w0 φ h w) (hi:Con φ it it') (hr:a0v h it s=.ok (r,h')):∃ v,r=.value v∧ValOf P B w0 φ h (Instr.next it' s ty) w v h':=by
 unfold a0v at hr
 split at hr
 ·rename_i id
  cases hi with
  | @ptr _ _ p hp =>
   have hoff:p.off=0:=by
    split at hr
    ·unfold i06 at hr;split at hr
     ·rename_i hg;exact (hR.obj _ _ _ hp hg).1
     ·cases hr
    ·unfold k0s at hr;split at hr
     ·rename_i hg;exact (hR.obj _ _ _ hp hg).1
     ·cases hr
   rw [hoff]
   split at hr
   ·exact n0k hR hp hr
   ·exact n0l hR hp hr
 ·cases hr
end Go.Dr

namespace Go.Dr
open Go.RowKit
variable {P:Program} {B:Nat} {w0 w:World} {φ:Phi} {h h':AH}
theorem k0g {b:Nat}:∀ {l:List AEntry} {es:List MapEntry} {e:AEntry},ConE φ l es→l.find? (fun e=>e.born == b)=some e→∃ e',es.find? (·.born == b)=some e'∧Con φ e.key e'.key∧Con φ e.val e'.val
 | _,_,e,.nil,h=>by cases h
 | x::l,x'::es,e,.cons h1 h2 h3 t,h=>by
  rw [List.find?_cons] at h ⊢
  rw [h3]
  split at h
  ·cases h;exact ⟨x',rfl,h1,h2⟩
  ·exact k0g t h
theorem n0F {it v:AV} {it':Value} (hR:Rel B w0 φ h w) (hi:Con φ it it') (hr:d0j h it=.ok v) :
  ∃ v',(Instr.entry it').run P w=.ok v' w∧Con φ v v':=by
 unfold d0j at hr
 split at hr
 ·rename_i id
  split at hr
  ·rename_i m since seen stepped hg
   cases hi with
   | @ptr _ _ p hp =>
    obtain ⟨hoff,m',g1,q,hq,rfl⟩:=hR.obj _ _ _ hp hg
    split at hr
    ·rename_i b es clock hb hgm
     obtain ⟨es',k1,k2⟩:=hR.obj _ _ _ hq hgm
     split at hr
     ·rename_i hcl
      split at hr
      ·rename_i e he
       cases hr
       obtain ⟨e',he',c1,c2⟩:=k0g k2 he
       refine ⟨.tuple #[e'.key,e'.val],?_,.tuple (.cons c1 (.cons c2 .nil))⟩
       have hget:(getObj p.blk).run P w=.ok (.mapIter (some q.blk) since ⟨seen⟩ stepped) w:=by simp [getObj,Sem.run,g1]
       have hback:(⟨seen⟩:Array Nat).back? = some b:=by
        rw [← hb];simp
       have hf:(⟨es'⟩:Array MapEntry).find? (·.born == b)=some e':=by
        rw [← he'];simp
       rw [hoff]
       simp only [Nat.add_zero]
       simp only [Instr.entry,Sem.run_bind,hget,Result.andThen_ok,hback,D3 k1,hf]
       simp [hcl]
      ·cases hr
     ·cases hr
    ·cases hr
  ·cases hr
 ·cases hr
theorem Z4 {t:TypeId} {ok:Bool} {v:AV} (hr:Y7 P ok t=.ok v):ok=true∧∃ z z',J6 P t=.ok z∧(zeroValue t).run P w=.ok z' w∧v=.tuple [z,.bool false]∧Con φ v (.tuple #[z',.bool false]):=by
 unfold Y7 at hr
 split at hr
 ·split at hr
  ·rename_i z hz;cases hr
   obtain ⟨z',h1,h2⟩:=V2 (P:=P) (w:=w) hz
   exact ⟨rfl,z,z',hz,h1,rfl,.tuple (.cons (h2 φ) (.cons (.bool _) .nil))⟩
  ·cases hr
 ·cases hr
theorem h0U {xt t:TypeId} {ok:Bool} {x v:AV} {x':Value} (hx:Con φ x x') (hr:a0e P x t ok=.ok v):∃ v',(Instr.typeAssert x' xt t ok).run P w=.ok v' w∧Con φ v v':=by
 unfold a0e at hr
 split at hr
 ·rename_i want ht
  split at hr
  ·split at hr
   ·rename_i i hi
    split at hr
    ·rename_i hm
     cases hr
     cases hx with
     | iface hx =>
      cases ok
      ·exact ⟨_,by simp only [Instr.typeAssert,Sem.run_bind,h9 ht,Result.andThen_ok,V1 hi,hm];rfl,.iface hx⟩
      ·exact ⟨_,by simp only [Instr.typeAssert,Sem.run_bind,h9 ht,Result.andThen_ok,V1 hi,hm];rfl,.tuple (.cons (.iface hx) (.cons (.bool _) .nil))⟩
    ·rename_i s hm
     obtain ⟨rfl,z,z',h1,h2,h3,h4⟩:=Z4 (φ:=φ) (w:=w) hr
     cases hx
     exact ⟨_,by simp only [Instr.typeAssert,Sem.run_bind,h9 ht,Result.andThen_ok,V1 hi,hm,if_true,h2];rfl,h4⟩
   ·cases hr
  ·obtain ⟨rfl,z,z',h1,h2,h3,h4⟩:=Z4 (φ:=φ) (w:=w) hr
   cases hx
   exact ⟨_,by simp only [Instr.typeAssert,Sem.run_bind,h9 ht,Result.andThen_ok,if_true,h2];rfl,h4⟩
  ·cases hr
 ·rename_i td hne ht
  split at hr
  ·obtain ⟨rfl,z,z',h1,h2,h3,h4⟩:=Z4 (φ:=φ) (w:=w) hr
   cases hx
   exact ⟨_,by
    simp only [Instr.typeAssert,Sem.run_bind,h9 ht,Result.andThen_ok]
    cases td <;> first | (exact absurd rfl (hne _)) | (simp only [Sem.run_bind,if_true,h2,Result.andThen_ok];rfl),h4⟩
  ·split at hr
   ·rename_i he;cases hr
    cases hx with
    | iface hx =>
     cases ok
     ·exact ⟨_,by
       simp only [Instr.typeAssert,Sem.run_bind,h9 ht,Result.andThen_ok]
       cases td <;> first | (exact absurd rfl (hne _)) | (simp only [if_pos he];rfl),hx⟩
     ·exact ⟨_,by
       simp only [Instr.typeAssert,Sem.run_bind,h9 ht,Result.andThen_ok]
       cases td <;> first | (exact absurd rfl (hne _)) | (simp only [if_pos he];rfl),.tuple (.cons hx (.cons (.bool _) .nil))⟩
   ·rename_i he
    obtain ⟨rfl,z,z',h1,h2,h3,h4⟩:=Z4 (φ:=φ) (w:=w) hr
    cases hx
    exact ⟨_,by
     simp only [Instr.typeAssert,Sem.run_bind,h9 ht,Result.andThen_ok]
     cases td <;> first | (exact absurd rfl (hne _)) | (simp only [if_neg he,Sem.run_bind,if_true,h2,Result.andThen_ok];rfl),h4⟩
  ·cases hr
 ·cases hr
theorem n0G:∀ {l:List AV} {l':List Value} {a v:AV} {a':Value},a04 false a l=.ok v→Con φ a a'→ConL φ l l'→∃ v',(l'.foldlM Builtin.min2 a').run P w=.ok v' w∧Con φ v v'
 | [],_,a,v,a',h,ha,.nil=>by cases h;exact ⟨a',rfl,ha⟩
 | b::l,b'::l',a,v,a',h,ha,.cons hb t=>by
  unfold a04 at h
  split at h
  ·rename_i c hc
   unfold mm2 at hc
   split at hc
   ·split at hc
    ·rename_i hh;cases hh
    ·cases hc;cases ha;cases hb
     obtain ⟨v',h1,h2⟩:=n0G h (.int _ _) t
     refine ⟨v',?_,h2⟩
     rw [List.foldlM_cons,Sem.run_bind]
     exact h1
   ·cases hc
  ·cases h
theorem n0H:∀ {l:List AV} {l':List Value} {a v:AV} {a':Value},a04 true a l=.ok v→Con φ a a'→ConL φ l l'→∃ v',(l'.foldlM Builtin.max2 a').run P w=.ok v' w∧Con φ v v'
 | [],_,a,v,a',h,ha,.nil=>by cases h;exact ⟨a',rfl,ha⟩
 | b::l,b'::l',a,v,a',h,ha,.cons hb t=>by
  unfold a04 at h
  split at h
  ·rename_i c hc
   unfold mm2 at hc
   split at hc
   ·split at hc
    ·cases hc;cases ha;cases hb
     obtain ⟨v',h1,h2⟩:=n0H h (.int _ _) t
     refine ⟨v',?_,h2⟩
     rw [List.foldlM_cons,Sem.run_bind]
     exact h1
    ·rename_i hh;cases hh
   ·cases hc
  ·cases h
inductive DefR (φ:Phi):ADef→Deferred→Prop
 | collected {id:Nat} {p:Pl} (h:φ id=some p):DefR φ (.collected id) { target:=.collected p.blk,args:=#[] }
 | call {f:FuncId} {c a:List AV} {c' a':List Value} (hc:ConL φ c c') (ha:ConL φ a a'):DefR φ (.call (.func f) c a) { target:=.fn (.func f) ⟨c'⟩,args:=⟨a'⟩ }
theorem DefR.mono {φ ψ:Phi} (hle:φ.le ψ) {a:ADef} {d:Deferred} (h:DefR φ a d):DefR ψ a d:=by
 cases h with
 | collected h=>exact .collected (hle _ _ h)
 | call hc ha=>exact .call (hc.mono hle) (ha.mono hle)
def OpSound (P:Program) (B:Nat) (w0:World) (φ:Phi) (h:AH) (s:Sem Next) (w:World) (n:AN) (h':AH):Prop :=
 match n with
 | .value v=>∃ v' w' φ',s.run P w=.ok (.value v') w'∧Con φ' v v'∧Rel B w0 φ' h' w'∧Ext φ h φ' h'
 | .skip=>∃ w',s.run P w=.ok .skip w'∧Rel B w0 φ h' w'∧Ext φ h φ h'
 | .enter f args=>h'=h∧∃ args',ConL φ args args'∧s.run P w=(callFunc f ⟨args'⟩).run P w
 | .yield l args=>h'=h∧∃ p args',φ l=some p∧ConL φ args args'∧s.run P w=(Instr.yield p.blk ⟨args'⟩).run P w
 | .defer d=>h'=h∧∃ d',DefR φ d d'∧s.run P w=.ok (.defer d') w
theorem OpSound.val {s:Sem Value} {v:AV} (hv:ValOf P B w0 φ h s w v h') {t:Sem Next} (ht:t=(do pure (.value (← s)))):OpSound P B w0 φ h t w (.value v) h':=by
 obtain ⟨v',w',φ',h1,h2,h3,h4⟩:=hv
 exact ⟨v',w',φ',by subst ht;simp only [Sem.run_bind,h1,Result.andThen_ok,Sem.run_pure],h2,h3,h4⟩
theorem OpSound.pure {s:Sem Value} {v:AV} (hR:Rel B w0 φ h w) (hv:∃ v',s.run P w=.ok v' w∧Con φ v v') {t:Sem Next} (ht:t=(do pure (.value (← s)))):OpSound P B w0 φ h t w (.value v) h:=by
 obtain ⟨v',h1,h2⟩:=hv
 exact OpSound.val (.pure hR h1 h2) ht
theorem p0r {fn:Fn} {first captured args:List AV} {v:Value} {args':List Value} {n:AN} (hf:Con φ (.func fn first captured) v) (ha:ConL φ args args') (hr:a0f fn captured (first++args) h=.ok (n,h')) :
  OpSound P B w0 φ h (do let d ← Deferred.ofValue v ⟨args'⟩;invoke d.target d.args) w n h':=by
 unfold a0f at hr
 split at hr
 ·cases hr
  cases hf with
  | func h1 h2 =>
   refine ⟨rfl,_,(h1.append ha).append h2,?_⟩
   simp only [Deferred.ofValue,Sem.run_bind,Sem.run_pure,Result.andThen_ok,invoke]
   simp
 ·cases hr
  cases hf with
  | yield hl =>
   refine ⟨rfl,_,args',hl,by simpa using ha,?_⟩
   simp only [Deferred.ofValue,Sem.run_bind,Sem.run_pure,Result.andThen_ok,invoke]
   simp
 ·cases hr
end Go.Dr

namespace Go.Dr
open Go.RowKit
variable {P:Program} {B:Nat} {w0 w:World} {φ:Phi} {h h':AH}
theorem r0I {r:R AH} {n:AN} (hr:a0a r=.ok (n,h')):r=.ok h'∧n=.skip:=by
 unfold a0a at hr;split at hr
 ·cases hr;exact ⟨rfl,rfl⟩
 ·cases hr
theorem o9 {r:R AV} {n:AN} {s:Sem Value} {t:Sem Next} (hR:Rel B w0 φ h w) (hr:m9 h r=.ok (n,h')) (hv:∀ v,r=.ok v→∃ v',s.run P w=.ok v' w∧Con φ v v') (ht:t=(do pure (.value (← s)))) :
  OpSound P B w0 φ h t w n h':=by
 obtain ⟨v,h1,rfl,rfl⟩:=e0p hr
 exact .pure hR (hv v h1) ht
theorem B3 {n:AN} {s:Sem Value} {t:Sem Next} (hv:∃ v,n=.value v∧ValOf P B w0 φ h s w v h') (ht:t=(do pure (.value (← s)))):OpSound P B w0 φ h t w n h':=by
 obtain ⟨v,rfl,hv⟩:=hv
 exact .val hv ht
theorem d0s {n:AN} {r:R AH} {s:Sem Unit} {t:Sem Next} (hr:a0a r=.ok (n,h')) (hv:r=.ok h'→∃ w',s.run P w=.ok () w'∧Rel B w0 φ h' w'∧Ext φ h φ h') (ht:t=(do s;pure .skip)):OpSound P B w0 φ h t w n h':=by
 obtain ⟨h1,rfl⟩:=r0I hr
 obtain ⟨w',g1,g2,g3⟩:=hv h1
 exact ⟨w',by subst ht;simp only [Sem.run_bind,g1,Result.andThen_ok,Sem.run_pure],g2,g3⟩
theorem r0J {a:AAct} {tm:Array Value} {ds:List Deferred} (hG:GlobRel P φ) (hA:ActRel φ a tm) {x:Option Operand} {c:Option CO} (hc:cOO P x=.ok c):ConO φ (d06 a c) (x.map (Act.eval ⟨tm,ds⟩)):=by
 rcases s0T (ds:=ds) hG hA hc with ⟨rfl,rfl⟩ | ⟨y,d,rfl,rfl,h⟩
 ·exact .none
 ·exact .some h
theorem l0q {t:TypeId} {b o:Nat} {v:Value} (ha:d0E P t=.ok false) (hc:w.cell? ⟨b,o,none⟩=some v):(loadVar t ⟨b,o,none⟩).run P w=.ok v w:=by
 simp only [loadVar,Sem.run_bind,c0S ha,Result.andThen_ok,Bool.false_eq_true,if_false]
 exact e0o hc
theorem l0r {t:TypeId} {b o n:Nat} {vs:List Value} (ha:d0E P t=.ok true) (hs:M2 P t=.ok n) (hl:vs.length=n) (hc:∀ j v,vs[j]? = some v→w.cell? ⟨b,o+j,none⟩=some v):(loadVar t ⟨b,o,none⟩).run P w=.ok (.agg ⟨vs⟩) w:=by
 simp only [loadVar,Sem.run_bind,c0S ha,Result.andThen_ok,if_true,D7 hs,K6 hl hc,Sem.run_pure]
theorem o0f {t:TypeId} {x:AV} {x':Value} {n:AN} (ha:d0E P t=.ok false) (hR:Rel B w0 φ h w) (hx:Con φ x x') (hr:c0l x h=.ok (n,h')):∃ v,n=.value v∧ValOf P B w0 φ h (Instr.loadAt t x') w v h':=by
 unfold c0l at hr
 split at hr
 ·obtain ⟨v,h1,rfl,rfl⟩:=e0p hr
  cases hx with
  | ptr hp =>
   obtain ⟨v',g1,g2⟩:=m02 h1 hR hp
   exact ⟨v,rfl,.pure hR (by simp only [Instr.loadAt,Instr.sureAddr,Sem.run_bind,Sem.run_pure,Result.andThen_ok];exact l0q ha g1) g2⟩
 ·cases hr
theorem o0g {t:TypeId} {k:Nat} {x:AV} {x':Value} {n:AN} (ha:d0E P t=.ok true) (hs:M2 P t=.ok k) (hR:Rel B w0 φ h w) (hx:Con φ x x') (hr:A5 k x h=.ok (n,h')):∃ v,n=.value v∧ValOf P B w0 φ h (Instr.loadAt t x') w v h':=by
 unfold A5 at hr
 split at hr
 ·split at hr
  ·rename_i l hl
   cases hr
   cases hx with
   | ptr hp =>
    obtain ⟨vs,g1,g2,g3⟩:=c0T hl hR hp
    exact ⟨_,rfl,.pure hR (by simp only [Instr.loadAt,Instr.sureAddr,Sem.run_bind,Sem.run_pure,Result.andThen_ok];exact l0r ha hs g1 g2) (.agg g3)⟩
  ·cases hr
 ·cases hr
theorem o0h {t:TypeId} {k:Nat} {x y:AV} {x' y':Value} {n:AN} (hs:M2 P t=.ok k) (hR:Rel B w0 φ h w) (hx:Con φ x x') (hy:Con φ y y') (hr:T6 k x y h=.ok (n,h')) :
  OpSound P B w0 φ h (do Instr.storeAt t x' y';pure .skip) w n h':=by
 unfold T6 at hr
 split at hr
 ·rename_i id off
  cases hb:Nat.beq y.cells.length k with
  | false=>rw [hb] at hr;cases hr
  | true =>
   rw [hb] at hr
   have hlen:=Nat.eq_of_beq_eq_true hb
   refine d0s (s:=Instr.storeAt t x' y') hr (fun h1=>?_) rfl
   cases hx with
   | ptr hp =>
    obtain ⟨w',g1,g2,g3⟩:=B8 (P:=P) h1 hR hp hy.cells
    refine ⟨w',?_,g2,g3⟩
    have hsz:y'.cells.size=k:=by have:=hy.cells.length;simp at this;omega
    simp only [Instr.storeAt,Instr.sureAddr,storeVar,Sem.run_bind,Sem.run_pure,Result.andThen_ok,D7 hs]
    rw [if_neg (by simp [hsz])]
    exact g1
 ·cases hr
def o0N (v:Value):Bool :=
 match v with
 | .pointer (some _)=>true
 | .map (some _)=>true
 | .iface _ _=>true
 | .func (.func _) _ _=>true
 | .func (.yield _) _ _=>true
 | _=>false
theorem a0k {x:Operand} {o:Oper} {ρ:Operand→Value} {v:Value} (ho:o.op=.nilCheck x) (hv:ρ x=v) (hg:o0N v=true):(execOp ρ o).run P w=.ok (.value v) w:=by
 simp only [execOp,ho,hv]
 unfold o0N at hg
 split at hg
 all_goals first
  | rfl
  | cases hg
theorem j0T {x:Operand} {o:Oper} {a:AV} {ρ:Operand→Value} {n:AN} (ho:o.op=.nilCheck x) (hR:Rel B w0 φ h w) (hx:Con φ a (ρ x)) (hr:L1 a h=.ok (n,h')):OpSound P B w0 φ h (execOp ρ o) w n h':=by
 generalize hv:ρ x=v at hx
 unfold L1 at hr
 split at hr
 ·cases hr
  cases hx with
  | ptr hp=>exact ⟨_,w,φ,a0k ho hv rfl,.ptr hp,hR,.refl _ _⟩
 ·cases hr
  cases hx with
  | map hp=>exact ⟨_,w,φ,a0k ho hv rfl,.map hp,hR,.refl _ _⟩
 ·cases hr
  cases hx with
  | iface hp=>exact ⟨_,w,φ,a0k ho hv rfl,.iface hp,hR,.refl _ _⟩
 ·split at hr
  ·cases hr
   cases hx with
   | func h1 h2=>exact ⟨_,w,φ,a0k ho hv rfl,.func h1 h2,hR,.refl _ _⟩
  ·cases hr
   cases hx with
   | yield h1=>exact ⟨_,w,φ,a0k ho hv rfl,.yield h1,hR,.refl _ _⟩
  ·cases hr
 ·cases hr
theorem m07 {x:AV} {x':Value} {name:String} {args:List AV} {args':List Value} {n:AN} (hx:Con φ x x') (ha:ConL φ args args') (hr:c0O P x name args h=.ok (n,h')) :
  OpSound P B w0 φ h (callMethod x' name ⟨args'⟩) w n h':=by
 unfold c0O at hr
 split at hr
 ·rename_i t v
  split at hr
  ·rename_i i hi
   split at hr
   ·rename_i m hm
    split at hr
    ·rename_i hpath
     split at hr
     ·rename_i f pr hf
      cases hx with
      | @iface _ _ v' hx =>
       have hmd:0<Made.depth:=by decide
       obtain ⟨k,hk⟩:∃ k,P.types.size+Made.depth=k+1:=⟨P.types.size+(Made.depth - 1),by omega⟩
       have hpl:m.path.toList=[]:=by simpa using hpath
       have key:∀ d,P.underlying t=some d→((∃ e,d=.pointer e)∧pr=true∨(∀ e,d≠.pointer e)∧pr=false)→OpSound P B w0 φ h (callMethod (.iface t v') name ⟨args'⟩) w (.enter f (v::args)) h:=by
        intro d hd hcase
        have hu:(underlying t).run P w=.ok d w:=by simp [underlying,hd]
        refine ⟨rfl,v'::args',.cons hx ha,?_⟩
        have hmeth:(method (P.types.size+Made.depth) t v' name).run P w=.ok (f,v') w:=by
         rw [hk]
         unfold method
         simp only [Sem.run_bind,V1 hi,Result.andThen_ok,hm,hpl,follow,Sem.run_pure,hf]
         rcases hcase with ⟨⟨e,rfl⟩,rfl⟩ | ⟨hne,rfl⟩
         ·simp only [receiverAt,Sem.run_bind,hu,Result.andThen_ok,Place.get,Sem.run_pure]
         ·simp only [receiverAt,Sem.run_bind,hu,Result.andThen_ok]
          cases d <;> first | (exact absurd rfl (hne _)) | rfl
        simp only [callMethod,Sem.run_bind,run_program,Result.andThen_ok,hmeth]
        congr 2
        apply Array.ext';simp
       split at hr
       ·rename_i e hd;cases hr
        have:=key _ hd (.inl ⟨⟨e,rfl⟩,rfl⟩)
        simpa [a0f] using this
       ·cases hr
       ·rename_i d hne1 hd;cases hr
        have:=key _ hd (.inr ⟨fun e he=>hne1 _ he,rfl⟩)
        simpa using this
       ·cases hr
     ·cases hr
    ·cases hr
   ·cases hr
  ·cases hr
 ·cases hr
theorem s0W {t e ty:TypeId} {k:Nat} {v:Value} (ht:und P t=.ok (.array k e)):(Builtin.len_ #[t] ty #[v]).run P w=.ok (.int .i64 k) w:=by
 simp only [Builtin.len_,List.getElem?_toArray,List.getElem?_cons_zero,Sem.run_bind,h9 ht,Result.andThen_ok];rfl
theorem s0X {t e ty:TypeId} {k:Nat} {v:Value} (ht:und P t=.ok (.array k e)):(Builtin.cap_ #[t] ty #[v]).run P w=.ok (.int .i64 k) w:=by
 simp only [Builtin.cap_,List.getElem?_toArray,List.getElem?_cons_zero,Sem.run_bind,h9 ht,Result.andThen_ok];rfl
theorem m08 {o:Oper} {c:Call} {b:Builtin} {ρ:Operand→Value} (ho:o.op=.call c) (hb:c.callee=.builtin b) :
  execOp ρ o=builtin b c.argTypes o.type (c.args.map fun | .const _=>true | _=>false) (c.args.map ρ):=by
 simp only [execOp,ho,resolve,hb]
 rfl
theorem m09 {o:Oper} {call:Call} {c:COp} {a:AAct} {tm:Array Value} {ds:List Deferred} {n:AN} (ho:o.op=.call call) (hc:q08 P call=.ok c) (hr:evC P c a h=.ok (n,h')) (hG:GlobRel P φ) (hA:ActRel φ a tm) (hR:Rel B w0 φ h w) :
  OpSound P B w0 φ h (execOp (Act.eval ⟨tm,ds⟩) o) w n h':=by
 unfold q08 at hc
 split at hc
 ·
  rename_i f hcal
  obtain ⟨g,hg,hc⟩:=q9 hc
  split at hc
  ·rename_i l hl;cases hc
   have hf:=G1 (ds:=ds) hg hG hA
   have ha:=c0p (ds:=ds) hG hA hl
   have hargs:call.args.map (Act.eval ⟨tm,ds⟩)=⟨call.args.toList.map (Act.eval ⟨tm,ds⟩)⟩:=by apply Array.ext';simp
   have he:execOp (Act.eval ⟨tm,ds⟩) o=(do let d ← Deferred.ofValue (Act.eval ⟨tm,ds⟩ f) ⟨call.args.toList.map (Act.eval ⟨tm,ds⟩)⟩;invoke d.target d.args):=by
    simp only [execOp,ho,resolve,hcal,hargs]
   rw [he]
   simp only [evC] at hr
   unfold d0k at hr
   split at hr
   ·rename_i fn first captured hfv
    rw [hfv] at hf
    exact p0r hf ha hr
   ·cases hr
  ·cases hc
 ·
  rename_i r name hcal
  obtain ⟨g,hg,hc⟩:=q9 hc
  split at hc
  ·rename_i l hl;cases hc
   have hf:=G1 (ds:=ds) hg hG hA
   have ha:=c0p (ds:=ds) hG hA hl
   have he:(execOp (Act.eval ⟨tm,ds⟩) o)=callMethod (Act.eval ⟨tm,ds⟩ r) name ⟨call.args.toList.map (Act.eval ⟨tm,ds⟩)⟩:=by
    simp only [execOp,ho,resolve,hcal]
    show invoke (.fn (.method name) #[]) (#[Act.eval ⟨tm,ds⟩ r]++call.args.map (Act.eval ⟨tm,ds⟩))=_
    have e0:(#[Act.eval ⟨tm,ds⟩ r]++call.args.map (Act.eval ⟨tm,ds⟩))[0]? = some (Act.eval ⟨tm,ds⟩ r):=by
     rcases call with ⟨_,⟨args⟩,_⟩;simp
    have e1:(#[Act.eval ⟨tm,ds⟩ r]++call.args.map (Act.eval ⟨tm,ds⟩)).extract 1 (#[Act.eval ⟨tm,ds⟩ r]++call.args.map (Act.eval ⟨tm,ds⟩)).size=⟨call.args.toList.map (Act.eval ⟨tm,ds⟩)⟩:=by
     rcases call with ⟨_,⟨args⟩,_⟩;apply Array.ext';simp [List.take_of_length_le]
    simp only [invoke,e0,e1]
   rw [he]
   simp only [evC] at hr
   exact m07 hf ha hr
  ·cases hc
 ·
  rename_i b hcal
  rw [m08 ho hcal]
  split at hc
  ·
   rename_i x y t u hargs htys
   have hty:call.argTypes=#[t,u]:=by rcases call with ⟨_,_,⟨tys⟩⟩;simp at htys;subst htys;rfl
   have hmap:call.args.map (Act.eval ⟨tm,ds⟩)=#[Act.eval ⟨tm,ds⟩ x,Act.eval ⟨tm,ds⟩ y]:=by
    rcases call with ⟨_,⟨args⟩,_⟩;simp at hargs;subst hargs;simp
   rw [hmap,hty]
   split at hc
   ·
    obtain ⟨ca,cb,ha,hb,hc⟩:=O8 hc
    have hca:=G1 (ds:=ds) ha hG hA
    have hcb:=G1 (ds:=ds) hb hG hA
    split at hc
    ·rename_i e ud ht hu
     split at hc
     ·rename_i es bytes z hes hby hz
      split at hc
      ·cases hc
      ·rename_i hne
       have hne1:es≠0:=fun e=>hne (.inl e)
       have hne2:z.cells.length=es:=Decidable.byContradiction fun e=>hne (.inr e)
       split at hc
       ·cases hc
        exact B3 (o0R ht hu hes hby hz hne1 hne2 hR hca hcb hr) rfl
       ·rename_i hni;cases hc
        exact B3 (q0h ht hu (by cases ud <;> first | rfl | (exact absurd rfl (hni _))) hes hby hz hne1 hne2 hR hca hcb hr) rfl
     ·cases hc
    ·cases hc
   ·
    obtain ⟨ca,cb,ha,hb,hc⟩:=O8 hc
    have hca:=G1 (ds:=ds) ha hG hA
    have hcb:=G1 (ds:=ds) hb hG hA
    split at hc
    ·rename_i e ht
     split at hc
     ·rename_i es hes;cases hc
      exact B3 (o0S ht hes hR hca hcb hr) rfl
     ·cases hc
    ·cases hc
   ·
    obtain ⟨ca,cb,ha,hb,hc⟩:=O8 hc
    have hca:=G1 (ds:=ds) ha hG hA
    have hcb:=G1 (ds:=ds) hb hG hA
    split at hc
    ·rename_i k e ht;cases hc
     exact B3 (l0E ht hR hca hcb hr) rfl
    ·cases hc
   ·obtain ⟨ca,cb,ha,hb,hc⟩:=O8 hc
    cases hc
    exact o9 hR hr (fun v hv=>n0G hv (G1 ha hG hA) (.cons (G1 hb hG hA) .nil)) rfl
   ·obtain ⟨ca,cb,ha,hb,hc⟩:=O8 hc
    cases hc
    exact o9 hR hr (fun v hv=>n0H hv (G1 ha hG hA) (.cons (G1 hb hG hA) .nil)) rfl
   ·cases hc
  ·rename_i x t hargs htys
   have hty:call.argTypes=#[t]:=by rcases call with ⟨_,_,⟨tys⟩⟩;simp at htys;subst htys;rfl
   have hmap:call.args.map (Act.eval ⟨tm,ds⟩)=#[Act.eval ⟨tm,ds⟩ x]:=by
    rcases call with ⟨_,⟨args⟩,_⟩;simp at hargs;subst hargs;simp
   rw [hmap,hty]
   split at hc
   ·obtain ⟨ca,ha,hc⟩:=q9 hc
    have hca:=G1 (ds:=ds) ha hG hA
    split at hc
    ·rename_i k e ht;cases hc;cases hr
     exact .pure hR ⟨_,s0W ht,.int _ _⟩ rfl
    ·rename_i ht;cases hc
     exact o9 hR hr (fun v hv=>o0X ht hca hv) rfl
    ·rename_i e ht;cases hc
     exact o9 hR hr (fun v hv=>o0Y ht hca hv) rfl
    ·rename_i k e ht;cases hc
     exact o9 hR hr (fun v hv=>o0W ht hR hca hv) rfl
    ·cases hc
   ·obtain ⟨ca,ha,hc⟩:=q9 hc
    have hca:=G1 (ds:=ds) ha hG hA
    split at hc
    ·rename_i k e ht;cases hc;cases hr
     exact .pure hR ⟨_,s0X ht,.int _ _⟩ rfl
    ·rename_i e ht;cases hc
     exact o9 hR hr (fun v hv=>o0Z ht hca hv) rfl
    ·cases hc
   ·
    obtain ⟨ca,ha,hc⟩:=q9 hc
    have hca:=G1 (ds:=ds) ha hG hA
    split at hc
    ·rename_i e ht
     split at hc
     ·rename_i es z hes hz
      split at hc
      ·cases hc
      ·rename_i hne
       have hne1:es≠0:=fun e=>hne (.inl e)
       have hne2:z.cells.length=es:=Decidable.byContradiction fun e=>hne (.inr e)
       cases hc
       exact B3 (n0j ht hz hne2 hne1 hR hca hr) rfl
     ·cases hc
    ·cases hc
   ·cases hc
  ·rename_i x l hargs _ _
   have hmap:call.args.map (Act.eval ⟨tm,ds⟩)=⟨Act.eval ⟨tm,ds⟩ x::l.map (Act.eval ⟨tm,ds⟩)⟩:=by
    rcases call with ⟨_,⟨args⟩,_⟩;simp at hargs;subst hargs;simp
   rw [hmap]
   split at hc
   ·obtain ⟨ca,ha,hc⟩:=q9 hc
    split at hc
    ·rename_i ll hll;cases hc
     exact o9 hR hr (fun v hv=>n0G hv (G1 ha hG hA) (c0p hG hA hll)) rfl
    ·cases hc
   ·obtain ⟨ca,ha,hc⟩:=q9 hc
    split at hc
    ·rename_i ll hll;cases hc
     exact o9 hR hr (fun v hv=>n0H hv (G1 ha hG hA) (c0p hG hA hll)) rfl
    ·cases hc
   ·cases hc
  ·cases hc
end Go.Dr
