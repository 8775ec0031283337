/-
  The abstract run with several ends: maps whose entries come in any order. What a function ends in is joined where it is the same but for new blocks.
-/
import Derived.Test.YtckonkiblmdeiaaGreatDoorDrEv
namespace Go.Dr

abbrev RL (α : Type) := R (List α)

def bindD {α β : Type} (f : α → RL β) : List α → RL β
  | [] => .ok []
  | x :: l => match f x with
    | .ok r => match bindD f l with
      | .ok s => .ok (r ++ s)
      | .error e => .error e
    | .error e => .error e

abbrev CallD := Tgt → List AV → AH → RL (AV × AH)

/-- the next entry of a map: any that is left -/
def nextD (h : AH) (it : AV) : RL (AV × AH) :=
  match it with
  | .ptr id 0 => match h.get id with
    | some (.miter m since seen last) => match m with
      | none => .ok [(.tuple [.bool false], h)]
      | some m => match h.get m with
        | some (.map es clock) =>
          if !seen.isEmpty && !es.isEmpty && es.all (fun e => Nat.ble last e.born) then .error "next: all gone" else
          match es.filter (fun e => !seen.contains e.born) with
          | [] => .ok [(.tuple [.bool false], h)]
          | l => if l.all (fun e => Nat.blt e.born since) then .ok (l.map fun e => (.tuple [.bool true, e.key, e.val], h.set id (.miter (some m) since (seen ++ [e.born]) clock))) else .error "next: a new entry"
        | _ => .error "next"
    | _ => .error "next"
  | _ => .error "next"

def oneD (call : CallD) : CallF := fun t args h => match call t args h with
  | .ok [x] => .ok x
  | .ok _ => .error "several ends"
  | .error e => .error e

def putD (a : AAct) (d : Option Tmp) (x : AV × AH) : AAct × AH := (forceV x.1 fun v => a.put d v, x.2)

section
variable (P : Program)

def evNextD (o : Oper) (it : CO) (a : AAct) (h : AH) : RL (AAct × AH) :=
  match nextD h (it.ev a) with
  | .ok l => .ok (l.map (putD a o.dst))
  | .error e => .error e

def evCD (call : CallD) (o : Oper) (a : AAct) (r : RN) : RL (AAct × AH) :=
  match r with
  | .ok (r, h) => match r with
    | .value v => .ok [putD a o.dst (v, h)]
    | .skip => .ok [(a.put o.dst aundef, h)]
    | .defer d => bif a.rd then .error "defer in a round" else .ok [((⟨a.n, a.ts, d :: a.ds, a.rd⟩ : AAct).put o.dst aundef, h)]
    | .enter f args => match call (.fn f) args h with
      | .ok l => .ok (l.map (putD a o.dst))
      | .error e => .error e
    | .yield f args => match call (.yield f) args h with
      | .ok l => .ok (l.map (putD a o.dst))
      | .error e => .error e
  | .error e => .error (o.pos ++ ": " ++ e)

def nextOf : Op → Option Operand
  | .next x false => some x
  | _ => none

/-- an operation -/
def evOperD (call : CallD) (o : Oper) (a : AAct) (h : AH) : RL (AAct × AH) :=
  match nextOf o.op with
  | some x => match cO P x with
    | .ok c => evNextD o c a h
    | .error e => .error (o.pos ++ ": read: " ++ e)
  | none => match comp P o with
    | .ok c => evCD call o a (evC P c a h)
    | .error e => .error (o.pos ++ ": read: " ++ e)

def evOpsD (call : CallD) (ops : Array Oper) : List Oper → AAct → AH → RL (AAct × AH)
  | [], a, h => .ok [(a, h)]
  | o :: l, a, h =>
    match wantedA ops o a with
    | .ok true => match evOperD P call o a h with
      | .ok r => bindD (fun x => evOpsD call ops l x.1 x.2) r
      | .error e => .error e
    | .ok false => evOpsD call ops l (a.put o.dst aundef) h
    | .error e => .error e

abbrev XD := RL (AX × AAct × AH)

def evLoopD (body : AAct → AH → XD) : Nat → AAct → AH → XD
  | 0, _, _ => .error "fuel"
  | n + 1, a, h => match body a h with
    | .ok r => bindD (fun x => match x.1 with | .normal => evLoopD body n x.2.1 x.2.2 | _ => .ok [x]) r
    | .error e => .error e

def endGo (did : Nat) (a : AAct) (h : AH) : R (AX × AAct × AH) :=
  match h.get (did + 1) with
  | some (.loop r) => match r.state with
    | .busy => .error "rangeFunc: busy"
    | _ => match r.pending with
      | none => .ok (.normal, ⟨a.n, a.ts, .collected did :: a.ds, a.rd⟩, h.set (did + 1) (.loop { r with state := .exhausted }))
      | some .ret => .ok (.ret, ⟨a.n, a.ts, .collected did :: a.ds, a.rd⟩, h.set (did + 1) (.loop { r with state := .exhausted }))
      | some (.exit id) => .ok (.exit id, ⟨a.n, a.ts, .collected did :: a.ds, a.rd⟩, h.set (did + 1) (.loop { r with state := .exhausted }))
      | some _ => .error "rangeFunc: jump"
  | _ => .error "rangeFunc"

def one1 {α : Type} : R α → RL α
  | .ok x => .ok [x]
  | .error e => .error e

def opGoD (call : CallD) (f : AV) (params : Array Tmp) (assign body : Code) (a : AAct) (h : AH) : XD :=
  match f with
  | .func (.func g) first captured => bif a.rd then .error "rangeFunc in a round" else
    forceN h.next fun did =>
    match call (.fn g) (first ++ (.func (.yield (did + 1)) [] [] :: captured))
        ((h.push (.deferred (some []))).push (.loop { state := .ready, pending := none, n := a.n, tmps := a.ts, params, assign, body })) with
    | .ok l => bindD (fun x => one1 (endGo did a x.2)) l
    | .error e => .error e
  | _ => .error "rangeFunc: of what"

def evCodeD (call : CallD) (lf : Nat) : Code → AAct → AH → XD
  | .region _ ops draw, a, h => match draw with
    | true => match evDraw P (oneD call) ops a h with
      | .ok (a, h) => .ok [(.normal, a, h)]
      | .error e => .error e
    | false => match evOpsD P call ops ops.toList a h with
      | .ok l => .ok (l.map fun x => (.normal, x.1, x.2))
      | .error e => .error e
  | .seq x y, a, h => match evCodeD call lf x a h with
    | .ok l => bindD (fun x => match x.1 with | .normal => evCodeD call lf y x.2.1 x.2.2 | _ => .ok [x]) l
    | .error e => .error e
  | .cond c x y, a, h => match cO P c with
    | .ok c => match c.ev a with
      | .bool true => evCodeD call lf x a h
      | .bool false => evCodeD call lf y a h
      | _ => .error "cond"
    | .error e => .error e
  | .block id c, a, h => match evCodeD call lf c a h with
    | .ok l => .ok (l.map fun x => match x.1 with | .exit i => bif Nat.beq i id then (.normal, x.2.1, x.2.2) else x | _ => x)
    | .error e => .error e
  | .loop c, a, h => evLoopD (evCodeD call lf c) lf a h
  | .scope c, a, h => match evCodeD call lf c a h with
    | .ok l => .ok l
    | .error e => .error e
  | .rangeFunc f params assign body, a, h => match cO P f with
    | .ok f => opGoD call (f.ev a) params assign body a h
    | .error e => .error e
  | c, a, h => one1 (evCode P (oneD call) lf c a h)

def runDefersD (call : CallD) : List ADef → AH → RL AH
  | [], h => .ok [h]
  | d :: l, h => match d with
    | .collected id => match h.get id with
      | some (.deferred (some [])) => runDefersD call l (h.set id (.deferred none))
      | _ => .error "collected"
    | .call fn captured args => match callFn fn captured args h with
      | .ok (.enter f args, h) => match call (.fn f) args h with
        | .ok r => bindD (fun x => runDefersD call l x.2) r
        | .error e => .error e
      | .ok _ => .error "defer"
      | .error e => .error e

def leaveD (call : CallD) (fn : Func) (x : AX × AAct × AH) : RL (AV × AH) :=
  match x.1 with
  | .normal | .ret => match runDefersD call x.2.1.ds x.2.2 with
    | .ok l => bindD (fun h => match resultsA P h x.2.1 fn.results.toList with
      | .ok l => .ok [(oneOf l, h)]
      | .error e => .error (fn.name ++ ": " ++ e)) l
    | .error e => .error (fn.name ++ ": " ++ e)
  | _ => .error "left by a jump"

def finishD (call : CallD) (fn : Func) (r : XD) : RL (AV × AH) :=
  match r with
  | .ok l => bindD (leaveD P call fn) l
  | .error e => .error (fn.name ++ "/" ++ e)

def roundBodyD (call : CallD) (lf : Nat) (l : Nat) (r : ALoop) (x : AX × AAct × AH) : RL (AV × AH) :=
  match x.1 with
  | .normal => match x.2.2.get l with
    | some (.loop q) => match q.state with
      | .ready => match evCodeD P call lf r.body x.2.1 (x.2.2.set l (.loop { q with state := .busy })) with
        | .ok s => bindD (fun y => one1 (endRound l (.ok y))) s
        | .error e => .error e
      | _ => .error "yield: state"
    | _ => .error "yield: loop"
  | _ => .error "yield: assign"

def aRoundD (call : CallD) (lf : Nat) (l : Nat) (r : ALoop) (args : List AV) (h : AH) : RL (AV × AH) :=
  bif Nat.beq args.length r.params.size then
    match evCodeD P call lf r.assign (setParams r.params.toList args ⟨r.n, r.tmps, [], true⟩) h with
    | .ok s => bindD (roundBodyD P call lf l r) s
    | .error e => .error e
  else .error "yield: arguments"

end

/-! ### ends joined -/

def eqEntry (x y : AEntry) : Bool := Bool.and (eqAV 12 x.key y.key) (Bool.and (eqAV 12 x.val y.val) (Nat.beq x.born y.born))

def eqBy {α : Type} (f : α → α → Bool) : List α → List α → Bool
  | [], [] => true
  | x :: l, y :: m => Bool.and (f x y) (eqBy f l m)
  | _, _ => false

def eqDefs : Option (List ADef) → Option (List ADef) → Bool
  | none, none => true
  | some [], some [] => true
  | _, _ => false

def eqNO : Option Nat → Option Nat → Bool
  | none, none => true
  | some x, some y => Nat.beq x y
  | _, _ => false

def eqObj : AObj → AObj → Bool
  | .cells l r, .cells m s => Bool.and (r == s) (eqBy (eqAV 12) l m)
  | .map l c, .map m d => Bool.and (Nat.beq c d) (eqBy eqEntry l m)
  | .deferred a, .deferred b => eqDefs a b
  | .siter s p, .siter t q => Bool.and (Nat.beq p q) (decide (s = t))
  | .miter m a b c, .miter n x y z => Bool.and (eqNO m n) (Bool.and (Nat.beq a x) (Bool.and (eqBy Nat.beq b y) (Nat.beq c z)))
  | _, _ => false

def eqObjO : Option AObj → Option AObj → Bool
  | none, none => true
  | some x, some y => eqObj x y
  | _, _ => false

/-- the blocks below n are the same -/
def sameOld (h k : AH) : Nat → Bool
  | 0 => true
  | n + 1 => Bool.and (eqObjO (h.get n) (k.get n)) (sameOld h k n)

/-- from block i on so many: those that differ are struck -/
def joinNew (k : AH) : Nat → Nat → AH → AH
  | 0, _, h => h
  | n + 1, i, h => bif eqObjO (h.get i) (k.get i) then joinNew k n (i + 1) h else joinNew k n (i + 1) (h.kill i)

def join2 (base : Nat) (x y : AV × AH) : Option (AV × AH) :=
  bif Bool.and (eqAV 12 x.1 y.1) (Bool.and (Nat.beq x.2.next y.2.next) (sameOld x.2 y.2 base)) then some (x.1, joinNew y.2 (x.2.next - base) base x.2) else none

def joinAll (base : Nat) (x : AV × AH) : List (AV × AH) → Option (AV × AH)
  | [] => some x
  | y :: l => match join2 base x y with
    | some z => joinAll base z l
    | none => none

def joined (base : Nat) (r : RL (AV × AH)) : RL (AV × AH) :=
  match r with
  | .ok (x :: y :: l) => match joinAll base x (y :: l) with
    | some z => .ok [z]
    | none => .ok (x :: y :: l)
  | r => r

/-- deferred calls: by no summary -/
def noSumD (S : FuncId → Option (List AV → AH → R (AV × AH))) (call : CallD) : CallD := fun t args h =>
  match t with
  | .fn f => match S f with
    | some _ => .error "a deferred call of a summary"
    | none => call (.fn f) args h
  | .yield l => call (.yield l) args h

/-- a call, in all its ends -/
def evCallD (P : Program) (S : FuncId → Option (List AV → AH → R (AV × AH))) (lf : Nat) : Nat → CallD
  | 0, _, _, _ => .error "depth"
  | n + 1, .fn f, args, h => match S f with
    | some g => one1 (g args h)
    | none => match P.funcs[f]? with
      | some fn => match fn.body with
        | some c => bif Nat.ble args.length fn.ntmps
          then joined h.next (finishD P (noSumD S (evCallD P S lf n)) fn (evCodeD P (evCallD P S lf n) lf c ⟨fn.ntmps, laid args 0 .leaf, [], false⟩ h)) else .error "arguments"
        | none => .error ("no body: " ++ fn.name)
      | none => .error "no function"
  | n + 1, .yield l, args, h => match h.get l with
    | some (.loop r) => aRoundD P (evCallD P S lf n) lf l r args h
    | _ => .error "yield: no loop"

end Go.Dr
