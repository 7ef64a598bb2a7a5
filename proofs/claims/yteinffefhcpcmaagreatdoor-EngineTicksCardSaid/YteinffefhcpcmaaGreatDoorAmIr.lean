/- The abstract machine: operations, read off the program's code, and what they do. -/
import Derived.Test.YteinffefhcpcmaaGreatDoorAmCore
namespace Go.Am

inductive Opd where
  | t (n : Nat)
  | c (a : AVal)
  deriving Inhabited

abbrev Zero := List (Nat × AVal)
def Zero.cells (z : Zero) : List AVal := z.flatMap fun p => List.replicate p.1 p.2

inductive NilKind where
  | ptr | map | func | iface
  deriving DecidableEq

/-- Kinds of cells that are held against each other. -/
inductive CK where
  | b | i | s
  deriving DecidableEq

inductive POp where
  | mv
  | pick
  | bin (op : BinOp)
  | beq (neg : Bool)
  | isnil (kd : NilKind) (neg : Bool)
  | eqs (cs : List CK) (neg : Bool)
  | un (op : UnOp)
  | convI (k : IntKind)
  | convF
  | convId
  | faddr (off : Nat)
  | iaddr (e : ESz)
  | iaddrA (n e : Nat)
  | field (off : Nat) (sz : Option Nat)
  | idxA (n e : Nat) (sz : Option Nat)
  | idxS
  | slS (lo hi : Bool)
  | slL (e : ESz) (lo hi mx : Bool)
  | lenS
  | lenL
  | lenC (n : Nat)
  | ext (i : Nat)
  | nilchk
  | mkf (f : Fn) (nf : Nat)
  | mki (t : TypeId)
  | build (zero : Zero) (parts : List (Nat × Nat))
  | bsl (e : ESz) (n : Nat) (agg : Bool) (zero : Zero) (parts : List (Nat × Nat))
  | mn
  | mx
  | assertOk (t : TypeId) (zero : Zero) (agg : Bool)
  | f64bits
  | f64from
  | add64
  | cmpS

inductive LOp where
  | load (sz : Option Nat)
  | lenM
  | slA (n : Nat) (e : ESz) (lo hi mx : Bool)
  | lookup (ks : Bool) (zero : Zero) (agg : Bool) (ok : Bool)
  | entry
  | convS

inductive IOp where
  | alloc (zero : Zero)
  | box (sz : Nat)
  | store (sz : Nat)
  | append (e : ESz) (bytes : Nat)
  | appendZ (e : ESz) (bytes : Nat) (agg : Bool) (zero : Zero)
  | call (f : Nat)
  | callv
  | mkmap
  | mapset (ks : Bool)
  | delete (ks : Bool)
  | clearM
  | clearL (zero : Zero)
  | range
  | next
  | copy (e : ESz)
  | panic
  | makeSlice (e : ESz) (bytes : Nat) (agg : Bool) (zero : Zero)
  | convB
  | capL
  | defer

inductive AOp where
  | p (o : POp)
  | l (o : LOp)
  | i (o : IOp)

structure ROp where
  dst : Option Nat
  op : AOp
  args : List Opd
  guard : Option (Nat × Bool)

/-- An order of a region's operations in which those that only look come first; with what must still hold behind each of the others. -/
inductive Sched where
  | done
  | q (o : ROp) (s : Sched)
  | e (o : ROp) (re : List ROp) (s : Sched)
  | both (a b : Sched)
  deriving Inhabited

inductive ACode where
  | skip
  | region (ops : List ROp)
  | draw (s : Sched)
  | seq (a b : ACode)
  | cond (c : Opd) (a b : ACode)
  | block (id : Nat) (b : ACode)
  | loop (b : ACode)
  | rangeFunc (f : Opd) (params : List Nat) (assign body : ACode)
  | exit (id : Nat)
  | scope (b : ACode)
  | label (l : Nat)
  | goto (l : Nat)
  | ret
  deriving Inhabited

inductive ARes where
  | t (n : Nat)
  | cell (n : Nat) (sz : Option Nat)

structure AFunc where
  code : ACode
  n : Nat
  res : List ARes

/-! ## Reading the program's code -/

section compile
variable (P : Program)

def szOf (t : TypeId) : Option Nat := (P.info? t).map (·.size)
def bytesE (t : TypeId) : Option Nat := (P.info? t).map fun i => i.bytes
def eszOf (t : TypeId) : Option ESz := (P.info? t).map fun i => i.size

/-- The types of a value's cells, one by one. -/
def cellTys : Nat → TypeId → Option (List TypeId)
  | 0, _ => none
  | d + 1, t =>
    match P.underlying t with
    | some (.struct fs) => (fs.toList.mapM fun f : Field => cellTys d f.type).map List.flatten
    | some (.array n e) => (cellTys d e).map fun l => (List.replicate n l).flatten
    | some _ => some [t]
    | none => none

def scalarA (t : TypeId) : Value → Option AVal
  | .bool b => some (.bool b)
  | .int k n => some (.int k n)
  | .float k b => some (.float k b)
  | .string s => if s.data.toList.length < 2 ^ 63 then some (.str s.data.toList) else none
  | .pointer none => some .nilp
  | .slice none 0 0 => match P.underlying t with
    | some (.slice e) => (eszOf P e).map fun n => .list .full n []
    | _ => none
  | .map none => some .nilm
  | .nilFunc => some .nilf
  | .nilIface => some .nili
  | _ => none

def constA (t : TypeId) : Value → Option AVal
  | .agg cs => do
    let ts ← cellTys P 8 t
    if ts.length = cs.size then (ts.zip cs.toList).mapM (fun (t, v) => scalarA P t v) |>.map .agg else none
  | v => scalarA P t v

def opd (t : TypeId) : Operand → Option Opd
  | .tmp n => some (.t n)
  | .const v => (constA P t v).map .c
  | .func f => some (.c (.fn (.func f) [] []))
  | .global _ => none

def sameInts : List Value → Option (IntKind × Int)
  | .int k n :: l => if l.all (fun | .int k' n' => k == k' && n == n' | _ => false) then some (k, n) else none
  | _ => none

/-- The zero value of a type, as runs of like cells. -/
def zeroA (t : TypeId) : Option Zero := do
  let i ← P.info? t
  let z ← i.zero
  if z.cells.size = i.size then
    if i.size ≤ 64 then
      let ts ← cellTys P 8 t
      if ts.length = i.size then (ts.zip z.cells.toList).mapM (fun (t, v) => (scalarA P t v).map fun a => (1, a)) else none
    else do
      let (k, n) ← sameInts z.cells.toList
      some [(i.size, .int k n)]
  else none

def isAggB (t : TypeId) : Bool := match P.underlying t with
  | some (.struct _) | some (.array _ _) => true
  | _ => false

def szO (t : TypeId) : Option (Option Nat) := match P.underlying t with
  | some (.struct _) | some (.array _ _) => (szOf P t).map some
  | some _ => some none
  | none => none

def elemSz (t : TypeId) : Option Nat := match P.underlying t with
  | some (.slice e) => szOf P e
  | _ => none

def fieldOf (t : TypeId) (i : Nat) : Option Field := match P.underlying t with
  | some (.struct fs) => fs[i]?
  | _ => none

def cmpBasic (t : TypeId) : Bool := match P.underlying t with
  | some .bool | some (.int _) | some (.float _) | some .string => true
  | _ => false

def ckOf (t : TypeId) : Option CK := match P.underlying t with
  | some .bool => some .b
  | some (.int _) => some .i
  | some .string => some .s
  | _ => none

def ckFields : Nat → List Field → Option (List CK)
  | _, [] => some []
  | i, f :: fs => if f.name ≠ "_" ∧ f.offset = i then (ckOf P f.type).bind fun c => (ckFields (i + 1) fs).map (c :: ·) else none

/-- The cells of a struct of numbers, texts, bools. -/
def eqCells (t : TypeId) : Option (List CK) := match P.underlying t with
  | some (.struct fs) => if P.stoodInHeld t = false ∧ P.eqGuardType P.depth t = false then ckFields P 0 fs.toList else none
  | _ => none

def places (fs : List (Nat × Nat)) (l : List (Nat × Operand)) : Option (List (Nat × Nat)) := l.mapM fun (i, _) => fs[i]?

def isInt (t : TypeId) : Option IntKind := match P.underlying t with
  | some (.int k) => some k
  | _ => none

inductive NilLit where
  | ptr | map | func | iface

def nilOf : TypeDesc → Option (NilKind × NilLit)
  | .pointer _ => some (.ptr, .ptr)
  | .map _ _ => some (.map, .map)
  | .func _ _ _ => some (.func, .func)
  | .interface _ => some (.iface, .iface)
  | _ => none

/-- The literal nil of a pointer, a map, a function, an interface. -/
def isNilC : NilLit → Operand → Bool
  | .ptr, .const (.pointer none) | .map, .const (.map none) | .func, .const .nilFunc | .iface, .const .nilIface => true
  | _, _ => false

/-- Is a type's zero value one of several cells? -/
def zAgg (t : TypeId) : Option Bool := match (P.info? t).bind (·.zero) with
  | some (.agg _) => some true
  | some _ => some false
  | none => none

/-- What can be appended: a zero value is known, nothing is empty. -/
def appOk (t : TypeId) : Bool := (zeroA P t).isSome && ((bytesE P t).map fun n => decide (0 < n)).getD false && ((eszOf P t).map fun n => decide (0 < n)).getD false

/-- A map's keys: texts, or numbers. -/
def keyKind (kt : TypeId) : Option Bool := match P.underlying kt with
  | some (.int _) => some false
  | some .string => some true
  | _ => none

/-- A function without a body that makes a value of its arguments. -/
def primOf (f : FuncId) : Option POp := (P.funcs[f]?).bind fun g =>
  if g.body.isSome || g.origin != "" then none else
  if g.name = "math.Float64bits" then some .f64bits else
  if g.name = "math.Float64frombits" then some .f64from else
  if g.name = "math/bits.Add64" then some .add64 else
  if g.name = "internal/bytealg.abigen_runtime_cmpstring" then some .cmpS else none

def cOp (o : Oper) : Option (AOp × List Opd) :=
  match o.op with
  | .move x => do some (.p .mv, [← opd P o.type x])
  | .assign x => do some (.p .mv, [← opd P o.type x])
  | .pick c a b => do some (.p .pick, [← opd P o.type c, ← opd P o.type a, ← opd P o.type b])
  | .alloc t => do some (.i (.alloc (← zeroA P t)), [])
  | .box t x => do some (.i (.box (← szOf P t)), [← opd P t x])
  | .build t parts => do
    let z ← zeroA P t
    match P.underlying t with
    | some (.struct fs) =>
      let fl ← fs.toList.mapM fun f : Field => (szOf P f.type).map fun n => (f.offset, n)
      let pl ← places fl parts.toList
      let xs ← parts.toList.mapM fun (i, x) => do opd P (← fs[i]?).type x
      some (.p (.build z pl), xs)
    | some (.array n e) =>
      let s ← szOf P e
      let xs ← parts.toList.mapM fun (_, x) => opd P e x
      if parts.toList.all (fun p => p.1 < n) then some (.p (.build z (parts.toList.map fun p => (p.1 * s, s))), xs) else none
    | _ => none
  | .buildSlice t n parts =>
    match P.underlying t with
    | some (.slice e) => do
      let s ← eszOf P e
      let z ← zeroA P e
      let xs ← parts.toList.mapM fun (_, x) => opd P e x
      if parts.toList.all (fun p => p.1 < n) && decide (n * s ≤ 2 ^ 24) && decide (0 < s) && decide (n < 2 ^ 30) then some (.p (.bsl s n (isAggB P e) z (parts.toList.map fun p => (p.1 * s, s))), xs) else none
    | _ => none
  | .load t a => do some (.l (.load (← szO P t)), [← opd P o.type a])
  | .store t a v => do some (.i (.store (← szOf P t)), [← opd P o.type a, ← opd P t v])
  | .nilCheck x => do some (.p .nilchk, [← opd P o.type x])
  | .binOp op t x y u =>
    if isAggB P t then
      match op with
      | .eql => do some (.p (.eqs (← eqCells P t) false), [← opd P t x, ← opd P t y])
      | .neq => do some (.p (.eqs (← eqCells P t) true), [← opd P t x, ← opd P t y])
      | _ => none
    else match P.underlying t with
      | some (.int _) | some .string | some (.float _) => do some (.p (.bin op), [← opd P t x, ← opd P u y])
      | some .bool => match op with
        | .eql => do some (.p (.beq false), [← opd P t x, ← opd P t y])
        | .neq => do some (.p (.beq true), [← opd P t x, ← opd P t y])
        | _ => none
      | some d => do
        let (kd, z) ← nilOf d
        match op with
        | .eql => if isNilC z y then do some (.p (.isnil kd false), [← opd P t x]) else none
        | .neq => if isNilC z y then do some (.p (.isnil kd true), [← opd P t x]) else none
        | _ => none
      | _ => none
  | .unOp op t x => do some (.p (.un op), [← opd P t x])
  | .convert s d x =>
    match P.underlying s, P.underlying d with
    | some (.int _), some (.int k) => do some (.p (.convI k), [← opd P s x])
    | some (.int _), some (.float .f64) => do some (.p .convF, [← opd P s x])
    | some .string, some .string => do some (.p .convId, [← opd P s x])
    | some (.slice e), some .string => do
      if isInt P e = some .u8 then some (.l .convS, [← opd P s x]) else none
    | some .string, some (.slice e) => do
      if isInt P e = some .u8 then some (.i .convB, [← opd P s x]) else none
    | _, _ => none
  | .makeInterface t x => match P.underlying t with
    | some (.interface _) | none => none
    | _ => do some (.p (.mki t), [← opd P t x])
  | .makeFunc fn a b => do
    let xs ← a.toList.mapM (opd P o.type)
    let ys ← b.toList.mapM (opd P o.type)
    some (.p (.mkf fn a.size), xs ++ ys)
  | .makeMap t r => match P.underlying t, r with
    | some (.map _ _), none => some (.i .mkmap, [])
    | _, _ => none
  | .slice t x lo hi mx => do
    let xs ← lo.toList.mapM (opd P o.type)
    let ys ← hi.toList.mapM (opd P o.type)
    let zs ← mx.toList.mapM (opd P o.type)
    if mx.isSome && hi.isNone then none else
    match P.underlying t with
    | some .string => if mx.isNone then some (.p (.slS lo.isSome hi.isSome), (← opd P t x) :: (xs ++ ys)) else none
    | some (.slice e) => some (.p (.slL (← eszOf P e) lo.isSome hi.isSome mx.isSome), (← opd P t x) :: (xs ++ ys ++ zs))
    | some (.array n e) => some (.l (.slA n (← eszOf P e) lo.isSome hi.isSome mx.isSome), (← opd P o.type x) :: (xs ++ ys ++ zs))
    | _ => none
  | .fieldAddr t x i => do
    let f ← fieldOf P t i
    if szOf P f.type = some 0 then none else
    if (szOf P f.type).isSome then some (.p (.faddr f.offset), [← opd P o.type x]) else none
  | .field t x i => do
    let f ← fieldOf P t i
    some (.p (.field f.offset (← szO P f.type)), [← opd P t x])
  | .indexAddr t x i => match P.underlying t with
    | some (.slice e) => do some (.p (.iaddr (← eszOf P e)), [← opd P t x, ← opd P o.type i])
    | some (.array n e) => do if 1 < n then some (.p (.iaddrA n (← szOf P e)), [← opd P o.type x, ← opd P o.type i]) else none
    | _ => none
  | .index t x i => match P.underlying t with
    | some .string => do some (.p .idxS, [← opd P t x, ← opd P o.type i])
    | some (.array n e) => do some (.p (.idxA n (← szOf P e) (← szO P e)), [← opd P t x, ← opd P o.type i])
    | _ => none
  | .lookup t m k ok => match P.underlying t with
    | some (.map kt e) => do
      some (.l (.lookup (← keyKind P kt) (← zeroA P e) (← zAgg P e) ok), [← opd P t m, ← opd P kt k])
    | _ => none
  | .mapUpdate t m k v => match P.underlying t with
    | some (.map kt e) => do
      some (.i (.mapset (← keyKind P kt)), [← opd P t m, ← opd P kt k, ← opd P e v])
    | _ => none
  | .range t m => match P.underlying t with
    | some (.map _ _) => do some (.i .range, [← opd P t m])
    | _ => none
  | .next x false => do some (.i .next, [← opd P o.type x])
  | .entry x => do some (.l .entry, [← opd P o.type x])
  | .extract x i => do some (.p (.ext i), [← opd P o.type x])
  | .panic x => do some (.i .panic, [← opd P o.type x])
  | .typeAssert x _ t true => match P.underlying t with
    | some (.interface _) | none => none
    | _ => do some (.p (.assertOk t (← zeroA P t) (isAggB P t)), [← opd P o.type x])
  | .makeSlice t l c => match P.underlying t with
    | some (.slice e) => do
      some (.i (.makeSlice (← eszOf P e) (← bytesE P e) (isAggB P e) (← zeroA P e)), [← opd P o.type l, ← opd P o.type c])
    | _ => none
  | .call c =>
    match c.callee with
    | .value (.func f) => do
      if c.args.size = c.argTypes.size && ((P.funcs[f]?).map (·.body.isSome)).getD false && ((P.funcs[f]?).map (fun g => g.name != "runtime.NumGoroutine")).getD false then
        let xs ← (c.args.toList.zip c.argTypes.toList).mapM fun (x, t) => opd P t x
        some (.i (.call f), xs)
      else if c.args.size = c.argTypes.size then do
        let p ← primOf P f
        let xs ← (c.args.toList.zip c.argTypes.toList).mapM fun (x, t) => opd P t x
        some (.p p, xs)
      else none
    | .value f => do
      if c.args.size = c.argTypes.size then
        let xs ← (c.args.toList.zip c.argTypes.toList).mapM fun (x, t) => opd P t x
        some (.i .callv, (← opd P o.type f) :: xs)
      else none
    | .invoke _ _ => none
    | .builtin b => do
      if c.args.size = c.argTypes.size then
        let xs ← (c.args.toList.zip c.argTypes.toList).mapM fun (x, t) => opd P t x
        match b, c.argTypes.toList with
        | .len, [t] => match P.underlying t with
          | some .string => some (.p .lenS, xs)
          | some (.slice _) => some (.p .lenL, xs)
          | some (.array n _) => some (.p (.lenC n), xs)
          | some (.map _ _) => some (.l .lenM, xs)
          | _ => none
        | .cap, [t] => match P.underlying t with
          | some (.slice _) => some (.i .capL, xs)
          | _ => none
        | .append, [t, u] => match P.underlying t, P.underlying u with
          | some (.slice e), some (.slice _) => (if appOk P e then (do some (.i (.append (← eszOf P e) (← bytesE P e)), xs)) else none)
          | some (.slice e), some .string => (if appOk P e then (do some (.i (.append (← eszOf P e) (← bytesE P e)), xs)) else none)
          | some (.slice e), some (.int _) => (if appOk P e then (do some (.i (.appendZ (← eszOf P e) (← bytesE P e) (isAggB P e) (← zeroA P e)), xs)) else none)
          | _, _ => none
        | .copy, [t, u] => match P.underlying t, P.underlying u with
          | some (.slice e), some (.slice _) => some (.i (.copy (← eszOf P e)), xs)
          | _, _ => none
        | .clear, [t] => match P.underlying t with
          | some (.map _ _) => some (.i .clearM, xs)
          | some (.slice e) => some (.i (.clearL (← zeroA P e)), xs)
          | _ => none
        | .delete, [t, _] => match P.underlying t with
          | some (.map kt _) => do some (.i (.delete (← keyKind P kt)), xs)
          | _ => none
        | .min, [t, _] => if (isInt P t).isSome then some (.p .mn, xs) else none
        | .max, [t, _] => if (isInt P t).isSome then some (.p .mx, xs) else none
        | _, _ => none
      else none
  | _ => none

def cGuard (ops : Array Oper) (o : Oper) : Option (Option (Nat × Bool)) :=
  match o.guard with
  | none => some none
  | some (j, b) => (ops[j]?).bind fun o' => o'.dst.map fun d => some (d, b)

def cROp (ops : Array Oper) (n : Nat) (o : Oper) : Option ROp :=
  (cOp P o).bind fun p => (cGuard ops o).bind fun g =>
    if o.dst.all (· < n) then some { dst := o.dst, op := p.1, args := p.2, guard := g } else none

def AOp.quiet : AOp → Bool
  | .i _ => false
  | _ => true

def AOp.looks : AOp → Bool
  | .l _ => true
  | _ => false

def ROp.reads (r : ROp) : List Nat :=
  (r.args.filterMap fun | .t t => some t | _ => none) ++ (match r.guard with | some (g, _) => [g] | none => [])

def depsOf (o : Oper) : List Nat := (o.after.toList.filter (Region.binds .any)).map (·.on)

section sched
variable (rs : List ROp) (dl : List (List Nat))

def depOf (i : Nat) : List Nat := dl.getD i []

/-- Nothing waits for what comes behind it; of two, one that reads what the other writes, one waits for the other; all write unlike places. -/
def schedOK : Bool :=
  (List.range rs.length).all fun i => (depOf dl i).all (· < i) &&
    (List.range rs.length).all fun j => match rs[i]?, rs[j]? with
      | some x, some y => match y.dst with
        | some t => (!x.reads.contains t || (depOf dl i).contains j || (depOf dl j).contains i || i == j) && (i == j || x.dst != some t)
        | none => true
      | _, _ => true

/-- Whoever reads what it writes waits for it. -/
def awaited (t : Nat) (i : Nat) : Bool :=
  (List.range rs.length).all fun j => match rs[j]? with
    | some y => !y.reads.contains t || (depOf dl j).contains i
    | none => true

def rdy (C : Array Bool) (i : Nat) : Bool := !C.getD i true && (depOf dl i).all (fun d => C.getD d false)

/-- What an operation waits for, directly and through others. -/
def ancs : Nat → List Nat → List Nat
  | 0, l => l
  | j + 1, l => ancs j (if l.contains j then (depOf dl j).filter (fun d => !l.contains d) ++ l else l)

def isQ (i : Nat) : Bool := match rs[i]? with
  | some r => r.op.quiet && (match r.dst with | some t => awaited rs dl t i | none => true)
  | none => false

def recheck (C : Array Bool) (i : Nat) : List ROp :=
  let an := ancs dl i (depOf dl i)
  (List.range rs.length).filterMap fun k => match rs[k]? with
    | some r => if r.op.looks && C.getD k false && !an.contains k then some r else none
    | none => none

def bothOf : List Sched → Option Sched
  | [] => none
  | [s] => some s
  | s :: l => (bothOf l).map (.both s)

def schedFrom : Nat → Array Bool → Option Sched
  | 0, C => if (List.range rs.length).all (fun i => C.getD i false) then some .done else none
  | f + 1, C =>
    if (List.range rs.length).all (fun i => C.getD i false) then some .done else
    match (List.range rs.length).find? (fun i => rdy dl C i && isQ rs dl i) with
    | some i => (rs[i]?).bind fun r => (schedFrom f (C.setIfInBounds i true)).map (.q r)
    | none => ((List.range rs.length).filter (rdy dl C)).mapM (fun i => (rs[i]?).bind fun r => (schedFrom f (C.setIfInBounds i true)).map (.e r (recheck rs dl C i))) |>.bind bothOf

end sched

def schedOf (ops : Array Oper) (rs : List ROp) : Option Sched :=
  let dl := ops.toList.map depsOf
  if schedOK rs dl then schedFrom rs dl rs.length (Array.replicate rs.length false) else none

def cCode (n : Nat) : Code → Option ACode
  | .skip => some .skip
  | .region _ ops d => do
    let l ← ops.toList.mapM (cROp P ops n)
    if d then (schedOf ops l).map .draw else some (.region l)
  | .seq a b => do some (.seq (← cCode n a) (← cCode n b))
  | .cond c a b => do some (.cond (← opd P 0 c) (← cCode n a) (← cCode n b))
  | .block id b => do some (.block id (← cCode n b))
  | .loop b => do some (.loop (← cCode n b))
  | .rangeFunc f ps a b => do some (.rangeFunc (← opd P 0 f) ps.toList (← cCode n a) (← cCode n b))
  | .exit id => some (.exit id)
  | .scope b => do some (.scope (← cCode n b))
  | .label l => some (.label l)
  | .goto l => some (.goto l)
  | .ret => some .ret
  | .refuse _ => none

def cFunc (f : Func) : Option AFunc := do
  let c ← f.body
  let code ← cCode P f.ntmps c
  let res ← f.results.toList.mapM fun
    | .tmp t => some (ARes.t t)
    | .cell a t => do some (ARes.cell a (← szO P t))
  some { code, n := f.ntmps, res }

end compile

end Go.Am
