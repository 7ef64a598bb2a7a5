/- The abstract machine: what is claimed of a piece of code, of a call. -/
import Derived.Test.YteinffefhcpcmaaGreatDoorAmEval
namespace Go.Am

def Store.kill (st : Store) : Tag → Store
  | .tk k _ => st.set k ⟨(st k).ver, none⟩
  | _ => st

def App (st : Store) (tag : Tag) (n : Nat) : Prop :=
  match tag with
  | .full => True
  | .tk k v => (st k).ver = v ∧ (st k).obj = some (.tail n)
  | .none => False

/-- The cells of a live object. -/
def cellsAt (st : Store) (k : Key) (v : Nat) : Option (List AVal) :=
  if (st k).ver = v then
    match (st k).obj with
    | some (.cells l) => some l
    | _ => none
  else none

def load (st : Store) (sz : Option Nat) : AVal → Option AVal
  | .ref k v off => (cellsAt st k v).bind (partA off sz)
  | .iptr cs => partA 0 sz cs
  | _ => none

def mapAt (st : Store) (k : Key) (v : Nat) : Option (List AEntry × Nat) :=
  if (st k).ver = v then
    match (st k).obj with
    | some (.map es c) => some (es, c)
    | _ => none
  else none

/-- The entry of a key; 'none': a key is none that can be held against. -/
def findE : List AEntry → AVal → Option (Option AEntry)
  | [], _ => some none
  | e :: es, k => match cellEq k e.key with
    | some true => some (some e)
    | some false => findE es k
    | none => none

/-- A key of a kind: a text, or a number. -/
def keyIs : Bool → AVal → Bool
  | true, .str _ => true
  | false, .int _ _ => true
  | _, _ => false

/-- The elements behind a slice. -/
def elems (st : Store) : AVal → Option (Nat × List AVal)
  | .list _ e l => some (e, l)
  | .msl k v e off len =>
    if (st k).ver = v then
      match (st k).obj with
      | some (.cells l) => if off + len * e ≤ l.length ∧ ((l.drop off).take (len * e)).all isCell = true then some (e, chunks e (e != 1) len ((l.drop off).take (len * e))) else none
      | _ => none
    else none
  | _ => none

def Zero.val (z : Zero) (agg : Bool) : AVal := if agg then .agg z.cells else z.cells.headD .junk

def lev (st : Store) : LOp → List AVal → Option AVal
  | .load sz, [p] => load st sz p
  | .lenM, [.nilm] => some (.int .i64 0)
  | .lenM, [.mapr k v] => (mapAt st k v).map fun m => .int .i64 m.1.length
  | .lookup ks z agg ok, [.nilm, key] => if keyIs ks key then some (if ok then .tup [z.val agg, .bool false] else z.val agg) else none
  | .lookup ks z agg ok, [.mapr k v, key] => if keyIs ks key then (mapAt st k v).bind fun m => (findE m.1 key).map fun r =>
    match r with
    | some e => if ok then .tup [e.val, .bool true] else e.val
    | none => if ok then .tup [z.val agg, .bool false] else z.val agg else none
  | .slA n e lo hi false, .ref k v off :: args => (cellsAt st k v).bind fun l => if off + n * e ≤ l.length ∧ n < 2 ^ 62 then (bnds n n lo hi false args).map fun (a, h, _) => .msl k v e (off + a * e) (h - a) else none
  | .convS, [x] => (elems st x).bind fun p => if p.1 = 1 then (bytesOf p.2).map .str else none
  | .entry, [.ref k v 0] => if (st k).ver = v then
      match (st k).obj with
      | some (.iter m mv _ seen last) => (mapAt st m mv).bind fun p => if p.2 = last then
          (seen.getLast?).bind fun b => (p.1.find? (fun e => e.born == b)).map fun e => .tup [e.key, e.val]
        else none
      | _ => none
    else none
  | _, _ => none

def bytesA (s : List UInt8) : List AVal := s.map fun b => .int .u8 b.toNat

/-- The elements that an append's second operand brings. -/
def srcA (st : Store) : AVal → Option (List AVal)
  | .list _ _ m => some m
  | .str s => some (bytesA s)
  | x => (elems st x).map (·.2)

def srcE : AVal → Option ESz
  | .list _ e _ => some e
  | .str _ => some 1
  | .msl _ _ e _ _ => some e
  | _ => none

def splice (l : List AVal) (off : Nat) (cs : List AVal) : List AVal := l.take off ++ cs ++ l.drop (off + cs.length)

inductive AEnd where
  | ret (v : AVal)
  | panic (v : AVal)

inductive AEndRep (G : Ghost) (st : Store) : AEnd → Ending → Prop
  | ret (v : AVal) (x : Value) (h : Rep G st v x) : AEndRep G st (.ret v) (.returned x)
  | panic (v : AVal) (x : Value) (h : Rep G st v x) : AEndRep G st (.panic v) (.panicked [{ v := x, recovered := false }])

/-- What a call does, said abstractly: wherever the arguments and the store are what the world has, the call ends as told. -/
def ACalls (P : Program) (f : FuncId) (args : List AVal) (st : Store) (R : AEnd → Store → Prop) : Prop :=
  ∀ G w vs, ConcS G w st → RepL G st args vs → Calls P f vs.toArray w fun e w' =>
    ∃ ae st' G', R ae st' ∧ AEndRep G' st' ae e ∧ ConcS G' w' st' ∧ Ext G w st G' w' st'

theorem ACalls.mono {P : Program} {f : FuncId} {args : List AVal} {st : Store} {R R' : AEnd → Store → Prop} (h : ACalls P f args st R)
    (hr : ∀ e st', R e st' → R' e st') : ACalls P f args st R' :=
  fun G w vs hc ha => (h G w vs hc ha).mono fun _ _ ⟨ae, st', G', h1, h2⟩ => ⟨ae, st', G', hr _ _ h1, h2⟩

def endK (K : AVal → Store → Prop) (KP : AVal → Store → Prop) : AEnd → Store → Prop
  | .ret v, st => K v st
  | .panic v, st => KP v st

section
variable (P : Program)

/-- A function with a body of its own. -/
def Callable (f : FuncId) : Prop := ∃ fn, P.funcs[f]? = some fn ∧ fn.body.isSome = true ∧ fn.name ≠ "runtime.NumGoroutine"

def setE : List AEntry → AVal → AVal → Option (Option (List AEntry))
  | [], _, _ => some none
  | e :: es, k, x => match cellEq k e.key with
    | some true => some (some (⟨e.born, k, x⟩ :: es))
    | some false => (setE es k x).map fun r => r.map (e :: ·)
    | none => none

def delE : List AEntry → AVal → Option (List AEntry)
  | [], _ => some []
  | e :: es, k => match cellEq k e.key with
    | some true => some es
    | some false => (delE es k).map (e :: ·)
    | none => none

/-- What may come next of a map that is walked over. -/
def nextOK (es : List AEntry) (since : Nat) (seen : List Nat) (last : Nat) (over : Prop) (at_ : AEntry → Prop) : Prop :=
  ((!seen.isEmpty && !es.isEmpty && es.all (fun e => decide (e.born ≥ last))) = false) ∧
  (((es.filter fun e => !seen.contains e.born).filter fun e => decide (e.born < since)) = [] → over) ∧
  ∀ e ∈ es.filter (fun e => !seen.contains e.born), at_ e

/-- An operation that changes the store, or calls. 'key': the name of what it makes; 'mu': what it makes by append may be written in place. -/
def iwp (key : Key) (mu : Bool) : IOp → List AVal → Store → (AVal → Store → Prop) → (AVal → Store → Prop) → Prop
  | .alloc z, [], st, K, _ => K (.ref key ((st key).ver + 1) 0) (st.set key ⟨(st key).ver + 1, some (.cells z.cells)⟩)
  | .box sz, [v], st, K, _ => isV v = true ∧ v.cells.length = sz ∧ K (.ref key ((st key).ver + 1) 0) (st.set key ⟨(st key).ver + 1, some (.cells v.cells)⟩)
  | .store sz, [.ref k v off, x], st, K, _ => (st k).ver = v ∧ isV x = true ∧ x.cells.all isCell = true ∧ x.cells.length = sz ∧
      match (st k).obj with
      | some (.cells l) => off + sz ≤ l.length ∧ K .junk (st.set k ⟨v, some (.cells (splice l off x.cells))⟩)
      | _ => False
  | .append e by_, [.list tag e' l, x], st, K, _ =>
      if mu then False else
        e = e' ∧ App st tag l.length ∧ srcE x = some e ∧ ∃ m, srcA st x = some m ∧ (l.length + m.length) * by_ ≤ 2 ^ 47 ∧
          K (.list (.tk key (((st.kill tag) key).ver + 1)) e (l ++ m)) ((st.kill tag).set key ⟨((st.kill tag) key).ver + 1, some (.tail (l ++ m).length)⟩)
  | .call f, args, st, K, KP => ACalls P f args st (endK K KP)
  | .callv, .fn (.func f) first captured :: args, st, K, KP => Callable P f ∧ ACalls P f (first ++ args ++ captured) st (endK K KP)
  | .panic, [x], st, _, KP => (∃ t y, x = .iface t y) ∧ KP x st
  | .mkmap, [], st, K, _ => K (.mapr key ((st key).ver + 1)) (st.set key ⟨(st key).ver + 1, some (.map [] 0)⟩)
  | .mapset ks, [.mapr k v, key', x], st, K, _ => keyIs ks key' = true ∧ ∃ es c, mapAt st k v = some (es, c) ∧
      ((∃ es', setE es key' x = some (some es') ∧ K .junk (st.set k ⟨v, some (.map es' c)⟩)) ∨
       (setE es key' x = some none ∧ K .junk (st.set k ⟨v, some (.map (es ++ [⟨c, key', x⟩]) (c + 1))⟩)))
  | .delete ks, [.nilm, key'], st, K, _ => keyIs ks key' = true ∧ K .junk st
  | .delete ks, [.mapr k v, key'], st, K, _ => keyIs ks key' = true ∧ ∃ es c, mapAt st k v = some (es, c) ∧ ∃ es', delE es key' = some es' ∧ K .junk (st.set k ⟨v, some (.map es' c)⟩)
  | .clearM, [.nilm], st, K, _ => K .junk st
  | .clearM, [.mapr k v], st, K, _ => ∃ es c, mapAt st k v = some (es, c) ∧ K .junk (st.set k ⟨v, some (.map [] c)⟩)
  | .clearL _, [.list _ _ []], st, K, _ => K .junk st
  | .clearL z, [.msl k v e off len], st, K, _ => (st k).ver = v ∧ z.cells.length = e ∧ 0 < e ∧ 0 < len ∧ z.cells.all isCell = true ∧
      match (st k).obj with
      | some (.cells l) => off + len * e ≤ l.length ∧ K .junk (st.set k ⟨v, some (.cells (splice l off (List.replicate len z.cells).flatten))⟩)
      | _ => False
  | .range, [.mapr k v], st, K, _ => ∃ es c, mapAt st k v = some (es, c) ∧
      K (.ref key ((st key).ver + 1) 0) (st.set key ⟨(st key).ver + 1, some (.iter k v c [] c)⟩)
  | .next, [.ref k v 0], st, K, _ => (st k).ver = v ∧
      match (st k).obj with
      | some (.iter m mv since seen last) => ∃ es c, mapAt st m mv = some (es, c) ∧
          nextOK es since seen last (K (.tup [.bool false]) st) fun e => K (.tup [.bool true, e.key, e.val]) (st.set k ⟨v, some (.iter m mv since (seen ++ [e.born]) c)⟩)
      | _ => False
  | .makeSlice e by_ _ z, [.int _ l, .int _ c], st, K, _ => 0 ≤ l ∧ l ≤ c ∧ c * by_ ≤ 2 ^ 47 ∧ c < 2 ^ 62 ∧ z.cells.length = e ∧
      K (.msl key ((st key).ver + 1) e 0 l.toNat) (st.set key ⟨(st key).ver + 1, some (.cells (List.replicate c.toNat z.cells).flatten)⟩)
  | .convB, [.str s], st, K, _ => K (.msl key ((st key).ver + 1) 1 0 s.length) (st.set key ⟨(st key).ver + 1, some (.cells (bytesA s))⟩)
  | .appendZ e by_ ag z, [.list tag e' l, .int k n], st, K, _ => k = .i64 ∧ e = e' ∧ App st tag l.length ∧ 0 ≤ n ∧ z.cells.length = e ∧ z.cells.all isCell = true ∧ (ag = true ∨ e = 1) ∧ (l.length + n.toNat) * by_ ≤ 2 ^ 47 ∧
      K (.list (.tk key (((st.kill tag) key).ver + 1)) e (l ++ chunks e ag n.toNat (List.replicate n.toNat z.cells).flatten)) ((st.kill tag).set key ⟨((st.kill tag) key).ver + 1, some (.tail (l.length + n.toNat))⟩)
  | _, _, _, _, _ => False

/-- The names of what a function makes: by the operation's slot. -/
structure Nm where
  key : Nat → Key
  mu : Nat → Bool

def rop (nm : Nm) (o : ROp) (fr : Fr) (st : Store) (K : Fr → Store → Prop) (KP : AVal → Fr → Store → Prop) : Prop :=
  match o.op with
  | .p p => ∃ v, pev p (o.args.map fr.ev) = some v ∧ K (fr.put o.dst v) st
  | .l l => ∃ v, lev st l (o.args.map fr.ev) = some v ∧ K (fr.put o.dst v) st
  | .i i => iwp P (nm.key (o.dst.getD 0)) (nm.mu (o.dst.getD 0)) i (o.args.map fr.ev) st (fun v st' => K (fr.put o.dst v) st') (fun v st' => KP v fr st')

def ropG (nm : Nm) (o : ROp) (fr : Fr) (st : Store) (K : Fr → Store → Prop) (KP : AVal → Fr → Store → Prop) : Prop :=
  match o.guard with
  | none => rop P nm o fr st K KP
  | some (g, b) => match fr.get g with
    | .bool c => if c = b then rop P nm o fr st K KP else K (fr.put o.dst (.tup [])) st
    | .tup [] => K (fr.put o.dst (.tup [])) st
    | _ => False

def rwp (nm : Nm) : List ROp → Fr → Store → (Fr → Store → Prop) → (AVal → Fr → Store → Prop) → Prop
  | [], fr, st, K, _ => K fr st
  | o :: os, fr, st, K, KP => ropG P nm o fr st (fun fr st => rwp nm os fr st K KP) KP

end

def qop (o : ROp) (fr : Fr) (st : Store) : Option AVal :=
  match o.op with
  | .p p => pev p (o.args.map fr.ev)
  | .l l => lev st l (o.args.map fr.ev)
  | .i _ => none

/-- What an operation that only looks makes. -/
def qev (o : ROp) (fr : Fr) (st : Store) : Option AVal :=
  match o.guard with
  | none => qop o fr st
  | some (g, b) => match fr.get g with
    | .bool c => if c = b then qop o fr st else some (.tup [])
    | .tup [] => some (.tup [])
    | _ => none

/-- Asked again, it makes what it made. -/
def still (o : ROp) (fr : Fr) (st : Store) : Prop := ∃ v, qev o fr st = some v ∧ ∀ d, o.dst = some d → fr.get d = v

def stills : List ROp → Fr → Store → Prop
  | [], _, _ => True
  | o :: l, fr, st => still o fr st ∧ stills l fr st

def swp (P : Program) (nm : Nm) : Sched → Fr → Store → (Fr → Store → Prop) → (AVal → Fr → Store → Prop) → Prop
  | .done, fr, st, K, _ => K fr st
  | .q o s, fr, st, K, KP => ∃ v, qev o fr st = some v ∧ swp P nm s (fr.put o.dst v) st K KP
  | .e o re s, fr, st, K, KP => ropG P nm o fr st (fun fr' st' => stills re fr' st' ∧ swp P nm s fr' st' K KP) (fun v _ st' => ∀ fr', KP v fr' st')
  | .both a b, fr, st, K, KP => swp P nm a fr st K KP ∧ swp P nm b fr st K KP

inductive AExit where
  | normal
  | exit (id : Nat)
  | goto (l : Nat)
  | ret
  | panic (v : AVal)

structure ASt where
  fr : Fr
  st : Store

inductive AExitRep (G : Ghost) (st : Store) : AExit → Exit → Prop
  | normal : AExitRep G st .normal .normal
  | exit (id : Nat) : AExitRep G st (.exit id) (.exit id)
  | goto (l : Nat) : AExitRep G st (.goto l) (.goto l)
  | ret : AExitRep G st .ret .ret
  | panic (v : AVal) (x : Value) (h : Rep G st v x) : AExitRep G st (.panic v) (.panic [{ v := x, recovered := false }])

structure Conc (n : Nat) (G : Ghost) (w : World) (s : ASt) (a : Act) : Prop where
  st : ConcS G w s.st
  size : a.tmps.size = n
  fr : ∀ t, Rep G s.st (s.fr.get t) (a.tmps.getD t undef)

/-- The same, with what is put off till the function's end. -/
structure ConcD (n : Nat) (D : List Deferred) (G : Ghost) (w : World) (s : ASt) (a : Act) : Prop extends Conc n G w s a where
  defers : a.defers = D

abbrev AQ := AExit → Fr → Store → Prop

/-- What is claimed of a piece of code. -/
def AW (P : Program) (n : Nat) (c : Code) (Q : AQ) (fr : Fr) (st : Store) : Prop :=
  ∀ D G w a, ConcD n D G w ⟨fr, st⟩ a → c.wp P (fun e a' w' => ∃ ae fr' st' G', Q ae fr' st' ∧ AExitRep G' st' ae e ∧ ConcD n D G' w' ⟨fr', st'⟩ a' ∧ Ext G w st G' w' st') a w

/-- The same of code as the abstract machine reads it. -/
def AC (P : Program) (nm : Nm) (n : Nat) (c : ACode) (Q : AQ) (fr : Fr) (st : Store) : Prop :=
  ∀ code, cCode P n code = some c → AW P n code Q fr st

def thenQ (next : Fr → Store → Prop) (Q : AQ) : AQ
  | .normal, fr, st => next fr st
  | e, fr, st => Q e fr st

def blockQ (id : Nat) (Q : AQ) : AQ
  | .exit id', fr, st => if id' = id then Q .normal fr st else Q (.exit id') fr st
  | e, fr, st => Q e fr st

/-- What suffices for a piece of code: computed along it; loops, jumps and the like stay as they are. -/
def awp (P : Program) (nm : Nm) (n : Nat) : ACode → AQ → Fr → Store → Prop
  | .skip, Q, fr, st => Q .normal fr st
  | .region ops, Q, fr, st => rwp P nm ops fr st (Q .normal) (fun v fr st => Q (.panic v) fr st)
  | .draw s, Q, fr, st => swp P nm s fr st (Q .normal) (fun v fr st => Q (.panic v) fr st)
  | .seq a b, Q, fr, st => awp P nm n a (thenQ (awp P nm n b Q) Q) fr st
  | .cond c a b, Q, fr, st => match fr.ev c with
    | .bool t => if t then awp P nm n a Q fr st else awp P nm n b Q fr st
    | _ => False
  | .block id b, Q, fr, st => awp P nm n b (blockQ id Q) fr st
  | .exit id, Q, fr, st => Q (.exit id) fr st
  | .label _, Q, fr, st => Q .normal fr st
  | .goto l, Q, fr, st => Q (.goto l) fr st
  | .ret, Q, fr, st => Q .ret fr st
  | c, Q, fr, st => AC P nm n c Q fr st

end Go.Am
