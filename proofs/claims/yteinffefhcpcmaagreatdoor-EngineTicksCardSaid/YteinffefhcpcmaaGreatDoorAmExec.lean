/- The abstract machine, run: operations, code, calls. -/
import Derived.Test.YteinffefhcpcmaaGreatDoorAmRun
namespace Go.Am

abbrev Outs := List (AVal × Hp)

def mk (i : Nat) (v : AVal) (o : AObj) (h : Hp) : Option Outs :=
  match h.get i with
  | none => some [(v, h.put i ⟨1, some (.o o)⟩)]
  | some _ => none

def upd (k : Key) (v : Nat) (o : AObj) (h : Hp) : Option Outs := some [(.junk, h.put k.2 ⟨v, some (.o o)⟩)]

/-- A new array of zeros. -/
def mkArr (i : Nat) (n : Nat) (h : Hp) : Option Outs :=
  match h.get i with
  | none => some [(.ref (0, i) 1 0, h.put i ⟨1, some (.arr n [])⟩)]
  | some _ => none

def updArr (k : Key) (v : Nat) (n : Nat) (over : List (Nat × Nat)) (h : Hp) : Option Outs := some [(.junk, h.put k.2 ⟨v, some (.arr n over)⟩)]

/-- What an append makes. -/
def appx (i : Nat) (e : ESz) (tag : Tag) (len : Nat) (l : List AVal) (n : Nat) (h : Hp) : Option Outs :=
  match tag with
  | .full => mk i (.list (.tk (0, i) 1) e l) (.tail n) h
  | .tk k v =>
    match objAt h k v with
    | some (.tail m) => cond (Nat.beq m len) (mk i (.list (.tk (0, i) 1) e l) (.tail n) (h.put k.2 ⟨v, none⟩)) none
    | _ => none
  | .none => none

/-- What may come next of a map. -/
def nexts (k : Key) (v : Nat) (m : Key) (mv since : Nat) (seen : List Nat) (last : Nat) (es : List AEntry) (c : Nat) (h : Hp) : Option Outs :=
  if (!seen.isEmpty && !es.isEmpty && es.all (fun e => decide (e.born ≥ last))) = true then none else
    some ((match (es.filter fun e => !seen.contains e.born).filter fun e => decide (e.born < since) with
      | [] => [(.tup [.bool false], h)]
      | _ => []) ++ (es.filter fun e => !seen.contains e.born).map fun e => (.tup [.bool true, e.key, e.val], h.put k.2 ⟨v, some (.o (.iter m mv since (seen ++ [e.born]) c))⟩))

/-- An operation that changes the store; 'i': the number of what it makes. -/
def iex (i : Nat) : IOp → List AVal → Hp → Option Outs
  | .alloc z, [], h => mk i (.ref (0, i) 1 0) (.cells z.cells) h
  | .box sz, [v], h => if isV v = true ∧ Nat.blt 1000 sz = true ∧ zeros sz v.cells = true then mkArr i sz h else if isV v = true ∧ v.cells.length = sz then mk i (.ref (0, i) 1 0) (.cells v.cells) h else none
  | .store sz, [.ref k v off, x], h =>
    match arrAt h k v with
    | some (n, over) => match x with
      | .int .u64 (.ofNat m) => if sz = 1 ∧ off < n ∧ sorted 0 over = true then updArr k v n (ins over off m) h else none
      | _ => none
    | none => match objAt h k v with
    | some (.cells l) => if isV x = true ∧ x.cells.all isCell = true ∧ x.cells.length = sz ∧ off + sz ≤ l.length then upd k v (.cells (splice l off x.cells)) h else none
    | _ => none
  | .append e by_, [.list tag e' l, x], h =>
    match srcA h.st x with
    | some m => if e = e' ∧ srcE x = some e ∧ (l.length + m.length) * by_ ≤ 2 ^ 47 then appx i e tag l.length (l ++ m) (l ++ m).length h else none
    | none => none
  | .appendZ e by_ ag z, [.list tag e' l, .int k n], h =>
    if k = .i64 ∧ e = e' ∧ 0 ≤ n ∧ z.cells.length = e ∧ z.cells.all isCell = true ∧ (ag = true ∨ e = 1) ∧ (l.length + n.toNat) * by_ ≤ 2 ^ 47 then
      appx i e tag l.length (l ++ chunks e ag n.toNat (List.replicate n.toNat z.cells).flatten) (l.length + n.toNat) h
    else none
  | .mkmap, [], h => mk i (.mapr (0, i) 1) (.map [] 0) h
  | .mapset ks, [.mapr k v, key, x], h =>
    match objAt h k v with
    | some (.map es c) => if keyIs ks key = true then
        match setE es key x with
        | some (some es') => upd k v (.map es' c) h
        | some none => upd k v (.map (es ++ [⟨c, key, x⟩]) (c + 1)) h
        | none => none
      else none
    | _ => none
  | .delete ks, [.nilm, key], h => if keyIs ks key = true then some [(.junk, h)] else none
  | .delete ks, [.mapr k v, key], h =>
    match objAt h k v with
    | some (.map es c) => if keyIs ks key = true then
        match delE es key with
        | some es' => upd k v (.map es' c) h
        | none => none
      else none
    | _ => none
  | .clearM, [.nilm], h => some [(.junk, h)]
  | .clearM, [.mapr k v], h =>
    match objAt h k v with
    | some (.map _ c) => upd k v (.map [] c) h
    | _ => none
  | .clearL _, [.list _ _ []], h => some [(.junk, h)]
  | .clearL z, [.msl k v e off len], h =>
    match arrAt h k v with
    | some (n, _) => if e = 1 ∧ off = 0 ∧ len = n ∧ 0 < n ∧ z.cells.length = 1 ∧ zeros 1 z.cells = true then updArr k v n [] h else none
    | none => match objAt h k v with
    | some (.cells l) => if z.cells.length = e ∧ 0 < e ∧ 0 < len ∧ z.cells.all isCell = true ∧ off + len * e ≤ l.length then upd k v (.cells (splice l off (List.replicate len z.cells).flatten)) h else none
    | _ => none
  | .range, [.mapr k v], h =>
    match objAt h k v with
    | some (.map _ c) => mk i (.ref (0, i) 1 0) (.iter k v c [] c) h
    | _ => none
  | .next, [.ref k v 0], h =>
    match objAt h k v with
    | some (.iter m mv since seen last) =>
      match objAt h m mv with
      | some (.map es c) => nexts k v m mv since seen last es c h
      | _ => none
    | _ => none
  | .makeSlice e by_ _ z, [.int _ l, .int _ c], h =>
    if 0 ≤ l ∧ l ≤ c ∧ c * by_ ≤ 2 ^ 47 ∧ c < 2 ^ 62 ∧ z.cells.length = e then mk i (.msl (0, i) 1 e 0 l.toNat) (.cells (List.replicate c.toNat z.cells).flatten) h else none
  | .convB, [.str s], h => mk i (.msl (0, i) 1 1 0 s.length) (.cells (bytesA s)) h
  | _, _, _ => none

/-- What is looked up: of an array of numbers at once. -/
def xlev (h : Hp) (l : LOp) (args : List AVal) : Option AVal :=
  match l, args with
  | .load none, [.ref k v off] => match arrAt h k v with
    | some (n, over) => if off < n ∧ sorted 0 over = true then some (.int .u64 (.ofNat (look over off))) else none
    | none => load h.st none (.ref k v off)
  | .slA n e lo hi false, .ref k v off :: args => match arrAt h k v with
    | some (m, _) => if off + n * e ≤ m ∧ n < 2 ^ 62 then (bnds n n lo hi false args).map fun (a, h, _) => .msl k v e (off + a * e) (h - a) else none
    | none => lev h.st (.slA n e lo hi false) (.ref k v off :: args)
  | l, args => lev h.st l args

def bindL {α β : Type} (f : α → Option (List β)) : List α → Option (List β)
  | [] => some []
  | a :: l => match f a with
    | none => none
    | some x => match bindL f l with
      | none => none
      | some y => some (x ++ y)

abbrev CallF := FuncId → List AVal → Hp → Nat → Option (List (AVal × Hp × Nat))

section
variable (call : CallF)

def xop (b n : Nat) (o : ROp) (rf : RF) (h : Hp) (nx : Nat) : Option (List (AVal × Hp × Nat)) :=
  match o.op with
  | .p p => match pev p (o.args.map rf.ev) with
    | some v => some [(v, h, nx)]
    | none => none
  | .l l => match xlev h l (o.args.map rf.ev) with
    | some v => some [(v, h, nx)]
    | none => none
  | .i i => match i, o.args.map rf.ev with
    | .call f, args => call f args h nx
    | .callv, .fn (.func f) first cap :: rest => call f (first ++ rest ++ cap) h nx
    | i, args => cond (Nat.blt (o.dst.getD 0) n) (match iex (b + o.dst.getD 0) i args h with
      | some l => some (l.map fun p => (p.1, p.2, nx))
      | none => none) none

def xopG (b n : Nat) (o : ROp) (rf : RF) (h : Hp) (nx : Nat) : Option (List (AVal × Hp × Nat)) :=
  match o.guard with
  | none => xop call b n o rf h nx
  | some (g, t) => match rf.at g with
    | .bool c => cond (c == t) (xop call b n o rf h nx) (some [(.tup [], h, nx)])
    | .tup [] => some [(.tup [], h, nx)]
    | _ => none

def xreg (b n : Nat) : List ROp → RF → Hp → Nat → Option (List (RF × Hp × Nat))
  | [], rf, h, nx => some [(rf, h, nx)]
  | o :: os, rf, h, nx => match xopG call b n o rf h nx with
    | none => none
    | some l => bindL (fun (v, h', nx') => xreg b n os (rf.set o.dst v) h' nx') l

/-- What an operation that only looks makes. -/
def xqev (o : ROp) (rf : RF) (h : Hp) : Option AVal :=
  match o.guard with
  | none => match o.op with
    | .p p => pev p (o.args.map rf.ev)
    | .l l => xlev h l (o.args.map rf.ev)
    | .i _ => none
  | some (g, b) => match rf.at g with
    | .bool c => cond (c == b) (match o.op with
      | .p p => pev p (o.args.map rf.ev)
      | .l l => xlev h l (o.args.map rf.ev)
      | .i _ => none) (some (.tup []))
    | .tup [] => some (.tup [])
    | _ => none

def xstill (o : ROp) (rf : RF) (h : Hp) : Bool :=
  match xqev o rf h with
  | some v => match o.dst with
    | some d => veq (rf.at d) v
    | none => true
  | none => false

def xstills : List ROp → RF → Hp → Bool
  | [], _, _ => true
  | o :: l, rf, h => xstill o rf h && xstills l rf h

def xsched (b n : Nat) : Sched → RF → Hp → Nat → Option (List (RF × Hp × Nat))
  | .done, rf, h, nx => some [(rf, h, nx)]
  | .q o s, rf, h, nx => match xqev o rf h with
    | some v => xsched b n s (rf.set o.dst v) h nx
    | none => none
  | .e o re s, rf, h, nx => match xopG call b n o rf h nx with
    | none => none
    | some l => bindL (fun (v, h', nx') => cond (xstills re (rf.set o.dst v) h') (xsched b n s (rf.set o.dst v) h' nx') none) l
  | .both x y, rf, h, nx => match xsched b n x rf h nx, xsched b n y rf h nx with
    | some l, some m => some (l ++ m)
    | _, _ => none

inductive XExit where
  | normal
  | exit (id : Nat)
  | ret

def XExit.a : XExit → AExit
  | .normal => .normal
  | .exit id => .exit id
  | .ret => .ret

abbrev Out := XExit × RF × Hp × Nat

def xloop (body : RF → Hp → Nat → Option (List Out)) : Nat → RF → Hp → Nat → Option (List Out)
  | 0, _, _, _ => none
  | f + 1, rf, h, b => match body rf h b with
    | none => none
    | some l => bindL (fun (e, rf', h', b') => match e with
      | .normal => xloop body f rf' h' b'
      | e => some [(e, rf', h', b')]) l

def xcode (lf n : Nat) : ACode → RF → Hp → Nat → Option (List Out)
  | .skip, rf, h, b => some [(.normal, rf, h, b)]
  | .region ops, rf, h, b => match xreg call b n ops rf h (b + n) with
    | some l => some (l.map fun p => (.normal, p))
    | none => none
  | .draw s, rf, h, b => match xsched call b n s rf h (b + n) with
    | some l => some (l.map fun p => (.normal, p))
    | none => none
  | .seq x y, rf, h, b => match xcode lf n x rf h b with
    | none => none
    | some l => bindL (fun (e, rf', h', b') => match e with
      | .normal => xcode lf n y rf' h' b'
      | e => some [(e, rf', h', b')]) l
  | .cond c x y, rf, h, b => match rf.ev c with
    | .bool true => xcode lf n x rf h b
    | .bool false => xcode lf n y rf h b
    | _ => none
  | .block id x, rf, h, b => match xcode lf n x rf h b with
    | none => none
    | some l => some (l.map fun p => match p with
      | (.exit i, q) => (cond (Nat.beq i id) .normal (.exit i), q)
      | p => p)
  | .loop x, rf, h, b => xloop (xcode lf n x) lf rf h b
  | .exit id, rf, h, b => some [(.exit id, rf, h, b)]
  | .label _, rf, h, b => some [(.normal, rf, h, b)]
  | .ret, rf, h, b => some [(.ret, rf, h, b)]
  | .scope x, rf, h, b => xcode lf n x rf h b
  | _, _, _, _ => none

def xres1 (h : Hp) (rf : RF) : ARes → Option AVal
  | .t n => some (rf.at n)
  | .cell n sz => load h.st sz (rf.at n)

def xresL (h : Hp) (rf : RF) : List ARes → Option (List AVal)
  | [] => some []
  | r :: rs => match xres1 h rf r, xresL h rf rs with
    | some v, some l => some (v :: l)
    | _, _ => none

def xres (h : Hp) (rf : RF) : List ARes → Option AVal
  | [r] => xres1 h rf r
  | rs => match xresL h rf rs with
    | some l => some (.tup l)
    | none => none

def xrets (res : List ARes) : List Out → Option (List (AVal × Hp × Nat))
  | [] => some []
  | (e, rf, h, b) :: l => match e with
    | .exit _ => none
    | _ => match xres h rf res, xrets res l with
      | some v, some m => some ((v, h, b) :: m)
      | _, _ => none

/-- Is what was known below a bound still known? -/
def keeps (b0 : Nat) : Nat → Nat → Hp → Hp → Bool
  | _, _, .leaf, _ => true
  | a, c, .node v l r, .leaf => (match v with
      | some _ => Nat.ble b0 c
      | none => true) && keeps b0 (2 * a) (a + c) l .leaf && keeps b0 (2 * a) (2 * a + c) r .leaf
  | a, c, .node v l r, .node v' l' r' => (match v, v' with
      | some _, none => Nat.ble b0 c
      | _, _ => true) && keeps b0 (2 * a) (a + c) l l' && keeps b0 (2 * a) (2 * a + c) r r'

/-- Ends that are alike become one, in which only what all have alike is known. -/
def joinIn (b0 : Nat) (v : AVal) (h : Hp) (b : Nat) : List (AVal × Hp × Nat) → List (AVal × Hp × Nat)
  | [] => [(v, h, b)]
  | (v', h', b') :: l => cond (veq v v' && keeps b0 1 0 h (meet h h') && keeps b0 1 0 h' (meet h h')) ((v, meet h h', max b b') :: l) ((v', h', b') :: joinIn b0 v h b l)

def joinL (b0 : Nat) : List (AVal × Hp × Nat) → List (AVal × Hp × Nat)
  | [] => []
  | [x] => [x]
  | (v, h, b) :: l => joinIn b0 v h b (joinL b0 l)

def argRF : Nat → List AVal → RF → RF
  | _, [], r => r
  | i, a :: l, r => argRF (i + 1) l (r.put i a)

end

abbrev Prim := FuncId → Option (CallF → List AVal → Hp → Nat → Option (List (AVal × Hp × Nat)))

def xcall (tab : T AFunc) (prim : Prim) (lf : Nat) : Nat → CallF
  | 0, _, _, _, _ => none
  | f + 1, fid, args, h, b => match prim fid with
    | some p => p (xcall tab prim lf f) args h b
    | none => match tab.get fid with
      | none => none
      | some af => cond (Nat.ble args.length af.n) (match xcode (xcall tab prim lf f) lf af.n af.code (argRF 0 args .leaf) h b with
        | none => none
        | some outs => match xrets af.res outs with
          | none => none
          | some l => some (joinL b l)) none

end Go.Am
