/- The abstract machine: what each operation does. -/
import Derived.Test.YteinffefhcpcmaaGreatDoorAmIr
import Derived.Lib.Bytealg
namespace Go.Am

abbrev Fr := List (Nat × AVal)

def Fr.get : Fr → Nat → AVal
  | [], _ => .junk
  | (d, v) :: r, t => if d = t then v else Fr.get r t

def Fr.put (fr : Fr) (dst : Option Nat) (v : AVal) : Fr :=
  match dst with
  | some d => (d, v) :: fr
  | none => fr

def Fr.ev (fr : Fr) : Opd → AVal
  | .t n => fr.get n
  | .c a => a

def bytesLess : List UInt8 → List UInt8 → Bool := Go.Op.bytesLess

def aint (op : BinOp) (k : IntKind) (a b : Int) : Option AVal :=
  match op with
  | .add => some (.int k (k.wrap (a + b)))
  | .sub => some (.int k (k.wrap (a - b)))
  | .mul => some (.int k (k.wrap (a * b)))
  | .quo => if b = 0 then none else some (.int k (k.wrap (a.tdiv b)))
  | .rem => if b = 0 then none else some (.int k (a.tmod b))
  | .and => some (.int k (k.wrap (BitVec.ofInt k.bits a &&& BitVec.ofInt k.bits b).toNat))
  | .or => some (.int k (k.wrap (BitVec.ofInt k.bits a ||| BitVec.ofInt k.bits b).toNat))
  | .xor => some (.int k (k.wrap (BitVec.ofInt k.bits a ^^^ BitVec.ofInt k.bits b).toNat))
  | .andNot => some (.int k (k.wrap (BitVec.ofInt k.bits a &&& ~~~ BitVec.ofInt k.bits b).toNat))
  | .eql => some (.bool (a == b))
  | .neq => some (.bool (a != b))
  | .lss => some (.bool (decide (a < b)))
  | .leq => some (.bool (decide (a ≤ b)))
  | .gtr => some (.bool (decide (a > b)))
  | .geq => some (.bool (decide (a ≥ b)))
  | _ => none

def astr (op : BinOp) (a b : List UInt8) : Option AVal :=
  match op with
  | .add => if a.length + b.length < 2 ^ 63 then some (.str (a ++ b)) else none
  | .eql => some (.bool (a == b))
  | .neq => some (.bool (!(a == b)))
  | .lss => some (.bool (bytesLess a b))
  | .leq => some (.bool (bytesLess a b || a == b))
  | .gtr => some (.bool (!(bytesLess a b || a == b)))
  | .geq => some (.bool (!(bytesLess a b)))
  | _ => none

def ashl (k : IntKind) (a b : Int) : Option AVal := if b < 0 then none else some (.int k (k.wrap (a * 2 ^ (min b.toNat k.bits))))
def ashr (k : IntKind) (a b : Int) : Option AVal := if b < 0 then none else some (.int k (a.fdiv (2 ^ (min b.toNat k.bits))))

/-- Is it nil? -/
def isNil : NilKind → AVal → Option Bool
  | .ptr, .nilp | .map, .nilm | .func, .nilf | .iface, .nili => some true
  | .ptr, .iptr _ | .func, .fn _ _ _ | .ptr, .ref _ _ _ | .map, .mapr _ _ | .iface, .iface _ _ => some false
  | _, _ => none

def abin (op : BinOp) : AVal → AVal → Option AVal
  | .int k a, .int k' b =>
    match op with
    | .shl => ashl k a b
    | .shr => ashr k a b
    | op => if k = k' then aint op k a b else none
  | .str a, .str b => astr op a b
  | .float k a, .float k' b => if k = k' then
      match op with
      | .eql => some (.bool (k.format.order a b == some .eq))
      | .neq => some (.bool (k.format.order a b != some .eq))
      | _ => none
    else none
  | _, _ => none

/-- Are two cells the same (numbers, texts, bools)? -/
def cellEq : AVal → AVal → Option Bool
  | .int k a, .int k' b => if k = k' then some (a == b) else none
  | .str a, .str b => some (a == b)
  | .bool a, .bool b => some (a == b)
  | _, _ => none

def CK.fits : CK → AVal → Bool
  | .b, .bool _ => true
  | .i, .int _ _ => true
  | .s, .str _ => true
  | _, _ => false

def cellsEq : List CK → List AVal → List AVal → Option Bool
  | [], [], [] => some true
  | c :: cs, a :: l, b :: m => if c.fits a = true then
      match cellEq a b, cellsEq cs l m with
      | some x, some y => some (x && y)
      | _, _ => none
    else none
  | _, _, _ => none

def aun (op : UnOp) : AVal → Option AVal
  | .int k n => match op with
    | .neg => some (.int k (k.wrap (0 - n)))
    | .xor => some (.int k (k.wrap (BitVec.ofInt k.bits (if k.signed then -1 else k.max) ^^^ BitVec.ofInt k.bits n).toNat))
    | _ => none
  | .bool b => match op with
    | .not => some (.bool (!b))
    | _ => none
  | _ => none

/-- The bytes that cells are. -/
def bytesOf : List AVal → Option (List UInt8)
  | [] => some []
  | .int .u8 n :: l => (bytesOf l).map (UInt8.ofNat n.toNat :: ·)
  | _ => none

def partA (off : Nat) (sz : Option Nat) (l : List AVal) : Option AVal :=
  match sz with
  | some n => if off + n ≤ l.length then some (.agg ((l.drop off).take n)) else none
  | none => l[off]?

def isV : AVal → Bool
  | .junk | .tup _ => false
  | _ => true

/-- A number, text, pointer .. that fits a cell. -/
def isCell : AVal → Bool
  | .junk | .agg _ | .tup _ => false
  | _ => true

/-- Parts laid over cells. -/
def fillA (l : List AVal) : List (Nat × Nat) → List AVal → Option (List AVal)
  | [], [] => some l
  | (off, sz) :: ps, v :: vs => if isV v = true ∧ v.cells.length = sz ∧ off + sz ≤ l.length then fillA (l.take off ++ v.cells ++ l.drop (off + sz)) ps vs else none
  | _, _ => none

def chunks (e : Nat) (agg : Bool) : Nat → List AVal → List AVal
  | 0, _ => []
  | n + 1, l => (match agg, l with
    | false, a :: _ => a
    | _, _ => .agg (l.take e)) :: chunks e agg n (l.drop e)

def Tag.isFull : Tag → Bool
  | .full => true
  | _ => false

def optInt : Bool → List AVal → Option (Option Int × List AVal)
  | false, r => some (none, r)
  | true, .int _ n :: r => some (some n, r)
  | true, _ => none

/-- Bounds of a slice expression: from, behind the last, the room's end. -/
def bnds (len cap : Nat) (lo hi mx : Bool) (args : List AVal) : Option (Nat × Nat × Nat) :=
  (optInt lo args).bind fun (l, r1) => (optInt hi r1).bind fun (h, r2) => (optInt mx r2).bind fun (m, _) =>
    if 0 ≤ l.getD 0 ∧ l.getD 0 ≤ h.getD len ∧ h.getD len ≤ m.getD cap ∧ m.getD cap ≤ cap then some ((l.getD 0).toNat, (h.getD len).toNat, (m.getD cap).toNat) else none

def pev : POp → List AVal → Option AVal
  | .mv, [x] => some x
  | .pick, [.bool c, a, b] => some (if c then a else b)
  | .bin op, [x, y] => abin op x y
  | .beq neg, [.bool a, .bool b] => some (.bool ((a == b) != neg))
  | .eqs cs neg, [.agg a, .agg b] => (cellsEq cs a b).map fun r => .bool (r != neg)
  | .isnil kd neg, [x] => (isNil kd x).map fun b => .bool (b != neg)
  | .un op, [x] => aun op x
  | .convI k, [.int _ n] => some (.int k (k.wrap n))
  | .convF, [.int _ n] => some (.float .f64 (FloatKind.f64.nearest n))
  | .convId, [.str s] => some (.str s)
  | .faddr off, [.ref k v o] => some (.ref k v (o + off))
  | .faddr off, [.iptr cs] => some (.iptr (cs.drop off))
  | .iaddr e, [.list _ e' l, .int _ i] => if e = e' ∧ 0 ≤ i ∧ i.toNat < l.length then (l[i.toNat]?).map fun a => .iptr a.cells else none
  | .iaddr e, [.msl k v e' off len, .int _ i] => if e = e' ∧ 0 ≤ i ∧ i.toNat < len then some (.ref k v (off + i.toNat * e)) else none
  | .iaddrA n e, [.ref k v o, .int _ i] => if 0 ≤ i ∧ i.toNat < n then some (.ref k v (o + i.toNat * e)) else none
  | .iaddrA n e, [.iptr cs, .int _ i] => if 0 ≤ i ∧ i.toNat < n then some (.iptr (cs.drop (i.toNat * e))) else none
  | .field off sz, [.agg l] => partA off sz l
  | .idxA n e sz, [.agg l, .int _ i] => if 0 ≤ i ∧ i.toNat < n then partA (i.toNat * e) sz l else none
  | .idxS, [.str s, .int _ i] => if 0 ≤ i ∧ i.toNat < s.length then (s[i.toNat]?).map fun b => .int .u8 b.toNat else none
  | .slS lo hi, .str s :: args => (bnds s.length s.length lo hi false args).map fun (l, h, _) => .str ((s.take h).drop l)
  | .slL e lo hi mx, .list tag e' l :: args =>
    if e = e' then (bnds l.length l.length lo hi mx args).map fun (a, h, m) =>
      .list (if m = h && (mx || tag.isFull) then .full else .none) e ((l.take h).drop a) else none
  | .slL e lo hi mx, .msl k v e' off len :: args =>
    if e = e' ∧ mx = false then (bnds len len lo hi false args).map fun (a, h, _) => .msl k v e (off + a * e) (h - a) else none
  | .lenS, [.str s] => some (.int .i64 s.length)
  | .lenL, [.list _ _ l] => some (.int .i64 l.length)
  | .lenL, [.msl _ _ _ _ len] => some (.int .i64 len)
  | .lenC n, [_] => some (.int .i64 n)
  | .ext i, [.tup l] => l[i]?
  | .nilchk, [.ref k v o] => some (.ref k v o)
  | .nilchk, [.iptr cs] => some (.iptr cs)
  | .nilchk, [.fn (.func f) a b] => some (.fn (.func f) a b)
  | .mkf f nf, l => some (.fn f (l.take nf) (l.drop nf))
  | .mki t, [x] => some (.iface t x)
  | .build z ps, vs => (fillA z.cells ps vs).map .agg
  | .bsl e n ag z ps, vs => (fillA ((List.replicate n z.cells).flatten) ps vs).bind fun cs => if (ag = true ∨ e = 1) ∧ cs.all isCell = true then some (.list .full e (chunks e ag n cs)) else none
  | .mn, [.int k a, .int k' b] => if k = k' then some (.int k (if b < a then b else a)) else none
  | .mx, [.int k a, .int k' b] => if k = k' then some (.int k (if b > a then b else a)) else none
  | .f64bits, [.float .f64 b] => some (.int .u64 b)
  | .f64from, [.int .u64 n] => some (.float .f64 n.toNat)
  | .add64, [.int .u64 a, .int .u64 b, .int .u64 c] => if 0 ≤ a ∧ 0 ≤ b ∧ 0 ≤ c ∧ c ≤ 1 then some (.tup [.int .u64 ((a + b + c) % 18446744073709551616), .int .u64 ((a + b + c) / 18446744073709551616)]) else none
  | .cmpS, [.str a, .str b] => some (.int .i64 (Lib.compareBytes a b))
  | .assertOk t _ _, [.iface u x] => if u = t then some (.tup [x, .bool true]) else none
  | _, _ => none

end Go.Am
