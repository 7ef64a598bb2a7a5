/- The abstract machine: values, objects, and what they say of the world. -/
import Derived.Orders
import Derived.Defers
import Derived.Lib.Bytealg
set_option linter.unusedVariables false
set_option linter.unusedSimpArgs false
set_option linter.unusedSectionVars false
namespace Go.Am

abbrev Key := Int × Nat
/-- An element's size in cells. -/
abbrev ESz := Nat

inductive Tag where
  | none
  | full
  | tk (k : Key) (v : Nat)

inductive AVal where
  | junk
  | bool (b : Bool)
  | int (k : IntKind) (n : Int)
  | float (k : FloatKind) (bits : Nat)
  | str (s : List UInt8)
  | nilp
  | ref (k : Key) (v : Nat) (off : Nat)
  | iptr (cells : List AVal)
  | list (tag : Tag) (e : ESz) (l : List AVal)
  | msl (k : Key) (v : Nat) (e : ESz) (off len : Nat)
  | mapr (k : Key) (v : Nat)
  | nilm
  | fn (f : Fn) (first captured : List AVal)
  | nilf
  | iface (t : TypeId) (v : AVal)
  | nili
  | agg (l : List AVal)
  | tup (l : List AVal)
  deriving Inhabited

def AVal.cells : AVal → List AVal
  | .agg l => l
  | a => [a]

def flat (l : List AVal) : List AVal := l.flatMap AVal.cells

structure AEntry where
  born : Nat
  key : AVal
  val : AVal

inductive AObj where
  | cells (l : List AVal)
  | map (es : List AEntry) (clock : Nat)
  | iter (m : Key) (mv : Nat) (since : Nat) (seen : List Nat) (stepped : Nat)
  | tail (n : Nat)

structure Slot where
  ver : Nat
  obj : Option AObj

abbrev Store := Key → Slot

def Store.set (st : Store) (k : Key) (s : Slot) : Store := fun k' => if k' = k then s else st k'

/-- What stays of a store below a depth; what lies from there on is anything. -/
def Store.below (st : Store) (d : Int) (g : Store) : Store := fun k => if k.1 < d then st k else g k

structure Ghost where
  imm : Nat → Nat → Option Value
  blk : Key → Nat
  lo : Key → Nat
  hi : Key → Nat

def immCells (G : Ghost) (b off : Nat) (vs : List Value) : Prop := ∀ i v, vs[i]? = some v → G.imm b (off + i) = some v

def TagOK (G : Ghost) (st : Store) (tag : Tag) (e : ESz) (n cap : Nat) (a : Option Addr) : Prop :=
  match tag with
  | .none => True
  | .full => cap = n
  | .tk k v => v ≤ (st k).ver ∧ (v = (st k).ver → (st k).obj = some (.tail n) →
      cap = n ∨ ∃ ad, a = some ad ∧ ad.block = G.blk k ∧ ad.off + n * e = G.lo k ∧ ad.off + cap * e ≤ G.hi k ∧ G.lo k < G.hi k)

mutual
inductive Rep (G : Ghost) (st : Store) : AVal → Value → Prop
  | junk (x : Value) : Rep G st .junk x
  | bool (b : Bool) : Rep G st (.bool b) (.bool b)
  | int (k : IntKind) (n : Int) : Rep G st (.int k n) (.int k n)
  | float (k : FloatKind) (b : Nat) : Rep G st (.float k b) (.float k b)
  | str (l : List UInt8) (s : ByteArray) (h : s.data.toList = l) (hb : l.length < 2 ^ 63) : Rep G st (.str l) (.string s)
  | nilp : Rep G st .nilp (.pointer none)
  | ref (k : Key) (v off : Nat) (ad : Addr) (h : v ≤ (st k).ver)
      (hx : v = (st k).ver → ad = ⟨G.blk k, off, none⟩) : Rep G st (.ref k v off) (.pointer (some ad))
  | iptr (cs : List AVal) (b off : Nat) (vs : List Value) (hi : immCells G b off vs) (h : RepL G st cs vs) :
      Rep G st (.iptr cs) (.pointer (some ⟨b, off, none⟩))
  | list (tag : Tag) (e : ESz) (l : List AVal) (a : Option Addr) (cap : Nat) (vs : List Value)
      (hc : l.length ≤ cap) (hb : cap < 2 ^ 63) (he : ∀ y ∈ l, y.cells.length = e) (h : RepL G st (flat l) vs)
      (hi : ∀ ad, a = some ad → ad.spot = none ∧ immCells G ad.block ad.off vs) (hn : a = none → cap = 0)
      (ht : TagOK G st tag e l.length cap a) : Rep G st (.list tag e l) (.slice a l.length cap)
  | msl (k : Key) (v : Nat) (e : ESz) (off len : Nat) (a : Option Addr) (cap : Nat) (hc : len ≤ cap) (hb : cap < 2 ^ 63) (hn : a = none → cap = 0) (h : v ≤ (st k).ver)
      (hx : v = (st k).ver → ∀ ad, a = some ad → 0 < cap → ad = ⟨G.blk k, off, none⟩ ∧ off + cap * e ≤ G.hi k) : Rep G st (.msl k v e off len) (.slice a len cap)
  | mapr (k : Key) (v : Nat) (r : Nat) (h : v ≤ (st k).ver) (hx : v = (st k).ver → r = G.blk k) : Rep G st (.mapr k v) (.map (some r))
  | nilm : Rep G st .nilm (.map none)
  | fn (f : Fn) (first cap : List AVal) (fs cs : Array Value) (hf : RepL G st first fs.toList) (hc : RepL G st cap cs.toList) :
      Rep G st (.fn f first cap) (.func f fs cs)
  | nilf : Rep G st .nilf .nilFunc
  | iface (t : TypeId) (a : AVal) (x : Value) (h : Rep G st a x) : Rep G st (.iface t a) (.iface t x)
  | nili : Rep G st .nili .nilIface
  | agg (l : List AVal) (vs : Array Value) (h : RepL G st l vs.toList) : Rep G st (.agg l) (.agg vs)
  | tup (l : List AVal) (vs : Array Value) (h : RepL G st l vs.toList) : Rep G st (.tup l) (.tuple vs)
inductive RepL (G : Ghost) (st : Store) : List AVal → List Value → Prop
  | nil : RepL G st [] []
  | cons (a : AVal) (x : Value) (l : List AVal) (vs : List Value) (h : Rep G st a x) (t : RepL G st l vs) : RepL G st (a :: l) (x :: vs)
end

def thawed (fz : Nat × Nat) (n : Nat) : Prop := ∀ o, o < n → ¬ (fz.1 ≤ o ∧ o < fz.2)

def RepEntry (G : Ghost) (st : Store) (a : AEntry) (x : MapEntry) : Prop := a.born = x.born ∧ Rep G st a.key x.key ∧ Rep G st a.val x.val

/-- What an object says of its block. -/
def ObjOK (G : Ghost) (st : Store) (w : World) (k : Key) : AObj → Prop
  | .cells l => ∃ vs elem fz us rest, w.heap[G.blk k]? = some (.cells vs elem fz) ∧ vs.toList = us ++ rest ∧ RepL G st l us ∧ thawed fz vs.size ∧ G.hi k = vs.size
  | .map es clock => ∃ ents, w.heap[G.blk k]? = some (.map ents clock) ∧ ents.size = es.length ∧
      (∀ i (h : i < es.length) (h' : i < ents.size), RepEntry G st es[i] ents[i])
  | .iter m mv since seen stepped => mv ≤ (st m).ver ∧ (mv = (st m).ver → w.heap[G.blk k]? = some (.mapIter (some (G.blk m)) since seen.toArray stepped))
  | .tail _ => G.lo k < G.hi k → ∃ vs elem fz, w.heap[G.blk k]? = some (.cells vs elem fz) ∧ thawed fz vs.size ∧ G.hi k = vs.size

/-- Which block an object has for itself. -/
def Owns (G : Ghost) (st : Store) (k : Key) (b : Nat) : Prop :=
  match (st k).obj with
  | some (.tail _) => G.lo k < G.hi k ∧ G.blk k = b
  | some _ => G.blk k = b
  | none => False

/-- A value that one cell holds. -/
def one (v : Value) : Bool := match v with
  | .agg _ | .tuple _ => false
  | _ => true

structure ConcS (G : Ghost) (w : World) (st : Store) : Prop where
  one : ∀ b o v, G.imm b o = some v → one v = true
  imm : ∀ b o v, G.imm b o = some v → w.cell? ⟨b, o, none⟩ = some v
  obj : ∀ k o, (st k).obj = some o → ObjOK G st w k o
  inj : ∀ k k' b, Owns G st k b → Owns G st k' b → k = k'
  own : ∀ k b o, Owns G st k b → G.imm b o = none ∨ ∃ n, (st k).obj = some (.tail n) ∧ o < G.lo k
  size : ∀ k b, Owns G st k b → b < w.heap.size

structure Later (G : Ghost) (st : Store) (G' : Ghost) (st' : Store) : Prop where
  imm : ∀ b o v, G.imm b o = some v → G'.imm b o = some v
  ver : ∀ k, (st k).ver ≤ (st' k).ver
  blk : ∀ k, (st' k).ver = (st k).ver → G'.blk k = G.blk k ∧ G'.lo k = G.lo k ∧ G'.hi k = G.hi k
  tail : ∀ k n, (st' k).ver = (st k).ver → (st' k).obj = some (.tail n) → (st k).obj = some (.tail n)

theorem Later.refl (G : Ghost) (st : Store) : Later G st G st := ⟨fun _ _ _ h => h, fun _ => Nat.le_refl _, fun _ _ => ⟨rfl, rfl, rfl⟩, fun _ _ _ h => h⟩

theorem Later.trans {G G1 G2 : Ghost} {st st1 st2 : Store} (h : Later G st G1 st1) (h' : Later G1 st1 G2 st2) : Later G st G2 st2 where
  imm := fun b o v e => h'.imm _ _ _ (h.imm _ _ _ e)
  ver := fun k => Nat.le_trans (h.ver k) (h'.ver k)
  blk := fun k e => by
    have a := h.ver k
    have b := h'.ver k
    have e1 : (st1 k).ver = (st k).ver := by omega
    have e2 : (st2 k).ver = (st1 k).ver := by omega
    obtain ⟨x1, x2, x3⟩ := h.blk k e1
    obtain ⟨y1, y2, y3⟩ := h'.blk k e2
    exact ⟨y1.trans x1, y2.trans x2, y3.trans x3⟩
  tail := fun k n e ht => by
    have a := h.ver k
    have b := h'.ver k
    exact h.tail k n (by omega) (h'.tail k n (by omega) ht)

theorem immCells.later {G G' : Ghost} {st st' : Store} (h : Later G st G' st') {b off : Nat} {vs : List Value} (hi : immCells G b off vs) : immCells G' b off vs :=
  fun i v e => h.imm _ _ _ (hi i v e)

theorem TagOK.later {G G' : Ghost} {st st' : Store} (h : Later G st G' st') {tag : Tag} {e : ESz} {n cap : Nat} {a : Option Addr} (ht : TagOK G st tag e n cap a) :
    TagOK G' st' tag e n cap a := by
  cases tag with
  | none => trivial
  | full => exact ht
  | tk k v =>
    obtain ⟨h1, h2⟩ := ht
    refine ⟨Nat.le_trans h1 (h.ver k), fun e1 e2 => ?_⟩
    have hv := h.ver k
    have ev : (st' k).ver = (st k).ver := by omega
    have := h2 (by omega) (h.tail k n ev e2)
    obtain ⟨b1, b2, b3⟩ := h.blk k ev
    rw [b1, b2, b3]
    exact this

mutual
theorem Rep.later {G G' : Ghost} {st st' : Store} (h : Later G st G' st') : ∀ {a : AVal} {x : Value}, Rep G st a x → Rep G' st' a x
  | _, _, .junk x => .junk x
  | _, _, .bool b => .bool b
  | _, _, .int k n => .int k n
  | _, _, .float k b => .float k b
  | _, _, .str l s e hb => .str l s e hb
  | _, _, .nilp => .nilp
  | _, _, .ref k v off x h1 hx => .ref k v off x (Nat.le_trans h1 (h.ver k)) fun e => by
      have hv := h.ver k
      rw [(h.blk k (by omega)).1]
      exact hx (by omega)
  | _, _, .iptr cs b off vs hi hr => .iptr cs b off vs (hi.later h) (hr.later h)
  | _, _, .list tag e l a cap vs hc hb he hr hi hn ht =>
      .list tag e l a cap vs hc hb he (hr.later h) (fun ad e => ⟨(hi ad e).1, (hi ad e).2.later h⟩) hn (ht.later h)
  | _, _, .msl k v e off len a cap hc hb hn h1 hx => .msl k v e off len a cap hc hb hn (Nat.le_trans h1 (h.ver k)) fun ev => by
      have hv := h.ver k
      obtain ⟨b1, b2, b3⟩ := h.blk k (by omega)
      rw [b1, b3]
      exact hx (by omega)
  | _, _, .mapr k v x h1 hx => .mapr k v x (Nat.le_trans h1 (h.ver k)) fun ev => by
      have hv := h.ver k
      rw [(h.blk k (by omega)).1]
      exact hx (by omega)
  | _, _, .nilm => .nilm
  | _, _, .fn f a b fs cs h1 h2 => .fn f a b fs cs (h1.later h) (h2.later h)
  | _, _, .nilf => .nilf
  | _, _, .iface t a x hr => .iface t a x (hr.later h)
  | _, _, .nili => .nili
  | _, _, .agg l vs hr => .agg l vs (hr.later h)
  | _, _, .tup l vs hr => .tup l vs (hr.later h)
theorem RepL.later {G G' : Ghost} {st st' : Store} (h : Later G st G' st') : ∀ {l : List AVal} {vs : List Value}, RepL G st l vs → RepL G' st' l vs
  | _, _, .nil => .nil
  | _, _, .cons a x l vs hr t => .cons a x l vs (hr.later h) (t.later h)
end

section
variable {G : Ghost} {st : Store}

theorem RepL.length : ∀ {l : List AVal} {vs : List Value}, RepL G st l vs → vs.length = l.length
  | _, _, .nil => rfl
  | _, _, .cons _ _ _ _ _ t => by simp [t.length]

theorem RepL.get : ∀ {l : List AVal} {vs : List Value}, RepL G st l vs → ∀ {i : Nat} {a : AVal}, l[i]? = some a → ∃ v, vs[i]? = some v ∧ Rep G st a v
  | _, _, .nil, _, _, h => by simp at h
  | _, _, .cons a x l vs hr t, 0, _, h => by simp at h; subst h; exact ⟨x, rfl, hr⟩
  | _, _, .cons a x l vs hr t, i + 1, _, h => by simpa using t.get (i := i) (by simpa using h)

theorem RepL.append : ∀ {l : List AVal} {vs : List Value} {l' : List AVal} {vs' : List Value}, RepL G st l vs → RepL G st l' vs' → RepL G st (l ++ l') (vs ++ vs')
  | _, _, _, _, .nil, h => h
  | _, _, _, _, .cons a x l vs hr t, h => .cons a x _ _ hr (t.append h)

theorem RepL.take : ∀ {l : List AVal} {vs : List Value} (n : Nat), RepL G st l vs → RepL G st (l.take n) (vs.take n)
  | _, _, 0, _ => by simpa using RepL.nil
  | _, _, n + 1, .nil => by simpa using RepL.nil
  | _, _, n + 1, .cons a x l vs hr t => by simpa using RepL.cons a x _ _ hr (t.take n)

theorem RepL.drop : ∀ {l : List AVal} {vs : List Value} (n : Nat), RepL G st l vs → RepL G st (l.drop n) (vs.drop n)
  | _, _, 0, h => by simpa using h
  | _, _, n + 1, .nil => by simpa using RepL.nil
  | _, _, n + 1, .cons a x l vs hr t => by simpa using t.drop n

theorem RepL.set : ∀ {l : List AVal} {vs : List Value} (n : Nat) {a : AVal} {x : Value}, RepL G st l vs → Rep G st a x → RepL G st (l.set n a) (vs.set n x)
  | _, _, _, _, _, .nil, _ => by simpa using RepL.nil
  | _, _, 0, _, _, .cons a x l vs hr t, h => by simpa using RepL.cons _ _ _ _ h t
  | _, _, n + 1, _, _, .cons a x l vs hr t, h => by simpa using RepL.cons _ _ _ _ hr (t.set n h)

theorem RepL.split : ∀ {l l' : List AVal} {vs : List Value}, RepL G st (l ++ l') vs → ∃ a b, vs = a ++ b ∧ RepL G st l a ∧ RepL G st l' b
  | [], _, vs, h => ⟨[], vs, rfl, .nil, h⟩
  | _ :: l, _, _, .cons a x _ vs hr t => by
      obtain ⟨p, q, e, h1, h2⟩ := RepL.split (l := l) t
      exact ⟨x :: p, q, by simp [e], .cons _ _ _ _ hr h1, h2⟩

theorem RepL.ofGet {l : List AVal} {vs : List Value} (hn : vs.length = l.length) (h : ∀ (i : Nat) (a : AVal) (v : Value), l[i]? = some a → vs[i]? = some v → Rep G st a v) : RepL G st l vs := by
  induction l generalizing vs with
  | nil => cases vs with
    | nil => exact .nil
    | cons _ _ => simp at hn
  | cons a l ih => cases vs with
    | nil => simp at hn
    | cons v vs => exact .cons _ _ _ _ (h 0 a v rfl rfl) (ih (by simpa using hn) fun i a v e1 e2 => h (i + 1) a v (by simpa using e1) (by simpa using e2))

theorem RepL.map (f : AVal → AVal) (hf : ∀ a v, Rep G st a v → Rep G st (f a) v) : ∀ {l : List AVal} {vs : List Value}, RepL G st l vs → RepL G st (l.map f) vs
  | _, _, .nil => .nil
  | _, _, .cons a x l vs hr t => .cons _ _ _ _ (hf _ _ hr) (t.map f hf)

end

/-- What a piece of a run leaves of the rest of the world. -/
structure Ext (G : Ghost) (w : World) (st : Store) (G' : Ghost) (w' : World) (st' : Store) : Prop where
  later : Later G st G' st'
  size : w.heap.size ≤ w'.heap.size
  unch : ∀ b, b < w.heap.size → (∀ k, ¬ Owns G st k b) → w'.heap[b]? = w.heap[b]?
  own : ∀ k b, b < w.heap.size → Owns G' st' k b → ∃ k', Owns G st k' b
  imm : ∀ b o v, G'.imm b o = some v → b < w.heap.size → G.imm b o = some v ∨ ∃ k, Owns G st k b
  tape : w'.tape = w.tape
  os : w'.os = w.os
  output : w'.output = w.output

theorem Ext.refl (G : Ghost) (w : World) (st : Store) : Ext G w st G w st :=
  ⟨.refl _ _, Nat.le_refl _, fun _ _ _ => rfl, fun k _ _ h => ⟨k, h⟩, fun _ _ _ h _ => .inl h, rfl, rfl, rfl⟩

theorem Ext.trans {G G1 G2 : Ghost} {w w1 w2 : World} {st st1 st2 : Store} (h : Ext G w st G1 w1 st1) (h' : Ext G1 w1 st1 G2 w2 st2) : Ext G w st G2 w2 st2 where
  later := h.later.trans h'.later
  size := Nat.le_trans h.size h'.size
  unch := fun b hb hn => by
    rw [h'.unch b (Nat.lt_of_lt_of_le hb h.size) (fun k hk => by obtain ⟨k', hk'⟩ := h.own k b hb hk; exact hn k' hk'), h.unch b hb hn]
  own := fun k b hb hk => by
    obtain ⟨k', hk'⟩ := h'.own k b (Nat.lt_of_lt_of_le hb h.size) hk
    exact h.own k' b hb hk'
  imm := fun b o v e hb => by
    rcases h'.imm b o v e (Nat.lt_of_lt_of_le hb h.size) with h1 | ⟨k, hk⟩
    · exact h.imm b o v h1 hb
    · exact .inr (h.own k b hb hk)
  tape := h'.tape.trans h.tape
  os := h'.os.trans h.os
  output := h'.output.trans h.output

end Go.Am
/- The abstract machine: operations, read off the program's code, and what they do. -/
namespace Go.Am

inductive Opd where
  | t (n : Nat)
  | c (a : AVal)
  deriving Inhabited

abbrev Zero := List (Nat × AVal)
def Zero.cells (z : Zero) : List AVal := z.flatMap fun p => List.replicate p.1 p.2

inductive NilKind where
  | ptr | map | func | iface
  deriving DecidableEq

/-- Kinds of cells that are held against each other. -/
inductive CK where
  | b | i | s
  deriving DecidableEq

inductive POp where
  | mv
  | pick
  | bin (op : BinOp)
  | beq (neg : Bool)
  | isnil (kd : NilKind) (neg : Bool)
  | eqs (cs : List CK) (neg : Bool)
  | un (op : UnOp)
  | convI (k : IntKind)
  | convF
  | convId
  | faddr (off : Nat)
  | iaddr (e : ESz)
  | iaddrA (n e : Nat)
  | field (off : Nat) (sz : Option Nat)
  | idxA (n e : Nat) (sz : Option Nat)
  | idxS
  | slS (lo hi : Bool)
  | slL (e : ESz) (lo hi mx : Bool)
  | lenS
  | lenL
  | lenC (n : Nat)
  | ext (i : Nat)
  | nilchk
  | mkf (f : Fn) (nf : Nat)
  | mki (t : TypeId)
  | build (zero : Zero) (parts : List (Nat × Nat))
  | bsl (e : ESz) (n : Nat) (agg : Bool) (zero : Zero) (parts : List (Nat × Nat))
  | mn
  | mx
  | assertOk (t : TypeId) (zero : Zero) (agg : Bool)
  | f64bits
  | f64from
  | add64
  | cmpS

inductive LOp where
  | load (sz : Option Nat)
  | lenM
  | slA (n : Nat) (e : ESz) (lo hi mx : Bool)
  | lookup (ks : Bool) (zero : Zero) (agg : Bool) (ok : Bool)
  | entry
  | convS

inductive IOp where
  | alloc (zero : Zero)
  | box (sz : Nat)
  | store (sz : Nat)
  | append (e : ESz) (bytes : Nat)
  | appendZ (e : ESz) (bytes : Nat) (agg : Bool) (zero : Zero)
  | call (f : Nat)
  | callv
  | mkmap
  | mapset (ks : Bool)
  | delete (ks : Bool)
  | clearM
  | clearL (zero : Zero)
  | range
  | next
  | copy (e : ESz)
  | panic
  | makeSlice (e : ESz) (bytes : Nat) (agg : Bool) (zero : Zero)
  | convB
  | capL
  | defer

inductive AOp where
  | p (o : POp)
  | l (o : LOp)
  | i (o : IOp)

structure ROp where
  dst : Option Nat
  op : AOp
  args : List Opd
  guard : Option (Nat × Bool)

/-- An order of a region's operations in which those that only look come first; with what must still hold behind each of the others. -/
inductive Sched where
  | done
  | q (o : ROp) (s : Sched)
  | e (o : ROp) (re : List ROp) (s : Sched)
  | both (a b : Sched)
  deriving Inhabited

inductive ACode where
  | skip
  | region (ops : List ROp)
  | draw (s : Sched)
  | seq (a b : ACode)
  | cond (c : Opd) (a b : ACode)
  | block (id : Nat) (b : ACode)
  | loop (b : ACode)
  | rangeFunc (f : Opd) (params : List Nat) (assign body : ACode)
  | exit (id : Nat)
  | scope (b : ACode)
  | label (l : Nat)
  | goto (l : Nat)
  | ret
  deriving Inhabited

inductive ARes where
  | t (n : Nat)
  | cell (n : Nat) (sz : Option Nat)

structure AFunc where
  code : ACode
  n : Nat
  res : List ARes

/-! ## Reading the program's code -/

section compile
variable (P : Program)

def szOf (t : TypeId) : Option Nat := (P.info? t).map (·.size)
def bytesE (t : TypeId) : Option Nat := (P.info? t).map fun i => i.bytes
def eszOf (t : TypeId) : Option ESz := (P.info? t).map fun i => i.size

/-- The types of a value's cells, one by one. -/
def cellTys : Nat → TypeId → Option (List TypeId)
  | 0, _ => none
  | d + 1, t =>
    match P.underlying t with
    | some (.struct fs) => (fs.toList.mapM fun f : Field => cellTys d f.type).map List.flatten
    | some (.array n e) => (cellTys d e).map fun l => (List.replicate n l).flatten
    | some _ => some [t]
    | none => none

def scalarA (t : TypeId) : Value → Option AVal
  | .bool b => some (.bool b)
  | .int k n => some (.int k n)
  | .float k b => some (.float k b)
  | .string s => if s.data.toList.length < 2 ^ 63 then some (.str s.data.toList) else none
  | .pointer none => some .nilp
  | .slice none 0 0 => match P.underlying t with
    | some (.slice e) => (eszOf P e).map fun n => .list .full n []
    | _ => none
  | .map none => some .nilm
  | .nilFunc => some .nilf
  | .nilIface => some .nili
  | _ => none

def constA (t : TypeId) : Value → Option AVal
  | .agg cs => do
    let ts ← cellTys P 8 t
    if ts.length = cs.size then (ts.zip cs.toList).mapM (fun (t, v) => scalarA P t v) |>.map .agg else none
  | v => scalarA P t v

def opd (t : TypeId) : Operand → Option Opd
  | .tmp n => some (.t n)
  | .const v => (constA P t v).map .c
  | .func f => some (.c (.fn (.func f) [] []))
  | .global _ => none

def sameInts : List Value → Option (IntKind × Int)
  | .int k n :: l => if l.all (fun | .int k' n' => k == k' && n == n' | _ => false) then some (k, n) else none
  | _ => none

/-- The zero value of a type, as runs of like cells. -/
def zeroA (t : TypeId) : Option Zero := do
  let i ← P.info? t
  let z ← i.zero
  if z.cells.size = i.size then
    if i.size ≤ 64 then
      let ts ← cellTys P 8 t
      if ts.length = i.size then (ts.zip z.cells.toList).mapM (fun (t, v) => (scalarA P t v).map fun a => (1, a)) else none
    else do
      let (k, n) ← sameInts z.cells.toList
      some [(i.size, .int k n)]
  else none

def isAggB (t : TypeId) : Bool := match P.underlying t with
  | some (.struct _) | some (.array _ _) => true
  | _ => false

def szO (t : TypeId) : Option (Option Nat) := match P.underlying t with
  | some (.struct _) | some (.array _ _) => (szOf P t).map some
  | some _ => some none
  | none => none

def elemSz (t : TypeId) : Option Nat := match P.underlying t with
  | some (.slice e) => szOf P e
  | _ => none

def fieldOf (t : TypeId) (i : Nat) : Option Field := match P.underlying t with
  | some (.struct fs) => fs[i]?
  | _ => none

def cmpBasic (t : TypeId) : Bool := match P.underlying t with
  | some .bool | some (.int _) | some (.float _) | some .string => true
  | _ => false

def ckOf (t : TypeId) : Option CK := match P.underlying t with
  | some .bool => some .b
  | some (.int _) => some .i
  | some .string => some .s
  | _ => none

def ckFields : Nat → List Field → Option (List CK)
  | _, [] => some []
  | i, f :: fs => if f.name ≠ "_" ∧ f.offset = i then (ckOf P f.type).bind fun c => (ckFields (i + 1) fs).map (c :: ·) else none

/-- The cells of a struct of numbers, texts, bools. -/
def eqCells (t : TypeId) : Option (List CK) := match P.underlying t with
  | some (.struct fs) => if P.stoodInHeld t = false ∧ P.eqGuardType P.depth t = false then ckFields P 0 fs.toList else none
  | _ => none

def places (fs : List (Nat × Nat)) (l : List (Nat × Operand)) : Option (List (Nat × Nat)) := l.mapM fun (i, _) => fs[i]?

def isInt (t : TypeId) : Option IntKind := match P.underlying t with
  | some (.int k) => some k
  | _ => none

inductive NilLit where
  | ptr | map | func | iface

def nilOf : TypeDesc → Option (NilKind × NilLit)
  | .pointer _ => some (.ptr, .ptr)
  | .map _ _ => some (.map, .map)
  | .func _ _ _ => some (.func, .func)
  | .interface _ => some (.iface, .iface)
  | _ => none

/-- The literal nil of a pointer, a map, a function, an interface. -/
def isNilC : NilLit → Operand → Bool
  | .ptr, .const (.pointer none) | .map, .const (.map none) | .func, .const .nilFunc | .iface, .const .nilIface => true
  | _, _ => false

/-- Is a type's zero value one of several cells? -/
def zAgg (t : TypeId) : Option Bool := match (P.info? t).bind (·.zero) with
  | some (.agg _) => some true
  | some _ => some false
  | none => none

/-- What can be appended: a zero value is known, nothing is empty. -/
def appOk (t : TypeId) : Bool := (zeroA P t).isSome && ((bytesE P t).map fun n => decide (0 < n)).getD false && ((eszOf P t).map fun n => decide (0 < n)).getD false

/-- A map's keys: texts, or numbers. -/
def keyKind (kt : TypeId) : Option Bool := match P.underlying kt with
  | some (.int _) => some false
  | some .string => some true
  | _ => none

/-- A function without a body that makes a value of its arguments. -/
def primOf (f : FuncId) : Option POp := (P.funcs[f]?).bind fun g =>
  if g.body.isSome || g.origin != "" then none else
  if g.name = "math.Float64bits" then some .f64bits else
  if g.name = "math.Float64frombits" then some .f64from else
  if g.name = "math/bits.Add64" then some .add64 else
  if g.name = "internal/bytealg.abigen_runtime_cmpstring" then some .cmpS else none

def cOp (o : Oper) : Option (AOp × List Opd) :=
  match o.op with
  | .move x => do some (.p .mv, [← opd P o.type x])
  | .assign x => do some (.p .mv, [← opd P o.type x])
  | .pick c a b => do some (.p .pick, [← opd P o.type c, ← opd P o.type a, ← opd P o.type b])
  | .alloc t => do some (.i (.alloc (← zeroA P t)), [])
  | .box t x => do some (.i (.box (← szOf P t)), [← opd P t x])
  | .build t parts => do
    let z ← zeroA P t
    match P.underlying t with
    | some (.struct fs) =>
      let fl ← fs.toList.mapM fun f : Field => (szOf P f.type).map fun n => (f.offset, n)
      let pl ← places fl parts.toList
      let xs ← parts.toList.mapM fun (i, x) => do opd P (← fs[i]?).type x
      some (.p (.build z pl), xs)
    | some (.array n e) =>
      let s ← szOf P e
      let xs ← parts.toList.mapM fun (_, x) => opd P e x
      if parts.toList.all (fun p => p.1 < n) then some (.p (.build z (parts.toList.map fun p => (p.1 * s, s))), xs) else none
    | _ => none
  | .buildSlice t n parts =>
    match P.underlying t with
    | some (.slice e) => do
      let s ← eszOf P e
      let z ← zeroA P e
      let xs ← parts.toList.mapM fun (_, x) => opd P e x
      if parts.toList.all (fun p => p.1 < n) && decide (n * s ≤ 2 ^ 24) && decide (0 < s) && decide (n < 2 ^ 30) then some (.p (.bsl s n (isAggB P e) z (parts.toList.map fun p => (p.1 * s, s))), xs) else none
    | _ => none
  | .load t a => do some (.l (.load (← szO P t)), [← opd P o.type a])
  | .store t a v => do some (.i (.store (← szOf P t)), [← opd P o.type a, ← opd P t v])
  | .nilCheck x => do some (.p .nilchk, [← opd P o.type x])
  | .binOp op t x y u =>
    if isAggB P t then
      match op with
      | .eql => do some (.p (.eqs (← eqCells P t) false), [← opd P t x, ← opd P t y])
      | .neq => do some (.p (.eqs (← eqCells P t) true), [← opd P t x, ← opd P t y])
      | _ => none
    else match P.underlying t with
      | some (.int _) | some .string | some (.float _) => do some (.p (.bin op), [← opd P t x, ← opd P u y])
      | some .bool => match op with
        | .eql => do some (.p (.beq false), [← opd P t x, ← opd P t y])
        | .neq => do some (.p (.beq true), [← opd P t x, ← opd P t y])
        | _ => none
      | some d => do
        let (kd, z) ← nilOf d
        match op with
        | .eql => if isNilC z y then do some (.p (.isnil kd false), [← opd P t x]) else none
        | .neq => if isNilC z y then do some (.p (.isnil kd true), [← opd P t x]) else none
        | _ => none
      | _ => none
  | .unOp op t x => do some (.p (.un op), [← opd P t x])
  | .convert s d x =>
    match P.underlying s, P.underlying d with
    | some (.int _), some (.int k) => do some (.p (.convI k), [← opd P s x])
    | some (.int _), some (.float .f64) => do some (.p .convF, [← opd P s x])
    | some .string, some .string => do some (.p .convId, [← opd P s x])
    | some (.slice e), some .string => do
      if isInt P e = some .u8 then some (.l .convS, [← opd P s x]) else none
    | some .string, some (.slice e) => do
      if isInt P e = some .u8 then some (.i .convB, [← opd P s x]) else none
    | _, _ => none
  | .makeInterface t x => match P.underlying t with
    | some (.interface _) | none => none
    | _ => do some (.p (.mki t), [← opd P t x])
  | .makeFunc fn a b => do
    let xs ← a.toList.mapM (opd P o.type)
    let ys ← b.toList.mapM (opd P o.type)
    some (.p (.mkf fn a.size), xs ++ ys)
  | .makeMap t r => match P.underlying t, r with
    | some (.map _ _), none => some (.i .mkmap, [])
    | _, _ => none
  | .slice t x lo hi mx => do
    let xs ← lo.toList.mapM (opd P o.type)
    let ys ← hi.toList.mapM (opd P o.type)
    let zs ← mx.toList.mapM (opd P o.type)
    if mx.isSome && hi.isNone then none else
    match P.underlying t with
    | some .string => if mx.isNone then some (.p (.slS lo.isSome hi.isSome), (← opd P t x) :: (xs ++ ys)) else none
    | some (.slice e) => some (.p (.slL (← eszOf P e) lo.isSome hi.isSome mx.isSome), (← opd P t x) :: (xs ++ ys ++ zs))
    | some (.array n e) => some (.l (.slA n (← eszOf P e) lo.isSome hi.isSome mx.isSome), (← opd P o.type x) :: (xs ++ ys ++ zs))
    | _ => none
  | .fieldAddr t x i => do
    let f ← fieldOf P t i
    if szOf P f.type = some 0 then none else
    if (szOf P f.type).isSome then some (.p (.faddr f.offset), [← opd P o.type x]) else none
  | .field t x i => do
    let f ← fieldOf P t i
    some (.p (.field f.offset (← szO P f.type)), [← opd P t x])
  | .indexAddr t x i => match P.underlying t with
    | some (.slice e) => do some (.p (.iaddr (← eszOf P e)), [← opd P t x, ← opd P o.type i])
    | some (.array n e) => do if 1 < n then some (.p (.iaddrA n (← szOf P e)), [← opd P o.type x, ← opd P o.type i]) else none
    | _ => none
  | .index t x i => match P.underlying t with
    | some .string => do some (.p .idxS, [← opd P t x, ← opd P o.type i])
    | some (.array n e) => do some (.p (.idxA n (← szOf P e) (← szO P e)), [← opd P t x, ← opd P o.type i])
    | _ => none
  | .lookup t m k ok => match P.underlying t with
    | some (.map kt e) => do
      some (.l (.lookup (← keyKind P kt) (← zeroA P e) (← zAgg P e) ok), [← opd P t m, ← opd P kt k])
    | _ => none
  | .mapUpdate t m k v => match P.underlying t with
    | some (.map kt e) => do
      some (.i (.mapset (← keyKind P kt)), [← opd P t m, ← opd P kt k, ← opd P e v])
    | _ => none
  | .range t m => match P.underlying t with
    | some (.map _ _) => do some (.i .range, [← opd P t m])
    | _ => none
  | .next x false => do some (.i .next, [← opd P o.type x])
  | .entry x => do some (.l .entry, [← opd P o.type x])
  | .extract x i => do some (.p (.ext i), [← opd P o.type x])
  | .panic x => do some (.i .panic, [← opd P o.type x])
  | .typeAssert x _ t true => match P.underlying t with
    | some (.interface _) | none => none
    | _ => do some (.p (.assertOk t (← zeroA P t) (isAggB P t)), [← opd P o.type x])
  | .makeSlice t l c => match P.underlying t with
    | some (.slice e) => do
      some (.i (.makeSlice (← eszOf P e) (← bytesE P e) (isAggB P e) (← zeroA P e)), [← opd P o.type l, ← opd P o.type c])
    | _ => none
  | .call c =>
    match c.callee with
    | .value (.func f) => do
      if c.args.size = c.argTypes.size && ((P.funcs[f]?).map (·.body.isSome)).getD false && ((P.funcs[f]?).map (fun g => g.name != "runtime.NumGoroutine")).getD false then
        let xs ← (c.args.toList.zip c.argTypes.toList).mapM fun (x, t) => opd P t x
        some (.i (.call f), xs)
      else if c.args.size = c.argTypes.size then do
        let p ← primOf P f
        let xs ← (c.args.toList.zip c.argTypes.toList).mapM fun (x, t) => opd P t x
        some (.p p, xs)
      else none
    | .value f => do
      if c.args.size = c.argTypes.size then
        let xs ← (c.args.toList.zip c.argTypes.toList).mapM fun (x, t) => opd P t x
        some (.i .callv, (← opd P o.type f) :: xs)
      else none
    | .invoke _ _ => none
    | .builtin b => do
      if c.args.size = c.argTypes.size then
        let xs ← (c.args.toList.zip c.argTypes.toList).mapM fun (x, t) => opd P t x
        match b, c.argTypes.toList with
        | .len, [t] => match P.underlying t with
          | some .string => some (.p .lenS, xs)
          | some (.slice _) => some (.p .lenL, xs)
          | some (.array n _) => some (.p (.lenC n), xs)
          | some (.map _ _) => some (.l .lenM, xs)
          | _ => none
        | .cap, [t] => match P.underlying t with
          | some (.slice _) => some (.i .capL, xs)
          | _ => none
        | .append, [t, u] => match P.underlying t, P.underlying u with
          | some (.slice e), some (.slice _) => (if appOk P e then (do some (.i (.append (← eszOf P e) (← bytesE P e)), xs)) else none)
          | some (.slice e), some .string => (if appOk P e then (do some (.i (.append (← eszOf P e) (← bytesE P e)), xs)) else none)
          | some (.slice e), some (.int _) => (if appOk P e then (do some (.i (.appendZ (← eszOf P e) (← bytesE P e) (isAggB P e) (← zeroA P e)), xs)) else none)
          | _, _ => none
        | .copy, [t, u] => match P.underlying t, P.underlying u with
          | some (.slice e), some (.slice _) => some (.i (.copy (← eszOf P e)), xs)
          | _, _ => none
        | .clear, [t] => match P.underlying t with
          | some (.map _ _) => some (.i .clearM, xs)
          | some (.slice e) => some (.i (.clearL (← zeroA P e)), xs)
          | _ => none
        | .delete, [t, _] => match P.underlying t with
          | some (.map kt _) => do some (.i (.delete (← keyKind P kt)), xs)
          | _ => none
        | .min, [t, _] => if (isInt P t).isSome then some (.p .mn, xs) else none
        | .max, [t, _] => if (isInt P t).isSome then some (.p .mx, xs) else none
        | _, _ => none
      else none
  | _ => none

def cGuard (ops : Array Oper) (o : Oper) : Option (Option (Nat × Bool)) :=
  match o.guard with
  | none => some none
  | some (j, b) => (ops[j]?).bind fun o' => o'.dst.map fun d => some (d, b)

def cROp (ops : Array Oper) (n : Nat) (o : Oper) : Option ROp :=
  (cOp P o).bind fun p => (cGuard ops o).bind fun g =>
    if o.dst.all (· < n) then some { dst := o.dst, op := p.1, args := p.2, guard := g } else none

def AOp.quiet : AOp → Bool
  | .i _ => false
  | _ => true

def AOp.looks : AOp → Bool
  | .l _ => true
  | _ => false

def ROp.reads (r : ROp) : List Nat :=
  (r.args.filterMap fun | .t t => some t | _ => none) ++ (match r.guard with | some (g, _) => [g] | none => [])

def depsOf (o : Oper) : List Nat := (o.after.toList.filter (Region.binds .any)).map (·.on)

section sched
variable (rs : List ROp) (dl : List (List Nat))

def depOf (i : Nat) : List Nat := dl.getD i []

/-- Nothing waits for what comes behind it; of two, one that reads what the other writes, one waits for the other; all write unlike places. -/
def schedOK : Bool :=
  (List.range rs.length).all fun i => (depOf dl i).all (· < i) &&
    (List.range rs.length).all fun j => match rs[i]?, rs[j]? with
      | some x, some y => match y.dst with
        | some t => (!x.reads.contains t || (depOf dl i).contains j || (depOf dl j).contains i || i == j) && (i == j || x.dst != some t)
        | none => true
      | _, _ => true

/-- Whoever reads what it writes waits for it. -/
def awaited (t : Nat) (i : Nat) : Bool :=
  (List.range rs.length).all fun j => match rs[j]? with
    | some y => !y.reads.contains t || (depOf dl j).contains i
    | none => true

def rdy (C : Array Bool) (i : Nat) : Bool := !C.getD i true && (depOf dl i).all (fun d => C.getD d false)

/-- What an operation waits for, directly and through others. -/
def ancs : Nat → List Nat → List Nat
  | 0, l => l
  | j + 1, l => ancs j (if l.contains j then (depOf dl j).filter (fun d => !l.contains d) ++ l else l)

def isQ (i : Nat) : Bool := match rs[i]? with
  | some r => r.op.quiet && (match r.dst with | some t => awaited rs dl t i | none => true)
  | none => false

def recheck (C : Array Bool) (i : Nat) : List ROp :=
  let an := ancs dl i (depOf dl i)
  (List.range rs.length).filterMap fun k => match rs[k]? with
    | some r => if r.op.looks && C.getD k false && !an.contains k then some r else none
    | none => none

def bothOf : List Sched → Option Sched
  | [] => none
  | [s] => some s
  | s :: l => (bothOf l).map (.both s)

def schedFrom : Nat → Array Bool → Option Sched
  | 0, C => if (List.range rs.length).all (fun i => C.getD i false) then some .done else none
  | f + 1, C =>
    if (List.range rs.length).all (fun i => C.getD i false) then some .done else
    match (List.range rs.length).find? (fun i => rdy dl C i && isQ rs dl i) with
    | some i => (rs[i]?).bind fun r => (schedFrom f (C.setIfInBounds i true)).map (.q r)
    | none => ((List.range rs.length).filter (rdy dl C)).mapM (fun i => (rs[i]?).bind fun r => (schedFrom f (C.setIfInBounds i true)).map (.e r (recheck rs dl C i))) |>.bind bothOf

end sched

def schedOf (ops : Array Oper) (rs : List ROp) : Option Sched :=
  let dl := ops.toList.map depsOf
  if schedOK rs dl then schedFrom rs dl rs.length (Array.replicate rs.length false) else none

def cCode (n : Nat) : Code → Option ACode
  | .skip => some .skip
  | .region _ ops d => do
    let l ← ops.toList.mapM (cROp P ops n)
    if d then (schedOf ops l).map .draw else some (.region l)
  | .seq a b => do some (.seq (← cCode n a) (← cCode n b))
  | .cond c a b => do some (.cond (← opd P 0 c) (← cCode n a) (← cCode n b))
  | .block id b => do some (.block id (← cCode n b))
  | .loop b => do some (.loop (← cCode n b))
  | .rangeFunc f ps a b => do some (.rangeFunc (← opd P 0 f) ps.toList (← cCode n a) (← cCode n b))
  | .exit id => some (.exit id)
  | .scope b => do some (.scope (← cCode n b))
  | .label l => some (.label l)
  | .goto l => some (.goto l)
  | .ret => some .ret
  | .refuse _ => none

def cFunc (f : Func) : Option AFunc := do
  let c ← f.body
  let code ← cCode P f.ntmps c
  let res ← f.results.toList.mapM fun
    | .tmp t => some (ARes.t t)
    | .cell a t => do some (ARes.cell a (← szO P t))
  some { code, n := f.ntmps, res }

end compile

end Go.Am
/- The abstract machine: what each operation does. -/
namespace Go.Am

abbrev Fr := List (Nat × AVal)

def Fr.get : Fr → Nat → AVal
  | [], _ => .junk
  | (d, v) :: r, t => if d = t then v else Fr.get r t

def Fr.put (fr : Fr) (dst : Option Nat) (v : AVal) : Fr :=
  match dst with
  | some d => (d, v) :: fr
  | none => fr

def Fr.ev (fr : Fr) : Opd → AVal
  | .t n => fr.get n
  | .c a => a

def bytesLess : List UInt8 → List UInt8 → Bool := Go.Op.bytesLess

def aint (op : BinOp) (k : IntKind) (a b : Int) : Option AVal :=
  match op with
  | .add => some (.int k (k.wrap (a + b)))
  | .sub => some (.int k (k.wrap (a - b)))
  | .mul => some (.int k (k.wrap (a * b)))
  | .quo => if b = 0 then none else some (.int k (k.wrap (a.tdiv b)))
  | .rem => if b = 0 then none else some (.int k (a.tmod b))
  | .and => some (.int k (k.wrap (BitVec.ofInt k.bits a &&& BitVec.ofInt k.bits b).toNat))
  | .or => some (.int k (k.wrap (BitVec.ofInt k.bits a ||| BitVec.ofInt k.bits b).toNat))
  | .xor => some (.int k (k.wrap (BitVec.ofInt k.bits a ^^^ BitVec.ofInt k.bits b).toNat))
  | .andNot => some (.int k (k.wrap (BitVec.ofInt k.bits a &&& ~~~ BitVec.ofInt k.bits b).toNat))
  | .eql => some (.bool (a == b))
  | .neq => some (.bool (a != b))
  | .lss => some (.bool (decide (a < b)))
  | .leq => some (.bool (decide (a ≤ b)))
  | .gtr => some (.bool (decide (a > b)))
  | .geq => some (.bool (decide (a ≥ b)))
  | _ => none

def astr (op : BinOp) (a b : List UInt8) : Option AVal :=
  match op with
  | .add => if a.length + b.length < 2 ^ 63 then some (.str (a ++ b)) else none
  | .eql => some (.bool (a == b))
  | .neq => some (.bool (!(a == b)))
  | .lss => some (.bool (bytesLess a b))
  | .leq => some (.bool (bytesLess a b || a == b))
  | .gtr => some (.bool (!(bytesLess a b || a == b)))
  | .geq => some (.bool (!(bytesLess a b)))
  | _ => none

def ashl (k : IntKind) (a b : Int) : Option AVal := if b < 0 then none else some (.int k (k.wrap (a * 2 ^ (min b.toNat k.bits))))
def ashr (k : IntKind) (a b : Int) : Option AVal := if b < 0 then none else some (.int k (a.fdiv (2 ^ (min b.toNat k.bits))))

/-- Is it nil? -/
def isNil : NilKind → AVal → Option Bool
  | .ptr, .nilp | .map, .nilm | .func, .nilf | .iface, .nili => some true
  | .ptr, .iptr _ | .func, .fn _ _ _ | .ptr, .ref _ _ _ | .map, .mapr _ _ | .iface, .iface _ _ => some false
  | _, _ => none

def abin (op : BinOp) : AVal → AVal → Option AVal
  | .int k a, .int k' b =>
    match op with
    | .shl => ashl k a b
    | .shr => ashr k a b
    | op => if k = k' then aint op k a b else none
  | .str a, .str b => astr op a b
  | .float k a, .float k' b => if k = k' then
      match op with
      | .eql => some (.bool (k.format.order a b == some .eq))
      | .neq => some (.bool (k.format.order a b != some .eq))
      | _ => none
    else none
  | _, _ => none

/-- Are two cells the same (numbers, texts, bools)? -/
def cellEq : AVal → AVal → Option Bool
  | .int k a, .int k' b => if k = k' then some (a == b) else none
  | .str a, .str b => some (a == b)
  | .bool a, .bool b => some (a == b)
  | _, _ => none

def CK.fits : CK → AVal → Bool
  | .b, .bool _ => true
  | .i, .int _ _ => true
  | .s, .str _ => true
  | _, _ => false

def cellsEq : List CK → List AVal → List AVal → Option Bool
  | [], [], [] => some true
  | c :: cs, a :: l, b :: m => if c.fits a = true then
      match cellEq a b, cellsEq cs l m with
      | some x, some y => some (x && y)
      | _, _ => none
    else none
  | _, _, _ => none

def aun (op : UnOp) : AVal → Option AVal
  | .int k n => match op with
    | .neg => some (.int k (k.wrap (0 - n)))
    | .xor => some (.int k (k.wrap (BitVec.ofInt k.bits (if k.signed then -1 else k.max) ^^^ BitVec.ofInt k.bits n).toNat))
    | _ => none
  | .bool b => match op with
    | .not => some (.bool (!b))
    | _ => none
  | _ => none

/-- The bytes that cells are. -/
def bytesOf : List AVal → Option (List UInt8)
  | [] => some []
  | .int .u8 n :: l => (bytesOf l).map (UInt8.ofNat n.toNat :: ·)
  | _ => none

def partA (off : Nat) (sz : Option Nat) (l : List AVal) : Option AVal :=
  match sz with
  | some n => if off + n ≤ l.length then some (.agg ((l.drop off).take n)) else none
  | none => l[off]?

def isV : AVal → Bool
  | .junk | .tup _ => false
  | _ => true

/-- A number, text, pointer .. that fits a cell. -/
def isCell : AVal → Bool
  | .junk | .agg _ | .tup _ => false
  | _ => true

/-- Parts laid over cells. -/
def fillA (l : List AVal) : List (Nat × Nat) → List AVal → Option (List AVal)
  | [], [] => some l
  | (off, sz) :: ps, v :: vs => if isV v = true ∧ v.cells.length = sz ∧ off + sz ≤ l.length then fillA (l.take off ++ v.cells ++ l.drop (off + sz)) ps vs else none
  | _, _ => none

def chunks (e : Nat) (agg : Bool) : Nat → List AVal → List AVal
  | 0, _ => []
  | n + 1, l => (match agg, l with
    | false, a :: _ => a
    | _, _ => .agg (l.take e)) :: chunks e agg n (l.drop e)

def Tag.isFull : Tag → Bool
  | .full => true
  | _ => false

def optInt : Bool → List AVal → Option (Option Int × List AVal)
  | false, r => some (none, r)
  | true, .int _ n :: r => some (some n, r)
  | true, _ => none

/-- Bounds of a slice expression: from, behind the last, the room's end. -/
def bnds (len cap : Nat) (lo hi mx : Bool) (args : List AVal) : Option (Nat × Nat × Nat) :=
  (optInt lo args).bind fun (l, r1) => (optInt hi r1).bind fun (h, r2) => (optInt mx r2).bind fun (m, _) =>
    if 0 ≤ l.getD 0 ∧ l.getD 0 ≤ h.getD len ∧ h.getD len ≤ m.getD cap ∧ m.getD cap ≤ cap then some ((l.getD 0).toNat, (h.getD len).toNat, (m.getD cap).toNat) else none

def pev : POp → List AVal → Option AVal
  | .mv, [x] => some x
  | .pick, [.bool c, a, b] => some (if c then a else b)
  | .bin op, [x, y] => abin op x y
  | .beq neg, [.bool a, .bool b] => some (.bool ((a == b) != neg))
  | .eqs cs neg, [.agg a, .agg b] => (cellsEq cs a b).map fun r => .bool (r != neg)
  | .isnil kd neg, [x] => (isNil kd x).map fun b => .bool (b != neg)
  | .un op, [x] => aun op x
  | .convI k, [.int _ n] => some (.int k (k.wrap n))
  | .convF, [.int _ n] => some (.float .f64 (FloatKind.f64.nearest n))
  | .convId, [.str s] => some (.str s)
  | .faddr off, [.ref k v o] => some (.ref k v (o + off))
  | .faddr off, [.iptr cs] => some (.iptr (cs.drop off))
  | .iaddr e, [.list _ e' l, .int _ i] => if e = e' ∧ 0 ≤ i ∧ i.toNat < l.length then (l[i.toNat]?).map fun a => .iptr a.cells else none
  | .iaddr e, [.msl k v e' off len, .int _ i] => if e = e' ∧ 0 ≤ i ∧ i.toNat < len then some (.ref k v (off + i.toNat * e)) else none
  | .iaddrA n e, [.ref k v o, .int _ i] => if 0 ≤ i ∧ i.toNat < n then some (.ref k v (o + i.toNat * e)) else none
  | .iaddrA n e, [.iptr cs, .int _ i] => if 0 ≤ i ∧ i.toNat < n then some (.iptr (cs.drop (i.toNat * e))) else none
  | .field off sz, [.agg l] => partA off sz l
  | .idxA n e sz, [.agg l, .int _ i] => if 0 ≤ i ∧ i.toNat < n then partA (i.toNat * e) sz l else none
  | .idxS, [.str s, .int _ i] => if 0 ≤ i ∧ i.toNat < s.length then (s[i.toNat]?).map fun b => .int .u8 b.toNat else none
  | .slS lo hi, .str s :: args => (bnds s.length s.length lo hi false args).map fun (l, h, _) => .str ((s.take h).drop l)
  | .slL e lo hi mx, .list tag e' l :: args =>
    if e = e' then (bnds l.length l.length lo hi mx args).map fun (a, h, m) =>
      .list (if m = h && (mx || tag.isFull) then .full else .none) e ((l.take h).drop a) else none
  | .slL e lo hi mx, .msl k v e' off len :: args =>
    if e = e' ∧ mx = false then (bnds len len lo hi false args).map fun (a, h, _) => .msl k v e (off + a * e) (h - a) else none
  | .lenS, [.str s] => some (.int .i64 s.length)
  | .lenL, [.list _ _ l] => some (.int .i64 l.length)
  | .lenL, [.msl _ _ _ _ len] => some (.int .i64 len)
  | .lenC n, [_] => some (.int .i64 n)
  | .ext i, [.tup l] => l[i]?
  | .nilchk, [.ref k v o] => some (.ref k v o)
  | .nilchk, [.iptr cs] => some (.iptr cs)
  | .nilchk, [.fn (.func f) a b] => some (.fn (.func f) a b)
  | .mkf f nf, l => some (.fn f (l.take nf) (l.drop nf))
  | .mki t, [x] => some (.iface t x)
  | .build z ps, vs => (fillA z.cells ps vs).map .agg
  | .bsl e n ag z ps, vs => (fillA ((List.replicate n z.cells).flatten) ps vs).bind fun cs => if (ag = true ∨ e = 1) ∧ cs.all isCell = true then some (.list .full e (chunks e ag n cs)) else none
  | .mn, [.int k a, .int k' b] => if k = k' then some (.int k (if b < a then b else a)) else none
  | .mx, [.int k a, .int k' b] => if k = k' then some (.int k (if b > a then b else a)) else none
  | .f64bits, [.float .f64 b] => some (.int .u64 b)
  | .f64from, [.int .u64 n] => some (.float .f64 n.toNat)
  | .add64, [.int .u64 a, .int .u64 b, .int .u64 c] => if 0 ≤ a ∧ 0 ≤ b ∧ 0 ≤ c ∧ c ≤ 1 then some (.tup [.int .u64 ((a + b + c) % 18446744073709551616), .int .u64 ((a + b + c) / 18446744073709551616)]) else none
  | .cmpS, [.str a, .str b] => some (.int .i64 (Lib.compareBytes a b))
  | .assertOk t _ _, [.iface u x] => if u = t then some (.tup [x, .bool true]) else none
  | _, _ => none

end Go.Am
/- The abstract machine: what is claimed of a piece of code, of a call. -/
namespace Go.Am

def Store.kill (st : Store) : Tag → Store
  | .tk k _ => st.set k ⟨(st k).ver, none⟩
  | _ => st

def App (st : Store) (tag : Tag) (n : Nat) : Prop :=
  match tag with
  | .full => True
  | .tk k v => (st k).ver = v ∧ (st k).obj = some (.tail n)
  | .none => False

/-- The cells of a live object. -/
def cellsAt (st : Store) (k : Key) (v : Nat) : Option (List AVal) :=
  if (st k).ver = v then
    match (st k).obj with
    | some (.cells l) => some l
    | _ => none
  else none

def load (st : Store) (sz : Option Nat) : AVal → Option AVal
  | .ref k v off => (cellsAt st k v).bind (partA off sz)
  | .iptr cs => partA 0 sz cs
  | _ => none

def mapAt (st : Store) (k : Key) (v : Nat) : Option (List AEntry × Nat) :=
  if (st k).ver = v then
    match (st k).obj with
    | some (.map es c) => some (es, c)
    | _ => none
  else none

/-- The entry of a key; 'none': a key is none that can be held against. -/
def findE : List AEntry → AVal → Option (Option AEntry)
  | [], _ => some none
  | e :: es, k => match cellEq k e.key with
    | some true => some (some e)
    | some false => findE es k
    | none => none

/-- A key of a kind: a text, or a number. -/
def keyIs : Bool → AVal → Bool
  | true, .str _ => true
  | false, .int _ _ => true
  | _, _ => false

/-- The elements behind a slice. -/
def elems (st : Store) : AVal → Option (Nat × List AVal)
  | .list _ e l => some (e, l)
  | .msl k v e off len =>
    if (st k).ver = v then
      match (st k).obj with
      | some (.cells l) => if off + len * e ≤ l.length ∧ ((l.drop off).take (len * e)).all isCell = true then some (e, chunks e (e != 1) len ((l.drop off).take (len * e))) else none
      | _ => none
    else none
  | _ => none

def Zero.val (z : Zero) (agg : Bool) : AVal := if agg then .agg z.cells else z.cells.headD .junk

def lev (st : Store) : LOp → List AVal → Option AVal
  | .load sz, [p] => load st sz p
  | .lenM, [.nilm] => some (.int .i64 0)
  | .lenM, [.mapr k v] => (mapAt st k v).map fun m => .int .i64 m.1.length
  | .lookup ks z agg ok, [.nilm, key] => if keyIs ks key then some (if ok then .tup [z.val agg, .bool false] else z.val agg) else none
  | .lookup ks z agg ok, [.mapr k v, key] => if keyIs ks key then (mapAt st k v).bind fun m => (findE m.1 key).map fun r =>
    match r with
    | some e => if ok then .tup [e.val, .bool true] else e.val
    | none => if ok then .tup [z.val agg, .bool false] else z.val agg else none
  | .slA n e lo hi false, .ref k v off :: args => (cellsAt st k v).bind fun l => if off + n * e ≤ l.length ∧ n < 2 ^ 62 then (bnds n n lo hi false args).map fun (a, h, _) => .msl k v e (off + a * e) (h - a) else none
  | .convS, [x] => (elems st x).bind fun p => if p.1 = 1 then (bytesOf p.2).map .str else none
  | .entry, [.ref k v 0] => if (st k).ver = v then
      match (st k).obj with
      | some (.iter m mv _ seen last) => (mapAt st m mv).bind fun p => if p.2 = last then
          (seen.getLast?).bind fun b => (p.1.find? (fun e => e.born == b)).map fun e => .tup [e.key, e.val]
        else none
      | _ => none
    else none
  | _, _ => none

def bytesA (s : List UInt8) : List AVal := s.map fun b => .int .u8 b.toNat

/-- The elements that an append's second operand brings. -/
def srcA (st : Store) : AVal → Option (List AVal)
  | .list _ _ m => some m
  | .str s => some (bytesA s)
  | x => (elems st x).map (·.2)

def srcE : AVal → Option ESz
  | .list _ e _ => some e
  | .str _ => some 1
  | .msl _ _ e _ _ => some e
  | _ => none

def splice (l : List AVal) (off : Nat) (cs : List AVal) : List AVal := l.take off ++ cs ++ l.drop (off + cs.length)

inductive AEnd where
  | ret (v : AVal)
  | panic (v : AVal)

inductive AEndRep (G : Ghost) (st : Store) : AEnd → Ending → Prop
  | ret (v : AVal) (x : Value) (h : Rep G st v x) : AEndRep G st (.ret v) (.returned x)
  | panic (v : AVal) (x : Value) (h : Rep G st v x) : AEndRep G st (.panic v) (.panicked [{ v := x, recovered := false }])

/-- What a call does, said abstractly: wherever the arguments and the store are what the world has, the call ends as told. -/
def ACalls (P : Program) (f : FuncId) (args : List AVal) (st : Store) (R : AEnd → Store → Prop) : Prop :=
  ∀ G w vs, ConcS G w st → RepL G st args vs → Calls P f vs.toArray w fun e w' =>
    ∃ ae st' G', R ae st' ∧ AEndRep G' st' ae e ∧ ConcS G' w' st' ∧ Ext G w st G' w' st'

theorem ACalls.mono {P : Program} {f : FuncId} {args : List AVal} {st : Store} {R R' : AEnd → Store → Prop} (h : ACalls P f args st R)
    (hr : ∀ e st', R e st' → R' e st') : ACalls P f args st R' :=
  fun G w vs hc ha => (h G w vs hc ha).mono fun _ _ ⟨ae, st', G', h1, h2⟩ => ⟨ae, st', G', hr _ _ h1, h2⟩

def endK (K : AVal → Store → Prop) (KP : AVal → Store → Prop) : AEnd → Store → Prop
  | .ret v, st => K v st
  | .panic v, st => KP v st

section
variable (P : Program)

/-- A function with a body of its own. -/
def Callable (f : FuncId) : Prop := ∃ fn, P.funcs[f]? = some fn ∧ fn.body.isSome = true ∧ fn.name ≠ "runtime.NumGoroutine"

def setE : List AEntry → AVal → AVal → Option (Option (List AEntry))
  | [], _, _ => some none
  | e :: es, k, x => match cellEq k e.key with
    | some true => some (some (⟨e.born, k, x⟩ :: es))
    | some false => (setE es k x).map fun r => r.map (e :: ·)
    | none => none

def delE : List AEntry → AVal → Option (List AEntry)
  | [], _ => some []
  | e :: es, k => match cellEq k e.key with
    | some true => some es
    | some false => (delE es k).map (e :: ·)
    | none => none

/-- What may come next of a map that is walked over. -/
def nextOK (es : List AEntry) (since : Nat) (seen : List Nat) (last : Nat) (over : Prop) (at_ : AEntry → Prop) : Prop :=
  ((!seen.isEmpty && !es.isEmpty && es.all (fun e => decide (e.born ≥ last))) = false) ∧
  (((es.filter fun e => !seen.contains e.born).filter fun e => decide (e.born < since)) = [] → over) ∧
  ∀ e ∈ es.filter (fun e => !seen.contains e.born), at_ e

/-- An operation that changes the store, or calls. 'key': the name of what it makes; 'mu': what it makes by append may be written in place. -/
def iwp (key : Key) (mu : Bool) : IOp → List AVal → Store → (AVal → Store → Prop) → (AVal → Store → Prop) → Prop
  | .alloc z, [], st, K, _ => K (.ref key ((st key).ver + 1) 0) (st.set key ⟨(st key).ver + 1, some (.cells z.cells)⟩)
  | .box sz, [v], st, K, _ => isV v = true ∧ v.cells.length = sz ∧ K (.ref key ((st key).ver + 1) 0) (st.set key ⟨(st key).ver + 1, some (.cells v.cells)⟩)
  | .store sz, [.ref k v off, x], st, K, _ => (st k).ver = v ∧ isV x = true ∧ x.cells.all isCell = true ∧ x.cells.length = sz ∧
      match (st k).obj with
      | some (.cells l) => off + sz ≤ l.length ∧ K .junk (st.set k ⟨v, some (.cells (splice l off x.cells))⟩)
      | _ => False
  | .append e by_, [.list tag e' l, x], st, K, _ =>
      if mu then False else
        e = e' ∧ App st tag l.length ∧ srcE x = some e ∧ ∃ m, srcA st x = some m ∧ (l.length + m.length) * by_ ≤ 2 ^ 47 ∧
          K (.list (.tk key (((st.kill tag) key).ver + 1)) e (l ++ m)) ((st.kill tag).set key ⟨((st.kill tag) key).ver + 1, some (.tail (l ++ m).length)⟩)
  | .call f, args, st, K, KP => ACalls P f args st (endK K KP)
  | .callv, .fn (.func f) first captured :: args, st, K, KP => Callable P f ∧ ACalls P f (first ++ args ++ captured) st (endK K KP)
  | .panic, [x], st, _, KP => (∃ t y, x = .iface t y) ∧ KP x st
  | .mkmap, [], st, K, _ => K (.mapr key ((st key).ver + 1)) (st.set key ⟨(st key).ver + 1, some (.map [] 0)⟩)
  | .mapset ks, [.mapr k v, key', x], st, K, _ => keyIs ks key' = true ∧ ∃ es c, mapAt st k v = some (es, c) ∧
      ((∃ es', setE es key' x = some (some es') ∧ K .junk (st.set k ⟨v, some (.map es' c)⟩)) ∨
       (setE es key' x = some none ∧ K .junk (st.set k ⟨v, some (.map (es ++ [⟨c, key', x⟩]) (c + 1))⟩)))
  | .delete ks, [.nilm, key'], st, K, _ => keyIs ks key' = true ∧ K .junk st
  | .delete ks, [.mapr k v, key'], st, K, _ => keyIs ks key' = true ∧ ∃ es c, mapAt st k v = some (es, c) ∧ ∃ es', delE es key' = some es' ∧ K .junk (st.set k ⟨v, some (.map es' c)⟩)
  | .clearM, [.nilm], st, K, _ => K .junk st
  | .clearM, [.mapr k v], st, K, _ => ∃ es c, mapAt st k v = some (es, c) ∧ K .junk (st.set k ⟨v, some (.map [] c)⟩)
  | .clearL _, [.list _ _ []], st, K, _ => K .junk st
  | .clearL z, [.msl k v e off len], st, K, _ => (st k).ver = v ∧ z.cells.length = e ∧ 0 < e ∧ 0 < len ∧ z.cells.all isCell = true ∧
      match (st k).obj with
      | some (.cells l) => off + len * e ≤ l.length ∧ K .junk (st.set k ⟨v, some (.cells (splice l off (List.replicate len z.cells).flatten))⟩)
      | _ => False
  | .range, [.mapr k v], st, K, _ => ∃ es c, mapAt st k v = some (es, c) ∧
      K (.ref key ((st key).ver + 1) 0) (st.set key ⟨(st key).ver + 1, some (.iter k v c [] c)⟩)
  | .next, [.ref k v 0], st, K, _ => (st k).ver = v ∧
      match (st k).obj with
      | some (.iter m mv since seen last) => ∃ es c, mapAt st m mv = some (es, c) ∧
          nextOK es since seen last (K (.tup [.bool false]) st) fun e => K (.tup [.bool true, e.key, e.val]) (st.set k ⟨v, some (.iter m mv since (seen ++ [e.born]) c)⟩)
      | _ => False
  | .makeSlice e by_ _ z, [.int _ l, .int _ c], st, K, _ => 0 ≤ l ∧ l ≤ c ∧ c * by_ ≤ 2 ^ 47 ∧ c < 2 ^ 62 ∧ z.cells.length = e ∧
      K (.msl key ((st key).ver + 1) e 0 l.toNat) (st.set key ⟨(st key).ver + 1, some (.cells (List.replicate c.toNat z.cells).flatten)⟩)
  | .convB, [.str s], st, K, _ => K (.msl key ((st key).ver + 1) 1 0 s.length) (st.set key ⟨(st key).ver + 1, some (.cells (bytesA s))⟩)
  | .appendZ e by_ ag z, [.list tag e' l, .int k n], st, K, _ => k = .i64 ∧ e = e' ∧ App st tag l.length ∧ 0 ≤ n ∧ z.cells.length = e ∧ z.cells.all isCell = true ∧ (ag = true ∨ e = 1) ∧ (l.length + n.toNat) * by_ ≤ 2 ^ 47 ∧
      K (.list (.tk key (((st.kill tag) key).ver + 1)) e (l ++ chunks e ag n.toNat (List.replicate n.toNat z.cells).flatten)) ((st.kill tag).set key ⟨((st.kill tag) key).ver + 1, some (.tail (l.length + n.toNat))⟩)
  | _, _, _, _, _ => False

/-- The names of what a function makes: by the operation's slot. -/
structure Nm where
  key : Nat → Key
  mu : Nat → Bool

def rop (nm : Nm) (o : ROp) (fr : Fr) (st : Store) (K : Fr → Store → Prop) (KP : AVal → Fr → Store → Prop) : Prop :=
  match o.op with
  | .p p => ∃ v, pev p (o.args.map fr.ev) = some v ∧ K (fr.put o.dst v) st
  | .l l => ∃ v, lev st l (o.args.map fr.ev) = some v ∧ K (fr.put o.dst v) st
  | .i i => iwp P (nm.key (o.dst.getD 0)) (nm.mu (o.dst.getD 0)) i (o.args.map fr.ev) st (fun v st' => K (fr.put o.dst v) st') (fun v st' => KP v fr st')

def ropG (nm : Nm) (o : ROp) (fr : Fr) (st : Store) (K : Fr → Store → Prop) (KP : AVal → Fr → Store → Prop) : Prop :=
  match o.guard with
  | none => rop P nm o fr st K KP
  | some (g, b) => match fr.get g with
    | .bool c => if c = b then rop P nm o fr st K KP else K (fr.put o.dst (.tup [])) st
    | .tup [] => K (fr.put o.dst (.tup [])) st
    | _ => False

def rwp (nm : Nm) : List ROp → Fr → Store → (Fr → Store → Prop) → (AVal → Fr → Store → Prop) → Prop
  | [], fr, st, K, _ => K fr st
  | o :: os, fr, st, K, KP => ropG P nm o fr st (fun fr st => rwp nm os fr st K KP) KP

end

def qop (o : ROp) (fr : Fr) (st : Store) : Option AVal :=
  match o.op with
  | .p p => pev p (o.args.map fr.ev)
  | .l l => lev st l (o.args.map fr.ev)
  | .i _ => none

/-- What an operation that only looks makes. -/
def qev (o : ROp) (fr : Fr) (st : Store) : Option AVal :=
  match o.guard with
  | none => qop o fr st
  | some (g, b) => match fr.get g with
    | .bool c => if c = b then qop o fr st else some (.tup [])
    | .tup [] => some (.tup [])
    | _ => none

/-- Asked again, it makes what it made. -/
def still (o : ROp) (fr : Fr) (st : Store) : Prop := ∃ v, qev o fr st = some v ∧ ∀ d, o.dst = some d → fr.get d = v

def stills : List ROp → Fr → Store → Prop
  | [], _, _ => True
  | o :: l, fr, st => still o fr st ∧ stills l fr st

def swp (P : Program) (nm : Nm) : Sched → Fr → Store → (Fr → Store → Prop) → (AVal → Fr → Store → Prop) → Prop
  | .done, fr, st, K, _ => K fr st
  | .q o s, fr, st, K, KP => ∃ v, qev o fr st = some v ∧ swp P nm s (fr.put o.dst v) st K KP
  | .e o re s, fr, st, K, KP => ropG P nm o fr st (fun fr' st' => stills re fr' st' ∧ swp P nm s fr' st' K KP) (fun v _ st' => ∀ fr', KP v fr' st')
  | .both a b, fr, st, K, KP => swp P nm a fr st K KP ∧ swp P nm b fr st K KP

inductive AExit where
  | normal
  | exit (id : Nat)
  | goto (l : Nat)
  | ret
  | panic (v : AVal)

structure ASt where
  fr : Fr
  st : Store

inductive AExitRep (G : Ghost) (st : Store) : AExit → Exit → Prop
  | normal : AExitRep G st .normal .normal
  | exit (id : Nat) : AExitRep G st (.exit id) (.exit id)
  | goto (l : Nat) : AExitRep G st (.goto l) (.goto l)
  | ret : AExitRep G st .ret .ret
  | panic (v : AVal) (x : Value) (h : Rep G st v x) : AExitRep G st (.panic v) (.panic [{ v := x, recovered := false }])

structure Conc (n : Nat) (G : Ghost) (w : World) (s : ASt) (a : Act) : Prop where
  st : ConcS G w s.st
  size : a.tmps.size = n
  fr : ∀ t, Rep G s.st (s.fr.get t) (a.tmps.getD t undef)

/-- The same, with what is put off till the function's end. -/
structure ConcD (n : Nat) (D : List Deferred) (G : Ghost) (w : World) (s : ASt) (a : Act) : Prop extends Conc n G w s a where
  defers : a.defers = D

abbrev AQ := AExit → Fr → Store → Prop

/-- What is claimed of a piece of code. -/
def AW (P : Program) (n : Nat) (c : Code) (Q : AQ) (fr : Fr) (st : Store) : Prop :=
  ∀ D G w a, ConcD n D G w ⟨fr, st⟩ a → c.wp P (fun e a' w' => ∃ ae fr' st' G', Q ae fr' st' ∧ AExitRep G' st' ae e ∧ ConcD n D G' w' ⟨fr', st'⟩ a' ∧ Ext G w st G' w' st') a w

/-- The same of code as the abstract machine reads it. -/
def AC (P : Program) (nm : Nm) (n : Nat) (c : ACode) (Q : AQ) (fr : Fr) (st : Store) : Prop :=
  ∀ code, cCode P n code = some c → AW P n code Q fr st

def thenQ (next : Fr → Store → Prop) (Q : AQ) : AQ
  | .normal, fr, st => next fr st
  | e, fr, st => Q e fr st

def blockQ (id : Nat) (Q : AQ) : AQ
  | .exit id', fr, st => if id' = id then Q .normal fr st else Q (.exit id') fr st
  | e, fr, st => Q e fr st

/-- What suffices for a piece of code: computed along it; loops, jumps and the like stay as they are. -/
def awp (P : Program) (nm : Nm) (n : Nat) : ACode → AQ → Fr → Store → Prop
  | .skip, Q, fr, st => Q .normal fr st
  | .region ops, Q, fr, st => rwp P nm ops fr st (Q .normal) (fun v fr st => Q (.panic v) fr st)
  | .draw s, Q, fr, st => swp P nm s fr st (Q .normal) (fun v fr st => Q (.panic v) fr st)
  | .seq a b, Q, fr, st => awp P nm n a (thenQ (awp P nm n b Q) Q) fr st
  | .cond c a b, Q, fr, st => match fr.ev c with
    | .bool t => if t then awp P nm n a Q fr st else awp P nm n b Q fr st
    | _ => False
  | .block id b, Q, fr, st => awp P nm n b (blockQ id Q) fr st
  | .exit id, Q, fr, st => Q (.exit id) fr st
  | .label _, Q, fr, st => Q .normal fr st
  | .goto l, Q, fr, st => Q (.goto l) fr st
  | .ret, Q, fr, st => Q .ret fr st
  | c, Q, fr, st => AC P nm n c Q fr st

end Go.Am
