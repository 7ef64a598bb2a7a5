/- The abstract machine: values, objects, and what they say of the world. -/
import Derived.Orders
import Derived.Defers
namespace Go.Am

abbrev Key := Int × Nat
/-- An element's size in cells. -/
abbrev ESz := Nat

inductive Tag where
  | none
  | full
  | tk (k : Key) (v : Nat)

inductive AVal where
  | junk
  | bool (b : Bool)
  | int (k : IntKind) (n : Int)
  | float (k : FloatKind) (bits : Nat)
  | str (s : List UInt8)
  | nilp
  | ref (k : Key) (v : Nat) (off : Nat)
  | iptr (cells : List AVal)
  | list (tag : Tag) (e : ESz) (l : List AVal)
  | msl (k : Key) (v : Nat) (e : ESz) (off len : Nat)
  | mapr (k : Key) (v : Nat)
  | nilm
  | fn (f : Fn) (first captured : List AVal)
  | nilf
  | iface (t : TypeId) (v : AVal)
  | nili
  | agg (l : List AVal)
  | tup (l : List AVal)
  deriving Inhabited

def AVal.cells : AVal → List AVal
  | .agg l => l
  | a => [a]

def flat (l : List AVal) : List AVal := l.flatMap AVal.cells

structure AEntry where
  born : Nat
  key : AVal
  val : AVal

inductive AObj where
  | cells (l : List AVal)
  | map (es : List AEntry) (clock : Nat)
  | iter (m : Key) (mv : Nat) (since : Nat) (seen : List Nat) (stepped : Nat)
  | tail (n : Nat)

structure Slot where
  ver : Nat
  obj : Option AObj

abbrev Store := Key → Slot

def Store.set (st : Store) (k : Key) (s : Slot) : Store := fun k' => if k' = k then s else st k'

/-- What stays of a store below a depth; what lies from there on is anything. -/
def Store.below (st : Store) (d : Int) (g : Store) : Store := fun k => if k.1 < d then st k else g k

structure Ghost where
  imm : Nat → Nat → Option Value
  blk : Key → Nat
  lo : Key → Nat
  hi : Key → Nat

def immCells (G : Ghost) (b off : Nat) (vs : List Value) : Prop := ∀ i v, vs[i]? = some v → G.imm b (off + i) = some v

def TagOK (G : Ghost) (st : Store) (tag : Tag) (e : ESz) (n cap : Nat) (a : Option Addr) : Prop :=
  match tag with
  | .none => True
  | .full => cap = n
  | .tk k v => v ≤ (st k).ver ∧ (v = (st k).ver → (st k).obj = some (.tail n) →
      cap = n ∨ ∃ ad, a = some ad ∧ ad.block = G.blk k ∧ ad.off + n * e = G.lo k ∧ ad.off + cap * e ≤ G.hi k ∧ G.lo k < G.hi k)

mutual
inductive Rep (G : Ghost) (st : Store) : AVal → Value → Prop
  | junk (x : Value) : Rep G st .junk x
  | bool (b : Bool) : Rep G st (.bool b) (.bool b)
  | int (k : IntKind) (n : Int) : Rep G st (.int k n) (.int k n)
  | float (k : FloatKind) (b : Nat) : Rep G st (.float k b) (.float k b)
  | str (l : List UInt8) (s : ByteArray) (h : s.data.toList = l) (hb : l.length < 2 ^ 63) : Rep G st (.str l) (.string s)
  | nilp : Rep G st .nilp (.pointer none)
  | ref (k : Key) (v off : Nat) (ad : Addr) (h : v ≤ (st k).ver)
      (hx : v = (st k).ver → ad = ⟨G.blk k, off, none⟩) : Rep G st (.ref k v off) (.pointer (some ad))
  | iptr (cs : List AVal) (b off : Nat) (vs : List Value) (hi : immCells G b off vs) (h : RepL G st cs vs) :
      Rep G st (.iptr cs) (.pointer (some ⟨b, off, none⟩))
  | list (tag : Tag) (e : ESz) (l : List AVal) (a : Option Addr) (cap : Nat) (vs : List Value)
      (hc : l.length ≤ cap) (hb : cap < 2 ^ 63) (he : ∀ y ∈ l, y.cells.length = e) (h : RepL G st (flat l) vs)
      (hi : ∀ ad, a = some ad → ad.spot = none ∧ immCells G ad.block ad.off vs) (hn : a = none → cap = 0)
      (ht : TagOK G st tag e l.length cap a) : Rep G st (.list tag e l) (.slice a l.length cap)
  | msl (k : Key) (v : Nat) (e : ESz) (off len : Nat) (a : Option Addr) (cap : Nat) (hc : len ≤ cap) (hb : cap < 2 ^ 63) (hn : a = none → cap = 0) (h : v ≤ (st k).ver)
      (hx : v = (st k).ver → ∀ ad, a = some ad → 0 < cap → ad = ⟨G.blk k, off, none⟩ ∧ off + cap * e ≤ G.hi k) : Rep G st (.msl k v e off len) (.slice a len cap)
  | mapr (k : Key) (v : Nat) (r : Nat) (h : v ≤ (st k).ver) (hx : v = (st k).ver → r = G.blk k) : Rep G st (.mapr k v) (.map (some r))
  | nilm : Rep G st .nilm (.map none)
  | fn (f : Fn) (first cap : List AVal) (fs cs : Array Value) (hf : RepL G st first fs.toList) (hc : RepL G st cap cs.toList) :
      Rep G st (.fn f first cap) (.func f fs cs)
  | nilf : Rep G st .nilf .nilFunc
  | iface (t : TypeId) (a : AVal) (x : Value) (h : Rep G st a x) : Rep G st (.iface t a) (.iface t x)
  | nili : Rep G st .nili .nilIface
  | agg (l : List AVal) (vs : Array Value) (h : RepL G st l vs.toList) : Rep G st (.agg l) (.agg vs)
  | tup (l : List AVal) (vs : Array Value) (h : RepL G st l vs.toList) : Rep G st (.tup l) (.tuple vs)
inductive RepL (G : Ghost) (st : Store) : List AVal → List Value → Prop
  | nil : RepL G st [] []
  | cons (a : AVal) (x : Value) (l : List AVal) (vs : List Value) (h : Rep G st a x) (t : RepL G st l vs) : RepL G st (a :: l) (x :: vs)
end

def thawed (fz : Nat × Nat) (n : Nat) : Prop := ∀ o, o < n → ¬ (fz.1 ≤ o ∧ o < fz.2)

def RepEntry (G : Ghost) (st : Store) (a : AEntry) (x : MapEntry) : Prop := a.born = x.born ∧ Rep G st a.key x.key ∧ Rep G st a.val x.val

/-- What an object says of its block. -/
def ObjOK (G : Ghost) (st : Store) (w : World) (k : Key) : AObj → Prop
  | .cells l => ∃ vs elem fz us rest, w.heap[G.blk k]? = some (.cells vs elem fz) ∧ vs.toList = us ++ rest ∧ RepL G st l us ∧ thawed fz vs.size ∧ G.hi k = vs.size
  | .map es clock => ∃ ents, w.heap[G.blk k]? = some (.map ents clock) ∧ ents.size = es.length ∧
      (∀ i (h : i < es.length) (h' : i < ents.size), RepEntry G st es[i] ents[i])
  | .iter m mv since seen stepped => mv ≤ (st m).ver ∧ (mv = (st m).ver → w.heap[G.blk k]? = some (.mapIter (some (G.blk m)) since seen.toArray stepped))
  | .tail _ => G.lo k < G.hi k → ∃ vs elem fz, w.heap[G.blk k]? = some (.cells vs elem fz) ∧ thawed fz vs.size ∧ G.hi k = vs.size

/-- Which block an object has for itself. -/
def Owns (G : Ghost) (st : Store) (k : Key) (b : Nat) : Prop :=
  match (st k).obj with
  | some (.tail _) => G.lo k < G.hi k ∧ G.blk k = b
  | some _ => G.blk k = b
  | none => False

/-- A value that one cell holds. -/
def one (v : Value) : Bool := match v with
  | .agg _ | .tuple _ => false
  | _ => true

structure ConcS (G : Ghost) (w : World) (st : Store) : Prop where
  one : ∀ b o v, G.imm b o = some v → one v = true
  imm : ∀ b o v, G.imm b o = some v → w.cell? ⟨b, o, none⟩ = some v
  obj : ∀ k o, (st k).obj = some o → ObjOK G st w k o
  inj : ∀ k k' b, Owns G st k b → Owns G st k' b → k = k'
  own : ∀ k b o, Owns G st k b → G.imm b o = none ∨ ∃ n, (st k).obj = some (.tail n) ∧ o < G.lo k
  size : ∀ k b, Owns G st k b → b < w.heap.size

structure Later (G : Ghost) (st : Store) (G' : Ghost) (st' : Store) : Prop where
  imm : ∀ b o v, G.imm b o = some v → G'.imm b o = some v
  ver : ∀ k, (st k).ver ≤ (st' k).ver
  blk : ∀ k, (st' k).ver = (st k).ver → G'.blk k = G.blk k ∧ G'.lo k = G.lo k ∧ G'.hi k = G.hi k
  tail : ∀ k n, (st' k).ver = (st k).ver → (st' k).obj = some (.tail n) → (st k).obj = some (.tail n)

theorem Later.refl (G : Ghost) (st : Store) : Later G st G st := ⟨fun _ _ _ h => h, fun _ => Nat.le_refl _, fun _ _ => ⟨rfl, rfl, rfl⟩, fun _ _ _ h => h⟩

theorem Later.trans {G G1 G2 : Ghost} {st st1 st2 : Store} (h : Later G st G1 st1) (h' : Later G1 st1 G2 st2) : Later G st G2 st2 where
  imm := fun b o v e => h'.imm _ _ _ (h.imm _ _ _ e)
  ver := fun k => Nat.le_trans (h.ver k) (h'.ver k)
  blk := fun k e => by
    have a := h.ver k
    have b := h'.ver k
    have e1 : (st1 k).ver = (st k).ver := by omega
    have e2 : (st2 k).ver = (st1 k).ver := by omega
    obtain ⟨x1, x2, x3⟩ := h.blk k e1
    obtain ⟨y1, y2, y3⟩ := h'.blk k e2
    exact ⟨y1.trans x1, y2.trans x2, y3.trans x3⟩
  tail := fun k n e ht => by
    have a := h.ver k
    have b := h'.ver k
    exact h.tail k n (by omega) (h'.tail k n (by omega) ht)

theorem immCells.later {G G' : Ghost} {st st' : Store} (h : Later G st G' st') {b off : Nat} {vs : List Value} (hi : immCells G b off vs) : immCells G' b off vs :=
  fun i v e => h.imm _ _ _ (hi i v e)

theorem TagOK.later {G G' : Ghost} {st st' : Store} (h : Later G st G' st') {tag : Tag} {e : ESz} {n cap : Nat} {a : Option Addr} (ht : TagOK G st tag e n cap a) :
    TagOK G' st' tag e n cap a := by
  cases tag with
  | none => trivial
  | full => exact ht
  | tk k v =>
    obtain ⟨h1, h2⟩ := ht
    refine ⟨Nat.le_trans h1 (h.ver k), fun e1 e2 => ?_⟩
    have hv := h.ver k
    have ev : (st' k).ver = (st k).ver := by omega
    have := h2 (by omega) (h.tail k n ev e2)
    obtain ⟨b1, b2, b3⟩ := h.blk k ev
    rw [b1, b2, b3]
    exact this

mutual
theorem Rep.later {G G' : Ghost} {st st' : Store} (h : Later G st G' st') : ∀ {a : AVal} {x : Value}, Rep G st a x → Rep G' st' a x
  | _, _, .junk x => .junk x
  | _, _, .bool b => .bool b
  | _, _, .int k n => .int k n
  | _, _, .float k b => .float k b
  | _, _, .str l s e hb => .str l s e hb
  | _, _, .nilp => .nilp
  | _, _, .ref k v off x h1 hx => .ref k v off x (Nat.le_trans h1 (h.ver k)) fun e => by
      have hv := h.ver k
      rw [(h.blk k (by omega)).1]
      exact hx (by omega)
  | _, _, .iptr cs b off vs hi hr => .iptr cs b off vs (hi.later h) (hr.later h)
  | _, _, .list tag e l a cap vs hc hb he hr hi hn ht =>
      .list tag e l a cap vs hc hb he (hr.later h) (fun ad e => ⟨(hi ad e).1, (hi ad e).2.later h⟩) hn (ht.later h)
  | _, _, .msl k v e off len a cap hc hb hn h1 hx => .msl k v e off len a cap hc hb hn (Nat.le_trans h1 (h.ver k)) fun ev => by
      have hv := h.ver k
      obtain ⟨b1, b2, b3⟩ := h.blk k (by omega)
      rw [b1, b3]
      exact hx (by omega)
  | _, _, .mapr k v x h1 hx => .mapr k v x (Nat.le_trans h1 (h.ver k)) fun ev => by
      have hv := h.ver k
      rw [(h.blk k (by omega)).1]
      exact hx (by omega)
  | _, _, .nilm => .nilm
  | _, _, .fn f a b fs cs h1 h2 => .fn f a b fs cs (h1.later h) (h2.later h)
  | _, _, .nilf => .nilf
  | _, _, .iface t a x hr => .iface t a x (hr.later h)
  | _, _, .nili => .nili
  | _, _, .agg l vs hr => .agg l vs (hr.later h)
  | _, _, .tup l vs hr => .tup l vs (hr.later h)
theorem RepL.later {G G' : Ghost} {st st' : Store} (h : Later G st G' st') : ∀ {l : List AVal} {vs : List Value}, RepL G st l vs → RepL G' st' l vs
  | _, _, .nil => .nil
  | _, _, .cons a x l vs hr t => .cons a x l vs (hr.later h) (t.later h)
end

section
variable {G : Ghost} {st : Store}

theorem RepL.length : ∀ {l : List AVal} {vs : List Value}, RepL G st l vs → vs.length = l.length
  | _, _, .nil => rfl
  | _, _, .cons _ _ _ _ _ t => by simp [t.length]

theorem RepL.get : ∀ {l : List AVal} {vs : List Value}, RepL G st l vs → ∀ {i : Nat} {a : AVal}, l[i]? = some a → ∃ v, vs[i]? = some v ∧ Rep G st a v
  | _, _, .nil, _, _, h => by simp at h
  | _, _, .cons a x l vs hr t, 0, _, h => by simp at h; subst h; exact ⟨x, rfl, hr⟩
  | _, _, .cons a x l vs hr t, i + 1, _, h => by simpa using t.get (i := i) (by simpa using h)

theorem RepL.append : ∀ {l : List AVal} {vs : List Value} {l' : List AVal} {vs' : List Value}, RepL G st l vs → RepL G st l' vs' → RepL G st (l ++ l') (vs ++ vs')
  | _, _, _, _, .nil, h => h
  | _, _, _, _, .cons a x l vs hr t, h => .cons a x _ _ hr (t.append h)

theorem RepL.take : ∀ {l : List AVal} {vs : List Value} (n : Nat), RepL G st l vs → RepL G st (l.take n) (vs.take n)
  | _, _, 0, _ => by simpa using RepL.nil
  | _, _, n + 1, .nil => by simpa using RepL.nil
  | _, _, n + 1, .cons a x l vs hr t => by simpa using RepL.cons a x _ _ hr (t.take n)

theorem RepL.drop : ∀ {l : List AVal} {vs : List Value} (n : Nat), RepL G st l vs → RepL G st (l.drop n) (vs.drop n)
  | _, _, 0, h => by simpa using h
  | _, _, n + 1, .nil => by simpa using RepL.nil
  | _, _, n + 1, .cons a x l vs hr t => by simpa using t.drop n

theorem RepL.set : ∀ {l : List AVal} {vs : List Value} (n : Nat) {a : AVal} {x : Value}, RepL G st l vs → Rep G st a x → RepL G st (l.set n a) (vs.set n x)
  | _, _, _, _, _, .nil, _ => by simpa using RepL.nil
  | _, _, 0, _, _, .cons a x l vs hr t, h => by simpa using RepL.cons _ _ _ _ h t
  | _, _, n + 1, _, _, .cons a x l vs hr t, h => by simpa using RepL.cons _ _ _ _ hr (t.set n h)

theorem RepL.split : ∀ {l l' : List AVal} {vs : List Value}, RepL G st (l ++ l') vs → ∃ a b, vs = a ++ b ∧ RepL G st l a ∧ RepL G st l' b
  | [], _, vs, h => ⟨[], vs, rfl, .nil, h⟩
  | _ :: l, _, _, .cons a x _ vs hr t => by
      obtain ⟨p, q, e, h1, h2⟩ := RepL.split (l := l) t
      exact ⟨x :: p, q, by simp [e], .cons _ _ _ _ hr h1, h2⟩

theorem RepL.ofGet {l : List AVal} {vs : List Value} (hn : vs.length = l.length) (h : ∀ (i : Nat) (a : AVal) (v : Value), l[i]? = some a → vs[i]? = some v → Rep G st a v) : RepL G st l vs := by
  induction l generalizing vs with
  | nil => cases vs with
    | nil => exact .nil
    | cons _ _ => simp at hn
  | cons a l ih => cases vs with
    | nil => simp at hn
    | cons v vs => exact .cons _ _ _ _ (h 0 a v rfl rfl) (ih (by simpa using hn) fun i a v e1 e2 => h (i + 1) a v (by simpa using e1) (by simpa using e2))

theorem RepL.map (f : AVal → AVal) (hf : ∀ a v, Rep G st a v → Rep G st (f a) v) : ∀ {l : List AVal} {vs : List Value}, RepL G st l vs → RepL G st (l.map f) vs
  | _, _, .nil => .nil
  | _, _, .cons a x l vs hr t => .cons _ _ _ _ (hf _ _ hr) (t.map f hf)

end

/-- What a piece of a run leaves of the rest of the world. -/
structure Ext (G : Ghost) (w : World) (st : Store) (G' : Ghost) (w' : World) (st' : Store) : Prop where
  later : Later G st G' st'
  size : w.heap.size ≤ w'.heap.size
  unch : ∀ b, b < w.heap.size → (∀ k, ¬ Owns G st k b) → w'.heap[b]? = w.heap[b]?
  own : ∀ k b, b < w.heap.size → Owns G' st' k b → ∃ k', Owns G st k' b
  imm : ∀ b o v, G'.imm b o = some v → b < w.heap.size → G.imm b o = some v ∨ ∃ k, Owns G st k b
  tape : w'.tape = w.tape
  os : w'.os = w.os
  output : w'.output = w.output

theorem Ext.refl (G : Ghost) (w : World) (st : Store) : Ext G w st G w st :=
  ⟨.refl _ _, Nat.le_refl _, fun _ _ _ => rfl, fun k _ _ h => ⟨k, h⟩, fun _ _ _ h _ => .inl h, rfl, rfl, rfl⟩

theorem Ext.trans {G G1 G2 : Ghost} {w w1 w2 : World} {st st1 st2 : Store} (h : Ext G w st G1 w1 st1) (h' : Ext G1 w1 st1 G2 w2 st2) : Ext G w st G2 w2 st2 where
  later := h.later.trans h'.later
  size := Nat.le_trans h.size h'.size
  unch := fun b hb hn => by
    rw [h'.unch b (Nat.lt_of_lt_of_le hb h.size) (fun k hk => by obtain ⟨k', hk'⟩ := h.own k b hb hk; exact hn k' hk'), h.unch b hb hn]
  own := fun k b hb hk => by
    obtain ⟨k', hk'⟩ := h'.own k b (Nat.lt_of_lt_of_le hb h.size) hk
    exact h.own k' b hb hk'
  imm := fun b o v e hb => by
    rcases h'.imm b o v e (Nat.lt_of_lt_of_le hb h.size) with h1 | ⟨k, hk⟩
    · exact h.imm b o v h1 hb
    · exact .inr (h.own k b hb hk)
  tape := h'.tape.trans h.tape
  os := h'.os.trans h.os
  output := h'.output.trans h.output

end Go.Am
