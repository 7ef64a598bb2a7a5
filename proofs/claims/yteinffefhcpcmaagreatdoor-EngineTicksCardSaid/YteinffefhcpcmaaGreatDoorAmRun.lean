/- The abstract machine, run: tries, equality, what a run makes. -/
import Derived.Test.YteinffefhcpcmaaGreatDoorAmWp
namespace Go.Am

/-- A map from numbers. -/
inductive T (α : Type) where
  | leaf
  | node (v : Option α) (l r : T α)
  deriving Inhabited

namespace T
variable {α : Type}

def get : T α → Nat → Option α
  | .leaf, _ => none
  | .node v l r, i => cond (Nat.beq i 0) v (cond (Nat.beq ((i - 1) % 2) 0) (get l ((i - 1) / 2)) (get r ((i - 1) / 2)))

def putF : Nat → T α → Nat → Option α → T α
  | 0, t, _, _ => t
  | f + 1, .leaf, i, x => cond (Nat.beq i 0) (.node x .leaf .leaf) (cond (Nat.beq ((i - 1) % 2) 0) (.node none (putF f .leaf ((i - 1) / 2) x) .leaf) (.node none .leaf (putF f .leaf ((i - 1) / 2) x)))
  | f + 1, .node v l r, i, x => cond (Nat.beq i 0) (.node x l r) (cond (Nat.beq ((i - 1) % 2) 0) (.node v (putF f l ((i - 1) / 2) x) r) (.node v l (putF f r ((i - 1) / 2) x)))

def put (t : T α) (i : Nat) (x : α) : T α := putF (Nat.log2 (i + 1) + 1) t i (some x)

theorem get_leaf (i : Nat) : (T.leaf : T α).get i = none := rfl

theorem get_putF : ∀ (f : Nat) (t : T α) (i : Nat) (x : Option α) (j : Nat), i + 1 < 2 ^ f → (putF f t i x).get j = if j = i then x else t.get j
  | 0, t, i, x, j, h => by simp at h
  | f + 1, t, i, x, j, h => by
    have hf : i ≠ 0 → (i - 1) / 2 + 1 < 2 ^ f := by
      intro h0
      rw [Nat.pow_succ] at h
      omega
    have key : ∀ (l r : T α) (v : Option α), (cond (Nat.beq i 0) (.node x l r) (cond (Nat.beq ((i - 1) % 2) 0) (.node v (putF f l ((i - 1) / 2) x) r) (.node v l (putF f r ((i - 1) / 2) x))) : T α).get j = if j = i then x else (T.node v l r).get j := by
      intro l r v
      by_cases hi : i = 0
      · subst hi
        simp only [Nat.beq_refl, cond_true, get]
        by_cases hj : j = 0
        · subst hj; simp
        · rw [if_neg hj]
          have : Nat.beq j 0 = false := by simpa [← Nat.beq_eq] using hj
          simp [this]
      · have hi0 : Nat.beq i 0 = false := by simpa [← Nat.beq_eq] using hi
        simp only [hi0, cond_false]
        by_cases hp : (i - 1) % 2 = 0
        · have hpb : Nat.beq ((i - 1) % 2) 0 = true := by simpa [Nat.beq_eq] using hp
          simp only [hpb, cond_true, get]
          by_cases hj : j = 0
          · subst hj; rw [if_neg (by omega)]; simp
          · have hj0 : Nat.beq j 0 = false := by simpa [← Nat.beq_eq] using hj
            simp only [hj0, cond_false]
            rw [get_putF f l _ x _ (hf hi)]
            by_cases hq : (j - 1) % 2 = 0
            · have hqb : Nat.beq ((j - 1) % 2) 0 = true := by simpa [Nat.beq_eq] using hq
              simp only [hqb, cond_true]
              by_cases he : j = i
              · subst he; simp
              · rw [if_neg (by omega), if_neg he]
            · have hqb : Nat.beq ((j - 1) % 2) 0 = false := by simpa [← Nat.beq_eq] using hq
              simp only [hqb, cond_false]
              rw [if_neg (by intro e; subst e; exact hq hp)]
        · have hpb : Nat.beq ((i - 1) % 2) 0 = false := by simpa [← Nat.beq_eq] using hp
          simp only [hpb, cond_false, get]
          by_cases hj : j = 0
          · subst hj; rw [if_neg (by omega)]; simp
          · have hj0 : Nat.beq j 0 = false := by simpa [← Nat.beq_eq] using hj
            simp only [hj0, cond_false]
            rw [get_putF f r _ x _ (hf hi)]
            by_cases hq : (j - 1) % 2 = 0
            · have hqb : Nat.beq ((j - 1) % 2) 0 = true := by simpa [Nat.beq_eq] using hq
              simp only [hqb, cond_true]
              rw [if_neg (by intro e; subst e; exact hp hq)]
            · have hqb : Nat.beq ((j - 1) % 2) 0 = false := by simpa [← Nat.beq_eq] using hq
              simp only [hqb, cond_false]
              by_cases he : j = i
              · subst he; simp
              · rw [if_neg (by omega), if_neg he]
    cases t with
    | node v l r => simp only [putF]; exact key l r v
    | leaf =>
      have := key .leaf .leaf none
      simp only [putF]
      rw [this]
      by_cases hj : j = i
      · simp [hj]
      · simp [hj, get]

theorem get_put (t : T α) (i : Nat) (x : α) (j : Nat) : (t.put i x).get j = if j = i then some x else t.get j :=
  get_putF _ t i _ j Nat.lt_log2_self

end T

abbrev RF := T AVal

def RF.at (f : RF) (n : Nat) : AVal := match f.get n with
  | some v => v
  | none => .junk

def RF.ev (f : RF) : Opd → AVal
  | .t n => f.at n
  | .c a => a

def RF.set (f : RF) (d : Option Nat) (v : AVal) : RF :=
  match d with
  | some d => f.put d v
  | none => f

def slot0 : Slot := ⟨0, none⟩

def isZ : Int → Bool
  | .ofNat n => Nat.beq n 0
  | .negSucc _ => false

/-- An array of numbers, told by those that are not zero, in order. -/
def exp : Nat → Nat → List (Nat × Nat) → List AVal
  | _, 0, _ => []
  | i, c + 1, [] => .int .u64 (.ofNat 0) :: exp (i + 1) c []
  | i, c + 1, (j, n) :: o => if j = i then .int .u64 (.ofNat n) :: exp (i + 1) c o else .int .u64 (.ofNat 0) :: exp (i + 1) c ((j, n) :: o)

inductive XObj where
  | o (a : AObj)
  | arr (n : Nat) (over : List (Nat × Nat))

structure XSlot where
  ver : Nat
  obj : Option XObj

def XObj.norm : XObj → AObj
  | .o a => a
  | .arr n over => .cells (exp 0 n over)

def XSlot.norm (s : XSlot) : Slot := ⟨s.ver, match s.obj with
  | some o => some o.norm
  | none => none⟩

abbrev Hp := T XSlot

def Hp.at (h : Hp) (k : Key) : Slot := match isZ k.1, h.get k.2 with
  | true, some s => s.norm
  | _, _ => slot0

def Hp.st (h : Hp) : Store := fun k => h.at k

def objAt (h : Hp) (k : Key) (v : Nat) : Option AObj := match h.at k with
  | ⟨ver, some o⟩ => cond (Nat.beq ver v) (some o) none
  | _ => none

/-- An array of numbers. -/
def arrAt (h : Hp) (k : Key) (v : Nat) : Option (Nat × List (Nat × Nat)) := match isZ k.1, h.get k.2 with
  | true, some ⟨ver, some (.arr n o)⟩ => cond (Nat.beq ver v) (some (n, o)) none
  | _, _ => none

/-! ## Equality, computed -/

def fnEq : Fn → Fn → Bool
  | .func f, .func g => Nat.beq f g
  | _, _ => false

def keyEq (a b : Key) : Bool := isZ a.1 && isZ b.1 && Nat.beq a.2 b.2

def tagEq : Tag → Tag → Bool
  | .none, .none => true
  | .full, .full => true
  | .tk k v, .tk k' v' => keyEq k k' && Nat.beq v v'
  | _, _ => false

def intEq : Int → Int → Bool
  | .ofNat a, .ofNat b => Nat.beq a b
  | .negSucc a, .negSucc b => Nat.beq a b
  | _, _ => false

mutual
def veq : AVal → AVal → Bool
  | .junk, .junk => true
  | .bool a, .bool b => a == b
  | .int k a, .int k' b => k == k' && intEq a b
  | .float k a, .float k' b => k == k' && Nat.beq a b
  | .str a, .str b => a == b
  | .nilp, .nilp => true
  | .ref k v o, .ref k' v' o' => keyEq k k' && Nat.beq v v' && Nat.beq o o'
  | .iptr a, .iptr b => veqL a b
  | .list t e l, .list t' e' l' => tagEq t t' && Nat.beq e e' && veqL l l'
  | .msl k v e o n, .msl k' v' e' o' n' => keyEq k k' && Nat.beq v v' && Nat.beq e e' && Nat.beq o o' && Nat.beq n n'
  | .mapr k v, .mapr k' v' => keyEq k k' && Nat.beq v v'
  | .nilm, .nilm => true
  | .fn f a b, .fn f' a' b' => fnEq f f' && veqL a a' && veqL b b'
  | .nilf, .nilf => true
  | .iface t a, .iface t' b => Nat.beq t t' && veq a b
  | .nili, .nili => true
  | .agg a, .agg b => veqL a b
  | .tup a, .tup b => veqL a b
  | _, _ => false
def veqL : List AVal → List AVal → Bool
  | [], [] => true
  | a :: l, b :: m => veq a b && veqL l m
  | _, _ => false
end

theorem isZ_eq {a b : Int} (h : isZ a = true) (h' : isZ b = true) : a = b := by
  cases a <;> cases b <;> simp_all [isZ, Nat.beq_eq]

theorem isZ_zero {a : Int} (h : isZ a = true) : a = 0 := isZ_eq h rfl

theorem keyEq_eq {a b : Key} (h : keyEq a b = true) : a = b := by
  simp only [keyEq, Bool.and_eq_true, Nat.beq_eq] at h
  exact Prod.ext (isZ_eq h.1.1 h.1.2) h.2

theorem fnEq_eq {a b : Fn} (h : fnEq a b = true) : a = b := by
  cases a <;> cases b <;> simp_all [fnEq, Nat.beq_eq]

theorem tagEq_eq {a b : Tag} (h : tagEq a b = true) : a = b := by
  cases a <;> cases b <;> simp only [tagEq, Bool.and_eq_true, Nat.beq_eq, reduceCtorEq, Bool.false_eq_true] at h
  · rfl
  · rfl
  · rw [keyEq_eq h.1, h.2]

theorem intEq_eq {a b : Int} (h : intEq a b = true) : a = b := by
  cases a <;> cases b <;> simp_all [intEq, Nat.beq_eq]

mutual
theorem veq_eq : ∀ {a b : AVal}, veq a b = true → a = b := by
  intro a b h
  cases a <;> cases b <;> simp only [veq, Bool.and_eq_true, Nat.beq_eq, beq_iff_eq, reduceCtorEq, Bool.false_eq_true] at h <;> first | rfl | (rw [h]) | skip
  · rw [h.1, intEq_eq h.2]
  · rw [h.1, h.2]
  · rw [keyEq_eq h.1.1, h.1.2, h.2]
  · rw [veqL_eq h]
  · rw [tagEq_eq h.1.1, h.1.2, veqL_eq h.2]
  · rw [keyEq_eq h.1.1.1.1, h.1.1.1.2, h.1.1.2, h.1.2, h.2]
  · rw [keyEq_eq h.1, h.2]
  · rw [fnEq_eq h.1.1, veqL_eq h.1.2, veqL_eq h.2]
  · rw [h.1, veq_eq h.2]
  · rw [veqL_eq h]
  · rw [veqL_eq h]
theorem veqL_eq : ∀ {a b : List AVal}, veqL a b = true → a = b := by
  intro a b h
  cases a <;> cases b <;> simp only [veqL, Bool.and_eq_true, reduceCtorEq, Bool.false_eq_true] at h
  · rfl
  · rw [veq_eq h.1, veqL_eq h.2]
end

def entL : List AEntry → List AEntry → Bool
  | [], [] => true
  | a :: l, b :: m => Nat.beq a.born b.born && veq a.key b.key && veq a.val b.val && entL l m
  | _, _ => false

theorem entL_eq : ∀ {a b : List AEntry}, entL a b = true → a = b
  | [], [], _ => rfl
  | a :: l, b :: m, h => by
    simp only [entL, Bool.and_eq_true, Nat.beq_eq] at h
    obtain ⟨⟨⟨h1, h2⟩, h3⟩, h4⟩ := h
    obtain ⟨a1, a2, a3⟩ := a
    obtain ⟨b1, b2, b3⟩ := b
    simp only at h1 h2 h3
    rw [h1, veq_eq h2, veq_eq h3, entL_eq h4]
  | [], _ :: _, h => by simp [entL] at h
  | _ :: _, [], h => by simp [entL] at h

def objEq : AObj → AObj → Bool
  | .cells a, .cells b => veqL a b
  | .map a c, .map b d => entL a b && Nat.beq c d
  | .iter m v s l x, .iter m' v' s' l' x' => keyEq m m' && Nat.beq v v' && Nat.beq s s' && l == l' && Nat.beq x x'
  | .tail a, .tail b => Nat.beq a b
  | _, _ => false

theorem objEq_eq {a b : AObj} (h : objEq a b = true) : a = b := by
  cases a <;> cases b <;> simp only [objEq, Bool.and_eq_true, Nat.beq_eq, beq_iff_eq, reduceCtorEq, Bool.false_eq_true] at h
  · rw [veqL_eq h]
  · rw [entL_eq h.1, h.2]
  · rw [keyEq_eq h.1.1.1.1, h.1.1.1.2, h.1.1.2, h.1.2, h.2]
  · rw [h]

def overEq : List (Nat × Nat) → List (Nat × Nat) → Bool
  | [], [] => true
  | a :: l, b :: m => Nat.beq a.1 b.1 && Nat.beq a.2 b.2 && overEq l m
  | _, _ => false

theorem overEq_eq : ∀ {a b : List (Nat × Nat)}, overEq a b = true → a = b
  | [], [], _ => rfl
  | a :: l, b :: m, h => by
    simp only [overEq, Bool.and_eq_true, Nat.beq_eq] at h
    rw [overEq_eq h.2, Prod.ext h.1.1 h.1.2]
  | [], _ :: _, h => by simp [overEq] at h
  | _ :: _, [], h => by simp [overEq] at h

def xobjEq : XObj → XObj → Bool
  | .o a, .o b => objEq a b
  | .arr n o, .arr m p => Nat.beq n m && overEq o p
  | _, _ => false

theorem xobjEq_eq {a b : XObj} (h : xobjEq a b = true) : a = b := by
  cases a <;> cases b <;> simp only [xobjEq, Bool.and_eq_true, Nat.beq_eq, reduceCtorEq, Bool.false_eq_true] at h
  · rw [objEq_eq h]
  · rw [h.1, overEq_eq h.2]

def slotEq (a b : XSlot) : Bool := Nat.beq a.ver b.ver && match a.obj, b.obj with
  | none, none => true
  | some x, some y => xobjEq x y
  | _, _ => false

theorem slotEq_eq {a b : XSlot} (h : slotEq a b = true) : a = b := by
  obtain ⟨a1, a2⟩ := a
  obtain ⟨b1, b2⟩ := b
  simp only [slotEq, Bool.and_eq_true, Nat.beq_eq] at h
  cases a2 <;> cases b2 <;> simp only [Bool.false_eq_true, and_false, and_true] at h
  · rw [h]
  · rw [h.1, xobjEq_eq h.2]

/-- What two stores have alike. -/
def meet : Hp → Hp → Hp
  | .node v l r, .node v' l' r' => .node (match v, v' with
      | some a, some b => cond (slotEq a b) (some a) none
      | _, _ => none) (meet l l') (meet r r')
  | _, _ => .leaf

theorem meet_left : ∀ (a b : Hp) {i : Nat} {s : XSlot}, (meet a b).get i = some s → a.get i = some s
  | .leaf, _, i, s, h => by simp [meet, T.get] at h
  | .node _ _ _, .leaf, i, s, h => by simp [meet, T.get] at h
  | .node v l r, .node v' l' r', i, s, h => by
    simp only [meet, T.get] at h ⊢
    cases hb : Nat.beq i 0 with
    | true =>
      rw [hb] at h
      simp only [cond_true] at h ⊢
      cases v with
      | none => cases v' <;> simp at h
      | some a => cases v' with
        | none => simp at h
        | some b => cases hs : slotEq a b <;> simp [hs] at h; rw [h]
    | false =>
      rw [hb] at h
      simp only [cond_false] at h ⊢
      cases hp : Nat.beq ((i - 1) % 2) 0 with
      | true => rw [hp] at h; exact meet_left l l' h
      | false => rw [hp] at h; exact meet_left r r' h

theorem meet_right : ∀ (a b : Hp) {i : Nat} {s : XSlot}, (meet a b).get i = some s → b.get i = some s
  | .leaf, _, i, s, h => by simp [meet, T.get] at h
  | .node _ _ _, .leaf, i, s, h => by simp [meet, T.get] at h
  | .node v l r, .node v' l' r', i, s, h => by
    simp only [meet, T.get] at h ⊢
    cases hb : Nat.beq i 0 with
    | true =>
      rw [hb] at h
      simp only [cond_true] at h ⊢
      cases v with
      | none => cases v' <;> simp at h
      | some a => cases v' with
        | none => simp at h
        | some b => cases hs : slotEq a b <;> simp [hs] at h; rw [← h, slotEq_eq hs]
    | false =>
      rw [hb] at h
      simp only [cond_false] at h ⊢
      cases hp : Nat.beq ((i - 1) % 2) 0 with
      | true => rw [hp] at h; exact meet_right l l' h
      | false => rw [hp] at h; exact meet_right r r' h

/-! ## Arrays of numbers -/

def look : List (Nat × Nat) → Nat → Nat
  | [], _ => 0
  | (k, v) :: o, j => cond (Nat.beq k j) v (look o j)

def ins : List (Nat × Nat) → Nat → Nat → List (Nat × Nat)
  | [], j, n => [(j, n)]
  | (k, v) :: o, j, n => cond (Nat.blt j k) ((j, n) :: (k, v) :: o) (cond (Nat.beq j k) ((j, n) :: o) ((k, v) :: ins o j n))

/-- In order, from i on. -/
def sorted : Nat → List (Nat × Nat) → Bool
  | _, [] => true
  | i, (k, _) :: o => Nat.ble i k && sorted (k + 1) o

theorem sorted_mono : ∀ {o : List (Nat × Nat)} {i j : Nat}, sorted i o = true → j ≤ i → sorted j o = true
  | [], _, _, _, _ => rfl
  | (k, v) :: o, i, j, h, hj => by
    simp only [sorted, Bool.and_eq_true, Nat.ble_eq] at h ⊢
    exact ⟨by omega, h.2⟩

theorem look_below : ∀ {o : List (Nat × Nat)} {i j : Nat}, sorted i o = true → j < i → look o j = 0
  | [], _, _, _, _ => rfl
  | (k, v) :: o, i, j, h, hj => by
    simp only [sorted, Bool.and_eq_true, Nat.ble_eq] at h
    have hne : Nat.beq k j = false := by
      cases hb : Nat.beq k j with
      | false => rfl
      | true => have := Nat.eq_of_beq_eq_true hb; omega
    simp only [look, hne, cond_false]
    exact look_below h.2 (by omega)

theorem exp_length : ∀ {i c : Nat} {o : List (Nat × Nat)}, (exp i c o).length = c
  | _, 0, _ => by simp [exp]
  | i, c + 1, [] => by simp [exp, exp_length]
  | i, c + 1, (j, n) :: o => by simp only [exp]; split <;> simp [exp_length]

theorem exp_get : ∀ {c i j : Nat} {o : List (Nat × Nat)}, sorted i o = true → j < c → (exp i c o)[j]? = some (.int .u64 (.ofNat (look o (i + j))))
  | 0, _, _, _, _, hj => by omega
  | c + 1, i, j, [], h, hj => by
    cases j with
    | zero => simp [exp, look]
    | succ j =>
      simp only [exp, List.getElem?_cons_succ]
      rw [exp_get (o := []) rfl (by omega)]
      simp [look]
  | c + 1, i, j, (k, v) :: o, h, hj => by
    simp only [sorted, Bool.and_eq_true, Nat.ble_eq] at h
    simp only [exp]
    by_cases hk : k = i
    · subst hk
      rw [if_pos rfl]
      cases j with
      | zero => simp [look]
      | succ j =>
        rw [List.getElem?_cons_succ, exp_get h.2 (by omega)]
        have hne : Nat.beq k (k + (j + 1)) = false := by
          cases hb : Nat.beq k (k + (j + 1)) with
          | false => rfl
          | true => have := Nat.eq_of_beq_eq_true hb; omega
        simp only [look, hne, cond_false]
        congr 4
        omega
    · rw [if_neg hk]
      cases j with
      | zero =>
        have hne : Nat.beq k i = false := by
          cases hb : Nat.beq k i with
          | false => rfl
          | true => exact absurd (Nat.eq_of_beq_eq_true hb) hk
        simp only [List.getElem?_cons_zero, Nat.add_zero, look, hne, cond_false]
        rw [look_below h.2 (by omega)]
      | succ j =>
        rw [List.getElem?_cons_succ, exp_get (i := i + 1) (by simp only [sorted, Bool.and_eq_true, Nat.ble_eq]; exact ⟨by omega, h.2⟩) (by omega)]
        congr 4
        omega

theorem exp_take : ∀ {k c i : Nat} {o : List (Nat × Nat)}, k ≤ c → (exp i c o).take k = exp i k o
  | 0, _, _, _, _ => by simp [exp]
  | k + 1, 0, _, _, h => by omega
  | k + 1, c + 1, i, [], h => by simp only [exp, List.take_succ_cons]; rw [exp_take (by omega)]
  | k + 1, c + 1, i, (j, n) :: o, h => by
    simp only [exp]
    split
    · rw [List.take_succ_cons, exp_take (by omega)]
    · rw [List.take_succ_cons, exp_take (by omega)]

theorem look_ins : ∀ {o : List (Nat × Nat)} {i j n k : Nat}, sorted i o = true → look (ins o j n) k = if k = j then n else look o k
  | [], i, j, n, k, _ => by
    simp only [ins, look]
    by_cases h : k = j
    · subst h; simp
    · have : Nat.beq j k = false := by
        cases hb : Nat.beq j k with
        | false => rfl
        | true => exact absurd (Nat.eq_of_beq_eq_true hb).symm h
      rw [this, if_neg h]; rfl
  | (a, v) :: o, i, j, n, k, h => by
    simp only [sorted, Bool.and_eq_true, Nat.ble_eq] at h
    have hjk : k ≠ j → Nat.beq j k = false := fun h => by
      cases hb : Nat.beq j k with
      | false => rfl
      | true => exact absurd (Nat.eq_of_beq_eq_true hb).symm h
    simp only [ins]
    cases h1 : Nat.blt j a with
    | true =>
      simp only [cond_true]
      by_cases hk : k = j
      · subst hk; simp [look]
      · simp only [look, hjk hk, cond_false]; rw [if_neg hk]
    | false =>
      simp only [cond_false]
      cases h2 : Nat.beq j a with
      | true =>
        have := Nat.eq_of_beq_eq_true h2
        subst this
        simp only [cond_true]
        by_cases hk : k = j
        · subst hk; simp [look]
        · simp only [look, hjk hk, cond_false]; rw [if_neg hk]
      | false =>
        simp only [cond_false, look]
        cases h3 : Nat.beq a k with
        | true =>
          have := Nat.eq_of_beq_eq_true h3
          subst this
          simp only [cond_true]
          rw [if_neg]
          rintro rfl
          simp at h2
        | false =>
          simp only [cond_false]
          exact look_ins h.2

theorem sorted_ins : ∀ {o : List (Nat × Nat)} {i j n : Nat}, sorted i o = true → i ≤ j → sorted i (ins o j n) = true
  | [], i, j, n, _, hj => by simp [ins, sorted, hj]
  | (a, v) :: o, i, j, n, h, hj => by
    simp only [sorted, Bool.and_eq_true, Nat.ble_eq] at h
    simp only [ins]
    cases h1 : Nat.blt j a with
    | true =>
      have : j < a := by simpa [Nat.blt_eq] using h1
      simp only [cond_true, sorted, Bool.and_eq_true, Nat.ble_eq]
      exact ⟨hj, by omega, h.2⟩
    | false =>
      have h1' : ¬ j < a := by intro hc; rw [← Nat.blt_eq] at hc; rw [hc] at h1; cases h1
      simp only [cond_false]
      cases h2 : Nat.beq j a with
      | true =>
        have := Nat.eq_of_beq_eq_true h2
        subst this
        simp only [cond_true, sorted, Bool.and_eq_true, Nat.ble_eq]
        exact h
      | false =>
        have h2' : j ≠ a := by rintro rfl; simp at h2
        simp only [cond_false, sorted, Bool.and_eq_true, Nat.ble_eq]
        exact ⟨h.1, sorted_ins h.2 (by omega)⟩

theorem exp_splice {n off m : Nat} {o : List (Nat × Nat)} (hs : sorted 0 o = true) (h : off < n) : splice (exp 0 n o) off [.int .u64 (.ofNat m)] = exp 0 n (ins o off m) := by
  apply List.ext_getElem?
  intro j
  have hl : (splice (exp 0 n o) off [.int .u64 (.ofNat m)]).length = n := by simp [splice, exp_length]; omega
  by_cases hj : j < n
  · rw [exp_get (sorted_ins hs (Nat.zero_le _)) hj, Nat.zero_add, look_ins hs]
    unfold splice
    by_cases h1 : j < off
    · rw [List.append_assoc, List.getElem?_append_left (by simp [exp_length]; omega), List.getElem?_take_of_lt h1, exp_get hs hj, if_neg (by omega), Nat.zero_add]
    · by_cases h2 : j = off
      · subst h2
        rw [List.append_assoc, List.getElem?_append_right (by simp [exp_length]; omega)]
        simp [exp_length]
        rw [Nat.min_eq_left (by omega)]
        simp
      · rw [List.getElem?_append_right (by simp [exp_length]; omega), List.getElem?_drop]
        simp only [List.length_append, List.length_take, exp_length, List.length_cons, List.length_nil]
        rw [show off + (0 + 1) + (j - (min off n + (0 + 1))) = j by omega, exp_get hs hj, if_neg h2, Nat.zero_add]
  · rw [List.getElem?_eq_none (by rw [hl]; omega), List.getElem?_eq_none (by rw [exp_length]; omega)]

/-- So many zeros. -/
def zeros : Nat → List AVal → Bool
  | 0, [] => true
  | n + 1, .int .u64 (.ofNat m) :: l => Nat.beq m 0 && zeros n l
  | _, _ => false

theorem zeros_exp : ∀ {n i : Nat} {l : List AVal}, zeros n l = true → l = exp i n []
  | 0, i, [], _ => by simp [exp]
  | 0, i, _ :: _, h => by simp [zeros] at h
  | n + 1, i, [], h => by simp [zeros] at h
  | n + 1, i, a :: l, h => by
    unfold zeros at h
    split at h
    · rename_i e _; cases e
    · rename_i n' m l' e1 e2
      cases e1; cases e2
      simp only [Bool.and_eq_true, Nat.beq_eq] at h
      rw [h.1]
      simp only [exp]
      rw [← zeros_exp (i := i + 1) h.2]
    · cases h

end Go.Am
