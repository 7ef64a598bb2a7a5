/- The abstract machine, run: calls that are not run step by step. -/
import Derived.Test.YteinffefhcpcmaaGreatDoorAmExec
namespace Go.Am

/-- A function with one deferred call of a closure: the region ahead, the closure's making, the rest; then the closure. -/
def xdefer (lf n : Nat) (l0 : List ROp) (r1 : ROp) (d : Nat) (rest : ACode) (res : List ARes) (fd : Nat) (afd : AFunc) (call : CallF) (args : List AVal) (h : Hp) (b : Nat) : Option (List (AVal × Hp × Nat)) :=
  cond (Nat.ble args.length n) (match xreg call b n l0 (argRF 0 args .leaf) h (b + n) with
    | none => none
    | some outs => bindL (fun (rf, h1, b1) => match xop call b1 n r1 rf h1 (b1 + n) with
      | none => none
      | some outs1 => bindL (fun (v, h2, b2) => match v with
        | .fn (.func g) first cap => cond (Nat.beq g fd && Nat.ble (first ++ cap).length afd.n) (match xcode call lf n rest (rf.set r1.dst v) h2 b2 with
          | none => none
          | some outs2 => bindL (fun (e, rf3, h3, b3) => match e with
            | .exit _ => none
            | _ => match xcode call lf afd.n afd.code (argRF 0 (first ++ cap) .leaf) h3 b3 with
              | none => none
              | some outs3 => match xrets afd.res outs3 with
                | none => none
                | some l3 => bindL (fun (_, h4, b4) => match xres h4 rf3 res with
                  | some v => some [(v, h4, b4)]
                  | none => none) l3) outs2) none
        | _ => none) outs1) outs) none

/-- The buckets in which something was seen. -/
def bkScan : List AVal → Nat → List AVal → Option (List AVal)
  | [], _, acc => some acc
  | .int .u64 (.ofNat n) :: l, i, acc => bkScan l (i + 1) (cond (Nat.beq n 0) acc (acc ++ [.agg [.int .i64 (.ofNat i), .int .u64 (.ofNat n)]]))
  | _, _, _ => none

/-- The same of an array of numbers that is told by those that are not zero. -/
def bkOf : List (Nat × Nat) → List AVal
  | [] => []
  | (k, n) :: o => cond (Nat.beq n 0) (bkOf o) (.agg [.int .i64 (.ofNat k), .int .u64 (.ofNat n)] :: bkOf o)

def under (b : Nat) : List (Nat × Nat) → Bool
  | [] => true
  | (k, _) :: o => Nat.blt k b && under b o

theorem bkScan_exp : ∀ {c i : Nat} {o : List (Nat × Nat)} {acc : List AVal}, sorted i o = true → under (i + c) o = true → bkScan (exp i c o) i acc = some (acc ++ bkOf o)
  | 0, i, [], acc, _, _ => by simp [exp, bkScan, bkOf]
  | 0, i, (k, n) :: o, acc, h, hu => by
    simp only [sorted, under, Bool.and_eq_true, Nat.ble_eq, Nat.blt_eq] at h hu
    omega
  | c + 1, i, [], acc, _, _ => by
    simp only [exp, bkScan, Nat.beq_refl, cond_true]
    exact bkScan_exp rfl rfl
  | c + 1, i, (k, n) :: o, acc, h, hu => by
    simp only [sorted, under, Bool.and_eq_true, Nat.ble_eq, Nat.blt_eq] at h hu
    simp only [exp]
    by_cases hk : k = i
    · subst hk
      rw [if_pos rfl]
      simp only [bkScan, bkOf]
      rw [bkScan_exp h.2 (by rw [show k + 1 + c = k + (c + 1) by omega]; exact hu.2)]
      cases Nat.beq n 0 <;> simp
    · rw [if_neg hk]
      simp only [bkScan, Nat.beq_refl, cond_true]
      refine bkScan_exp (i := i + 1) (o := (k, n) :: o) ?_ ?_
      · simp only [sorted, Bool.and_eq_true, Nat.ble_eq]; exact ⟨by omega, h.2⟩
      · simp only [under, Bool.and_eq_true, Nat.blt_eq]; exact ⟨by omega, by rw [show i + 1 + c = i + (c + 1) by omega]; exact hu.2⟩

def xbuckets (args : List AVal) (h : Hp) (b : Nat) : Option (List (AVal × Hp × Nat)) :=
  match args with
  | [.ref k v 0] => match arrAt h k v with
    | some (n, over) => cond (Nat.beq n 7424 && sorted 0 over && under 7424 over) (match bkOf over with
      | [] => some [(.list .full 2 [], h, b)]
      | acc => some [(.list (.tk (0, b) acc.length) 2 acc, h.put b ⟨acc.length, some (.o (.tail acc.length))⟩, b + 1)]) none
    | _ => none
  | _ => none

/-- Numbers summed up, not above the greatest one. -/
def sumScan : List AVal → Nat → Option Nat
  | [], acc => some acc
  | .int .u64 (.ofNat n) :: l, acc => sumScan l (cond (Nat.beq n 0) acc (min (acc + n) 18446744073709551615))
  | _, _ => none

def sumUp (b : Nat) : List (Nat × Nat) → Nat → Nat
  | [], acc => acc
  | (k, n) :: o, acc => cond (Nat.blt k b) (sumUp b o (cond (Nat.beq n 0) acc (min (acc + n) 18446744073709551615))) acc

theorem sumScan_exp : ∀ {c i : Nat} {o : List (Nat × Nat)} {acc : Nat}, sorted i o = true → sumScan (exp i c o) acc = some (sumUp (i + c) o acc)
  | 0, i, [], acc, _ => by simp [exp, sumScan, sumUp]
  | 0, i, (k, n) :: o, acc, h => by
    simp only [sorted, Bool.and_eq_true, Nat.ble_eq] at h
    have : Nat.blt k (i + 0) = false := by
      cases hb : Nat.blt k (i + 0) with
      | false => rfl
      | true => rw [Nat.blt_eq] at hb; omega
    simp only [exp, sumScan, sumUp, this, cond_false]
  | c + 1, i, [], acc, _ => by
    simp only [exp, sumScan, Nat.beq_refl, cond_true]
    rw [sumScan_exp rfl]
    rfl
  | c + 1, i, (k, n) :: o, acc, h => by
    simp only [sorted, Bool.and_eq_true, Nat.ble_eq] at h
    simp only [exp]
    by_cases hk : k = i
    · subst hk
      rw [if_pos rfl]
      have : Nat.blt k (k + (c + 1)) = true := by rw [Nat.blt_eq]; omega
      simp only [sumScan, sumUp, this, cond_true]
      rw [sumScan_exp h.2, show k + 1 + c = k + (c + 1) by omega]
    · rw [if_neg hk]
      simp only [sumScan, Nat.beq_refl, cond_true]
      rw [sumScan_exp (i := i + 1) (o := (k, n) :: o) (by simp only [sorted, Bool.and_eq_true, Nat.ble_eq]; exact ⟨by omega, h.2⟩), show i + 1 + c = i + (c + 1) by omega]

def xupto (args : List AVal) (h : Hp) (b : Nat) : Option (List (AVal × Hp × Nat)) :=
  match args with
  | [.ref k v 0, .int .i64 (.ofNat i)] => match arrAt h k v with
    | some (n, over) => cond (Nat.beq n 7424 && sorted 0 over && Nat.blt i 7424) (some [(.int .u64 (.ofNat (sumUp (i + 1) over 0)), h, b)]) none
    | _ => none
  | _ => none

def strsOf : List AVal → Option (List (List UInt8))
  | [] => some []
  | .str s :: l => (strsOf l).map (s :: ·)
  | _ => none

def joinS (sep : List UInt8) (l : List (List UInt8)) : List UInt8 := sep.intercalate l

def xjoin (args : List AVal) (h : Hp) (b : Nat) : Option (List (AVal × Hp × Nat)) :=
  match args with
  | [.list _ 1 l, .str sep] => match strsOf l with
    | some ss => cond (Nat.ble (joinS sep ss).length 140737488355328 && Nat.ble 1 ss.length && Nat.ble ss.length 140737488355328) (some [(.str (joinS sep ss), h, b)]) none
    | none => none
  | _ => none

end Go.Am
