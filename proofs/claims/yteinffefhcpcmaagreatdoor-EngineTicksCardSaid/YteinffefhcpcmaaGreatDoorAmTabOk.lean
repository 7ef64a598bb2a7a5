/- The table of the functions' code. -/
import Derived.Test.YteinffefhcpcmaaGreatDoorAmExecSound2
namespace Go.Am

def FnOK (P : Program) (f : Nat) (af : AFunc) : Prop := ∃ fn, P.funcs[f]? = some fn ∧ cFunc P fn = some af ∧ fn.body.isSome = true ∧ fn.name ≠ "runtime.NumGoroutine"

def T.AllV {α : Type} (p : Nat → α → Prop) (c : Nat) : Option α → Prop
  | none => True
  | some x => p c x

def T.All {α : Type} (p : Nat → α → Prop) : Nat → Nat → T α → Prop
  | _, _, .leaf => True
  | a, c, .node v l r => T.AllV p c v ∧ T.All p (2 * a) (a + c) l ∧ T.All p (2 * a) (2 * a + c) r

theorem T.All.get {α : Type} {p : Nat → α → Prop} : ∀ {t : T α} {a c : Nat}, T.All p a c t → ∀ {j : Nat} {x : α}, t.get j = some x → p (a * j + c) x
  | .leaf, _, _, _, j, x, e => by simp [T.get] at e
  | .node v l r, a, c, h, j, x, e => by
    obtain ⟨h1, h2, h3⟩ := h
    simp only [T.get] at e
    cases hj : Nat.beq j 0 with
    | true =>
      rw [hj] at e
      simp only [cond_true] at e
      subst e
      have := Nat.eq_of_beq_eq_true hj
      subst this
      simpa [T.AllV] using h1
    | false =>
      have hj0 : j ≠ 0 := by intro e; subst e; simp at hj
      rw [hj] at e
      simp only [cond_false] at e
      cases hp : Nat.beq ((j - 1) % 2) 0 with
      | true =>
        rw [hp] at e
        have hp' := Nat.eq_of_beq_eq_true hp
        have := T.All.get h2 e
        obtain ⟨q, rfl⟩ : ∃ q, j = 2 * q + 1 := ⟨(j - 1) / 2, by omega⟩
        rw [show (2 * q + 1 - 1) / 2 = q by omega] at this
        rw [Nat.mul_add, Nat.mul_one]
        rw [Nat.mul_comm 2 a, Nat.mul_assoc] at this
        rwa [Nat.add_assoc]
      | false =>
        rw [hp] at e
        have hp' : (j - 1) % 2 ≠ 0 := by intro e; rw [e] at hp; simp at hp
        have := T.All.get h3 e
        obtain ⟨q, rfl⟩ : ∃ q, j = 2 * q + 2 := ⟨(j - 2) / 2, by omega⟩
        rw [show (2 * q + 2 - 1) / 2 = q by omega] at this
        rw [Nat.mul_add, Nat.mul_comm a 2]
        rw [Nat.mul_assoc, Nat.mul_left_comm 2 a q, ← Nat.mul_assoc] at this
        have e1 : a * 2 * q = a * (2 * q) := Nat.mul_assoc ..
        rw [e1] at this
        rwa [Nat.add_assoc]

theorem TabOK.of {P : Program} {tab : T AFunc} (h : T.All (FnOK P) 1 0 tab) : TabOK P tab := fun f af e => by
  have := T.All.get h e
  rw [Nat.one_mul, Nat.add_zero] at this
  exact this

end Go.Am
