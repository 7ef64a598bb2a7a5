/- The runs of the program: what a run says is so. -/
import Derived.Test.YteinffefhcpcmaaGreatDoorVtOk
import Derived.Test.YteinffefhcpcmaaGreatDoorVtP
import Derived.Test.YteinffefhcpcmaaGreatDoorVtHist
import Derived.Test.YteinffefhcpcmaaGreatDoorVtJoin
set_option linter.unusedVariables false
set_option linter.unusedSimpArgs false
set_option linter.unusedSectionVars false
namespace Go.Am.Tab
open Go.Am Go.Proofs

set_option maxRecDepth 100000
theorem writes40 : OneDefer Tryz.prog 40 20 l40 r40 7 k40 e40 90 a90 :=
  ⟨⟨Tryz.f40, _, _, _, _, _, _, Tryz.f90, Tryz.func40, rfl, rfl, by kernel_rfl, by kernel_rfl, rfl, rfl, rfl, rfl, rfl, by kernel_rfl, by kernel_rfl, Tryz.func90, c90, rfl, by decide, by decide⟩⟩

theorem primOK : PrimOK Tryz.prog prim := by
  intro f p hp call hcall args h b outs hx st ha
  unfold prim at hp
  cases h1 : Nat.beq f 40 with
  | true =>
    rw [h1] at hp
    have := Nat.eq_of_beq_eq_true h1
    subst this
    cases hp
    exact defer_sound mixed hcall writes40 hx ha
  | false =>
    rw [h1] at hp
    simp only [cond_false] at hp
    cases h2 : Nat.beq f 61 with
    | true =>
      rw [h2] at hp
      have := Nat.eq_of_beq_eq_true h2
      subst this
      cases hp
      exact xbuckets_sound hx ha
    | false =>
      rw [h2] at hp
      simp only [cond_false] at hp
      cases h3 : Nat.beq f 186 with
      | true =>
        rw [h3] at hp
        have := Nat.eq_of_beq_eq_true h3
        subst this
        cases hp
        exact xupto_sound hx ha
      | false =>
        rw [h3] at hp
        simp only [cond_false] at hp
        cases h4 : Nat.beq f 191 with
        | true =>
          rw [h4] at hp
          have := Nat.eq_of_beq_eq_true h4
          subst this
          cases hp
          exact xjoin_sound hx ha
        | false => rw [h4] at hp; cases hp

theorem runOK (lf fuel : Nat) : CallOK Tryz.prog (xcall tab prim lf fuel) := xcall_sound mixed tabOK primOK fuel

end Go.Am.Tab
