/- Runs of the program in a name space of their own. -/
import Derived.Test.YteinffefhcpcmaaGreatDoorVtRun
import Derived.Test.YteinffefhcpcmaaGreatDoorAmE
set_option linter.unusedVariables false
set_option linter.unusedSimpArgs false
set_option linter.unusedSectionVars false
namespace Go.Am.Tab
open Go.Am Go.Proofs

/-- The name spaces 0 and c change places. -/
def sw (c : Int) (k : Key) : Key := if k.1 = 0 then (c, k.2) else if k.1 = c then (0, k.2) else k

theorem sw_sw (c : Int) (k : Key) : sw c (sw c k) = k := by
  obtain ⟨a, i⟩ := k
  unfold sw
  by_cases h : a = 0
  · subst h
    by_cases hc : c = 0
    · subst hc; simp
    · simp [hc]
  · by_cases h2 : a = c
    · subst h2; simp [h]
    · simp [h, h2]

theorem run_ns {f : FuncId} {args : List AVal} {lf fuel : Nat} {outs : List (AVal × Hp × Nat)} (hx : xcall tab prim lf fuel f args .leaf 0 = some outs) (hargs : ∀ ρ, renL ρ args = args) (c : Int) {st : Store}
    (hf : ∀ i, st (c, i) = slot0) : ACalls Tryz.prog f args st (endK (fun v st' => (∃ o ∈ outs, v = o.1.ren (sw c)) ∧ ∀ k : Key, k.1 ≠ c → st' k = st k) (fun _ _ => False)) := by
  have hagr : Agr .leaf 0 (st.ren (sw c)) := ⟨fun i s e => by simp [T.get] at e, fun i s e => by simp [T.get] at e, fun i _ => by
    simp only [Store.ren, sw, if_true, hf]
    rfl⟩
  have h1 := ((runOK lf fuel) f args .leaf 0 _ hx _ hagr).1
  have h2 := ACalls.ren (sw_sw c) h1
  rw [hargs, Store.ren_ren (sw_sw c)] at h2
  refine h2.mono fun e st' he => ?_
  obtain ⟨e0, s0, h3, rfl, rfl⟩ := he
  cases e0 with
  | panic v => exact h3.elim
  | ret v =>
    obtain ⟨o, ho, rfl, hs⟩ := h3
    refine ⟨⟨o, ho, rfl⟩, fun k hk => ?_⟩
    have hne : (sw c k).1 ≠ 0 := by
      unfold sw
      by_cases h0 : k.1 = 0
      · rw [if_pos h0]; intro e; apply hk; rw [h0]; exact e.symm
      · rw [if_neg h0, if_neg hk]; exact h0
    have h4 := hs.fx (sw c k) (fun e => absurd e hne)
    simp only [Store.ren] at h4 ⊢
    rw [h4, sw_sw, Slot.ren_ren (sw_sw c)]

end Go.Am.Tab
