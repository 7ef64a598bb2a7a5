/- EngineTicks: the tied card. -/
import Derived.Test.YteinffefhcpcmaaGreatDoorVtTicksRow
import Derived.Test.YteinffefhcpcmaaGreatDoorVtFacts2
namespace Go.Proofs.YteinffefhcpcmaaGreatDoor
open Go Go.Am.Tab Go.Proofs
set_option maxRecDepth 100000

theorem engineTicks_holds : Rows.EngineTicksCardSaid :=
  Claim7.holds_tied_plain_at .later [] [.data, .data, .data] true (true, "0685e34ccfbcbdb13464fd707e35b2183517f58c43d9d55e5ca232cbf6be016a") true
    ticks_row (fun _ h => by cases h) fWf (fun _ h => by cases h) engineTicks_row_tie rfl ⟨rfl, rfl⟩ fMain rfl
    (fun f fn hf hfn => by
      obtain rfl : f = 4 := Option.some.inj (fFunc.symm.trans hf) |>.symm
      obtain rfl : fn = Tryz.f4 := (Option.some.inj (Tryz.func4.symm.trans hfn)).symm
      exact ⟨fLooks, fun j t ht => by
        rw [Tryz.params4] at ht
        have h3 : t = 22 := by
          rcases j with _ | j
          · simpa using ht.symm
          · simp at ht
        subst h3
        exact fStand⟩)
    fGoes
#print axioms engineTicks_holds
end Go.Proofs.YteinffefhcpcmaaGreatDoor
