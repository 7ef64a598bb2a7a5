/- Proved: the card of EngineMany: whatever the list of numbers (nil too), the law returns true, and the list reads behind the call as it read before; three tables of the library's are as the program's text lays them (the given tie); no other condition. -/
import Derived.Test.YteinffefhcpcmaaGreatDoorVtManyRow
import Derived.Test.YteinffefhcpcmaaGreatDoorVtFacts0
import Derived.Test.YteinffefhcpcmaaGreatDoorVtFactsM
set_option linter.unusedVariables false
set_option linter.unusedSimpArgs false
set_option linter.unusedSectionVars false
namespace Go.Proofs.YteinffefhcpcmaaGreatDoor
open Go Go.Am.Tab Go.Proofs Go.RowKit
set_option maxRecDepth 100000

theorem jfMany : joinedFacts Tryz.prog 3 Tryz.f3 Rows.engineManySpec Rows.engineManyRow = true := by
  unfold joinedFacts
  rw [fLaidOut, fMapsRowed, fHeard, fEnter, fStops, fKnobs, mInPlace, mUnfollowed, mRecurses, mNamed, mKeys, mLifts, mMake, mTie]
  kernel_rfl

theorem many_row : Rows.EngineManySaid :=
  OpenClaim.holds_of_wide 3 Tryz.f3 rfl rfl rfl rfl rfl rfl rfl ⟨rfl, rfl, rfl, rfl, rfl⟩ rfl rfl rfl rfl rfl mFunc Tryz.func3 jfMany
    (of_decide_eq_true (by kernel_rfl)) (by unfold Func.isWrapper; first | (rw [if_pos (by decide +kernel)]; kernel_rfl) | (rw [if_neg (by decide +kernel)]; exact ⟨rfl, rfl⟩))
    (fun os started H enc _ => liftedMany os started H enc)

theorem engineMany_holds : Rows.EngineManyCardSaid :=
  Claim7.holds_tied_plain_at .later [] [.data, .data, .data] true (true, "0685e34ccfbcbdb13464fd707e35b2183517f58c43d9d55e5ca232cbf6be016a") true
    many_row (fun _ h => by cases h) mWf (fun _ h => by cases h) engineMany_row_tie rfl ⟨rfl, rfl⟩ fMain rfl
    (fun f fn hf hfn => by
      obtain rfl : f = 3 := Option.some.inj (mFunc.symm.trans hf) |>.symm
      obtain rfl : fn = Tryz.f3 := (Option.some.inj (Tryz.func3.symm.trans hfn)).symm
      exact ⟨fLooks, fun j t ht => by
        rw [Tryz.params3] at ht
        have h3 : t = 22 := by
          rcases j with _ | j
          · simpa using ht.symm
          · simp at ht
        subst h3
        exact fStand⟩)
    mGoes
#print axioms engineMany_holds
end Go.Proofs.YteinffefhcpcmaaGreatDoor
