/- EngineTicks: the row and the card. -/
import Derived.Test.YteinffefhcpcmaaGreatDoorVtRowTicks
import Derived.Test.YteinffefhcpcmaaGreatDoorVtFacts
namespace Go.Am.Tab
open Go.Am Go.Proofs Go.ChangeShapes Go.WideShapes Go.ChangeAt Go.RowKit
open Go.Proofs.YteinffefhcpcmaaGreatDoor
set_option maxRecDepth 100000

theorem jfTicks : joinedFacts Tryz.prog 4 Tryz.f4 Rows.engineTicksSpec Rows.engineTicksRow = true := by
  unfold joinedFacts
  rw [fLaidOut, fMapsRowed, fHeard, fEnter, fStops, fKnobs, fInPlace, fUnfollowed, fRecurses, fNamed, fKeys, fLifts, fMake, fTie]
  kernel_rfl

theorem ticks_row : Rows.EngineTicksSaid :=
  OpenClaim.holds_of_wide 4 Tryz.f4 rfl rfl rfl rfl rfl rfl rfl ⟨rfl, rfl, rfl, rfl, rfl⟩ rfl rfl rfl rfl rfl fFunc Tryz.func4 jfTicks
    (of_decide_eq_true (by kernel_rfl)) (by unfold Func.isWrapper; first | (rw [if_pos (by decide +kernel)]; kernel_rfl) | (rw [if_neg (by decide +kernel)]; exact ⟨rfl, rfl⟩))
    (fun os started H enc _ => lifted os started H enc)

end Go.Am.Tab
