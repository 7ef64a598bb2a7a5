/- Closed facts of the program, for all laws. -/
import Derived.Test.YteinffefhcpcmaaGreatDoorVtRow1
import Derived.Test.YteinffefhcpcmaaGreatDoorCards
import Derived.SevenTiedAt
set_option linter.unusedVariables false
set_option linter.unusedSimpArgs false
set_option linter.unusedSectionVars false
namespace Go.Am.Tab
open Go.Am Go.Proofs Go.RowKit
open Go.Proofs.YteinffefhcpcmaaGreatDoor
set_option maxRecDepth 100000

theorem fLaidOut : laidOutB Tryz.prog = true := by kernel_rfl
theorem fMapsRowed : mapsRowed Tryz.prog = true := by kernel_rfl
theorem fHeard : Tryz.prog.stopsHeard = true := by kernel_rfl
theorem fEnter : Tryz.prog.mayEnter = true := by kernel_rfl
theorem fStops : (Tryz.prog.stops == []) = true := by kernel_rfl
theorem fKnobs : (Tryz.prog.stopKnobs == []) = true := by kernel_rfl
theorem fMain : Tryz.pinned.checked.prog.mainIs = some ((true, "0685e34ccfbcbdb13464fd707e35b2183517f58c43d9d55e5ca232cbf6be016a").1, (true, "0685e34ccfbcbdb13464fd707e35b2183517f58c43d9d55e5ca232cbf6be016a").2.toList) := by kernel_rfl
theorem fLooks : true = Tryz.pinned.checked.prog.looks [] := by kernel_rfl
theorem fStand : Tryz.prog.wantsStandIn 22 = false := by kernel_rfl
end Go.Am.Tab
