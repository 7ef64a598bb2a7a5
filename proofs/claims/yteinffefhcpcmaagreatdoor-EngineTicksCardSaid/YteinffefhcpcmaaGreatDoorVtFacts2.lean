/- Closed facts of the program, for the cards. -/
import Derived.Test.YteinffefhcpcmaaGreatDoorVtRow1
import Derived.Test.YteinffefhcpcmaaGreatDoorCards
import Derived.SevenTiedAt
namespace Go.Am.Tab
open Go.Am Go.Proofs Go.RowKit
open Go.Proofs.YteinffefhcpcmaaGreatDoor
set_option maxRecDepth 100000
theorem fMain : Tryz.pinned.checked.prog.mainIs = some ((true, "0685e34ccfbcbdb13464fd707e35b2183517f58c43d9d55e5ca232cbf6be016a").1, (true, "0685e34ccfbcbdb13464fd707e35b2183517f58c43d9d55e5ca232cbf6be016a").2.toList) := by kernel_rfl
theorem fLooks : true = Tryz.pinned.checked.prog.looks [] := by kernel_rfl
theorem fWf : Rows.engineTicksRow.wfByText (OpenSpec.ofChange Rows.engineTicksSpec) = true := by kernel_rfl
theorem fStand : Tryz.prog.wantsStandIn 22 = false := by kernel_rfl
theorem fGoes : false = Rows.engineTicksRow.goesBy Tryz.pinned.checked.prog := by kernel_rfl
end Go.Am.Tab
