/- Closed facts of the program. -/
import Derived.Test.YteinffefhcpcmaaGreatDoorVtRow1
import Derived.Test.YteinffefhcpcmaaGreatDoorCards
namespace Go.Am.Tab
open Go.Am Go.Proofs Go.RowKit
open Go.Proofs.YteinffefhcpcmaaGreatDoor
set_option maxRecDepth 100000
theorem fLaidOut : laidOutB Tryz.prog = true := by kernel_rfl
theorem fMapsRowed : mapsRowed Tryz.prog = true := by kernel_rfl
theorem fHeard : Tryz.prog.stopsHeard = true := by kernel_rfl
theorem fEnter : Tryz.prog.mayEnter = true := by kernel_rfl
theorem fStops : (Tryz.prog.stops == []) = true := by kernel_rfl
theorem fKnobs : (Tryz.prog.stopKnobs == []) = true := by kernel_rfl
theorem fInPlace : (Rows.engineTicksRow.inPlace == Tryz.prog.inPlace 4) = true := by kernel_rfl
theorem fUnfollowed : (Rows.engineTicksRow.unfollowed == Tryz.prog.unfollowed 4) = true := by kernel_rfl
theorem fRecurses : (Rows.engineTicksRow.recurses == Tryz.prog.recurses 4) = true := by kernel_rfl
theorem fNamed : (Rows.engineTicksRow.named == Tryz.prog.varsNamed 4) = true := by kernel_rfl
theorem fFunc : Tryz.prog.funcNamed Rows.engineTicksRow.func = some 4 := by kernel_rfl
theorem fKeys : (Rows.engineTicksRow.plainKeys == Tryz.prog.plainKeys) = true := by kernel_rfl
theorem fLifts : (Rows.engineTicksRow.lifted == Tryz.prog.liftsFinal) = true := by kernel_rfl
theorem fMake : (Tryz.prog.make == some Rows.engineTicksRow.make) = true := by kernel_rfl
theorem fTie : namedTie Tryz.prog Rows.engineTicksRow.named Rows.engineTicksSpec.vars = true := by kernel_rfl
end Go.Am.Tab
