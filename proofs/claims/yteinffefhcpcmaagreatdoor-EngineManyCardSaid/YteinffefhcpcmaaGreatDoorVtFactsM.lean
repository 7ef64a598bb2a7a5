/- Closed facts of the program, for EngineMany. -/
import Derived.Test.YteinffefhcpcmaaGreatDoorVtRow1
import Derived.Test.YteinffefhcpcmaaGreatDoorCards
import Derived.SevenTiedAt
set_option linter.unusedVariables false
set_option linter.unusedSimpArgs false
set_option linter.unusedSectionVars false
namespace Go.Am.Tab
open Go.Am Go.Proofs Go.RowKit
open Go.Proofs.YteinffefhcpcmaaGreatDoor
set_option maxRecDepth 100000
theorem mInPlace : (Rows.engineManyRow.inPlace == Tryz.prog.inPlace 3) = true := by kernel_rfl
theorem mUnfollowed : (Rows.engineManyRow.unfollowed == Tryz.prog.unfollowed 3) = true := by kernel_rfl
theorem mRecurses : (Rows.engineManyRow.recurses == Tryz.prog.recurses 3) = true := by kernel_rfl
theorem mNamed : (Rows.engineManyRow.named == Tryz.prog.varsNamed 3) = true := by kernel_rfl
theorem mFunc : Tryz.prog.funcNamed Rows.engineManyRow.func = some 3 := by kernel_rfl
theorem mKeys : (Rows.engineManyRow.plainKeys == Tryz.prog.plainKeys) = true := by kernel_rfl
theorem mLifts : (Rows.engineManyRow.lifted == Tryz.prog.liftsFinal) = true := by kernel_rfl
theorem mMake : (Tryz.prog.make == some Rows.engineManyRow.make) = true := by kernel_rfl
theorem mTie : namedTie Tryz.prog Rows.engineManyRow.named Rows.engineManySpec.vars = true := by kernel_rfl
theorem mWf : Rows.engineManyRow.wfByText (OpenSpec.ofChange Rows.engineManySpec) = true := by kernel_rfl
theorem mGoes : false = Rows.engineManyRow.goesBy Tryz.pinned.checked.prog := by kernel_rfl
end Go.Am.Tab
