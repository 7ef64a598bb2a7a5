/- The functions' code is what the program has: written by a program of this session. -/
import Derived.Test.YteinffefhcpcmaaGreatDoorVtT0
import Derived.Test.YteinffefhcpcmaaGreatDoorProg
import Derived.KernelRfl
set_option linter.unusedVariables false
set_option linter.unusedSimpArgs false
set_option linter.unusedSectionVars false
namespace Go.Am.Tab
open Go.Am Go.Proofs
set_option maxRecDepth 100000
theorem c3 : cFunc Tryz.prog Tryz.f3 = some a3 := by kernel_rfl
theorem c4 : cFunc Tryz.prog Tryz.f4 = some a4 := by kernel_rfl
theorem c6 : cFunc Tryz.prog Tryz.f6 = some a6 := by kernel_rfl
theorem c7 : cFunc Tryz.prog Tryz.f7 = some a7 := by kernel_rfl
theorem c8 : cFunc Tryz.prog Tryz.f8 = some a8 := by kernel_rfl
theorem c9 : cFunc Tryz.prog Tryz.f9 = some a9 := by kernel_rfl
theorem c10 : cFunc Tryz.prog Tryz.f10 = some a10 := by kernel_rfl
theorem c11 : cFunc Tryz.prog Tryz.f11 = some a11 := by kernel_rfl
theorem c12 : cFunc Tryz.prog Tryz.f12 = some a12 := by kernel_rfl
theorem c13 : cFunc Tryz.prog Tryz.f13 = some a13 := by kernel_rfl
theorem c14 : cFunc Tryz.prog Tryz.f14 = some a14 := by kernel_rfl
theorem c15 : cFunc Tryz.prog Tryz.f15 = some a15 := by kernel_rfl
theorem c16 : cFunc Tryz.prog Tryz.f16 = some a16 := by kernel_rfl
theorem c19 : cFunc Tryz.prog Tryz.f19 = some a19 := by kernel_rfl
theorem c22 : cFunc Tryz.prog Tryz.f22 = some a22 := by kernel_rfl
theorem c23 : cFunc Tryz.prog Tryz.f23 = some a23 := by kernel_rfl
theorem c24 : cFunc Tryz.prog Tryz.f24 = some a24 := by kernel_rfl
theorem c25 : cFunc Tryz.prog Tryz.f25 = some a25 := by kernel_rfl
theorem c26 : cFunc Tryz.prog Tryz.f26 = some a26 := by kernel_rfl
theorem c27 : cFunc Tryz.prog Tryz.f27 = some a27 := by kernel_rfl
theorem c28 : cFunc Tryz.prog Tryz.f28 = some a28 := by kernel_rfl
theorem c29 : cFunc Tryz.prog Tryz.f29 = some a29 := by kernel_rfl
theorem c30 : cFunc Tryz.prog Tryz.f30 = some a30 := by kernel_rfl
theorem c31 : cFunc Tryz.prog Tryz.f31 = some a31 := by kernel_rfl
theorem c32 : cFunc Tryz.prog Tryz.f32 = some a32 := by kernel_rfl
theorem c34 : cFunc Tryz.prog Tryz.f34 = some a34 := by kernel_rfl
theorem c36 : cFunc Tryz.prog Tryz.f36 = some a36 := by kernel_rfl
theorem c37 : cFunc Tryz.prog Tryz.f37 = some a37 := by kernel_rfl
theorem c38 : cFunc Tryz.prog Tryz.f38 = some a38 := by kernel_rfl
theorem c39 : cFunc Tryz.prog Tryz.f39 = some a39 := by kernel_rfl
end Go.Am.Tab
