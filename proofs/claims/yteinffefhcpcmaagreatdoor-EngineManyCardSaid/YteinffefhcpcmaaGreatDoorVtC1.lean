/- The functions' code is what the program has: written by a program of this session. -/
import Derived.Test.YteinffefhcpcmaaGreatDoorVtT1
import Derived.Test.YteinffefhcpcmaaGreatDoorProg
import Derived.KernelRfl
set_option linter.unusedVariables false
set_option linter.unusedSimpArgs false
set_option linter.unusedSectionVars false
namespace Go.Am.Tab
open Go.Am Go.Proofs
set_option maxRecDepth 100000
theorem c41 : cFunc Tryz.prog Tryz.f41 = some a41 := by kernel_rfl
theorem c42 : cFunc Tryz.prog Tryz.f42 = some a42 := by kernel_rfl
theorem c43 : cFunc Tryz.prog Tryz.f43 = some a43 := by kernel_rfl
theorem c44 : cFunc Tryz.prog Tryz.f44 = some a44 := by kernel_rfl
theorem c45 : cFunc Tryz.prog Tryz.f45 = some a45 := by kernel_rfl
theorem c46 : cFunc Tryz.prog Tryz.f46 = some a46 := by kernel_rfl
theorem c47 : cFunc Tryz.prog Tryz.f47 = some a47 := by kernel_rfl
theorem c48 : cFunc Tryz.prog Tryz.f48 = some a48 := by kernel_rfl
theorem c49 : cFunc Tryz.prog Tryz.f49 = some a49 := by kernel_rfl
theorem c51 : cFunc Tryz.prog Tryz.f51 = some a51 := by kernel_rfl
theorem c52 : cFunc Tryz.prog Tryz.f52 = some a52 := by kernel_rfl
theorem c53 : cFunc Tryz.prog Tryz.f53 = some a53 := by kernel_rfl
theorem c54 : cFunc Tryz.prog Tryz.f54 = some a54 := by kernel_rfl
theorem c55 : cFunc Tryz.prog Tryz.f55 = some a55 := by kernel_rfl
theorem c56 : cFunc Tryz.prog Tryz.f56 = some a56 := by kernel_rfl
theorem c57 : cFunc Tryz.prog Tryz.f57 = some a57 := by kernel_rfl
theorem c58 : cFunc Tryz.prog Tryz.f58 = some a58 := by kernel_rfl
theorem c59 : cFunc Tryz.prog Tryz.f59 = some a59 := by kernel_rfl
theorem c60 : cFunc Tryz.prog Tryz.f60 = some a60 := by kernel_rfl
theorem c61 : cFunc Tryz.prog Tryz.f61 = some a61 := by kernel_rfl
theorem c62 : cFunc Tryz.prog Tryz.f62 = some a62 := by kernel_rfl
theorem c64 : cFunc Tryz.prog Tryz.f64 = some a64 := by kernel_rfl
theorem c73 : cFunc Tryz.prog Tryz.f73 = some a73 := by kernel_rfl
theorem c74 : cFunc Tryz.prog Tryz.f74 = some a74 := by kernel_rfl
theorem c75 : cFunc Tryz.prog Tryz.f75 = some a75 := by kernel_rfl
theorem c76 : cFunc Tryz.prog Tryz.f76 = some a76 := by kernel_rfl
theorem c77 : cFunc Tryz.prog Tryz.f77 = some a77 := by kernel_rfl
theorem c78 : cFunc Tryz.prog Tryz.f78 = some a78 := by kernel_rfl
theorem c79 : cFunc Tryz.prog Tryz.f79 = some a79 := by kernel_rfl
theorem c80 : cFunc Tryz.prog Tryz.f80 = some a80 := by kernel_rfl
theorem c81 : cFunc Tryz.prog Tryz.f81 = some a81 := by kernel_rfl
theorem c82 : cFunc Tryz.prog Tryz.f82 = some a82 := by kernel_rfl
theorem c83 : cFunc Tryz.prog Tryz.f83 = some a83 := by kernel_rfl
theorem c84 : cFunc Tryz.prog Tryz.f84 = some a84 := by kernel_rfl
theorem c85 : cFunc Tryz.prog Tryz.f85 = some a85 := by kernel_rfl
theorem c87 : cFunc Tryz.prog Tryz.f87 = some a87 := by kernel_rfl
theorem c88 : cFunc Tryz.prog Tryz.f88 = some a88 := by kernel_rfl
theorem c90 : cFunc Tryz.prog Tryz.f90 = some a90 := by kernel_rfl
theorem c91 : cFunc Tryz.prog Tryz.f91 = some a91 := by kernel_rfl
end Go.Am.Tab
