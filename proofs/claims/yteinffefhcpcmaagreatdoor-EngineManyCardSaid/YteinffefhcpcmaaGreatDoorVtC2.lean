/- The functions' code is what the program has: written by a program of this session. -/
import Derived.Test.YteinffefhcpcmaaGreatDoorVtT2
import Derived.Test.YteinffefhcpcmaaGreatDoorProg
import Derived.KernelRfl
set_option linter.unusedVariables false
set_option linter.unusedSimpArgs false
set_option linter.unusedSectionVars false
namespace Go.Am.Tab
open Go.Am Go.Proofs
set_option maxRecDepth 100000
theorem c92 : cFunc Tryz.prog Tryz.f92 = some a92 := by kernel_rfl
theorem c93 : cFunc Tryz.prog Tryz.f93 = some a93 := by kernel_rfl
theorem c94 : cFunc Tryz.prog Tryz.f94 = some a94 := by kernel_rfl
theorem c95 : cFunc Tryz.prog Tryz.f95 = some a95 := by kernel_rfl
theorem c96 : cFunc Tryz.prog Tryz.f96 = some a96 := by kernel_rfl
theorem c97 : cFunc Tryz.prog Tryz.f97 = some a97 := by kernel_rfl
theorem c98 : cFunc Tryz.prog Tryz.f98 = some a98 := by kernel_rfl
theorem c99 : cFunc Tryz.prog Tryz.f99 = some a99 := by kernel_rfl
theorem c100 : cFunc Tryz.prog Tryz.f100 = some a100 := by kernel_rfl
theorem c102 : cFunc Tryz.prog Tryz.f102 = some a102 := by kernel_rfl
theorem c103 : cFunc Tryz.prog Tryz.f103 = some a103 := by kernel_rfl
theorem c104 : cFunc Tryz.prog Tryz.f104 = some a104 := by kernel_rfl
theorem c105 : cFunc Tryz.prog Tryz.f105 = some a105 := by kernel_rfl
theorem c106 : cFunc Tryz.prog Tryz.f106 = some a106 := by kernel_rfl
theorem c107 : cFunc Tryz.prog Tryz.f107 = some a107 := by kernel_rfl
theorem c108 : cFunc Tryz.prog Tryz.f108 = some a108 := by kernel_rfl
theorem c111 : cFunc Tryz.prog Tryz.f111 = some a111 := by kernel_rfl
theorem c112 : cFunc Tryz.prog Tryz.f112 = some a112 := by kernel_rfl
theorem c113 : cFunc Tryz.prog Tryz.f113 = some a113 := by kernel_rfl
theorem c114 : cFunc Tryz.prog Tryz.f114 = some a114 := by kernel_rfl
theorem c115 : cFunc Tryz.prog Tryz.f115 = some a115 := by kernel_rfl
theorem c116 : cFunc Tryz.prog Tryz.f116 = some a116 := by kernel_rfl
theorem c117 : cFunc Tryz.prog Tryz.f117 = some a117 := by kernel_rfl
theorem c120 : cFunc Tryz.prog Tryz.f120 = some a120 := by kernel_rfl
theorem c121 : cFunc Tryz.prog Tryz.f121 = some a121 := by kernel_rfl
theorem c122 : cFunc Tryz.prog Tryz.f122 = some a122 := by kernel_rfl
theorem c123 : cFunc Tryz.prog Tryz.f123 = some a123 := by kernel_rfl
theorem c124 : cFunc Tryz.prog Tryz.f124 = some a124 := by kernel_rfl
theorem c125 : cFunc Tryz.prog Tryz.f125 = some a125 := by kernel_rfl
theorem c126 : cFunc Tryz.prog Tryz.f126 = some a126 := by kernel_rfl
theorem c127 : cFunc Tryz.prog Tryz.f127 = some a127 := by kernel_rfl
theorem c128 : cFunc Tryz.prog Tryz.f128 = some a128 := by kernel_rfl
theorem c129 : cFunc Tryz.prog Tryz.f129 = some a129 := by kernel_rfl
theorem c133 : cFunc Tryz.prog Tryz.f133 = some a133 := by kernel_rfl
theorem c140 : cFunc Tryz.prog Tryz.f140 = some a140 := by kernel_rfl
theorem c144 : cFunc Tryz.prog Tryz.f144 = some a144 := by kernel_rfl
theorem c145 : cFunc Tryz.prog Tryz.f145 = some a145 := by kernel_rfl
theorem c146 : cFunc Tryz.prog Tryz.f146 = some a146 := by kernel_rfl
theorem c147 : cFunc Tryz.prog Tryz.f147 = some a147 := by kernel_rfl
theorem c148 : cFunc Tryz.prog Tryz.f148 = some a148 := by kernel_rfl
theorem c149 : cFunc Tryz.prog Tryz.f149 = some a149 := by kernel_rfl
theorem c150 : cFunc Tryz.prog Tryz.f150 = some a150 := by kernel_rfl
theorem c151 : cFunc Tryz.prog Tryz.f151 = some a151 := by kernel_rfl
theorem c152 : cFunc Tryz.prog Tryz.f152 = some a152 := by kernel_rfl
theorem c155 : cFunc Tryz.prog Tryz.f155 = some a155 := by kernel_rfl
theorem c158 : cFunc Tryz.prog Tryz.f158 = some a158 := by kernel_rfl
theorem c169 : cFunc Tryz.prog Tryz.f169 = some a169 := by kernel_rfl
theorem c170 : cFunc Tryz.prog Tryz.f170 = some a170 := by kernel_rfl
theorem c171 : cFunc Tryz.prog Tryz.f171 = some a171 := by kernel_rfl
theorem c172 : cFunc Tryz.prog Tryz.f172 = some a172 := by kernel_rfl
theorem c173 : cFunc Tryz.prog Tryz.f173 = some a173 := by kernel_rfl
theorem c174 : cFunc Tryz.prog Tryz.f174 = some a174 := by kernel_rfl
theorem c175 : cFunc Tryz.prog Tryz.f175 = some a175 := by kernel_rfl
theorem c177 : cFunc Tryz.prog Tryz.f177 = some a177 := by kernel_rfl
end Go.Am.Tab
