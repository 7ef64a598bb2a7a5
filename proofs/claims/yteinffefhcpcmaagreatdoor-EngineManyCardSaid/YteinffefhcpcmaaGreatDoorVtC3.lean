/- The functions' code is what the program has: written by a program of this session. -/
import Derived.Test.YteinffefhcpcmaaGreatDoorVtT3
import Derived.Test.YteinffefhcpcmaaGreatDoorProg
import Derived.KernelRfl
set_option linter.unusedVariables false
set_option linter.unusedSimpArgs false
set_option linter.unusedSectionVars false
namespace Go.Am.Tab
open Go.Am Go.Proofs
set_option maxRecDepth 100000
theorem c178 : cFunc Tryz.prog Tryz.f178 = some a178 := by kernel_rfl
theorem c180 : cFunc Tryz.prog Tryz.f180 = some a180 := by kernel_rfl
theorem c181 : cFunc Tryz.prog Tryz.f181 = some a181 := by kernel_rfl
theorem c182 : cFunc Tryz.prog Tryz.f182 = some a182 := by kernel_rfl
theorem c185 : cFunc Tryz.prog Tryz.f185 = some a185 := by kernel_rfl
theorem c186 : cFunc Tryz.prog Tryz.f186 = some a186 := by kernel_rfl
theorem c190 : cFunc Tryz.prog Tryz.f190 = some a190 := by kernel_rfl
theorem c192 : cFunc Tryz.prog Tryz.f192 = some a192 := by kernel_rfl
theorem c195 : cFunc Tryz.prog Tryz.f195 = some a195 := by kernel_rfl
theorem c196 : cFunc Tryz.prog Tryz.f196 = some a196 := by kernel_rfl
theorem c198 : cFunc Tryz.prog Tryz.f198 = some a198 := by kernel_rfl
theorem c202 : cFunc Tryz.prog Tryz.f202 = some a202 := by kernel_rfl
theorem c212 : cFunc Tryz.prog Tryz.f212 = some a212 := by kernel_rfl
theorem c213 : cFunc Tryz.prog Tryz.f213 = some a213 := by kernel_rfl
theorem c214 : cFunc Tryz.prog Tryz.f214 = some a214 := by kernel_rfl
theorem c216 : cFunc Tryz.prog Tryz.f216 = some a216 := by kernel_rfl
theorem c217 : cFunc Tryz.prog Tryz.f217 = some a217 := by kernel_rfl
theorem c218 : cFunc Tryz.prog Tryz.f218 = some a218 := by kernel_rfl
theorem c229 : cFunc Tryz.prog Tryz.f229 = some a229 := by kernel_rfl
theorem c234 : cFunc Tryz.prog Tryz.f234 = some a234 := by kernel_rfl
theorem c235 : cFunc Tryz.prog Tryz.f235 = some a235 := by kernel_rfl
theorem c237 : cFunc Tryz.prog Tryz.f237 = some a237 := by kernel_rfl
theorem c246 : cFunc Tryz.prog Tryz.f246 = some a246 := by kernel_rfl
theorem c247 : cFunc Tryz.prog Tryz.f247 = some a247 := by kernel_rfl
theorem c248 : cFunc Tryz.prog Tryz.f248 = some a248 := by kernel_rfl
theorem c249 : cFunc Tryz.prog Tryz.f249 = some a249 := by kernel_rfl
theorem c250 : cFunc Tryz.prog Tryz.f250 = some a250 := by kernel_rfl
theorem c257 : cFunc Tryz.prog Tryz.f257 = some a257 := by kernel_rfl
theorem c268 : cFunc Tryz.prog Tryz.f268 = some a268 := by kernel_rfl
theorem c279 : cFunc Tryz.prog Tryz.f279 = some a279 := by kernel_rfl
theorem c280 : cFunc Tryz.prog Tryz.f280 = some a280 := by kernel_rfl
theorem c281 : cFunc Tryz.prog Tryz.f281 = some a281 := by kernel_rfl
theorem c282 : cFunc Tryz.prog Tryz.f282 = some a282 := by kernel_rfl
theorem c283 : cFunc Tryz.prog Tryz.f283 = some a283 := by kernel_rfl
theorem c285 : cFunc Tryz.prog Tryz.f285 = some a285 := by kernel_rfl
theorem c303 : cFunc Tryz.prog Tryz.f303 = some a303 := by kernel_rfl
theorem c304 : cFunc Tryz.prog Tryz.f304 = some a304 := by kernel_rfl
theorem c326 : cFunc Tryz.prog Tryz.f326 = some a326 := by kernel_rfl
theorem c327 : cFunc Tryz.prog Tryz.f327 = some a327 := by kernel_rfl
theorem c328 : cFunc Tryz.prog Tryz.f328 = some a328 := by kernel_rfl
theorem c348 : cFunc Tryz.prog Tryz.f348 = some a348 := by kernel_rfl
theorem c349 : cFunc Tryz.prog Tryz.f349 = some a349 := by kernel_rfl
theorem c350 : cFunc Tryz.prog Tryz.f350 = some a350 := by kernel_rfl
end Go.Am.Tab
