/- The table's functions are the program's, part 3. -/
import Derived.Test.YthekpkcmlndcmaaGreatTab2
import Derived.Test.YthekpkcmlndcmaaGreatProg
import Derived.KernelRfl
namespace Go.Ab.T
open Go Go.Ab Go.Proofs
set_option maxRecDepth 100000
theorem o20 : FOk Tryz.prog 20 c20 := ⟨Tryz.f20, Tryz.func20, by kernel_rfl⟩
theorem o26 : FOk Tryz.prog 26 c26 := ⟨Tryz.f26, Tryz.func26, by kernel_rfl⟩
theorem o39 : FOk Tryz.prog 39 c39 := ⟨Tryz.f39, Tryz.func39, by kernel_rfl⟩
theorem o44 : FOk Tryz.prog 44 c44 := ⟨Tryz.f44, Tryz.func44, by kernel_rfl⟩
theorem o51 : FOk Tryz.prog 51 c51 := ⟨Tryz.f51, Tryz.func51, by kernel_rfl⟩
theorem o59 : FOk Tryz.prog 59 c59 := ⟨Tryz.f59, Tryz.func59, by kernel_rfl⟩
theorem o63 : FOk Tryz.prog 63 c63 := ⟨Tryz.f63, Tryz.func63, by kernel_rfl⟩
theorem o67 : FOk Tryz.prog 67 c67 := ⟨Tryz.f67, Tryz.func67, by kernel_rfl⟩
theorem o71 : FOk Tryz.prog 71 c71 := ⟨Tryz.f71, Tryz.func71, by kernel_rfl⟩
theorem o75 : FOk Tryz.prog 75 c75 := ⟨Tryz.f75, Tryz.func75, by kernel_rfl⟩
theorem o81 : FOk Tryz.prog 81 c81 := ⟨Tryz.f81, Tryz.func81, by kernel_rfl⟩
theorem o85 : FOk Tryz.prog 85 c85 := ⟨Tryz.f85, Tryz.func85, by kernel_rfl⟩
theorem o91 : FOk Tryz.prog 91 c91 := ⟨Tryz.f91, Tryz.func91, by kernel_rfl⟩
theorem o98 : FOk Tryz.prog 98 c98 := ⟨Tryz.f98, Tryz.func98, by kernel_rfl⟩
theorem o102 : FOk Tryz.prog 102 c102 := ⟨Tryz.f102, Tryz.func102, by kernel_rfl⟩
theorem o106 : FOk Tryz.prog 106 c106 := ⟨Tryz.f106, Tryz.func106, by kernel_rfl⟩
theorem o111 : FOk Tryz.prog 111 c111 := ⟨Tryz.f111, Tryz.func111, by kernel_rfl⟩
theorem o115 : FOk Tryz.prog 115 c115 := ⟨Tryz.f115, Tryz.func115, by kernel_rfl⟩
theorem o119 : FOk Tryz.prog 119 c119 := ⟨Tryz.f119, Tryz.func119, by kernel_rfl⟩
theorem o123 : FOk Tryz.prog 123 c123 := ⟨Tryz.f123, Tryz.func123, by kernel_rfl⟩
theorem o127 : FOk Tryz.prog 127 c127 := ⟨Tryz.f127, Tryz.func127, by kernel_rfl⟩
theorem o131 : FOk Tryz.prog 131 c131 := ⟨Tryz.f131, Tryz.func131, by kernel_rfl⟩
theorem o135 : FOk Tryz.prog 135 c135 := ⟨Tryz.f135, Tryz.func135, by kernel_rfl⟩
theorem o139 : FOk Tryz.prog 139 c139 := ⟨Tryz.f139, Tryz.func139, by kernel_rfl⟩
theorem o144 : FOk Tryz.prog 144 c144 := ⟨Tryz.f144, Tryz.func144, by kernel_rfl⟩
theorem o151 : FOk Tryz.prog 151 c151 := ⟨Tryz.f151, Tryz.func151, by kernel_rfl⟩
theorem o155 : FOk Tryz.prog 155 c155 := ⟨Tryz.f155, Tryz.func155, by kernel_rfl⟩
theorem o162 : FOk Tryz.prog 162 c162 := ⟨Tryz.f162, Tryz.func162, by kernel_rfl⟩
theorem o166 : FOk Tryz.prog 166 c166 := ⟨Tryz.f166, Tryz.func166, by kernel_rfl⟩
theorem o171 : FOk Tryz.prog 171 c171 := ⟨Tryz.f171, Tryz.func171, by kernel_rfl⟩
theorem o175 : FOk Tryz.prog 175 c175 := ⟨Tryz.f175, Tryz.func175, by kernel_rfl⟩
theorem o179 : FOk Tryz.prog 179 c179 := ⟨Tryz.f179, Tryz.func179, by kernel_rfl⟩
theorem o183 : FOk Tryz.prog 183 c183 := ⟨Tryz.f183, Tryz.func183, by kernel_rfl⟩
theorem o187 : FOk Tryz.prog 187 c187 := ⟨Tryz.f187, Tryz.func187, by kernel_rfl⟩
theorem o191 : FOk Tryz.prog 191 c191 := ⟨Tryz.f191, Tryz.func191, by kernel_rfl⟩
theorem o195 : FOk Tryz.prog 195 c195 := ⟨Tryz.f195, Tryz.func195, by kernel_rfl⟩
theorem o199 : FOk Tryz.prog 199 c199 := ⟨Tryz.f199, Tryz.func199, by kernel_rfl⟩
theorem o203 : FOk Tryz.prog 203 c203 := ⟨Tryz.f203, Tryz.func203, by kernel_rfl⟩
theorem o207 : FOk Tryz.prog 207 c207 := ⟨Tryz.f207, Tryz.func207, by kernel_rfl⟩
theorem o214 : FOk Tryz.prog 214 c214 := ⟨Tryz.f214, Tryz.func214, by kernel_rfl⟩
theorem o218 : FOk Tryz.prog 218 c218 := ⟨Tryz.f218, Tryz.func218, by kernel_rfl⟩
theorem o222 : FOk Tryz.prog 222 c222 := ⟨Tryz.f222, Tryz.func222, by kernel_rfl⟩
theorem o227 : FOk Tryz.prog 227 c227 := ⟨Tryz.f227, Tryz.func227, by kernel_rfl⟩
theorem o232 : FOk Tryz.prog 232 c232 := ⟨Tryz.f232, Tryz.func232, by kernel_rfl⟩
theorem o236 : FOk Tryz.prog 236 c236 := ⟨Tryz.f236, Tryz.func236, by kernel_rfl⟩
theorem o240 : FOk Tryz.prog 240 c240 := ⟨Tryz.f240, Tryz.func240, by kernel_rfl⟩
theorem o244 : FOk Tryz.prog 244 c244 := ⟨Tryz.f244, Tryz.func244, by kernel_rfl⟩
theorem o248 : FOk Tryz.prog 248 c248 := ⟨Tryz.f248, Tryz.func248, by kernel_rfl⟩
theorem o252 : FOk Tryz.prog 252 c252 := ⟨Tryz.f252, Tryz.func252, by kernel_rfl⟩
theorem o257 : FOk Tryz.prog 257 c257 := ⟨Tryz.f257, Tryz.func257, by kernel_rfl⟩
theorem o261 : FOk Tryz.prog 261 c261 := ⟨Tryz.f261, Tryz.func261, by kernel_rfl⟩
theorem o265 : FOk Tryz.prog 265 c265 := ⟨Tryz.f265, Tryz.func265, by kernel_rfl⟩
theorem o269 : FOk Tryz.prog 269 c269 := ⟨Tryz.f269, Tryz.func269, by kernel_rfl⟩
theorem o273 : FOk Tryz.prog 273 c273 := ⟨Tryz.f273, Tryz.func273, by kernel_rfl⟩
theorem o277 : FOk Tryz.prog 277 c277 := ⟨Tryz.f277, Tryz.func277, by kernel_rfl⟩
theorem o281 : FOk Tryz.prog 281 c281 := ⟨Tryz.f281, Tryz.func281, by kernel_rfl⟩
theorem o285 : FOk Tryz.prog 285 c285 := ⟨Tryz.f285, Tryz.func285, by kernel_rfl⟩
theorem o289 : FOk Tryz.prog 289 c289 := ⟨Tryz.f289, Tryz.func289, by kernel_rfl⟩
end Go.Ab.T
