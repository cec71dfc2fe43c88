/- The table's functions are the program's, part 2. -/
import Derived.Test.YthekpkcmlndcmaaGreatTab2
import Derived.Test.YthekpkcmlndcmaaGreatProg
import Derived.KernelRfl
namespace Go.Ab.T
open Go Go.Ab Go.Proofs
set_option maxRecDepth 100000
theorem o16 : FOk Tryz.prog 16 c16 := ⟨Tryz.f16, Tryz.func16, by kernel_rfl⟩
theorem o24 : FOk Tryz.prog 24 c24 := ⟨Tryz.f24, Tryz.func24, by kernel_rfl⟩
theorem o38 : FOk Tryz.prog 38 c38 := ⟨Tryz.f38, Tryz.func38, by kernel_rfl⟩
theorem o43 : FOk Tryz.prog 43 c43 := ⟨Tryz.f43, Tryz.func43, by kernel_rfl⟩
theorem o49 : FOk Tryz.prog 49 c49 := ⟨Tryz.f49, Tryz.func49, by kernel_rfl⟩
theorem o55 : FOk Tryz.prog 55 c55 := ⟨Tryz.f55, Tryz.func55, by kernel_rfl⟩
theorem o62 : FOk Tryz.prog 62 c62 := ⟨Tryz.f62, Tryz.func62, by kernel_rfl⟩
theorem o66 : FOk Tryz.prog 66 c66 := ⟨Tryz.f66, Tryz.func66, by kernel_rfl⟩
theorem o70 : FOk Tryz.prog 70 c70 := ⟨Tryz.f70, Tryz.func70, by kernel_rfl⟩
theorem o74 : FOk Tryz.prog 74 c74 := ⟨Tryz.f74, Tryz.func74, by kernel_rfl⟩
theorem o80 : FOk Tryz.prog 80 c80 := ⟨Tryz.f80, Tryz.func80, by kernel_rfl⟩
theorem o84 : FOk Tryz.prog 84 c84 := ⟨Tryz.f84, Tryz.func84, by kernel_rfl⟩
theorem o90 : FOk Tryz.prog 90 c90 := ⟨Tryz.f90, Tryz.func90, by kernel_rfl⟩
theorem o97 : FOk Tryz.prog 97 c97 := ⟨Tryz.f97, Tryz.func97, by kernel_rfl⟩
theorem o101 : FOk Tryz.prog 101 c101 := ⟨Tryz.f101, Tryz.func101, by kernel_rfl⟩
theorem o105 : FOk Tryz.prog 105 c105 := ⟨Tryz.f105, Tryz.func105, by kernel_rfl⟩
theorem o110 : FOk Tryz.prog 110 c110 := ⟨Tryz.f110, Tryz.func110, by kernel_rfl⟩
theorem o114 : FOk Tryz.prog 114 c114 := ⟨Tryz.f114, Tryz.func114, by kernel_rfl⟩
theorem o118 : FOk Tryz.prog 118 c118 := ⟨Tryz.f118, Tryz.func118, by kernel_rfl⟩
theorem o122 : FOk Tryz.prog 122 c122 := ⟨Tryz.f122, Tryz.func122, by kernel_rfl⟩
theorem o126 : FOk Tryz.prog 126 c126 := ⟨Tryz.f126, Tryz.func126, by kernel_rfl⟩
theorem o130 : FOk Tryz.prog 130 c130 := ⟨Tryz.f130, Tryz.func130, by kernel_rfl⟩
theorem o134 : FOk Tryz.prog 134 c134 := ⟨Tryz.f134, Tryz.func134, by kernel_rfl⟩
theorem o138 : FOk Tryz.prog 138 c138 := ⟨Tryz.f138, Tryz.func138, by kernel_rfl⟩
theorem o143 : FOk Tryz.prog 143 c143 := ⟨Tryz.f143, Tryz.func143, by kernel_rfl⟩
theorem o150 : FOk Tryz.prog 150 c150 := ⟨Tryz.f150, Tryz.func150, by kernel_rfl⟩
theorem o154 : FOk Tryz.prog 154 c154 := ⟨Tryz.f154, Tryz.func154, by kernel_rfl⟩
theorem o161 : FOk Tryz.prog 161 c161 := ⟨Tryz.f161, Tryz.func161, by kernel_rfl⟩
theorem o165 : FOk Tryz.prog 165 c165 := ⟨Tryz.f165, Tryz.func165, by kernel_rfl⟩
theorem o170 : FOk Tryz.prog 170 c170 := ⟨Tryz.f170, Tryz.func170, by kernel_rfl⟩
theorem o174 : FOk Tryz.prog 174 c174 := ⟨Tryz.f174, Tryz.func174, by kernel_rfl⟩
theorem o178 : FOk Tryz.prog 178 c178 := ⟨Tryz.f178, Tryz.func178, by kernel_rfl⟩
theorem o182 : FOk Tryz.prog 182 c182 := ⟨Tryz.f182, Tryz.func182, by kernel_rfl⟩
theorem o186 : FOk Tryz.prog 186 c186 := ⟨Tryz.f186, Tryz.func186, by kernel_rfl⟩
theorem o190 : FOk Tryz.prog 190 c190 := ⟨Tryz.f190, Tryz.func190, by kernel_rfl⟩
theorem o194 : FOk Tryz.prog 194 c194 := ⟨Tryz.f194, Tryz.func194, by kernel_rfl⟩
theorem o198 : FOk Tryz.prog 198 c198 := ⟨Tryz.f198, Tryz.func198, by kernel_rfl⟩
theorem o202 : FOk Tryz.prog 202 c202 := ⟨Tryz.f202, Tryz.func202, by kernel_rfl⟩
theorem o206 : FOk Tryz.prog 206 c206 := ⟨Tryz.f206, Tryz.func206, by kernel_rfl⟩
theorem o210 : FOk Tryz.prog 210 c210 := ⟨Tryz.f210, Tryz.func210, by kernel_rfl⟩
theorem o217 : FOk Tryz.prog 217 c217 := ⟨Tryz.f217, Tryz.func217, by kernel_rfl⟩
theorem o221 : FOk Tryz.prog 221 c221 := ⟨Tryz.f221, Tryz.func221, by kernel_rfl⟩
theorem o226 : FOk Tryz.prog 226 c226 := ⟨Tryz.f226, Tryz.func226, by kernel_rfl⟩
theorem o231 : FOk Tryz.prog 231 c231 := ⟨Tryz.f231, Tryz.func231, by kernel_rfl⟩
theorem o235 : FOk Tryz.prog 235 c235 := ⟨Tryz.f235, Tryz.func235, by kernel_rfl⟩
theorem o239 : FOk Tryz.prog 239 c239 := ⟨Tryz.f239, Tryz.func239, by kernel_rfl⟩
theorem o243 : FOk Tryz.prog 243 c243 := ⟨Tryz.f243, Tryz.func243, by kernel_rfl⟩
theorem o247 : FOk Tryz.prog 247 c247 := ⟨Tryz.f247, Tryz.func247, by kernel_rfl⟩
theorem o251 : FOk Tryz.prog 251 c251 := ⟨Tryz.f251, Tryz.func251, by kernel_rfl⟩
theorem o256 : FOk Tryz.prog 256 c256 := ⟨Tryz.f256, Tryz.func256, by kernel_rfl⟩
theorem o260 : FOk Tryz.prog 260 c260 := ⟨Tryz.f260, Tryz.func260, by kernel_rfl⟩
theorem o264 : FOk Tryz.prog 264 c264 := ⟨Tryz.f264, Tryz.func264, by kernel_rfl⟩
theorem o268 : FOk Tryz.prog 268 c268 := ⟨Tryz.f268, Tryz.func268, by kernel_rfl⟩
theorem o272 : FOk Tryz.prog 272 c272 := ⟨Tryz.f272, Tryz.func272, by kernel_rfl⟩
theorem o276 : FOk Tryz.prog 276 c276 := ⟨Tryz.f276, Tryz.func276, by kernel_rfl⟩
theorem o280 : FOk Tryz.prog 280 c280 := ⟨Tryz.f280, Tryz.func280, by kernel_rfl⟩
theorem o284 : FOk Tryz.prog 284 c284 := ⟨Tryz.f284, Tryz.func284, by kernel_rfl⟩
theorem o288 : FOk Tryz.prog 288 c288 := ⟨Tryz.f288, Tryz.func288, by kernel_rfl⟩
end Go.Ab.T
