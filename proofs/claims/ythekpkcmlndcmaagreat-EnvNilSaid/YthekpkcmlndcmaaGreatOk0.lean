/- The table's functions are the program's, part 0. -/
import Derived.Test.YthekpkcmlndcmaaGreatTab2
import Derived.Test.YthekpkcmlndcmaaGreatProg
import Derived.KernelRfl
namespace Go.Ab.T
open Go Go.Ab Go.Proofs
set_option maxRecDepth 100000
theorem o11 : FOk Tryz.prog 11 c11 := ⟨Tryz.f11, Tryz.func11, by kernel_rfl⟩
theorem o21 : FOk Tryz.prog 21 c21 := ⟨Tryz.f21, Tryz.func21, by kernel_rfl⟩
theorem o28 : FOk Tryz.prog 28 c28 := ⟨Tryz.f28, Tryz.func28, by kernel_rfl⟩
theorem o41 : FOk Tryz.prog 41 c41 := ⟨Tryz.f41, Tryz.func41, by kernel_rfl⟩
theorem o47 : FOk Tryz.prog 47 c47 := ⟨Tryz.f47, Tryz.func47, by kernel_rfl⟩
theorem o53 : FOk Tryz.prog 53 c53 := ⟨Tryz.f53, Tryz.func53, by kernel_rfl⟩
theorem o60 : FOk Tryz.prog 60 c60 := ⟨Tryz.f60, Tryz.func60, by kernel_rfl⟩
theorem o64 : FOk Tryz.prog 64 c64 := ⟨Tryz.f64, Tryz.func64, by kernel_rfl⟩
theorem o68 : FOk Tryz.prog 68 c68 := ⟨Tryz.f68, Tryz.func68, by kernel_rfl⟩
theorem o72 : FOk Tryz.prog 72 c72 := ⟨Tryz.f72, Tryz.func72, by kernel_rfl⟩
theorem o77 : FOk Tryz.prog 77 c77 := ⟨Tryz.f77, Tryz.func77, by kernel_rfl⟩
theorem o82 : FOk Tryz.prog 82 c82 := ⟨Tryz.f82, Tryz.func82, by kernel_rfl⟩
theorem o86 : FOk Tryz.prog 86 c86 := ⟨Tryz.f86, Tryz.func86, by kernel_rfl⟩
theorem o92 : FOk Tryz.prog 92 c92 := ⟨Tryz.f92, Tryz.func92, by kernel_rfl⟩
theorem o99 : FOk Tryz.prog 99 c99 := ⟨Tryz.f99, Tryz.func99, by kernel_rfl⟩
theorem o103 : FOk Tryz.prog 103 c103 := ⟨Tryz.f103, Tryz.func103, by kernel_rfl⟩
theorem o107 : FOk Tryz.prog 107 c107 := ⟨Tryz.f107, Tryz.func107, by kernel_rfl⟩
theorem o112 : FOk Tryz.prog 112 c112 := ⟨Tryz.f112, Tryz.func112, by kernel_rfl⟩
theorem o116 : FOk Tryz.prog 116 c116 := ⟨Tryz.f116, Tryz.func116, by kernel_rfl⟩
theorem o120 : FOk Tryz.prog 120 c120 := ⟨Tryz.f120, Tryz.func120, by kernel_rfl⟩
theorem o124 : FOk Tryz.prog 124 c124 := ⟨Tryz.f124, Tryz.func124, by kernel_rfl⟩
theorem o128 : FOk Tryz.prog 128 c128 := ⟨Tryz.f128, Tryz.func128, by kernel_rfl⟩
theorem o132 : FOk Tryz.prog 132 c132 := ⟨Tryz.f132, Tryz.func132, by kernel_rfl⟩
theorem o136 : FOk Tryz.prog 136 c136 := ⟨Tryz.f136, Tryz.func136, by kernel_rfl⟩
theorem o140 : FOk Tryz.prog 140 c140 := ⟨Tryz.f140, Tryz.func140, by kernel_rfl⟩
theorem o145 : FOk Tryz.prog 145 c145 := ⟨Tryz.f145, Tryz.func145, by kernel_rfl⟩
theorem o152 : FOk Tryz.prog 152 c152 := ⟨Tryz.f152, Tryz.func152, by kernel_rfl⟩
theorem o159 : FOk Tryz.prog 159 c159 := ⟨Tryz.f159, Tryz.func159, by kernel_rfl⟩
theorem o163 : FOk Tryz.prog 163 c163 := ⟨Tryz.f163, Tryz.func163, by kernel_rfl⟩
theorem o168 : FOk Tryz.prog 168 c168 := ⟨Tryz.f168, Tryz.func168, by kernel_rfl⟩
theorem o172 : FOk Tryz.prog 172 c172 := ⟨Tryz.f172, Tryz.func172, by kernel_rfl⟩
theorem o176 : FOk Tryz.prog 176 c176 := ⟨Tryz.f176, Tryz.func176, by kernel_rfl⟩
theorem o180 : FOk Tryz.prog 180 c180 := ⟨Tryz.f180, Tryz.func180, by kernel_rfl⟩
theorem o184 : FOk Tryz.prog 184 c184 := ⟨Tryz.f184, Tryz.func184, by kernel_rfl⟩
theorem o188 : FOk Tryz.prog 188 c188 := ⟨Tryz.f188, Tryz.func188, by kernel_rfl⟩
theorem o192 : FOk Tryz.prog 192 c192 := ⟨Tryz.f192, Tryz.func192, by kernel_rfl⟩
theorem o196 : FOk Tryz.prog 196 c196 := ⟨Tryz.f196, Tryz.func196, by kernel_rfl⟩
theorem o200 : FOk Tryz.prog 200 c200 := ⟨Tryz.f200, Tryz.func200, by kernel_rfl⟩
theorem o204 : FOk Tryz.prog 204 c204 := ⟨Tryz.f204, Tryz.func204, by kernel_rfl⟩
theorem o208 : FOk Tryz.prog 208 c208 := ⟨Tryz.f208, Tryz.func208, by kernel_rfl⟩
theorem o215 : FOk Tryz.prog 215 c215 := ⟨Tryz.f215, Tryz.func215, by kernel_rfl⟩
theorem o219 : FOk Tryz.prog 219 c219 := ⟨Tryz.f219, Tryz.func219, by kernel_rfl⟩
theorem o223 : FOk Tryz.prog 223 c223 := ⟨Tryz.f223, Tryz.func223, by kernel_rfl⟩
theorem o228 : FOk Tryz.prog 228 c228 := ⟨Tryz.f228, Tryz.func228, by kernel_rfl⟩
theorem o233 : FOk Tryz.prog 233 c233 := ⟨Tryz.f233, Tryz.func233, by kernel_rfl⟩
theorem o237 : FOk Tryz.prog 237 c237 := ⟨Tryz.f237, Tryz.func237, by kernel_rfl⟩
theorem o241 : FOk Tryz.prog 241 c241 := ⟨Tryz.f241, Tryz.func241, by kernel_rfl⟩
theorem o245 : FOk Tryz.prog 245 c245 := ⟨Tryz.f245, Tryz.func245, by kernel_rfl⟩
theorem o249 : FOk Tryz.prog 249 c249 := ⟨Tryz.f249, Tryz.func249, by kernel_rfl⟩
theorem o253 : FOk Tryz.prog 253 c253 := ⟨Tryz.f253, Tryz.func253, by kernel_rfl⟩
theorem o258 : FOk Tryz.prog 258 c258 := ⟨Tryz.f258, Tryz.func258, by kernel_rfl⟩
theorem o262 : FOk Tryz.prog 262 c262 := ⟨Tryz.f262, Tryz.func262, by kernel_rfl⟩
theorem o266 : FOk Tryz.prog 266 c266 := ⟨Tryz.f266, Tryz.func266, by kernel_rfl⟩
theorem o270 : FOk Tryz.prog 270 c270 := ⟨Tryz.f270, Tryz.func270, by kernel_rfl⟩
theorem o274 : FOk Tryz.prog 274 c274 := ⟨Tryz.f274, Tryz.func274, by kernel_rfl⟩
theorem o278 : FOk Tryz.prog 278 c278 := ⟨Tryz.f278, Tryz.func278, by kernel_rfl⟩
theorem o282 : FOk Tryz.prog 282 c282 := ⟨Tryz.f282, Tryz.func282, by kernel_rfl⟩
theorem o286 : FOk Tryz.prog 286 c286 := ⟨Tryz.f286, Tryz.func286, by kernel_rfl⟩
end Go.Ab.T
