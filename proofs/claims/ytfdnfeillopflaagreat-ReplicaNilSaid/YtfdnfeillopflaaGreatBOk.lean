/- The table's functions are the program's, part 0. -/
import Derived.Test.YtfdnfeillopflaaGreatBTab
import Derived.Test.YtfdnfeillopflaaGreatProg
import Derived.KernelRfl
section
namespace Go.Ab.B
open Go Go.Ab Go.Proofs
set_option maxRecDepth 100000
theorem o10 : FOk Tryz.prog 10 c10 := ⟨Tryz.f10, Tryz.func10, by kernel_rfl⟩
theorem o33 : FOk Tryz.prog 33 c33 := ⟨Tryz.f33, Tryz.func33, by kernel_rfl⟩
theorem o46 : FOk Tryz.prog 46 c46 := ⟨Tryz.f46, Tryz.func46, by kernel_rfl⟩
theorem o64 : FOk Tryz.prog 64 c64 := ⟨Tryz.f64, Tryz.func64, by kernel_rfl⟩
theorem o68 : FOk Tryz.prog 68 c68 := ⟨Tryz.f68, Tryz.func68, by kernel_rfl⟩
theorem o73 : FOk Tryz.prog 73 c73 := ⟨Tryz.f73, Tryz.func73, by kernel_rfl⟩
theorem o89 : FOk Tryz.prog 89 c89 := ⟨Tryz.f89, Tryz.func89, by kernel_rfl⟩
theorem o125 : FOk Tryz.prog 125 c125 := ⟨Tryz.f125, Tryz.func125, by kernel_rfl⟩
theorem o132 : FOk Tryz.prog 132 c132 := ⟨Tryz.f132, Tryz.func132, by kernel_rfl⟩
theorem o136 : FOk Tryz.prog 136 c136 := ⟨Tryz.f136, Tryz.func136, by kernel_rfl⟩
theorem o141 : FOk Tryz.prog 141 c141 := ⟨Tryz.f141, Tryz.func141, by kernel_rfl⟩
theorem o148 : FOk Tryz.prog 148 c148 := ⟨Tryz.f148, Tryz.func148, by kernel_rfl⟩
theorem o152 : FOk Tryz.prog 152 c152 := ⟨Tryz.f152, Tryz.func152, by kernel_rfl⟩
theorem o157 : FOk Tryz.prog 157 c157 := ⟨Tryz.f157, Tryz.func157, by kernel_rfl⟩
theorem o177 : FOk Tryz.prog 177 c177 := ⟨Tryz.f177, Tryz.func177, by kernel_rfl⟩
theorem o190 : FOk Tryz.prog 190 c190 := ⟨Tryz.f190, Tryz.func190, by kernel_rfl⟩
theorem o219 : FOk Tryz.prog 219 c219 := ⟨Tryz.f219, Tryz.func219, by kernel_rfl⟩
theorem o223 : FOk Tryz.prog 223 c223 := ⟨Tryz.f223, Tryz.func223, by kernel_rfl⟩
theorem o228 : FOk Tryz.prog 228 c228 := ⟨Tryz.f228, Tryz.func228, by kernel_rfl⟩
theorem o233 : FOk Tryz.prog 233 c233 := ⟨Tryz.f233, Tryz.func233, by kernel_rfl⟩
theorem o260 : FOk Tryz.prog 260 c260 := ⟨Tryz.f260, Tryz.func260, by kernel_rfl⟩
theorem o289 : FOk Tryz.prog 289 c289 := ⟨Tryz.f289, Tryz.func289, by kernel_rfl⟩
theorem o303 : FOk Tryz.prog 303 c303 := ⟨Tryz.f303, Tryz.func303, by kernel_rfl⟩
theorem o346 : FOk Tryz.prog 346 c346 := ⟨Tryz.f346, Tryz.func346, by kernel_rfl⟩
theorem o30 : FOk Tryz.prog 30 c30 := ⟨Tryz.f30, Tryz.func30, by kernel_rfl⟩
theorem o17 : FOk Tryz.prog 17 c17 := ⟨Tryz.f17, Tryz.func17, by kernel_rfl⟩
theorem o25 : FOk Tryz.prog 25 c25 := ⟨Tryz.f25, Tryz.func25, by kernel_rfl⟩
end Go.Ab.B
end

section
namespace Go.Ab.B
open Go Go.Ab Go.Proofs
set_option maxRecDepth 100000
theorem o11 : FOk Tryz.prog 11 c11 := ⟨Tryz.f11, Tryz.func11, by kernel_rfl⟩
theorem o34 : FOk Tryz.prog 34 c34 := ⟨Tryz.f34, Tryz.func34, by kernel_rfl⟩
theorem o57 : FOk Tryz.prog 57 c57 := ⟨Tryz.f57, Tryz.func57, by kernel_rfl⟩
theorem o65 : FOk Tryz.prog 65 c65 := ⟨Tryz.f65, Tryz.func65, by kernel_rfl⟩
theorem o69 : FOk Tryz.prog 69 c69 := ⟨Tryz.f69, Tryz.func69, by kernel_rfl⟩
theorem o75 : FOk Tryz.prog 75 c75 := ⟨Tryz.f75, Tryz.func75, by kernel_rfl⟩
theorem o97 : FOk Tryz.prog 97 c97 := ⟨Tryz.f97, Tryz.func97, by kernel_rfl⟩
theorem o129 : FOk Tryz.prog 129 c129 := ⟨Tryz.f129, Tryz.func129, by kernel_rfl⟩
theorem o133 : FOk Tryz.prog 133 c133 := ⟨Tryz.f133, Tryz.func133, by kernel_rfl⟩
theorem o137 : FOk Tryz.prog 137 c137 := ⟨Tryz.f137, Tryz.func137, by kernel_rfl⟩
theorem o142 : FOk Tryz.prog 142 c142 := ⟨Tryz.f142, Tryz.func142, by kernel_rfl⟩
theorem o149 : FOk Tryz.prog 149 c149 := ⟨Tryz.f149, Tryz.func149, by kernel_rfl⟩
theorem o153 : FOk Tryz.prog 153 c153 := ⟨Tryz.f153, Tryz.func153, by kernel_rfl⟩
theorem o169 : FOk Tryz.prog 169 c169 := ⟨Tryz.f169, Tryz.func169, by kernel_rfl⟩
theorem o178 : FOk Tryz.prog 178 c178 := ⟨Tryz.f178, Tryz.func178, by kernel_rfl⟩
theorem o209 : FOk Tryz.prog 209 c209 := ⟨Tryz.f209, Tryz.func209, by kernel_rfl⟩
theorem o220 : FOk Tryz.prog 220 c220 := ⟨Tryz.f220, Tryz.func220, by kernel_rfl⟩
theorem o224 : FOk Tryz.prog 224 c224 := ⟨Tryz.f224, Tryz.func224, by kernel_rfl⟩
theorem o230 : FOk Tryz.prog 230 c230 := ⟨Tryz.f230, Tryz.func230, by kernel_rfl⟩
theorem o234 : FOk Tryz.prog 234 c234 := ⟨Tryz.f234, Tryz.func234, by kernel_rfl⟩
theorem o262 : FOk Tryz.prog 262 c262 := ⟨Tryz.f262, Tryz.func262, by kernel_rfl⟩
theorem o297 : FOk Tryz.prog 297 c297 := ⟨Tryz.f297, Tryz.func297, by kernel_rfl⟩
theorem o304 : FOk Tryz.prog 304 c304 := ⟨Tryz.f304, Tryz.func304, by kernel_rfl⟩
theorem o347 : FOk Tryz.prog 347 c347 := ⟨Tryz.f347, Tryz.func347, by kernel_rfl⟩
theorem o31 : FOk Tryz.prog 31 c31 := ⟨Tryz.f31, Tryz.func31, by kernel_rfl⟩
theorem o19 : FOk Tryz.prog 19 c19 := ⟨Tryz.f19, Tryz.func19, by kernel_rfl⟩
theorem o26 : FOk Tryz.prog 26 c26 := ⟨Tryz.f26, Tryz.func26, by kernel_rfl⟩
end Go.Ab.B
end

section
namespace Go.Ab.B
open Go Go.Ab Go.Proofs
set_option maxRecDepth 100000
theorem o14 : FOk Tryz.prog 14 c14 := ⟨Tryz.f14, Tryz.func14, by kernel_rfl⟩
theorem o35 : FOk Tryz.prog 35 c35 := ⟨Tryz.f35, Tryz.func35, by kernel_rfl⟩
theorem o61 : FOk Tryz.prog 61 c61 := ⟨Tryz.f61, Tryz.func61, by kernel_rfl⟩
theorem o66 : FOk Tryz.prog 66 c66 := ⟨Tryz.f66, Tryz.func66, by kernel_rfl⟩
theorem o71 : FOk Tryz.prog 71 c71 := ⟨Tryz.f71, Tryz.func71, by kernel_rfl⟩
theorem o76 : FOk Tryz.prog 76 c76 := ⟨Tryz.f76, Tryz.func76, by kernel_rfl⟩
theorem o114 : FOk Tryz.prog 114 c114 := ⟨Tryz.f114, Tryz.func114, by kernel_rfl⟩
theorem o130 : FOk Tryz.prog 130 c130 := ⟨Tryz.f130, Tryz.func130, by kernel_rfl⟩
theorem o134 : FOk Tryz.prog 134 c134 := ⟨Tryz.f134, Tryz.func134, by kernel_rfl⟩
theorem o138 : FOk Tryz.prog 138 c138 := ⟨Tryz.f138, Tryz.func138, by kernel_rfl⟩
theorem o143 : FOk Tryz.prog 143 c143 := ⟨Tryz.f143, Tryz.func143, by kernel_rfl⟩
theorem o150 : FOk Tryz.prog 150 c150 := ⟨Tryz.f150, Tryz.func150, by kernel_rfl⟩
theorem o154 : FOk Tryz.prog 154 c154 := ⟨Tryz.f154, Tryz.func154, by kernel_rfl⟩
theorem o170 : FOk Tryz.prog 170 c170 := ⟨Tryz.f170, Tryz.func170, by kernel_rfl⟩
theorem o179 : FOk Tryz.prog 179 c179 := ⟨Tryz.f179, Tryz.func179, by kernel_rfl⟩
theorem o210 : FOk Tryz.prog 210 c210 := ⟨Tryz.f210, Tryz.func210, by kernel_rfl⟩
theorem o221 : FOk Tryz.prog 221 c221 := ⟨Tryz.f221, Tryz.func221, by kernel_rfl⟩
theorem o225 : FOk Tryz.prog 225 c225 := ⟨Tryz.f225, Tryz.func225, by kernel_rfl⟩
theorem o231 : FOk Tryz.prog 231 c231 := ⟨Tryz.f231, Tryz.func231, by kernel_rfl⟩
theorem o248 : FOk Tryz.prog 248 c248 := ⟨Tryz.f248, Tryz.func248, by kernel_rfl⟩
theorem o273 : FOk Tryz.prog 273 c273 := ⟨Tryz.f273, Tryz.func273, by kernel_rfl⟩
theorem o298 : FOk Tryz.prog 298 c298 := ⟨Tryz.f298, Tryz.func298, by kernel_rfl⟩
theorem o328 : FOk Tryz.prog 328 c328 := ⟨Tryz.f328, Tryz.func328, by kernel_rfl⟩
theorem o387 : FOk Tryz.prog 387 c387 := ⟨Tryz.f387, Tryz.func387, by kernel_rfl⟩
theorem o62 : FOk Tryz.prog 62 c62 := ⟨Tryz.f62, Tryz.func62, by kernel_rfl⟩
theorem o22 : FOk Tryz.prog 22 c22 := ⟨Tryz.f22, Tryz.func22, by kernel_rfl⟩
theorem o27 : FOk Tryz.prog 27 c27 := ⟨Tryz.f27, Tryz.func27, by kernel_rfl⟩
end Go.Ab.B
end

section
namespace Go.Ab.B
open Go Go.Ab Go.Proofs
set_option maxRecDepth 100000
theorem o32 : FOk Tryz.prog 32 c32 := ⟨Tryz.f32, Tryz.func32, by kernel_rfl⟩
theorem o36 : FOk Tryz.prog 36 c36 := ⟨Tryz.f36, Tryz.func36, by kernel_rfl⟩
theorem o63 : FOk Tryz.prog 63 c63 := ⟨Tryz.f63, Tryz.func63, by kernel_rfl⟩
theorem o67 : FOk Tryz.prog 67 c67 := ⟨Tryz.f67, Tryz.func67, by kernel_rfl⟩
theorem o72 : FOk Tryz.prog 72 c72 := ⟨Tryz.f72, Tryz.func72, by kernel_rfl⟩
theorem o81 : FOk Tryz.prog 81 c81 := ⟨Tryz.f81, Tryz.func81, by kernel_rfl⟩
theorem o124 : FOk Tryz.prog 124 c124 := ⟨Tryz.f124, Tryz.func124, by kernel_rfl⟩
theorem o131 : FOk Tryz.prog 131 c131 := ⟨Tryz.f131, Tryz.func131, by kernel_rfl⟩
theorem o135 : FOk Tryz.prog 135 c135 := ⟨Tryz.f135, Tryz.func135, by kernel_rfl⟩
theorem o140 : FOk Tryz.prog 140 c140 := ⟨Tryz.f140, Tryz.func140, by kernel_rfl⟩
theorem o144 : FOk Tryz.prog 144 c144 := ⟨Tryz.f144, Tryz.func144, by kernel_rfl⟩
theorem o151 : FOk Tryz.prog 151 c151 := ⟨Tryz.f151, Tryz.func151, by kernel_rfl⟩
theorem o155 : FOk Tryz.prog 155 c155 := ⟨Tryz.f155, Tryz.func155, by kernel_rfl⟩
theorem o171 : FOk Tryz.prog 171 c171 := ⟨Tryz.f171, Tryz.func171, by kernel_rfl⟩
theorem o189 : FOk Tryz.prog 189 c189 := ⟨Tryz.f189, Tryz.func189, by kernel_rfl⟩
theorem o211 : FOk Tryz.prog 211 c211 := ⟨Tryz.f211, Tryz.func211, by kernel_rfl⟩
theorem o222 : FOk Tryz.prog 222 c222 := ⟨Tryz.f222, Tryz.func222, by kernel_rfl⟩
theorem o226 : FOk Tryz.prog 226 c226 := ⟨Tryz.f226, Tryz.func226, by kernel_rfl⟩
theorem o232 : FOk Tryz.prog 232 c232 := ⟨Tryz.f232, Tryz.func232, by kernel_rfl⟩
theorem o259 : FOk Tryz.prog 259 c259 := ⟨Tryz.f259, Tryz.func259, by kernel_rfl⟩
theorem o283 : FOk Tryz.prog 283 c283 := ⟨Tryz.f283, Tryz.func283, by kernel_rfl⟩
theorem o300 : FOk Tryz.prog 300 c300 := ⟨Tryz.f300, Tryz.func300, by kernel_rfl⟩
theorem o329 : FOk Tryz.prog 329 c329 := ⟨Tryz.f329, Tryz.func329, by kernel_rfl⟩
theorem o9 : FOk Tryz.prog 9 c9 := ⟨Tryz.f9, Tryz.func9, by kernel_rfl⟩
theorem o16 : FOk Tryz.prog 16 c16 := ⟨Tryz.f16, Tryz.func16, by kernel_rfl⟩
theorem o23 : FOk Tryz.prog 23 c23 := ⟨Tryz.f23, Tryz.func23, by kernel_rfl⟩
end Go.Ab.B
end

noncomputable section
namespace Go.Ab.B
open Go Go.Ab Go.Proofs
set_option maxRecDepth 100000
def tab : Tab := (.n (.n (.n (.n (.n (.n (.n .e (some c63) .e) (some c31) (.n .e none (.n .e (some c223) .e))) none (.n (.n (.n .e (some c143) .e) none .e) none (.n (.n (.n .e (some c303) .e) none .e) none .e))) none (.n (.n (.n (.n .e (some c135) .e) (some c71) .e) none (.n .e none (.n .e (some c231) .e))) (some c23) (.n (.n (.n .e (some c151) .e) none .e) none .e))) none (.n (.n (.n (.n (.n (.n .e (some c259) .e) (some c131) (.n .e (some c387) .e)) (some c67) .e) (some c35) .e) (some c19) (.n (.n .e none (.n .e (some c211) .e)) none (.n (.n .e (some c179) .e) none .e))) (some c11) (.n (.n (.n .e (some c75) .e) none (.n (.n .e (some c171) .e) none .e)) (some c27) (.n (.n (.n (.n .e (some c283) .e) (some c155) .e) none (.n (.n .e (some c347) .e) (some c219) .e)) none .e)))) none (.n (.n (.n (.n (.n (.n .e (some c129) .e) (some c65) .e) (some c33) (.n (.n (.n .e (some c289) .e) none .e) (some c97) (.n .e (some c225) .e))) (some c17) (.n (.n (.n (.n .e (some c273) .e) none .e) (some c81) (.n .e (some c209) .e)) none (.n (.n .e (some c177) .e) none .e))) (some c9) (.n (.n (.n (.n .e (some c137) .e) (some c73) (.n (.n .e (some c329) .e) none .e)) none (.n (.n (.n .e (some c297) .e) (some c169) .e) none (.n .e (some c233) .e))) (some c25) (.n (.n (.n .e (some c153) .e) (some c89) .e) (some c57) .e))) none (.n (.n (.n (.n (.n .e (some c133) .e) (some c69) .e) none .e) none (.n (.n (.n .e (some c149) .e) none .e) none .e)) none (.n (.n (.n (.n .e (some c141) .e) none .e) none .e) none (.n (.n (.n .e (some c157) .e) none (.n .e (some c221) .e)) (some c61) (.n (.n .e (some c189) .e) (some c125) .e)))))) none (.n (.n (.n (.n (.n (.n .e (some c64) .e) (some c32) (.n .e none (.n .e (some c224) .e))) (some c16) (.n (.n (.n .e (some c144) .e) none .e) none (.n (.n (.n .e (some c304) .e) none .e) none .e))) none (.n (.n (.n (.n .e (some c136) .e) (some c72) (.n (.n .e (some c328) .e) none .e)) none (.n .e none (.n .e (some c232) .e))) none (.n (.n (.n .e (some c152) .e) none .e) none (.n .e none (.n .e (some c248) .e))))) none (.n (.n (.n (.n (.n (.n .e (some c260) .e) (some c132) .e) (some c68) .e) (some c36) (.n .e none (.n .e (some c228) .e))) none (.n (.n (.n .e (some c148) .e) none .e) none .e)) none (.n (.n (.n (.n .e (some c140) .e) (some c76) .e) none (.n (.n (.n .e (some c300) .e) none .e) none .e)) none (.n (.n .e none (.n .e (some c220) .e)) none (.n .e (some c124) .e))))) none (.n (.n (.n (.n (.n (.n .e (some c130) .e) (some c66) .e) (some c34) (.n .e none (.n .e (some c226) .e))) none (.n (.n .e none (.n .e (some c210) .e)) none (.n (.n .e (some c178) .e) (some c114) .e))) (some c10) (.n (.n (.n (.n .e (some c138) .e) none .e) none (.n (.n (.n .e (some c298) .e) (some c170) .e) none (.n .e (some c234) .e))) (some c26) (.n (.n (.n .e (some c154) .e) none (.n (.n .e (some c346) .e) none .e)) none .e))) none (.n (.n (.n (.n (.n (.n .e (some c262) .e) (some c134) .e) none .e) none (.n .e none (.n .e (some c230) .e))) (some c22) (.n (.n (.n .e (some c150) .e) none .e) none .e)) (some c14) (.n (.n (.n (.n .e (some c142) .e) none .e) (some c46) .e) (some c30) (.n (.n .e none (.n .e (some c222) .e)) (some c62) (.n (.n .e (some c190) .e) none .e)))))))
theorem ok_e {f : Nat → EFunc → Prop} : Tr.e.allOk f := trivial
theorem ok_none {f : Nat → EFunc → Prop} {l r : Tr EFunc} (hl : l.allOk (fun k => f (2 * k + 1))) (hr : r.allOk (fun k => f (2 * k + 2))) : (Tr.n l none r).allOk f := ⟨trivial, hl, hr⟩
theorem ok_some {f : Nat → EFunc → Prop} {l r : Tr EFunc} {x : EFunc} (h : f 0 x) (hl : l.allOk (fun k => f (2 * k + 1))) (hr : r.allOk (fun k => f (2 * k + 2))) : (Tr.n l (some x) r).allOk f := ⟨h, hl, hr⟩
theorem tab_ok : TabOk Tryz.prog tab := tabOk_of (show ((.n (.n (.n (.n (.n (.n (.n .e (some c63) .e) (some c31) (.n .e none (.n .e (some c223) .e))) none (.n (.n (.n .e (some c143) .e) none .e) none (.n (.n (.n .e (some c303) .e) none .e) none .e))) none (.n (.n (.n (.n .e (some c135) .e) (some c71) .e) none (.n .e none (.n .e (some c231) .e))) (some c23) (.n (.n (.n .e (some c151) .e) none .e) none .e))) none (.n (.n (.n (.n (.n (.n .e (some c259) .e) (some c131) (.n .e (some c387) .e)) (some c67) .e) (some c35) .e) (some c19) (.n (.n .e none (.n .e (some c211) .e)) none (.n (.n .e (some c179) .e) none .e))) (some c11) (.n (.n (.n .e (some c75) .e) none (.n (.n .e (some c171) .e) none .e)) (some c27) (.n (.n (.n (.n .e (some c283) .e) (some c155) .e) none (.n (.n .e (some c347) .e) (some c219) .e)) none .e)))) none (.n (.n (.n (.n (.n (.n .e (some c129) .e) (some c65) .e) (some c33) (.n (.n (.n .e (some c289) .e) none .e) (some c97) (.n .e (some c225) .e))) (some c17) (.n (.n (.n (.n .e (some c273) .e) none .e) (some c81) (.n .e (some c209) .e)) none (.n (.n .e (some c177) .e) none .e))) (some c9) (.n (.n (.n (.n .e (some c137) .e) (some c73) (.n (.n .e (some c329) .e) none .e)) none (.n (.n (.n .e (some c297) .e) (some c169) .e) none (.n .e (some c233) .e))) (some c25) (.n (.n (.n .e (some c153) .e) (some c89) .e) (some c57) .e))) none (.n (.n (.n (.n (.n .e (some c133) .e) (some c69) .e) none .e) none (.n (.n (.n .e (some c149) .e) none .e) none .e)) none (.n (.n (.n (.n .e (some c141) .e) none .e) none .e) none (.n (.n (.n .e (some c157) .e) none (.n .e (some c221) .e)) (some c61) (.n (.n .e (some c189) .e) (some c125) .e)))))) none (.n (.n (.n (.n (.n (.n .e (some c64) .e) (some c32) (.n .e none (.n .e (some c224) .e))) (some c16) (.n (.n (.n .e (some c144) .e) none .e) none (.n (.n (.n .e (some c304) .e) none .e) none .e))) none (.n (.n (.n (.n .e (some c136) .e) (some c72) (.n (.n .e (some c328) .e) none .e)) none (.n .e none (.n .e (some c232) .e))) none (.n (.n (.n .e (some c152) .e) none .e) none (.n .e none (.n .e (some c248) .e))))) none (.n (.n (.n (.n (.n (.n .e (some c260) .e) (some c132) .e) (some c68) .e) (some c36) (.n .e none (.n .e (some c228) .e))) none (.n (.n (.n .e (some c148) .e) none .e) none .e)) none (.n (.n (.n (.n .e (some c140) .e) (some c76) .e) none (.n (.n (.n .e (some c300) .e) none .e) none .e)) none (.n (.n .e none (.n .e (some c220) .e)) none (.n .e (some c124) .e))))) none (.n (.n (.n (.n (.n (.n .e (some c130) .e) (some c66) .e) (some c34) (.n .e none (.n .e (some c226) .e))) none (.n (.n .e none (.n .e (some c210) .e)) none (.n (.n .e (some c178) .e) (some c114) .e))) (some c10) (.n (.n (.n (.n .e (some c138) .e) none .e) none (.n (.n (.n .e (some c298) .e) (some c170) .e) none (.n .e (some c234) .e))) (some c26) (.n (.n (.n .e (some c154) .e) none (.n (.n .e (some c346) .e) none .e)) none .e))) none (.n (.n (.n (.n (.n (.n .e (some c262) .e) (some c134) .e) none .e) none (.n .e none (.n .e (some c230) .e))) (some c22) (.n (.n (.n .e (some c150) .e) none .e) none .e)) (some c14) (.n (.n (.n (.n .e (some c142) .e) none .e) (some c46) .e) (some c30) (.n (.n .e none (.n .e (some c222) .e)) (some c62) (.n (.n .e (some c190) .e) none .e))))))) : Tab).allOk (FOk Tryz.prog) from (ok_none (ok_none (ok_none (ok_none (ok_none (ok_some o31 (ok_some o63 ok_e ok_e) (ok_none ok_e (ok_some o223 ok_e ok_e))) (ok_none (ok_none (ok_some o143 ok_e ok_e) ok_e) (ok_none (ok_none (ok_some o303 ok_e ok_e) ok_e) ok_e))) (ok_some o23 (ok_none (ok_some o71 (ok_some o135 ok_e ok_e) ok_e) (ok_none ok_e (ok_some o231 ok_e ok_e))) (ok_none (ok_none (ok_some o151 ok_e ok_e) ok_e) ok_e))) (ok_some o11 (ok_some o19 (ok_some o35 (ok_some o67 (ok_some o131 (ok_some o259 ok_e ok_e) (ok_some o387 ok_e ok_e)) ok_e) ok_e) (ok_none (ok_none ok_e (ok_some o211 ok_e ok_e)) (ok_none (ok_some o179 ok_e ok_e) ok_e))) (ok_some o27 (ok_none (ok_some o75 ok_e ok_e) (ok_none (ok_some o171 ok_e ok_e) ok_e)) (ok_none (ok_none (ok_some o155 (ok_some o283 ok_e ok_e) ok_e) (ok_some o219 (ok_some o347 ok_e ok_e) ok_e)) ok_e)))) (ok_none (ok_some o9 (ok_some o17 (ok_some o33 (ok_some o65 (ok_some o129 ok_e ok_e) ok_e) (ok_some o97 (ok_none (ok_some o289 ok_e ok_e) ok_e) (ok_some o225 ok_e ok_e))) (ok_none (ok_some o81 (ok_none (ok_some o273 ok_e ok_e) ok_e) (ok_some o209 ok_e ok_e)) (ok_none (ok_some o177 ok_e ok_e) ok_e))) (ok_some o25 (ok_none (ok_some o73 (ok_some o137 ok_e ok_e) (ok_none (ok_some o329 ok_e ok_e) ok_e)) (ok_none (ok_some o169 (ok_some o297 ok_e ok_e) ok_e) (ok_some o233 ok_e ok_e))) (ok_some o57 (ok_some o89 (ok_some o153 ok_e ok_e) ok_e) ok_e))) (ok_none (ok_none (ok_none (ok_some o69 (ok_some o133 ok_e ok_e) ok_e) ok_e) (ok_none (ok_none (ok_some o149 ok_e ok_e) ok_e) ok_e)) (ok_none (ok_none (ok_none (ok_some o141 ok_e ok_e) ok_e) ok_e) (ok_some o61 (ok_none (ok_some o157 ok_e ok_e) (ok_some o221 ok_e ok_e)) (ok_some o125 (ok_some o189 ok_e ok_e) ok_e)))))) (ok_none (ok_none (ok_none (ok_some o16 (ok_some o32 (ok_some o64 ok_e ok_e) (ok_none ok_e (ok_some o224 ok_e ok_e))) (ok_none (ok_none (ok_some o144 ok_e ok_e) ok_e) (ok_none (ok_none (ok_some o304 ok_e ok_e) ok_e) ok_e))) (ok_none (ok_none (ok_some o72 (ok_some o136 ok_e ok_e) (ok_none (ok_some o328 ok_e ok_e) ok_e)) (ok_none ok_e (ok_some o232 ok_e ok_e))) (ok_none (ok_none (ok_some o152 ok_e ok_e) ok_e) (ok_none ok_e (ok_some o248 ok_e ok_e))))) (ok_none (ok_none (ok_some o36 (ok_some o68 (ok_some o132 (ok_some o260 ok_e ok_e) ok_e) ok_e) (ok_none ok_e (ok_some o228 ok_e ok_e))) (ok_none (ok_none (ok_some o148 ok_e ok_e) ok_e) ok_e)) (ok_none (ok_none (ok_some o76 (ok_some o140 ok_e ok_e) ok_e) (ok_none (ok_none (ok_some o300 ok_e ok_e) ok_e) ok_e)) (ok_none (ok_none ok_e (ok_some o220 ok_e ok_e)) (ok_some o124 ok_e ok_e))))) (ok_none (ok_some o10 (ok_none (ok_some o34 (ok_some o66 (ok_some o130 ok_e ok_e) ok_e) (ok_none ok_e (ok_some o226 ok_e ok_e))) (ok_none (ok_none ok_e (ok_some o210 ok_e ok_e)) (ok_some o114 (ok_some o178 ok_e ok_e) ok_e))) (ok_some o26 (ok_none (ok_none (ok_some o138 ok_e ok_e) ok_e) (ok_none (ok_some o170 (ok_some o298 ok_e ok_e) ok_e) (ok_some o234 ok_e ok_e))) (ok_none (ok_none (ok_some o154 ok_e ok_e) (ok_none (ok_some o346 ok_e ok_e) ok_e)) ok_e))) (ok_some o14 (ok_some o22 (ok_none (ok_none (ok_some o134 (ok_some o262 ok_e ok_e) ok_e) ok_e) (ok_none ok_e (ok_some o230 ok_e ok_e))) (ok_none (ok_none (ok_some o150 ok_e ok_e) ok_e) ok_e)) (ok_some o30 (ok_some o46 (ok_none (ok_some o142 ok_e ok_e) ok_e) ok_e) (ok_some o62 (ok_none ok_e (ok_some o222 ok_e ok_e)) (ok_none (ok_some o190 ok_e ok_e) ok_e))))))))
end Go.Ab.B
end
