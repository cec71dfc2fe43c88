/- The table's functions are the program's, part 1. -/
import Derived.Test.YthekpkcmlndcmaaGreatTab2
import Derived.Test.YthekpkcmlndcmaaGreatProg
import Derived.KernelRfl
namespace Go.Ab.T
open Go Go.Ab Go.Proofs
set_option maxRecDepth 100000
theorem o15 : FOk Tryz.prog 15 c15 := ⟨Tryz.f15, Tryz.func15, by kernel_rfl⟩
theorem o22 : FOk Tryz.prog 22 c22 := ⟨Tryz.f22, Tryz.func22, by kernel_rfl⟩
theorem o36 : FOk Tryz.prog 36 c36 := ⟨Tryz.f36, Tryz.func36, by kernel_rfl⟩
theorem o42 : FOk Tryz.prog 42 c42 := ⟨Tryz.f42, Tryz.func42, by kernel_rfl⟩
theorem o48 : FOk Tryz.prog 48 c48 := ⟨Tryz.f48, Tryz.func48, by kernel_rfl⟩
theorem o54 : FOk Tryz.prog 54 c54 := ⟨Tryz.f54, Tryz.func54, by kernel_rfl⟩
theorem o61 : FOk Tryz.prog 61 c61 := ⟨Tryz.f61, Tryz.func61, by kernel_rfl⟩
theorem o65 : FOk Tryz.prog 65 c65 := ⟨Tryz.f65, Tryz.func65, by kernel_rfl⟩
theorem o69 : FOk Tryz.prog 69 c69 := ⟨Tryz.f69, Tryz.func69, by kernel_rfl⟩
theorem o73 : FOk Tryz.prog 73 c73 := ⟨Tryz.f73, Tryz.func73, by kernel_rfl⟩
theorem o78 : FOk Tryz.prog 78 c78 := ⟨Tryz.f78, Tryz.func78, by kernel_rfl⟩
theorem o83 : FOk Tryz.prog 83 c83 := ⟨Tryz.f83, Tryz.func83, by kernel_rfl⟩
theorem o87 : FOk Tryz.prog 87 c87 := ⟨Tryz.f87, Tryz.func87, by kernel_rfl⟩
theorem o96 : FOk Tryz.prog 96 c96 := ⟨Tryz.f96, Tryz.func96, by kernel_rfl⟩
theorem o100 : FOk Tryz.prog 100 c100 := ⟨Tryz.f100, Tryz.func100, by kernel_rfl⟩
theorem o104 : FOk Tryz.prog 104 c104 := ⟨Tryz.f104, Tryz.func104, by kernel_rfl⟩
theorem o109 : FOk Tryz.prog 109 c109 := ⟨Tryz.f109, Tryz.func109, by kernel_rfl⟩
theorem o113 : FOk Tryz.prog 113 c113 := ⟨Tryz.f113, Tryz.func113, by kernel_rfl⟩
theorem o117 : FOk Tryz.prog 117 c117 := ⟨Tryz.f117, Tryz.func117, by kernel_rfl⟩
theorem o121 : FOk Tryz.prog 121 c121 := ⟨Tryz.f121, Tryz.func121, by kernel_rfl⟩
theorem o125 : FOk Tryz.prog 125 c125 := ⟨Tryz.f125, Tryz.func125, by kernel_rfl⟩
theorem o129 : FOk Tryz.prog 129 c129 := ⟨Tryz.f129, Tryz.func129, by kernel_rfl⟩
theorem o133 : FOk Tryz.prog 133 c133 := ⟨Tryz.f133, Tryz.func133, by kernel_rfl⟩
theorem o137 : FOk Tryz.prog 137 c137 := ⟨Tryz.f137, Tryz.func137, by kernel_rfl⟩
theorem o141 : FOk Tryz.prog 141 c141 := ⟨Tryz.f141, Tryz.func141, by kernel_rfl⟩
theorem o149 : FOk Tryz.prog 149 c149 := ⟨Tryz.f149, Tryz.func149, by kernel_rfl⟩
theorem o153 : FOk Tryz.prog 153 c153 := ⟨Tryz.f153, Tryz.func153, by kernel_rfl⟩
theorem o160 : FOk Tryz.prog 160 c160 := ⟨Tryz.f160, Tryz.func160, by kernel_rfl⟩
theorem o164 : FOk Tryz.prog 164 c164 := ⟨Tryz.f164, Tryz.func164, by kernel_rfl⟩
theorem o169 : FOk Tryz.prog 169 c169 := ⟨Tryz.f169, Tryz.func169, by kernel_rfl⟩
theorem o173 : FOk Tryz.prog 173 c173 := ⟨Tryz.f173, Tryz.func173, by kernel_rfl⟩
theorem o177 : FOk Tryz.prog 177 c177 := ⟨Tryz.f177, Tryz.func177, by kernel_rfl⟩
theorem o181 : FOk Tryz.prog 181 c181 := ⟨Tryz.f181, Tryz.func181, by kernel_rfl⟩
theorem o185 : FOk Tryz.prog 185 c185 := ⟨Tryz.f185, Tryz.func185, by kernel_rfl⟩
theorem o189 : FOk Tryz.prog 189 c189 := ⟨Tryz.f189, Tryz.func189, by kernel_rfl⟩
theorem o193 : FOk Tryz.prog 193 c193 := ⟨Tryz.f193, Tryz.func193, by kernel_rfl⟩
theorem o197 : FOk Tryz.prog 197 c197 := ⟨Tryz.f197, Tryz.func197, by kernel_rfl⟩
theorem o201 : FOk Tryz.prog 201 c201 := ⟨Tryz.f201, Tryz.func201, by kernel_rfl⟩
theorem o205 : FOk Tryz.prog 205 c205 := ⟨Tryz.f205, Tryz.func205, by kernel_rfl⟩
theorem o209 : FOk Tryz.prog 209 c209 := ⟨Tryz.f209, Tryz.func209, by kernel_rfl⟩
theorem o216 : FOk Tryz.prog 216 c216 := ⟨Tryz.f216, Tryz.func216, by kernel_rfl⟩
theorem o220 : FOk Tryz.prog 220 c220 := ⟨Tryz.f220, Tryz.func220, by kernel_rfl⟩
theorem o225 : FOk Tryz.prog 225 c225 := ⟨Tryz.f225, Tryz.func225, by kernel_rfl⟩
theorem o230 : FOk Tryz.prog 230 c230 := ⟨Tryz.f230, Tryz.func230, by kernel_rfl⟩
theorem o234 : FOk Tryz.prog 234 c234 := ⟨Tryz.f234, Tryz.func234, by kernel_rfl⟩
theorem o238 : FOk Tryz.prog 238 c238 := ⟨Tryz.f238, Tryz.func238, by kernel_rfl⟩
theorem o242 : FOk Tryz.prog 242 c242 := ⟨Tryz.f242, Tryz.func242, by kernel_rfl⟩
theorem o246 : FOk Tryz.prog 246 c246 := ⟨Tryz.f246, Tryz.func246, by kernel_rfl⟩
theorem o250 : FOk Tryz.prog 250 c250 := ⟨Tryz.f250, Tryz.func250, by kernel_rfl⟩
theorem o255 : FOk Tryz.prog 255 c255 := ⟨Tryz.f255, Tryz.func255, by kernel_rfl⟩
theorem o259 : FOk Tryz.prog 259 c259 := ⟨Tryz.f259, Tryz.func259, by kernel_rfl⟩
theorem o263 : FOk Tryz.prog 263 c263 := ⟨Tryz.f263, Tryz.func263, by kernel_rfl⟩
theorem o267 : FOk Tryz.prog 267 c267 := ⟨Tryz.f267, Tryz.func267, by kernel_rfl⟩
theorem o271 : FOk Tryz.prog 271 c271 := ⟨Tryz.f271, Tryz.func271, by kernel_rfl⟩
theorem o275 : FOk Tryz.prog 275 c275 := ⟨Tryz.f275, Tryz.func275, by kernel_rfl⟩
theorem o279 : FOk Tryz.prog 279 c279 := ⟨Tryz.f279, Tryz.func279, by kernel_rfl⟩
theorem o283 : FOk Tryz.prog 283 c283 := ⟨Tryz.f283, Tryz.func283, by kernel_rfl⟩
theorem o287 : FOk Tryz.prog 287 c287 := ⟨Tryz.f287, Tryz.func287, by kernel_rfl⟩
end Go.Ab.T
