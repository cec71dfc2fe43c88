/- The program's change by a block, loop by loop. -/
import Derived.Test.YtfdnfeillopflaaGreatBTab
import Derived.Test.YtfdnfeillopflaaGreatMh
import Derived.KernelRfl
import Derived.Test.YtfdnfeillopflaaGreatMi
noncomputable section
namespace Go.Ab.B
open Go Go.Ab
set_option maxRecDepth 100000
section
variable {E : Env} {tab : Tab} {nt : NTab} (hm : NtMono nt) {s : AS}
include hm
theorem w_rot (ht : tab.get 387 = some c387) (hn : nt.get 387 = none) (x n : Nat) (h : n ∈ [2, 6, 7, 11, 13, 17, 18, 19, 22, 25]) :
    WF E tab nt (.fn 387 [] []) [.int .u32 x, .int .i64 (-(n : Int))] s (fun v s' => v = .int .u32 (rot32 x n : Nat) ∧ s' = s) := by
  have h1 : IntKind.u64.wrap ((BitVec.ofInt IntKind.u64.bits (IntKind.u64.wrap (-(n : Int))) &&& BitVec.ofInt IntKind.u64.bits 31).toNat : Int) = ((32 - n : Nat) : Int) := by
    revert n; decide +kernel
  have h2 : IntKind.u64.wrap ((32 : Int) - ((32 - n : Nat) : Int)) = (n : Int) := by
    clear h1; revert n; decide +kernel
  refine WF.fn hn ht (show 2 ≤ _ from by decide) ?_
  refine WC.rseq hm (WS.step OpR.mv rfl (WS.nil ?_))
  refine WC.rseq hm (WS.step OpR.mv rfl (WS.step (OpR.cvInt (k' := .i64) (n := -(n : Int)) rfl) rfl (WS.step (OpR.bin (v := .int .u64 ((32 - n : Nat) : Int)) (by show some (AV.int .u64 _) = _; rw [h1])) rfl (WS.step OpR.mv rfl (WS.nil ?_)))))
  refine WC.rseq hm (WS.step OpR.mv rfl (WS.step OpR.mv rfl (WS.step (OpR.bin (u32_shl x (32 - n) .u64)) rfl (WS.step OpR.mv rfl (WS.step OpR.mv rfl (WS.step (OpR.bin (v := .int .u64 (n : Int)) (by show some (AV.int .u64 _) = _; rw [h2])) rfl
    (WS.step (OpR.bin (u32_shr x n .u64)) rfl (WS.step (OpR.bin (u32_or _ _)) rfl (WS.step OpR.mv rfl (WS.nil ?_))))))))))
  exact WC.ret ⟨fun id h => (by cases h), _, rfl, rfl, rfl⟩

theorem w_turn (ht : tab.get 346 = some c346) (hn : nt.get 346 = none) (ht' : tab.get 387 = some c387) (hn' : nt.get 387 = none) (x n : Nat) (h : n ∈ [2, 6, 7, 11, 13, 17, 18, 19, 22, 25]) :
    WF E tab nt (.fn 346 [] []) [.int .u32 x, .int .i64 (n : Int)] s (fun v s' => v = .int .u32 (rot32 x n : Nat) ∧ s' = s) := by
  have h1 : IntKind.i64.wrap (0 - (n : Int)) = -(n : Int) := by revert n; decide +kernel
  refine WF.fn hn ht (show 2 ≤ _ from by decide) ?_
  refine WC.rseq hm (WS.step OpR.mv rfl (WS.nil ?_))
  refine WC.rseq hm (WS.step OpR.mv rfl (WS.step OpR.mv rfl (WS.step (OpR.neg (k := .i64) (n := (n : Int)) rfl) rfl (WS.call hm rfl ?_))))
  rw [h1]
  refine (w_rot hm ht' hn' x n h).mono ?_
  rintro v s' ⟨rfl, rfl⟩
  refine ⟨trivial, WS.step OpR.mv rfl (WS.nil ?_)⟩
  exact WC.ret ⟨fun id h => (by cases h), _, rfl, rfl, rfl⟩
end
end Go.Ab.B
end

noncomputable section
namespace Go.Ab.B
open Go Go.Ab
set_option maxRecDepth 100000

def takeB1 : ECode := (.seq (.reg [(.one ⟨(some 18),none,(.bin .lss (.t 17) (.c (.int .i64 16)))⟩ [])]) (.seq (.cond (.t 18) .skip (.exit 0)) (.seq (.block 1 (.seq (.reg [(.one ⟨(some 19),none,(.mv (.t 17))⟩ []),(.one ⟨(some 5),none,(.mv (.t 19))⟩ [])]) (.reg [(.one ⟨(some 20),none,(.mv (.t 5))⟩ []),(.one ⟨(some 21),none,(.mv (.t 1))⟩ []),(.one ⟨(some 22),none,(.mv (.t 5))⟩ []),(.one ⟨(some 23),none,(.bin .mul (.c (.int .i64 4)) (.t 22))⟩ []),(.one ⟨(some 24),none,(.ixA 1 (.t 21) (.t 23))⟩ []),(.one ⟨(some 25),none,(.ld1 (.t 24))⟩ []),(.one ⟨(some 26),none,(.cvInt .u32 (.t 25))⟩ []),(.one ⟨(some 27),none,(.bin .shl (.t 26) (.c (.int .u64 24)))⟩ []),(.one ⟨(some 28),none,(.mv (.t 1))⟩ []),(.one ⟨(some 29),none,(.mv (.t 5))⟩ []),(.one ⟨(some 30),none,(.bin .mul (.c (.int .i64 4)) (.t 29))⟩ []),(.one ⟨(some 31),none,(.bin .add (.t 30) (.c (.int .i64 1)))⟩ []),(.one ⟨(some 32),none,(.ixA 1 (.t 28) (.t 31))⟩ []),(.one ⟨(some 33),none,(.ld1 (.t 32))⟩ []),(.one ⟨(some 34),none,(.cvInt .u32 (.t 33))⟩ []),(.one ⟨(some 35),none,(.bin .shl (.t 34) (.c (.int .u64 16)))⟩ []),(.one ⟨(some 36),none,(.bin .or (.t 27) (.t 35))⟩ []),(.one ⟨(some 37),none,(.mv (.t 1))⟩ []),(.one ⟨(some 38),none,(.mv (.t 5))⟩ []),(.one ⟨(some 39),none,(.bin .mul (.c (.int .i64 4)) (.t 38))⟩ []),(.one ⟨(some 40),none,(.bin .add (.t 39) (.c (.int .i64 2)))⟩ []),(.one ⟨(some 41),none,(.ixA 1 (.t 37) (.t 40))⟩ []),(.one ⟨(some 42),none,(.ld1 (.t 41))⟩ []),(.one ⟨(some 43),none,(.cvInt .u32 (.t 42))⟩ []),(.one ⟨(some 44),none,(.bin .shl (.t 43) (.c (.int .u64 8)))⟩ []),(.one ⟨(some 45),none,(.bin .or (.t 36) (.t 44))⟩ []),(.one ⟨(some 46),none,(.mv (.t 1))⟩ []),(.one ⟨(some 47),none,(.mv (.t 5))⟩ []),(.one ⟨(some 48),none,(.bin .mul (.c (.int .i64 4)) (.t 47))⟩ []),(.one ⟨(some 49),none,(.bin .add (.t 48) (.c (.int .i64 3)))⟩ []),(.one ⟨(some 50),none,(.ixA 1 (.t 46) (.t 49))⟩ []),(.one ⟨(some 51),none,(.ld1 (.t 50))⟩ []),(.one ⟨(some 52),none,(.cvInt .u32 (.t 51))⟩ []),(.one ⟨(some 53),none,(.bin .or (.t 45) (.t 52))⟩ []),(.one ⟨(some 54),none,(.ixAA 64 1 (.t 4) (.t 20))⟩ []),(.one ⟨none,none,(.st 1 (.t 54) (.t 53))⟩ [])]))) (.reg [(.one ⟨(some 55),none,(.bin .add (.t 17) (.c (.int .i64 1)))⟩ []),(.one ⟨(some 17),none,(.mv (.t 55))⟩ [])]))))

def takeB2 : ECode := (.seq (.seq (.reg [(.one ⟨(some 56),none,(.mv (.t 6))⟩ []),(.one ⟨(some 57),none,(.bin .lss (.t 56) (.c (.int .i64 64)))⟩ [])]) (.cond (.t 57) .skip (.exit 2))) (.seq (.block 3 (.seq (.reg [(.one ⟨(some 60),none,(.mv (.t 6))⟩ []),(.one ⟨(some 61),none,(.bin .sub (.t 60) (.c (.int .i64 15)))⟩ []),(.one ⟨(some 62),none,(.ixAA 64 1 (.t 4) (.t 61))⟩ []),(.one ⟨(some 63),none,(.ld1 (.t 62))⟩ []),(.one ⟨(some 64),none,(.mv (.t 6))⟩ []),(.one ⟨(some 65),none,(.bin .sub (.t 64) (.c (.int .i64 2)))⟩ []),(.one ⟨(some 66),none,(.ixAA 64 1 (.t 4) (.t 65))⟩ []),(.one ⟨(some 67),none,(.ld1 (.t 66))⟩ []),(.one ⟨(some 7),none,(.mv (.t 63))⟩ []),(.one ⟨(some 8),none,(.mv (.t 67))⟩ [])]) (.reg [(.one ⟨(some 68),none,(.mv (.t 6))⟩ []),(.one ⟨(some 69),none,(.mv (.t 6))⟩ []),(.one ⟨(some 70),none,(.bin .sub (.t 69) (.c (.int .i64 16)))⟩ []),(.one ⟨(some 71),none,(.ixAA 64 1 (.t 4) (.t 70))⟩ []),(.one ⟨(some 72),none,(.ld1 (.t 71))⟩ []),(.one ⟨(some 73),none,(.mv (.t 7))⟩ []),(.one ⟨(some 75),none,(.mv (.t 7))⟩ []),(.one ⟨(some 78),none,(.mv (.t 7))⟩ []),(.one ⟨(some 79),none,(.bin .shr (.t 78) (.c (.int .u64 3)))⟩ []),(.one ⟨(some 82),none,(.mv (.t 6))⟩ []),(.one ⟨(some 83),none,(.bin .sub (.t 82) (.c (.int .i64 7)))⟩ []),(.one ⟨(some 84),none,(.ixAA 64 1 (.t 4) (.t 83))⟩ []),(.one ⟨(some 85),none,(.ld1 (.t 84))⟩ []),(.one ⟨(some 87),none,(.mv (.t 8))⟩ []),(.one ⟨(some 89),none,(.mv (.t 8))⟩ []),(.one ⟨(some 92),none,(.mv (.t 8))⟩ []),(.one ⟨(some 93),none,(.bin .shr (.t 92) (.c (.int .u64 10)))⟩ []),(.one ⟨(some 74),none,(.call (.c (.fn 346 [] [])) [(.t 73),(.c (.int .i64 7))])⟩ [⟨(some 72),none,(.ld1 (.t 71))⟩,⟨(some 85),none,(.ld1 (.t 84))⟩]),(.one ⟨(some 76),none,(.call (.c (.fn 346 [] [])) [(.t 75),(.c (.int .i64 18))])⟩ [⟨(some 72),none,(.ld1 (.t 71))⟩,⟨(some 85),none,(.ld1 (.t 84))⟩]),(.one ⟨(some 77),none,(.bin .xor (.t 74) (.t 76))⟩ []),(.one ⟨(some 80),none,(.bin .xor (.t 77) (.t 79))⟩ []),(.one ⟨(some 81),none,(.bin .add (.t 72) (.t 80))⟩ []),(.one ⟨(some 86),none,(.bin .add (.t 81) (.t 85))⟩ []),(.one ⟨(some 88),none,(.call (.c (.fn 346 [] [])) [(.t 87),(.c (.int .i64 17))])⟩ [⟨(some 72),none,(.ld1 (.t 71))⟩,⟨(some 85),none,(.ld1 (.t 84))⟩]),(.one ⟨(some 90),none,(.call (.c (.fn 346 [] [])) [(.t 89),(.c (.int .i64 19))])⟩ [⟨(some 72),none,(.ld1 (.t 71))⟩,⟨(some 85),none,(.ld1 (.t 84))⟩]),(.one ⟨(some 91),none,(.bin .xor (.t 88) (.t 90))⟩ []),(.one ⟨(some 94),none,(.bin .xor (.t 91) (.t 93))⟩ []),(.one ⟨(some 95),none,(.bin .add (.t 86) (.t 94))⟩ []),(.one ⟨(some 96),none,(.ixAA 64 1 (.t 4) (.t 68))⟩ []),(.one ⟨none,none,(.st 1 (.t 96) (.t 95))⟩ [])]))) (.reg [(.one ⟨(some 58),none,(.mv (.t 6))⟩ []),(.one ⟨(some 59),none,(.bin .add (.t 58) (.c (.int .i64 1)))⟩ []),(.one ⟨(some 6),none,(.mv (.t 59))⟩ [])])))

def takeB3 : ECode := (.seq (.reg [(.one ⟨(some 102),none,(.bin .lss (.t 101) (.c (.int .i64 64)))⟩ [])]) (.seq (.cond (.t 102) .skip (.exit 4)) (.seq (.block 5 (.seq (.reg [(.one ⟨(some 103),none,(.mv (.t 101))⟩ []),(.one ⟨(some 104),none,(.ixV 64 1 false (.t 100) (.t 101))⟩ []),(.one ⟨(some 10),none,(.mv (.t 103))⟩ []),(.one ⟨(some 11),none,(.mv (.t 104))⟩ [])]) (.seq (.reg [(.one ⟨(some 105),none,(.ixAA 8 1 (.t 9) (.c (.int .i64 0)))⟩ []),(.one ⟨(some 106),none,(.ld1 (.t 105))⟩ []),(.one ⟨(some 107),none,(.ixAA 8 1 (.t 9) (.c (.int .i64 4)))⟩ []),(.one ⟨(some 108),none,(.ld1 (.t 107))⟩ []),(.one ⟨(some 12),none,(.mv (.t 106))⟩ []),(.one ⟨(some 13),none,(.mv (.t 108))⟩ [])]) (.seq (.reg [(.one ⟨(some 109),none,(.ixAA 8 1 (.t 9) (.c (.int .i64 7)))⟩ []),(.one ⟨(some 110),none,(.ld1 (.t 109))⟩ []),(.one ⟨(some 111),none,(.mv (.t 13))⟩ []),(.one ⟨(some 113),none,(.mv (.t 13))⟩ []),(.one ⟨(some 116),none,(.mv (.t 13))⟩ []),(.one ⟨(some 120),none,(.mv (.t 13))⟩ []),(.one ⟨(some 121),none,(.ixAA 8 1 (.t 9) (.c (.int .i64 5)))⟩ []),(.one ⟨(some 122),none,(.ld1 (.t 121))⟩ []),(.one ⟨(some 123),none,(.bin .and (.t 120) (.t 122))⟩ []),(.one ⟨(some 124),none,(.mv (.t 13))⟩ []),(.one ⟨(some 125),none,(.un .xor (.t 124))⟩ []),(.one ⟨(some 126),none,(.ixAA 8 1 (.t 9) (.c (.int .i64 6)))⟩ []),(.one ⟨(some 127),none,(.ld1 (.t 126))⟩ []),(.one ⟨(some 128),none,(.bin .and (.t 125) (.t 127))⟩ []),(.one ⟨(some 129),none,(.bin .xor (.t 123) (.t 128))⟩ []),(.one ⟨(some 131),none,(.mv (.t 11))⟩ []),(.one ⟨(some 133),none,(.mv (.t 10))⟩ []),(.one ⟨(some 134),none,(.ixAA 64 1 (.t 4) (.t 133))⟩ []),(.one ⟨(some 135),none,(.ld1 (.t 134))⟩ []),(.one ⟨(some 112),none,(.call (.c (.fn 346 [] [])) [(.t 111),(.c (.int .i64 6))])⟩ [⟨(some 110),none,(.ld1 (.t 109))⟩,⟨(some 122),none,(.ld1 (.t 121))⟩,⟨(some 127),none,(.ld1 (.t 126))⟩,⟨(some 135),none,(.ld1 (.t 134))⟩]),(.one ⟨(some 114),none,(.call (.c (.fn 346 [] [])) [(.t 113),(.c (.int .i64 11))])⟩ [⟨(some 110),none,(.ld1 (.t 109))⟩,⟨(some 122),none,(.ld1 (.t 121))⟩,⟨(some 127),none,(.ld1 (.t 126))⟩,⟨(some 135),none,(.ld1 (.t 134))⟩]),(.one ⟨(some 115),none,(.bin .xor (.t 112) (.t 114))⟩ []),(.one ⟨(some 117),none,(.call (.c (.fn 346 [] [])) [(.t 116),(.c (.int .i64 25))])⟩ [⟨(some 110),none,(.ld1 (.t 109))⟩,⟨(some 122),none,(.ld1 (.t 121))⟩,⟨(some 127),none,(.ld1 (.t 126))⟩,⟨(some 135),none,(.ld1 (.t 134))⟩]),(.one ⟨(some 118),none,(.bin .xor (.t 115) (.t 117))⟩ []),(.one ⟨(some 119),none,(.bin .add (.t 110) (.t 118))⟩ []),(.one ⟨(some 130),none,(.bin .add (.t 119) (.t 129))⟩ []),(.one ⟨(some 132),none,(.bin .add (.t 130) (.t 131))⟩ []),(.one ⟨(some 136),none,(.bin .add (.t 132) (.t 135))⟩ []),(.one ⟨(some 14),none,(.mv (.t 136))⟩ [])]) (.seq (.reg [(.one ⟨(some 137),none,(.mv (.t 12))⟩ []),(.one ⟨(some 139),none,(.mv (.t 12))⟩ []),(.one ⟨(some 142),none,(.mv (.t 12))⟩ []),(.one ⟨(some 145),none,(.mv (.t 12))⟩ []),(.one ⟨(some 146),none,(.ixAA 8 1 (.t 9) (.c (.int .i64 1)))⟩ []),(.one ⟨(some 147),none,(.ld1 (.t 146))⟩ []),(.one ⟨(some 148),none,(.bin .and (.t 145) (.t 147))⟩ []),(.one ⟨(some 149),none,(.mv (.t 12))⟩ []),(.one ⟨(some 150),none,(.ixAA 8 1 (.t 9) (.c (.int .i64 2)))⟩ []),(.one ⟨(some 151),none,(.ld1 (.t 150))⟩ []),(.one ⟨(some 152),none,(.bin .and (.t 149) (.t 151))⟩ []),(.one ⟨(some 153),none,(.bin .xor (.t 148) (.t 152))⟩ []),(.one ⟨(some 154),none,(.ixAA 8 1 (.t 9) (.c (.int .i64 1)))⟩ []),(.one ⟨(some 155),none,(.ld1 (.t 154))⟩ []),(.one ⟨(some 156),none,(.ixAA 8 1 (.t 9) (.c (.int .i64 2)))⟩ []),(.one ⟨(some 157),none,(.ld1 (.t 156))⟩ []),(.one ⟨(some 158),none,(.bin .and (.t 155) (.t 157))⟩ []),(.one ⟨(some 159),none,(.bin .xor (.t 153) (.t 158))⟩ []),(.one ⟨(some 138),none,(.call (.c (.fn 346 [] [])) [(.t 137),(.c (.int .i64 2))])⟩ [⟨(some 147),none,(.ld1 (.t 146))⟩,⟨(some 151),none,(.ld1 (.t 150))⟩,⟨(some 155),none,(.ld1 (.t 154))⟩,⟨(some 157),none,(.ld1 (.t 156))⟩]),(.one ⟨(some 140),none,(.call (.c (.fn 346 [] [])) [(.t 139),(.c (.int .i64 13))])⟩ [⟨(some 147),none,(.ld1 (.t 146))⟩,⟨(some 151),none,(.ld1 (.t 150))⟩,⟨(some 155),none,(.ld1 (.t 154))⟩,⟨(some 157),none,(.ld1 (.t 156))⟩]),(.one ⟨(some 141),none,(.bin .xor (.t 138) (.t 140))⟩ []),(.one ⟨(some 143),none,(.call (.c (.fn 346 [] [])) [(.t 142),(.c (.int .i64 22))])⟩ [⟨(some 147),none,(.ld1 (.t 146))⟩,⟨(some 151),none,(.ld1 (.t 150))⟩,⟨(some 155),none,(.ld1 (.t 154))⟩,⟨(some 157),none,(.ld1 (.t 156))⟩]),(.one ⟨(some 144),none,(.bin .xor (.t 141) (.t 143))⟩ []),(.one ⟨(some 160),none,(.bin .add (.t 144) (.t 159))⟩ []),(.one ⟨(some 15),none,(.mv (.t 160))⟩ [])]) (.reg [(.one ⟨(some 161),none,(.mv (.t 14))⟩ []),(.one ⟨(some 162),none,(.mv (.t 15))⟩ []),(.one ⟨(some 163),none,(.bin .add (.t 161) (.t 162))⟩ []),(.one ⟨(some 164),none,(.mv (.t 12))⟩ []),(.one ⟨(some 165),none,(.ixAA 8 1 (.t 9) (.c (.int .i64 1)))⟩ []),(.one ⟨(some 166),none,(.ld1 (.t 165))⟩ []),(.one ⟨(some 167),none,(.ixAA 8 1 (.t 9) (.c (.int .i64 2)))⟩ []),(.one ⟨(some 168),none,(.ld1 (.t 167))⟩ []),(.one ⟨(some 169),none,(.ixAA 8 1 (.t 9) (.c (.int .i64 3)))⟩ []),(.one ⟨(some 170),none,(.ld1 (.t 169))⟩ []),(.one ⟨(some 171),none,(.mv (.t 14))⟩ []),(.one ⟨(some 172),none,(.bin .add (.t 170) (.t 171))⟩ []),(.one ⟨(some 173),none,(.mv (.t 13))⟩ []),(.one ⟨(some 174),none,(.ixAA 8 1 (.t 9) (.c (.int .i64 5)))⟩ []),(.one ⟨(some 175),none,(.ld1 (.t 174))⟩ []),(.one ⟨(some 176),none,(.ixAA 8 1 (.t 9) (.c (.int .i64 6)))⟩ []),(.one ⟨(some 177),none,(.ld1 (.t 176))⟩ []),(.one ⟨(some 178),none,(.build [(.int .u32 0),(.int .u32 0),(.int .u32 0),(.int .u32 0),(.int .u32 0),(.int .u32 0),(.int .u32 0),(.int .u32 0)] [(0,1,(.t 163)),(1,1,(.t 164)),(2,1,(.t 166)),(3,1,(.t 168)),(4,1,(.t 172)),(5,1,(.t 173)),(6,1,(.t 175)),(7,1,(.t 177))])⟩ []),(.one ⟨none,none,(.st 8 (.t 9) (.t 178))⟩ [])])))))) (.reg [(.one ⟨(some 179),none,(.bin .add (.t 101) (.c (.int .i64 1)))⟩ []),(.one ⟨(some 101),none,(.mv (.t 179))⟩ [])]))))

def takeB4 : ECode := (.seq (.reg [(.one ⟨(some 181),none,(.bin .lss (.t 180) (.c (.int .i64 8)))⟩ [])]) (.seq (.cond (.t 181) .skip (.exit 6)) (.seq (.block 7 (.seq (.reg [(.one ⟨(some 182),none,(.mv (.t 180))⟩ []),(.one ⟨(some 16),none,(.mv (.t 182))⟩ [])]) (.reg [(.one ⟨(some 183),none,(.mv (.t 0))⟩ []),(.one ⟨(some 184),none,(.mv (.t 16))⟩ []),(.one ⟨(some 185),none,(.nilck (.t 183))⟩ []),(.one ⟨(some 186),none,(.ixAA 8 1 (.t 185) (.t 184))⟩ []),(.one ⟨(some 187),none,(.ld1 (.t 186))⟩ []),(.one ⟨(some 188),none,(.mv (.t 16))⟩ []),(.one ⟨(some 189),none,(.ixAA 8 1 (.t 9) (.t 188))⟩ []),(.one ⟨(some 190),none,(.ld1 (.t 189))⟩ []),(.one ⟨(some 191),none,(.bin .add (.t 187) (.t 190))⟩ []),(.one ⟨(some 192),none,(.nilck (.t 183))⟩ []),(.one ⟨(some 193),none,(.ixAA 8 1 (.t 192) (.t 184))⟩ []),(.one ⟨none,none,(.st 1 (.t 193) (.t 191))⟩ [])]))) (.reg [(.one ⟨(some 194),none,(.bin .add (.t 180) (.c (.int .i64 1)))⟩ []),(.one ⟨(some 180),none,(.mv (.t 194))⟩ [])]))))

section
variable {E : Env} {tab : Tab} {nt : NTab} (hm : NtMono nt)

include hm in
theorem take_l1 {H : AV} {W ba bj bo : Nat} {cap : Cap} {b : Nat → Nat} (hb : ba ≠ W) {s1 : AS} (hB : ∀ i, i < 64 → s1.rd ba bj (bo + i) = some (.int .u8 ((b i : Nat) : Int))) (hO : Own s1 W 0 0 64 (fun _ => .int .u32 0))
    {τ : Nat → AV} (h17 : τ 17 = .int .i64 0) (h0 : τ 0 = H) (h1 : τ 1 = .sl ba bj bo 64 cap) (h4 : τ 4 = .ptr W 0 0) {Q : Ex → (Nat → AV) → AS → Prop}
    (hQ : ∀ τ s, τ 0 = H → τ 1 = .sl ba bj bo 64 cap → τ 4 = .ptr W 0 0 → Only W s1 s → Own s W 0 0 64 (fun i => if i < 16 then .int .u32 ((shaSch b i : Nat) : Int) else .int .u32 0) → Q (.exit 0) τ s) : WC E tab nt (.loop takeB1) τ s1 Q := by
  refine WC.loop hm (fun τ s => ∃ t : Nat, t ≤ 16 ∧ τ 17 = .int .i64 ((t : Nat) : Int) ∧ τ 0 = H ∧ τ 1 = .sl ba bj bo 64 cap ∧ τ 4 = .ptr W 0 0 ∧ Only W s1 s ∧ Own s W 0 0 64 (fun i => if i < t then .int .u32 ((shaSch b i : Nat) : Int) else .int .u32 0)) (fun τ _ => 16 - natAt (τ 17)) ?_ ⟨0, by omega, h17, h0, h1, h4, .refl _ _, by simpa using hO⟩
  rintro τ s ⟨t, ht, h17, h0, h1, h4, hs, ho⟩
  have hB1 : ∀ i, i < 64 → s.rd ba bj (bo + i * 1) = some (.int .u8 ((b i : Nat) : Int)) := fun i hi => by rw [Nat.mul_one, hs.rd hb]; exact hB i hi
  obtain ⟨ρ, rfl⟩ : ∃ ρ, τ = upd (upd (upd (upd ρ 17 (.int .i64 ((t : Nat) : Int))) 0 H) 1 (.sl ba bj bo 64 cap)) 4 (.ptr W 0 0) := ⟨τ, by rw [upd_self h17, upd_self h0, upd_self h1, upd_self h4]⟩
  refine WC.rseq hm ?_
  refine WS.step (v := (.bool (decide (t < 16)))) (OpR.bin (i64_lss (t) (16))) rfl ?_
  refine WS.nil ?_
  by_cases hlt : t < 16
  · refine WC.seq hm (WC.cond (b := true) (congrArg AV.bool (decide_eq_true hlt)) (WC.skip ?_))
    refine WC.seq hm (WC.block (WC.rseq hm ?_))
    refine WS.step (v := (.int .i64 ((t : Nat) : Int))) OpR.mv rfl ?_
    refine WS.step (v := (.int .i64 ((t : Nat) : Int))) OpR.mv rfl ?_
    refine WS.nil (WC.reg ?_)
    refine WS.step (v := (.int .i64 ((t : Nat) : Int))) OpR.mv rfl ?_
    refine WS.step (v := (.sl ba bj bo 64 cap)) OpR.mv rfl ?_
    refine WS.step (v := (.int .i64 ((t : Nat) : Int))) OpR.mv rfl ?_
    refine WS.step (v := (.int .i64 ((4 * t : Nat) : Int))) (OpR.bin (i64_mul (4) (t) (by omega))) rfl ?_
    refine WS.step (v := (.ptr ba bj (bo + (4 * t) * 1))) (OpR.ixA (k := .i64) (m := 4 * t) rfl rfl (by omega)) rfl ?_
    refine WS.step (v := (.int .u8 ((b (4 * t) : Nat) : Int))) (OpR.ld1 rfl (hB1 (4 * t) (by omega))) rfl ?_
    refine WS.step (v := (.int .u32 ((b (4 * t) % 4294967296 : Nat) : Int))) ((u32_cv (b (4 * t))) ▸ OpR.cvInt (k := .u32) (k' := .u8) (n := ((b (4 * t) : Nat) : Int)) rfl) rfl ?_
    refine WS.step (v := (.int .u32 ((shl32 (b (4 * t) % 4294967296) 24 : Nat) : Int))) (OpR.bin (u32_shl (b (4 * t) % 4294967296) 24 .u64)) rfl ?_
    refine WS.step (v := (.sl ba bj bo 64 cap)) OpR.mv rfl ?_
    refine WS.step (v := (.int .i64 ((t : Nat) : Int))) OpR.mv rfl ?_
    refine WS.step (v := (.int .i64 ((4 * t : Nat) : Int))) (OpR.bin (i64_mul (4) (t) (by omega))) rfl ?_
    refine WS.step (v := (.int .i64 ((4 * t + 1 : Nat) : Int))) (OpR.bin (i64_add (4 * t) (1) (by omega))) rfl ?_
    refine WS.step (v := (.ptr ba bj (bo + (4 * t + 1) * 1))) (OpR.ixA (k := .i64) (m := 4 * t + 1) rfl rfl (by omega)) rfl ?_
    refine WS.step (v := (.int .u8 ((b (4 * t + 1) : Nat) : Int))) (OpR.ld1 rfl (hB1 (4 * t + 1) (by omega))) rfl ?_
    refine WS.step (v := (.int .u32 ((b (4 * t + 1) % 4294967296 : Nat) : Int))) ((u32_cv (b (4 * t + 1))) ▸ OpR.cvInt (k := .u32) (k' := .u8) (n := ((b (4 * t + 1) : Nat) : Int)) rfl) rfl ?_
    refine WS.step (v := (.int .u32 ((shl32 (b (4 * t + 1) % 4294967296) 16 : Nat) : Int))) (OpR.bin (u32_shl (b (4 * t + 1) % 4294967296) 16 .u64)) rfl ?_
    refine WS.step (v := (.int .u32 ((or32 (shl32 (b (4 * t) % 4294967296) 24) (shl32 (b (4 * t + 1) % 4294967296) 16) : Nat) : Int))) (OpR.bin (u32_or (shl32 (b (4 * t) % 4294967296) 24) (shl32 (b (4 * t + 1) % 4294967296) 16))) rfl ?_
    refine WS.step (v := (.sl ba bj bo 64 cap)) OpR.mv rfl ?_
    refine WS.step (v := (.int .i64 ((t : Nat) : Int))) OpR.mv rfl ?_
    refine WS.step (v := (.int .i64 ((4 * t : Nat) : Int))) (OpR.bin (i64_mul (4) (t) (by omega))) rfl ?_
    refine WS.step (v := (.int .i64 ((4 * t + 2 : Nat) : Int))) (OpR.bin (i64_add (4 * t) (2) (by omega))) rfl ?_
    refine WS.step (v := (.ptr ba bj (bo + (4 * t + 2) * 1))) (OpR.ixA (k := .i64) (m := 4 * t + 2) rfl rfl (by omega)) rfl ?_
    refine WS.step (v := (.int .u8 ((b (4 * t + 2) : Nat) : Int))) (OpR.ld1 rfl (hB1 (4 * t + 2) (by omega))) rfl ?_
    refine WS.step (v := (.int .u32 ((b (4 * t + 2) % 4294967296 : Nat) : Int))) ((u32_cv (b (4 * t + 2))) ▸ OpR.cvInt (k := .u32) (k' := .u8) (n := ((b (4 * t + 2) : Nat) : Int)) rfl) rfl ?_
    refine WS.step (v := (.int .u32 ((shl32 (b (4 * t + 2) % 4294967296) 8 : Nat) : Int))) (OpR.bin (u32_shl (b (4 * t + 2) % 4294967296) 8 .u64)) rfl ?_
    refine WS.step (v := (.int .u32 ((or32 (or32 (shl32 (b (4 * t) % 4294967296) 24) (shl32 (b (4 * t + 1) % 4294967296) 16)) (shl32 (b (4 * t + 2) % 4294967296) 8) : Nat) : Int))) (OpR.bin (u32_or (or32 (shl32 (b (4 * t) % 4294967296) 24) (shl32 (b (4 * t + 1) % 4294967296) 16)) (shl32 (b (4 * t + 2) % 4294967296) 8))) rfl ?_
    refine WS.step (v := (.sl ba bj bo 64 cap)) OpR.mv rfl ?_
    refine WS.step (v := (.int .i64 ((t : Nat) : Int))) OpR.mv rfl ?_
    refine WS.step (v := (.int .i64 ((4 * t : Nat) : Int))) (OpR.bin (i64_mul (4) (t) (by omega))) rfl ?_
    refine WS.step (v := (.int .i64 ((4 * t + 3 : Nat) : Int))) (OpR.bin (i64_add (4 * t) (3) (by omega))) rfl ?_
    refine WS.step (v := (.ptr ba bj (bo + (4 * t + 3) * 1))) (OpR.ixA (k := .i64) (m := 4 * t + 3) rfl rfl (by omega)) rfl ?_
    refine WS.step (v := (.int .u8 ((b (4 * t + 3) : Nat) : Int))) (OpR.ld1 rfl (hB1 (4 * t + 3) (by omega))) rfl ?_
    refine WS.step (v := (.int .u32 ((b (4 * t + 3) % 4294967296 : Nat) : Int))) ((u32_cv (b (4 * t + 3))) ▸ OpR.cvInt (k := .u32) (k' := .u8) (n := ((b (4 * t + 3) : Nat) : Int)) rfl) rfl ?_
    refine WS.step (v := (.int .u32 ((or32 (or32 (or32 (shl32 (b (4 * t) % 4294967296) 24) (shl32 (b (4 * t + 1) % 4294967296) 16)) (shl32 (b (4 * t + 2) % 4294967296) 8)) (b (4 * t + 3) % 4294967296) : Nat) : Int))) (OpR.bin (u32_or (or32 (or32 (shl32 (b (4 * t) % 4294967296) 24) (shl32 (b (4 * t + 1) % 4294967296) 16)) (shl32 (b (4 * t + 2) % 4294967296) 8)) (b (4 * t + 3) % 4294967296))) rfl ?_
    refine WS.step (v := (.ptr W 0 (0 + (t) * 1))) (OpR.ixAA (k := .i64) (m := t) rfl rfl (by omega)) rfl ?_
    obtain ⟨s', hw, hk, hn⟩ := ho.wrN (i := t) (l := [(.int .u32 ((or32 (or32 (or32 (shl32 (b (4 * t) % 4294967296) 24) (shl32 (b (4 * t + 1) % 4294967296) 16)) (shl32 (b (4 * t + 2) % 4294967296) 8)) (b (4 * t + 3) % 4294967296) : Nat) : Int))]) (by simp; omega) (by simp [leaf])
    rw [show 0 + t = 0 + t * 1 from by omega] at hw
    refine WS.step (v := .undef) (s' := s') (OpR.st rfl rfl rfl hw) rfl (WS.nil ?_)
    refine WC.reg ?_
    refine WS.step (v := (.int .i64 ((t + 1 : Nat) : Int))) (OpR.bin (i64_add (t) (1) (by omega))) rfl ?_
    refine WS.step (v := (.int .i64 ((t + 1 : Nat) : Int))) OpR.mv rfl ?_
    refine WS.nil ⟨⟨t + 1, by omega, rfl, rfl, rfl, rfl, hs.trans hk, hn.congr fun i hi => ?_⟩, ?_⟩
    · by_cases h5 : t ≤ i ∧ i < t + 1
      · obtain rfl : i = t := by omega
        rw [if_pos (by simp), if_pos (by omega)]
        simp only [Nat.sub_self, List.getD_cons_zero]
        rw [shaSch, if_pos hlt]; rfl
      · rw [if_neg (by simpa using h5)]
        by_cases h6 : i < t
        · rw [if_pos h6, if_pos (by omega)]
        · rw [if_neg h6, if_neg (by omega)]
    · show 16 - (t + 1) < 16 - t; omega
  · refine WC.seq hm (WC.cond (b := false) (congrArg AV.bool (decide_eq_false hlt)) (WC.exit ?_))
    obtain rfl : t = 16 := by omega
    exact hQ _ _ rfl rfl rfl hs ho

include hm in
theorem take_l2 (hT : tab.get 346 = some c346) (hTn : nt.get 346 = none) (hR : tab.get 387 = some c387) (hRn : nt.get 387 = none) {H : AV} {W : Nat} {b : Nat → Nat} {s1 : AS} (hO : Own s1 W 0 0 64 (fun i => if i < 16 then .int .u32 ((shaSch b i : Nat) : Int) else .int .u32 0))
    {τ : Nat → AV} (h6 : τ 6 = .int .i64 16) (h0 : τ 0 = H) (h4 : τ 4 = .ptr W 0 0) {Q : Ex → (Nat → AV) → AS → Prop}
    (hQ : ∀ τ s, τ 0 = H → τ 4 = .ptr W 0 0 → Only W s1 s → Own s W 0 0 64 (fun i => .int .u32 ((shaSch b i : Nat) : Int)) → Q (.exit 2) τ s) : WC E tab nt (.loop takeB2) τ s1 Q := by
  refine WC.loop hm (fun τ s => ∃ t : Nat, 16 ≤ t ∧ t ≤ 64 ∧ τ 6 = .int .i64 ((t : Nat) : Int) ∧ τ 0 = H ∧ τ 4 = .ptr W 0 0 ∧ Only W s1 s ∧ Own s W 0 0 64 (fun i => if i < t then .int .u32 ((shaSch b i : Nat) : Int) else .int .u32 0)) (fun τ _ => 64 - natAt (τ 6)) ?_ ⟨16, by omega, by omega, h6, h0, h4, .refl _ _, hO⟩
  rintro τ s ⟨t, ht, ht2, h6, h0, h4, hs, ho⟩
  have hW1 : ∀ i, i < t → s.rd W 0 (0 + i * 1) = some (.int .u32 ((shaSch b i : Nat) : Int)) := fun i hi => by rw [Nat.mul_one, ho.rd (by omega), if_pos hi]
  obtain ⟨ρ, rfl⟩ : ∃ ρ, τ = upd (upd (upd ρ 6 (.int .i64 ((t : Nat) : Int))) 0 H) 4 (.ptr W 0 0) := ⟨τ, by rw [upd_self h6, upd_self h0, upd_self h4]⟩
  refine WC.seq hm (WC.rseq hm ?_)
  refine WS.step (v := (.int .i64 ((t : Nat) : Int))) OpR.mv rfl ?_
  refine WS.step (v := (.bool (decide (t < 64)))) (OpR.bin (i64_lss (t) (64))) rfl ?_
  refine WS.nil ?_
  by_cases hlt : t < 64
  · refine WC.cond (b := true) (congrArg AV.bool (decide_eq_true hlt)) (WC.skip ?_)
    refine WC.seq hm (WC.block (WC.rseq hm ?_))
    refine WS.step (v := (.int .i64 ((t : Nat) : Int))) OpR.mv rfl ?_
    refine WS.step (v := (.int .i64 ((t - 15 : Nat) : Int))) (OpR.bin (i64_sub (t) (15) (by omega) (by omega))) rfl ?_
    refine WS.step (v := (.ptr W 0 (0 + (t - 15) * 1))) (OpR.ixAA (k := .i64) (m := t - 15) rfl rfl (by omega)) rfl ?_
    refine WS.step (v := (.int .u32 ((shaSch b (t - 15) : Nat) : Int))) (OpR.ld1 rfl (hW1 (t - 15) (by omega))) rfl ?_
    refine WS.step (v := (.int .i64 ((t : Nat) : Int))) OpR.mv rfl ?_
    refine WS.step (v := (.int .i64 ((t - 2 : Nat) : Int))) (OpR.bin (i64_sub (t) (2) (by omega) (by omega))) rfl ?_
    refine WS.step (v := (.ptr W 0 (0 + (t - 2) * 1))) (OpR.ixAA (k := .i64) (m := t - 2) rfl rfl (by omega)) rfl ?_
    refine WS.step (v := (.int .u32 ((shaSch b (t - 2) : Nat) : Int))) (OpR.ld1 rfl (hW1 (t - 2) (by omega))) rfl ?_
    refine WS.step (v := (.int .u32 ((shaSch b (t - 15) : Nat) : Int))) OpR.mv rfl ?_
    refine WS.step (v := (.int .u32 ((shaSch b (t - 2) : Nat) : Int))) OpR.mv rfl ?_
    refine WS.nil (WC.reg ?_)
    refine WS.step (v := (.int .i64 ((t : Nat) : Int))) OpR.mv rfl ?_
    refine WS.step (v := (.int .i64 ((t : Nat) : Int))) OpR.mv rfl ?_
    refine WS.step (v := (.int .i64 ((t - 16 : Nat) : Int))) (OpR.bin (i64_sub (t) (16) (by omega) (by omega))) rfl ?_
    refine WS.step (v := (.ptr W 0 (0 + (t - 16) * 1))) (OpR.ixAA (k := .i64) (m := t - 16) rfl rfl (by omega)) rfl ?_
    refine WS.step (v := (.int .u32 ((shaSch b (t - 16) : Nat) : Int))) (OpR.ld1 rfl (hW1 (t - 16) (by omega))) rfl ?_
    refine WS.step (v := (.int .u32 ((shaSch b (t - 15) : Nat) : Int))) OpR.mv rfl ?_
    refine WS.step (v := (.int .u32 ((shaSch b (t - 15) : Nat) : Int))) OpR.mv rfl ?_
    refine WS.step (v := (.int .u32 ((shaSch b (t - 15) : Nat) : Int))) OpR.mv rfl ?_
    refine WS.step (v := (.int .u32 ((shr32 (shaSch b (t - 15)) 3 : Nat) : Int))) (OpR.bin (u32_shr (shaSch b (t - 15)) 3 .u64)) rfl ?_
    refine WS.step (v := (.int .i64 ((t : Nat) : Int))) OpR.mv rfl ?_
    refine WS.step (v := (.int .i64 ((t - 7 : Nat) : Int))) (OpR.bin (i64_sub (t) (7) (by omega) (by omega))) rfl ?_
    refine WS.step (v := (.ptr W 0 (0 + (t - 7) * 1))) (OpR.ixAA (k := .i64) (m := t - 7) rfl rfl (by omega)) rfl ?_
    refine WS.step (v := (.int .u32 ((shaSch b (t - 7) : Nat) : Int))) (OpR.ld1 rfl (hW1 (t - 7) (by omega))) rfl ?_
    refine WS.step (v := (.int .u32 ((shaSch b (t - 2) : Nat) : Int))) OpR.mv rfl ?_
    refine WS.step (v := (.int .u32 ((shaSch b (t - 2) : Nat) : Int))) OpR.mv rfl ?_
    refine WS.step (v := (.int .u32 ((shaSch b (t - 2) : Nat) : Int))) OpR.mv rfl ?_
    refine WS.step (v := (.int .u32 ((shr32 (shaSch b (t - 2)) 10 : Nat) : Int))) (OpR.bin (u32_shr (shaSch b (t - 2)) 10 .u64)) rfl ?_
    refine WS.call hm rfl ((w_turn hm (s := s) hT hTn hR hRn (shaSch b (t - 15)) 7 (by decide)).mono ?_)
    rintro v1 s2 ⟨e1, e2⟩; rw [e1, e2]; clear e1 e2
    refine ⟨⟨⟨_, _, _, OpR.ld1 rfl (hW1 (t - 16) (by omega)), rfl, rfl, rfl, same_u32 _, by intro h; cases h⟩, ⟨⟨_, _, _, OpR.ld1 rfl (hW1 (t - 7) (by omega)), rfl, rfl, rfl, same_u32 _, by intro h; cases h⟩, trivial⟩⟩, ?_⟩
    refine WS.call hm rfl ((w_turn hm (s := s) hT hTn hR hRn (shaSch b (t - 15)) 18 (by decide)).mono ?_)
    rintro v1 s2 ⟨e1, e2⟩; rw [e1, e2]; clear e1 e2
    refine ⟨⟨⟨_, _, _, OpR.ld1 rfl (hW1 (t - 16) (by omega)), rfl, rfl, rfl, same_u32 _, by intro h; cases h⟩, ⟨⟨_, _, _, OpR.ld1 rfl (hW1 (t - 7) (by omega)), rfl, rfl, rfl, same_u32 _, by intro h; cases h⟩, trivial⟩⟩, ?_⟩
    refine WS.step (v := (.int .u32 ((xor32 (rot32 (shaSch b (t - 15)) 7) (rot32 (shaSch b (t - 15)) 18) : Nat) : Int))) (OpR.bin (u32_xor (rot32 (shaSch b (t - 15)) 7) (rot32 (shaSch b (t - 15)) 18))) rfl ?_
    refine WS.step (v := (.int .u32 ((xor32 (xor32 (rot32 (shaSch b (t - 15)) 7) (rot32 (shaSch b (t - 15)) 18)) (shr32 (shaSch b (t - 15)) 3) : Nat) : Int))) (OpR.bin (u32_xor (xor32 (rot32 (shaSch b (t - 15)) 7) (rot32 (shaSch b (t - 15)) 18)) (shr32 (shaSch b (t - 15)) 3))) rfl ?_
    refine WS.step (v := (.int .u32 ((add32 (shaSch b (t - 16)) (xor32 (xor32 (rot32 (shaSch b (t - 15)) 7) (rot32 (shaSch b (t - 15)) 18)) (shr32 (shaSch b (t - 15)) 3)) : Nat) : Int))) (OpR.bin (u32_add (shaSch b (t - 16)) (xor32 (xor32 (rot32 (shaSch b (t - 15)) 7) (rot32 (shaSch b (t - 15)) 18)) (shr32 (shaSch b (t - 15)) 3)))) rfl ?_
    refine WS.step (v := (.int .u32 ((add32 (add32 (shaSch b (t - 16)) (xor32 (xor32 (rot32 (shaSch b (t - 15)) 7) (rot32 (shaSch b (t - 15)) 18)) (shr32 (shaSch b (t - 15)) 3))) (shaSch b (t - 7)) : Nat) : Int))) (OpR.bin (u32_add (add32 (shaSch b (t - 16)) (xor32 (xor32 (rot32 (shaSch b (t - 15)) 7) (rot32 (shaSch b (t - 15)) 18)) (shr32 (shaSch b (t - 15)) 3))) (shaSch b (t - 7)))) rfl ?_
    refine WS.call hm rfl ((w_turn hm (s := s) hT hTn hR hRn (shaSch b (t - 2)) 17 (by decide)).mono ?_)
    rintro v1 s2 ⟨e1, e2⟩; rw [e1, e2]; clear e1 e2
    refine ⟨⟨⟨_, _, _, OpR.ld1 rfl (hW1 (t - 16) (by omega)), rfl, rfl, rfl, same_u32 _, by intro h; cases h⟩, ⟨⟨_, _, _, OpR.ld1 rfl (hW1 (t - 7) (by omega)), rfl, rfl, rfl, same_u32 _, by intro h; cases h⟩, trivial⟩⟩, ?_⟩
    refine WS.call hm rfl ((w_turn hm (s := s) hT hTn hR hRn (shaSch b (t - 2)) 19 (by decide)).mono ?_)
    rintro v1 s2 ⟨e1, e2⟩; rw [e1, e2]; clear e1 e2
    refine ⟨⟨⟨_, _, _, OpR.ld1 rfl (hW1 (t - 16) (by omega)), rfl, rfl, rfl, same_u32 _, by intro h; cases h⟩, ⟨⟨_, _, _, OpR.ld1 rfl (hW1 (t - 7) (by omega)), rfl, rfl, rfl, same_u32 _, by intro h; cases h⟩, trivial⟩⟩, ?_⟩
    refine WS.step (v := (.int .u32 ((xor32 (rot32 (shaSch b (t - 2)) 17) (rot32 (shaSch b (t - 2)) 19) : Nat) : Int))) (OpR.bin (u32_xor (rot32 (shaSch b (t - 2)) 17) (rot32 (shaSch b (t - 2)) 19))) rfl ?_
    refine WS.step (v := (.int .u32 ((xor32 (xor32 (rot32 (shaSch b (t - 2)) 17) (rot32 (shaSch b (t - 2)) 19)) (shr32 (shaSch b (t - 2)) 10) : Nat) : Int))) (OpR.bin (u32_xor (xor32 (rot32 (shaSch b (t - 2)) 17) (rot32 (shaSch b (t - 2)) 19)) (shr32 (shaSch b (t - 2)) 10))) rfl ?_
    refine WS.step (v := (.int .u32 ((add32 (add32 (add32 (shaSch b (t - 16)) (xor32 (xor32 (rot32 (shaSch b (t - 15)) 7) (rot32 (shaSch b (t - 15)) 18)) (shr32 (shaSch b (t - 15)) 3))) (shaSch b (t - 7))) (xor32 (xor32 (rot32 (shaSch b (t - 2)) 17) (rot32 (shaSch b (t - 2)) 19)) (shr32 (shaSch b (t - 2)) 10)) : Nat) : Int))) (OpR.bin (u32_add (add32 (add32 (shaSch b (t - 16)) (xor32 (xor32 (rot32 (shaSch b (t - 15)) 7) (rot32 (shaSch b (t - 15)) 18)) (shr32 (shaSch b (t - 15)) 3))) (shaSch b (t - 7))) (xor32 (xor32 (rot32 (shaSch b (t - 2)) 17) (rot32 (shaSch b (t - 2)) 19)) (shr32 (shaSch b (t - 2)) 10)))) rfl ?_
    refine WS.step (v := (.ptr W 0 (0 + (t) * 1))) (OpR.ixAA (k := .i64) (m := t) rfl rfl (by omega)) rfl ?_
    obtain ⟨s', hw, hk, hn⟩ := ho.wrN (i := t) (l := [(.int .u32 ((add32 (add32 (add32 (shaSch b (t - 16)) (xor32 (xor32 (rot32 (shaSch b (t - 15)) 7) (rot32 (shaSch b (t - 15)) 18)) (shr32 (shaSch b (t - 15)) 3))) (shaSch b (t - 7))) (xor32 (xor32 (rot32 (shaSch b (t - 2)) 17) (rot32 (shaSch b (t - 2)) 19)) (shr32 (shaSch b (t - 2)) 10)) : Nat) : Int))]) (by simp; omega) (by simp [leaf])
    rw [show 0 + t = 0 + t * 1 from by omega] at hw
    refine WS.step (v := .undef) (s' := s') (OpR.st rfl rfl rfl hw) rfl (WS.nil ?_)
    refine WC.reg ?_
    refine WS.step (v := (.int .i64 ((t : Nat) : Int))) OpR.mv rfl ?_
    refine WS.step (v := (.int .i64 ((t + 1 : Nat) : Int))) (OpR.bin (i64_add (t) (1) (by omega))) rfl ?_
    refine WS.step (v := (.int .i64 ((t + 1 : Nat) : Int))) OpR.mv rfl ?_
    refine WS.nil ⟨⟨t + 1, by omega, by omega, rfl, rfl, rfl, hs.trans hk, hn.congr fun i hi => ?_⟩, ?_⟩
    · by_cases h5 : t ≤ i ∧ i < t + 1
      · obtain rfl : i = t := by omega
        rw [if_pos (by simp), if_pos (by omega)]
        simp only [Nat.sub_self, List.getD_cons_zero]
        rw [shaSch_next ht]; rfl
      · rw [if_neg (by simpa using h5)]
        by_cases h6 : i < t
        · rw [if_pos h6, if_pos (by omega)]
        · rw [if_neg h6, if_neg (by omega)]
    · show 64 - (t + 1) < 64 - t; omega
  · refine WC.cond (b := false) (congrArg AV.bool (decide_eq_false hlt)) (WC.exit ?_)
    obtain rfl : t = 64 := by omega
    exact hQ _ _ rfl rfl hs (ho.congr fun i hi => by rw [if_pos hi])

def take_r14L : List EStep := [(.one ⟨(some 103),none,(.mv (.t 101))⟩ []),(.one ⟨(some 104),none,(.ixV 64 1 false (.t 100) (.t 101))⟩ []),(.one ⟨(some 10),none,(.mv (.t 103))⟩ []),(.one ⟨(some 11),none,(.mv (.t 104))⟩ [])]
set_option linter.unusedVariables false in
include hm in
omit hm in
theorem take_r14 {H : AV} {W S t : Nat} {b K : Nat → Nat} {KL : List AV} {R : W8} {s : AS} {τ : Nat → AV} (hT : tab.get 346 = some c346) (hTn : nt.get 346 = none) (hR : tab.get 387 = some c387) (hRn : nt.get 387 = none) (hK : ∀ i, i < 64 → partOf false (i * 1) 1 KL = some (.int .u32 ((K i : Nat) : Int))) (hW1 : ∀ i, i < 64 → s.rd W 0 (0 + i * 1) = some (.int .u32 ((shaSch b i : Nat) : Int))) (hS1 : ∀ i, i < 8 → s.rd S 0 (0 + i * 1) = some (.int .u32 ((R.list.getD i 0 : Nat) : Int))) (hlt : t < 64) (h0 : τ 0 = H) (h4 : τ 4 = (.ptr W 0 0)) (h9 : τ 9 = (.ptr S 0 0)) (h101 : τ 101 = (.int .i64 ((t : Nat) : Int))) (h100 : τ 100 = (.agg KL))
    {Q : (Nat → AV) → AS → Prop} (hQ : ∀ τ', τ' 0 = H → τ' 4 = (.ptr W 0 0) → τ' 9 = (.ptr S 0 0) → τ' 101 = (.int .i64 ((t : Nat) : Int)) → τ' 100 = (.agg KL) → τ' 10 = (.int .i64 ((t : Nat) : Int)) → τ' 11 = (.int .u32 ((K (t) : Nat) : Int)) → Q τ' s) : WS E tab nt take_r14L τ s Q := by
  obtain ⟨ρ, rfl⟩ : ∃ ρ, τ = (upd (upd (upd (upd (upd ρ 0 H) 4 (.ptr W 0 0)) 9 (.ptr S 0 0)) 101 (.int .i64 ((t : Nat) : Int))) 100 (.agg KL)) := ⟨τ, by rw [upd_self h0, upd_self h4, upd_self h9, upd_self h101, upd_self h100]⟩
  refine WS.step (v := (.int .i64 ((t : Nat) : Int))) OpR.mv rfl ?_
  refine WS.step (v := (.int .u32 ((K (t) : Nat) : Int))) (OpR.ixV (k := .i64) (m := t) rfl rfl (by omega) (hK (t) (by omega))) rfl ?_
  refine WS.step (v := (.int .i64 ((t : Nat) : Int))) OpR.mv rfl ?_
  refine WS.step (v := (.int .u32 ((K (t) : Nat) : Int))) OpR.mv rfl ?_
  exact WS.nil (hQ _ rfl rfl rfl rfl rfl rfl rfl)

def take_r15L : List EStep := [(.one ⟨(some 105),none,(.ixAA 8 1 (.t 9) (.c (.int .i64 0)))⟩ []),(.one ⟨(some 106),none,(.ld1 (.t 105))⟩ []),(.one ⟨(some 107),none,(.ixAA 8 1 (.t 9) (.c (.int .i64 4)))⟩ []),(.one ⟨(some 108),none,(.ld1 (.t 107))⟩ []),(.one ⟨(some 12),none,(.mv (.t 106))⟩ []),(.one ⟨(some 13),none,(.mv (.t 108))⟩ [])]
set_option linter.unusedVariables false in
include hm in
omit hm in
theorem take_r15 {H : AV} {W S t : Nat} {b K : Nat → Nat} {KL : List AV} {R : W8} {s : AS} {τ : Nat → AV} (hT : tab.get 346 = some c346) (hTn : nt.get 346 = none) (hR : tab.get 387 = some c387) (hRn : nt.get 387 = none)  (hW1 : ∀ i, i < 64 → s.rd W 0 (0 + i * 1) = some (.int .u32 ((shaSch b i : Nat) : Int))) (hS1 : ∀ i, i < 8 → s.rd S 0 (0 + i * 1) = some (.int .u32 ((R.list.getD i 0 : Nat) : Int))) (hlt : t < 64) (h0 : τ 0 = H) (h4 : τ 4 = (.ptr W 0 0)) (h9 : τ 9 = (.ptr S 0 0)) (h101 : τ 101 = (.int .i64 ((t : Nat) : Int))) (h100 : τ 100 = (.agg KL)) (h10 : τ 10 = (.int .i64 ((t : Nat) : Int))) (h11 : τ 11 = (.int .u32 ((K (t) : Nat) : Int)))
    {Q : (Nat → AV) → AS → Prop} (hQ : ∀ τ', τ' 0 = H → τ' 4 = (.ptr W 0 0) → τ' 9 = (.ptr S 0 0) → τ' 101 = (.int .i64 ((t : Nat) : Int)) → τ' 100 = (.agg KL) → τ' 10 = (.int .i64 ((t : Nat) : Int)) → τ' 11 = (.int .u32 ((K (t) : Nat) : Int)) → τ' 12 = (.int .u32 ((R.a : Nat) : Int)) → τ' 13 = (.int .u32 ((R.e : Nat) : Int)) → Q τ' s) : WS E tab nt take_r15L τ s Q := by
  obtain ⟨ρ, rfl⟩ : ∃ ρ, τ = (upd (upd (upd (upd (upd (upd (upd ρ 0 H) 4 (.ptr W 0 0)) 9 (.ptr S 0 0)) 101 (.int .i64 ((t : Nat) : Int))) 100 (.agg KL)) 10 (.int .i64 ((t : Nat) : Int))) 11 (.int .u32 ((K (t) : Nat) : Int))) := ⟨τ, by rw [upd_self h0, upd_self h4, upd_self h9, upd_self h101, upd_self h100, upd_self h10, upd_self h11]⟩
  refine WS.step (v := (.ptr S 0 (0 + (0) * 1))) (OpR.ixAA (k := .i64) (m := 0) rfl rfl (by omega)) rfl ?_
  refine WS.step (v := (.int .u32 ((R.a : Nat) : Int))) (OpR.ld1 rfl (hS1 (0) (by omega))) rfl ?_
  refine WS.step (v := (.ptr S 0 (0 + (4) * 1))) (OpR.ixAA (k := .i64) (m := 4) rfl rfl (by omega)) rfl ?_
  refine WS.step (v := (.int .u32 ((R.e : Nat) : Int))) (OpR.ld1 rfl (hS1 (4) (by omega))) rfl ?_
  refine WS.step (v := (.int .u32 ((R.a : Nat) : Int))) OpR.mv rfl ?_
  refine WS.step (v := (.int .u32 ((R.e : Nat) : Int))) OpR.mv rfl ?_
  exact WS.nil (hQ _ rfl rfl rfl rfl rfl rfl rfl rfl rfl)

def take_r16L : List EStep := [(.one ⟨(some 109),none,(.ixAA 8 1 (.t 9) (.c (.int .i64 7)))⟩ []),(.one ⟨(some 110),none,(.ld1 (.t 109))⟩ []),(.one ⟨(some 111),none,(.mv (.t 13))⟩ []),(.one ⟨(some 113),none,(.mv (.t 13))⟩ []),(.one ⟨(some 116),none,(.mv (.t 13))⟩ []),(.one ⟨(some 120),none,(.mv (.t 13))⟩ []),(.one ⟨(some 121),none,(.ixAA 8 1 (.t 9) (.c (.int .i64 5)))⟩ []),(.one ⟨(some 122),none,(.ld1 (.t 121))⟩ []),(.one ⟨(some 123),none,(.bin .and (.t 120) (.t 122))⟩ []),(.one ⟨(some 124),none,(.mv (.t 13))⟩ []),(.one ⟨(some 125),none,(.un .xor (.t 124))⟩ []),(.one ⟨(some 126),none,(.ixAA 8 1 (.t 9) (.c (.int .i64 6)))⟩ []),(.one ⟨(some 127),none,(.ld1 (.t 126))⟩ []),(.one ⟨(some 128),none,(.bin .and (.t 125) (.t 127))⟩ []),(.one ⟨(some 129),none,(.bin .xor (.t 123) (.t 128))⟩ []),(.one ⟨(some 131),none,(.mv (.t 11))⟩ []),(.one ⟨(some 133),none,(.mv (.t 10))⟩ []),(.one ⟨(some 134),none,(.ixAA 64 1 (.t 4) (.t 133))⟩ []),(.one ⟨(some 135),none,(.ld1 (.t 134))⟩ []),(.one ⟨(some 112),none,(.call (.c (.fn 346 [] [])) [(.t 111),(.c (.int .i64 6))])⟩ [⟨(some 110),none,(.ld1 (.t 109))⟩,⟨(some 122),none,(.ld1 (.t 121))⟩,⟨(some 127),none,(.ld1 (.t 126))⟩,⟨(some 135),none,(.ld1 (.t 134))⟩]),(.one ⟨(some 114),none,(.call (.c (.fn 346 [] [])) [(.t 113),(.c (.int .i64 11))])⟩ [⟨(some 110),none,(.ld1 (.t 109))⟩,⟨(some 122),none,(.ld1 (.t 121))⟩,⟨(some 127),none,(.ld1 (.t 126))⟩,⟨(some 135),none,(.ld1 (.t 134))⟩]),(.one ⟨(some 115),none,(.bin .xor (.t 112) (.t 114))⟩ []),(.one ⟨(some 117),none,(.call (.c (.fn 346 [] [])) [(.t 116),(.c (.int .i64 25))])⟩ [⟨(some 110),none,(.ld1 (.t 109))⟩,⟨(some 122),none,(.ld1 (.t 121))⟩,⟨(some 127),none,(.ld1 (.t 126))⟩,⟨(some 135),none,(.ld1 (.t 134))⟩]),(.one ⟨(some 118),none,(.bin .xor (.t 115) (.t 117))⟩ []),(.one ⟨(some 119),none,(.bin .add (.t 110) (.t 118))⟩ []),(.one ⟨(some 130),none,(.bin .add (.t 119) (.t 129))⟩ []),(.one ⟨(some 132),none,(.bin .add (.t 130) (.t 131))⟩ []),(.one ⟨(some 136),none,(.bin .add (.t 132) (.t 135))⟩ []),(.one ⟨(some 14),none,(.mv (.t 136))⟩ [])]
set_option linter.unusedVariables false in
include hm in
theorem take_r16 {H : AV} {W S t : Nat} {b K : Nat → Nat} {KL : List AV} {R : W8} {s : AS} {τ : Nat → AV} (hT : tab.get 346 = some c346) (hTn : nt.get 346 = none) (hR : tab.get 387 = some c387) (hRn : nt.get 387 = none)  (hW1 : ∀ i, i < 64 → s.rd W 0 (0 + i * 1) = some (.int .u32 ((shaSch b i : Nat) : Int))) (hS1 : ∀ i, i < 8 → s.rd S 0 (0 + i * 1) = some (.int .u32 ((R.list.getD i 0 : Nat) : Int))) (hlt : t < 64) (h0 : τ 0 = H) (h4 : τ 4 = (.ptr W 0 0)) (h9 : τ 9 = (.ptr S 0 0)) (h101 : τ 101 = (.int .i64 ((t : Nat) : Int))) (h100 : τ 100 = (.agg KL)) (h10 : τ 10 = (.int .i64 ((t : Nat) : Int))) (h11 : τ 11 = (.int .u32 ((K (t) : Nat) : Int))) (h12 : τ 12 = (.int .u32 ((R.a : Nat) : Int))) (h13 : τ 13 = (.int .u32 ((R.e : Nat) : Int)))
    {Q : (Nat → AV) → AS → Prop} (hQ : ∀ τ', τ' 0 = H → τ' 4 = (.ptr W 0 0) → τ' 9 = (.ptr S 0 0) → τ' 101 = (.int .i64 ((t : Nat) : Int)) → τ' 100 = (.agg KL) → τ' 12 = (.int .u32 ((R.a : Nat) : Int)) → τ' 13 = (.int .u32 ((R.e : Nat) : Int)) → τ' 14 = (.int .u32 ((add32 (add32 (add32 (add32 (R.h) (xor32 (xor32 (rot32 (R.e) 6) (rot32 (R.e) 11)) (rot32 (R.e) 25))) (xor32 (and32 (R.e) (R.f)) (and32 (com32 (R.e)) (R.g)))) (K (t))) (shaSch b (t)) : Nat) : Int)) → Q τ' s) : WS E tab nt take_r16L τ s Q := by
  obtain ⟨ρ, rfl⟩ : ∃ ρ, τ = (upd (upd (upd (upd (upd (upd (upd (upd (upd ρ 0 H) 4 (.ptr W 0 0)) 9 (.ptr S 0 0)) 101 (.int .i64 ((t : Nat) : Int))) 100 (.agg KL)) 10 (.int .i64 ((t : Nat) : Int))) 11 (.int .u32 ((K (t) : Nat) : Int))) 12 (.int .u32 ((R.a : Nat) : Int))) 13 (.int .u32 ((R.e : Nat) : Int))) := ⟨τ, by rw [upd_self h0, upd_self h4, upd_self h9, upd_self h101, upd_self h100, upd_self h10, upd_self h11, upd_self h12, upd_self h13]⟩
  refine WS.step (v := (.ptr S 0 (0 + (7) * 1))) (OpR.ixAA (k := .i64) (m := 7) rfl rfl (by omega)) rfl ?_
  refine WS.step (v := (.int .u32 ((R.h : Nat) : Int))) (OpR.ld1 rfl (hS1 (7) (by omega))) rfl ?_
  refine WS.step (v := (.int .u32 ((R.e : Nat) : Int))) OpR.mv rfl ?_
  refine WS.step (v := (.int .u32 ((R.e : Nat) : Int))) OpR.mv rfl ?_
  refine WS.step (v := (.int .u32 ((R.e : Nat) : Int))) OpR.mv rfl ?_
  refine WS.step (v := (.int .u32 ((R.e : Nat) : Int))) OpR.mv rfl ?_
  refine WS.step (v := (.ptr S 0 (0 + (5) * 1))) (OpR.ixAA (k := .i64) (m := 5) rfl rfl (by omega)) rfl ?_
  refine WS.step (v := (.int .u32 ((R.f : Nat) : Int))) (OpR.ld1 rfl (hS1 (5) (by omega))) rfl ?_
  refine WS.step (v := (.int .u32 ((and32 (R.e) (R.f) : Nat) : Int))) (OpR.bin (u32_and (R.e) (R.f))) rfl ?_
  refine WS.step (v := (.int .u32 ((R.e : Nat) : Int))) OpR.mv rfl ?_
  refine WS.step (v := (.int .u32 ((com32 (R.e) : Nat) : Int))) ((u32_com (R.e)) ▸ OpR.com (k := .u32) (n := ((R.e : Nat) : Int)) rfl) rfl ?_
  refine WS.step (v := (.ptr S 0 (0 + (6) * 1))) (OpR.ixAA (k := .i64) (m := 6) rfl rfl (by omega)) rfl ?_
  refine WS.step (v := (.int .u32 ((R.g : Nat) : Int))) (OpR.ld1 rfl (hS1 (6) (by omega))) rfl ?_
  refine WS.step (v := (.int .u32 ((and32 (com32 (R.e)) (R.g) : Nat) : Int))) (OpR.bin (u32_and (com32 (R.e)) (R.g))) rfl ?_
  refine WS.step (v := (.int .u32 ((xor32 (and32 (R.e) (R.f)) (and32 (com32 (R.e)) (R.g)) : Nat) : Int))) (OpR.bin (u32_xor (and32 (R.e) (R.f)) (and32 (com32 (R.e)) (R.g)))) rfl ?_
  refine WS.step (v := (.int .u32 ((K (t) : Nat) : Int))) OpR.mv rfl ?_
  refine WS.step (v := (.int .i64 ((t : Nat) : Int))) OpR.mv rfl ?_
  refine WS.step (v := (.ptr W 0 (0 + (t) * 1))) (OpR.ixAA (k := .i64) (m := t) rfl rfl (by omega)) rfl ?_
  refine WS.step (v := (.int .u32 ((shaSch b (t) : Nat) : Int))) (OpR.ld1 rfl (hW1 (t) (by omega))) rfl ?_
  refine WS.call hm rfl ((w_turn hm (s := s) hT hTn hR hRn (R.e) 6 (by decide)).mono ?_)
  rintro v1 s2 ⟨e1, e2⟩; rw [e1, e2]; clear e1 e2
  refine ⟨⟨⟨_, _, _, OpR.ld1 rfl (hS1 (7) (by omega)), rfl, rfl, rfl, same_u32 _, by intro h; cases h⟩, ⟨⟨_, _, _, OpR.ld1 rfl (hS1 (5) (by omega)), rfl, rfl, rfl, same_u32 _, by intro h; cases h⟩, ⟨⟨_, _, _, OpR.ld1 rfl (hS1 (6) (by omega)), rfl, rfl, rfl, same_u32 _, by intro h; cases h⟩, ⟨⟨_, _, _, OpR.ld1 rfl (hW1 (t) (by omega)), rfl, rfl, rfl, same_u32 _, by intro h; cases h⟩, trivial⟩⟩⟩⟩, ?_⟩
  refine WS.call hm rfl ((w_turn hm (s := s) hT hTn hR hRn (R.e) 11 (by decide)).mono ?_)
  rintro v1 s2 ⟨e1, e2⟩; rw [e1, e2]; clear e1 e2
  refine ⟨⟨⟨_, _, _, OpR.ld1 rfl (hS1 (7) (by omega)), rfl, rfl, rfl, same_u32 _, by intro h; cases h⟩, ⟨⟨_, _, _, OpR.ld1 rfl (hS1 (5) (by omega)), rfl, rfl, rfl, same_u32 _, by intro h; cases h⟩, ⟨⟨_, _, _, OpR.ld1 rfl (hS1 (6) (by omega)), rfl, rfl, rfl, same_u32 _, by intro h; cases h⟩, ⟨⟨_, _, _, OpR.ld1 rfl (hW1 (t) (by omega)), rfl, rfl, rfl, same_u32 _, by intro h; cases h⟩, trivial⟩⟩⟩⟩, ?_⟩
  refine WS.step (v := (.int .u32 ((xor32 (rot32 (R.e) 6) (rot32 (R.e) 11) : Nat) : Int))) (OpR.bin (u32_xor (rot32 (R.e) 6) (rot32 (R.e) 11))) rfl ?_
  refine WS.call hm rfl ((w_turn hm (s := s) hT hTn hR hRn (R.e) 25 (by decide)).mono ?_)
  rintro v1 s2 ⟨e1, e2⟩; rw [e1, e2]; clear e1 e2
  refine ⟨⟨⟨_, _, _, OpR.ld1 rfl (hS1 (7) (by omega)), rfl, rfl, rfl, same_u32 _, by intro h; cases h⟩, ⟨⟨_, _, _, OpR.ld1 rfl (hS1 (5) (by omega)), rfl, rfl, rfl, same_u32 _, by intro h; cases h⟩, ⟨⟨_, _, _, OpR.ld1 rfl (hS1 (6) (by omega)), rfl, rfl, rfl, same_u32 _, by intro h; cases h⟩, ⟨⟨_, _, _, OpR.ld1 rfl (hW1 (t) (by omega)), rfl, rfl, rfl, same_u32 _, by intro h; cases h⟩, trivial⟩⟩⟩⟩, ?_⟩
  refine WS.step (v := (.int .u32 ((xor32 (xor32 (rot32 (R.e) 6) (rot32 (R.e) 11)) (rot32 (R.e) 25) : Nat) : Int))) (OpR.bin (u32_xor (xor32 (rot32 (R.e) 6) (rot32 (R.e) 11)) (rot32 (R.e) 25))) rfl ?_
  refine WS.step (v := (.int .u32 ((add32 (R.h) (xor32 (xor32 (rot32 (R.e) 6) (rot32 (R.e) 11)) (rot32 (R.e) 25)) : Nat) : Int))) (OpR.bin (u32_add (R.h) (xor32 (xor32 (rot32 (R.e) 6) (rot32 (R.e) 11)) (rot32 (R.e) 25)))) rfl ?_
  refine WS.step (v := (.int .u32 ((add32 (add32 (R.h) (xor32 (xor32 (rot32 (R.e) 6) (rot32 (R.e) 11)) (rot32 (R.e) 25))) (xor32 (and32 (R.e) (R.f)) (and32 (com32 (R.e)) (R.g))) : Nat) : Int))) (OpR.bin (u32_add (add32 (R.h) (xor32 (xor32 (rot32 (R.e) 6) (rot32 (R.e) 11)) (rot32 (R.e) 25))) (xor32 (and32 (R.e) (R.f)) (and32 (com32 (R.e)) (R.g))))) rfl ?_
  refine WS.step (v := (.int .u32 ((add32 (add32 (add32 (R.h) (xor32 (xor32 (rot32 (R.e) 6) (rot32 (R.e) 11)) (rot32 (R.e) 25))) (xor32 (and32 (R.e) (R.f)) (and32 (com32 (R.e)) (R.g)))) (K (t)) : Nat) : Int))) (OpR.bin (u32_add (add32 (add32 (R.h) (xor32 (xor32 (rot32 (R.e) 6) (rot32 (R.e) 11)) (rot32 (R.e) 25))) (xor32 (and32 (R.e) (R.f)) (and32 (com32 (R.e)) (R.g)))) (K (t)))) rfl ?_
  refine WS.step (v := (.int .u32 ((add32 (add32 (add32 (add32 (R.h) (xor32 (xor32 (rot32 (R.e) 6) (rot32 (R.e) 11)) (rot32 (R.e) 25))) (xor32 (and32 (R.e) (R.f)) (and32 (com32 (R.e)) (R.g)))) (K (t))) (shaSch b (t)) : Nat) : Int))) (OpR.bin (u32_add (add32 (add32 (add32 (R.h) (xor32 (xor32 (rot32 (R.e) 6) (rot32 (R.e) 11)) (rot32 (R.e) 25))) (xor32 (and32 (R.e) (R.f)) (and32 (com32 (R.e)) (R.g)))) (K (t))) (shaSch b (t)))) rfl ?_
  refine WS.step (v := (.int .u32 ((add32 (add32 (add32 (add32 (R.h) (xor32 (xor32 (rot32 (R.e) 6) (rot32 (R.e) 11)) (rot32 (R.e) 25))) (xor32 (and32 (R.e) (R.f)) (and32 (com32 (R.e)) (R.g)))) (K (t))) (shaSch b (t)) : Nat) : Int))) OpR.mv rfl ?_
  exact WS.nil (hQ _ rfl rfl rfl rfl rfl rfl rfl rfl)

def take_r17L : List EStep := [(.one ⟨(some 137),none,(.mv (.t 12))⟩ []),(.one ⟨(some 139),none,(.mv (.t 12))⟩ []),(.one ⟨(some 142),none,(.mv (.t 12))⟩ []),(.one ⟨(some 145),none,(.mv (.t 12))⟩ []),(.one ⟨(some 146),none,(.ixAA 8 1 (.t 9) (.c (.int .i64 1)))⟩ []),(.one ⟨(some 147),none,(.ld1 (.t 146))⟩ []),(.one ⟨(some 148),none,(.bin .and (.t 145) (.t 147))⟩ []),(.one ⟨(some 149),none,(.mv (.t 12))⟩ []),(.one ⟨(some 150),none,(.ixAA 8 1 (.t 9) (.c (.int .i64 2)))⟩ []),(.one ⟨(some 151),none,(.ld1 (.t 150))⟩ []),(.one ⟨(some 152),none,(.bin .and (.t 149) (.t 151))⟩ []),(.one ⟨(some 153),none,(.bin .xor (.t 148) (.t 152))⟩ []),(.one ⟨(some 154),none,(.ixAA 8 1 (.t 9) (.c (.int .i64 1)))⟩ []),(.one ⟨(some 155),none,(.ld1 (.t 154))⟩ []),(.one ⟨(some 156),none,(.ixAA 8 1 (.t 9) (.c (.int .i64 2)))⟩ []),(.one ⟨(some 157),none,(.ld1 (.t 156))⟩ []),(.one ⟨(some 158),none,(.bin .and (.t 155) (.t 157))⟩ []),(.one ⟨(some 159),none,(.bin .xor (.t 153) (.t 158))⟩ []),(.one ⟨(some 138),none,(.call (.c (.fn 346 [] [])) [(.t 137),(.c (.int .i64 2))])⟩ [⟨(some 147),none,(.ld1 (.t 146))⟩,⟨(some 151),none,(.ld1 (.t 150))⟩,⟨(some 155),none,(.ld1 (.t 154))⟩,⟨(some 157),none,(.ld1 (.t 156))⟩]),(.one ⟨(some 140),none,(.call (.c (.fn 346 [] [])) [(.t 139),(.c (.int .i64 13))])⟩ [⟨(some 147),none,(.ld1 (.t 146))⟩,⟨(some 151),none,(.ld1 (.t 150))⟩,⟨(some 155),none,(.ld1 (.t 154))⟩,⟨(some 157),none,(.ld1 (.t 156))⟩]),(.one ⟨(some 141),none,(.bin .xor (.t 138) (.t 140))⟩ []),(.one ⟨(some 143),none,(.call (.c (.fn 346 [] [])) [(.t 142),(.c (.int .i64 22))])⟩ [⟨(some 147),none,(.ld1 (.t 146))⟩,⟨(some 151),none,(.ld1 (.t 150))⟩,⟨(some 155),none,(.ld1 (.t 154))⟩,⟨(some 157),none,(.ld1 (.t 156))⟩]),(.one ⟨(some 144),none,(.bin .xor (.t 141) (.t 143))⟩ []),(.one ⟨(some 160),none,(.bin .add (.t 144) (.t 159))⟩ []),(.one ⟨(some 15),none,(.mv (.t 160))⟩ [])]
set_option linter.unusedVariables false in
include hm in
theorem take_r17 {H : AV} {W S t : Nat} {b K : Nat → Nat} {KL : List AV} {R : W8} {s : AS} {τ : Nat → AV} {one : Nat} (hT : tab.get 346 = some c346) (hTn : nt.get 346 = none) (hR : tab.get 387 = some c387) (hRn : nt.get 387 = none)  (hW1 : ∀ i, i < 64 → s.rd W 0 (0 + i * 1) = some (.int .u32 ((shaSch b i : Nat) : Int))) (hS1 : ∀ i, i < 8 → s.rd S 0 (0 + i * 1) = some (.int .u32 ((R.list.getD i 0 : Nat) : Int))) (hlt : t < 64) (h0 : τ 0 = H) (h4 : τ 4 = (.ptr W 0 0)) (h9 : τ 9 = (.ptr S 0 0)) (h101 : τ 101 = (.int .i64 ((t : Nat) : Int))) (h100 : τ 100 = (.agg KL)) (h12 : τ 12 = (.int .u32 ((R.a : Nat) : Int))) (h13 : τ 13 = (.int .u32 ((R.e : Nat) : Int))) (h14 : τ 14 = (.int .u32 ((one : Nat) : Int)))
    {Q : (Nat → AV) → AS → Prop} (hQ : ∀ τ', τ' 0 = H → τ' 4 = (.ptr W 0 0) → τ' 9 = (.ptr S 0 0) → τ' 101 = (.int .i64 ((t : Nat) : Int)) → τ' 100 = (.agg KL) → τ' 12 = (.int .u32 ((R.a : Nat) : Int)) → τ' 13 = (.int .u32 ((R.e : Nat) : Int)) → τ' 14 = (.int .u32 ((one : Nat) : Int)) → τ' 15 = (.int .u32 ((add32 (xor32 (xor32 (rot32 (R.a) 2) (rot32 (R.a) 13)) (rot32 (R.a) 22)) (xor32 (xor32 (and32 (R.a) (R.b)) (and32 (R.a) (R.c))) (and32 (R.b) (R.c))) : Nat) : Int)) → Q τ' s) : WS E tab nt take_r17L τ s Q := by
  obtain ⟨ρ, rfl⟩ : ∃ ρ, τ = (upd (upd (upd (upd (upd (upd (upd (upd ρ 0 H) 4 (.ptr W 0 0)) 9 (.ptr S 0 0)) 101 (.int .i64 ((t : Nat) : Int))) 100 (.agg KL)) 12 (.int .u32 ((R.a : Nat) : Int))) 13 (.int .u32 ((R.e : Nat) : Int))) 14 (.int .u32 ((one : Nat) : Int))) := ⟨τ, by rw [upd_self h0, upd_self h4, upd_self h9, upd_self h101, upd_self h100, upd_self h12, upd_self h13, upd_self h14]⟩
  refine WS.step (v := (.int .u32 ((R.a : Nat) : Int))) OpR.mv rfl ?_
  refine WS.step (v := (.int .u32 ((R.a : Nat) : Int))) OpR.mv rfl ?_
  refine WS.step (v := (.int .u32 ((R.a : Nat) : Int))) OpR.mv rfl ?_
  refine WS.step (v := (.int .u32 ((R.a : Nat) : Int))) OpR.mv rfl ?_
  refine WS.step (v := (.ptr S 0 (0 + (1) * 1))) (OpR.ixAA (k := .i64) (m := 1) rfl rfl (by omega)) rfl ?_
  refine WS.step (v := (.int .u32 ((R.b : Nat) : Int))) (OpR.ld1 rfl (hS1 (1) (by omega))) rfl ?_
  refine WS.step (v := (.int .u32 ((and32 (R.a) (R.b) : Nat) : Int))) (OpR.bin (u32_and (R.a) (R.b))) rfl ?_
  refine WS.step (v := (.int .u32 ((R.a : Nat) : Int))) OpR.mv rfl ?_
  refine WS.step (v := (.ptr S 0 (0 + (2) * 1))) (OpR.ixAA (k := .i64) (m := 2) rfl rfl (by omega)) rfl ?_
  refine WS.step (v := (.int .u32 ((R.c : Nat) : Int))) (OpR.ld1 rfl (hS1 (2) (by omega))) rfl ?_
  refine WS.step (v := (.int .u32 ((and32 (R.a) (R.c) : Nat) : Int))) (OpR.bin (u32_and (R.a) (R.c))) rfl ?_
  refine WS.step (v := (.int .u32 ((xor32 (and32 (R.a) (R.b)) (and32 (R.a) (R.c)) : Nat) : Int))) (OpR.bin (u32_xor (and32 (R.a) (R.b)) (and32 (R.a) (R.c)))) rfl ?_
  refine WS.step (v := (.ptr S 0 (0 + (1) * 1))) (OpR.ixAA (k := .i64) (m := 1) rfl rfl (by omega)) rfl ?_
  refine WS.step (v := (.int .u32 ((R.b : Nat) : Int))) (OpR.ld1 rfl (hS1 (1) (by omega))) rfl ?_
  refine WS.step (v := (.ptr S 0 (0 + (2) * 1))) (OpR.ixAA (k := .i64) (m := 2) rfl rfl (by omega)) rfl ?_
  refine WS.step (v := (.int .u32 ((R.c : Nat) : Int))) (OpR.ld1 rfl (hS1 (2) (by omega))) rfl ?_
  refine WS.step (v := (.int .u32 ((and32 (R.b) (R.c) : Nat) : Int))) (OpR.bin (u32_and (R.b) (R.c))) rfl ?_
  refine WS.step (v := (.int .u32 ((xor32 (xor32 (and32 (R.a) (R.b)) (and32 (R.a) (R.c))) (and32 (R.b) (R.c)) : Nat) : Int))) (OpR.bin (u32_xor (xor32 (and32 (R.a) (R.b)) (and32 (R.a) (R.c))) (and32 (R.b) (R.c)))) rfl ?_
  refine WS.call hm rfl ((w_turn hm (s := s) hT hTn hR hRn (R.a) 2 (by decide)).mono ?_)
  rintro v1 s2 ⟨e1, e2⟩; rw [e1, e2]; clear e1 e2
  refine ⟨⟨⟨_, _, _, OpR.ld1 rfl (hS1 (1) (by omega)), rfl, rfl, rfl, same_u32 _, by intro h; cases h⟩, ⟨⟨_, _, _, OpR.ld1 rfl (hS1 (2) (by omega)), rfl, rfl, rfl, same_u32 _, by intro h; cases h⟩, ⟨⟨_, _, _, OpR.ld1 rfl (hS1 (1) (by omega)), rfl, rfl, rfl, same_u32 _, by intro h; cases h⟩, ⟨⟨_, _, _, OpR.ld1 rfl (hS1 (2) (by omega)), rfl, rfl, rfl, same_u32 _, by intro h; cases h⟩, trivial⟩⟩⟩⟩, ?_⟩
  refine WS.call hm rfl ((w_turn hm (s := s) hT hTn hR hRn (R.a) 13 (by decide)).mono ?_)
  rintro v1 s2 ⟨e1, e2⟩; rw [e1, e2]; clear e1 e2
  refine ⟨⟨⟨_, _, _, OpR.ld1 rfl (hS1 (1) (by omega)), rfl, rfl, rfl, same_u32 _, by intro h; cases h⟩, ⟨⟨_, _, _, OpR.ld1 rfl (hS1 (2) (by omega)), rfl, rfl, rfl, same_u32 _, by intro h; cases h⟩, ⟨⟨_, _, _, OpR.ld1 rfl (hS1 (1) (by omega)), rfl, rfl, rfl, same_u32 _, by intro h; cases h⟩, ⟨⟨_, _, _, OpR.ld1 rfl (hS1 (2) (by omega)), rfl, rfl, rfl, same_u32 _, by intro h; cases h⟩, trivial⟩⟩⟩⟩, ?_⟩
  refine WS.step (v := (.int .u32 ((xor32 (rot32 (R.a) 2) (rot32 (R.a) 13) : Nat) : Int))) (OpR.bin (u32_xor (rot32 (R.a) 2) (rot32 (R.a) 13))) rfl ?_
  refine WS.call hm rfl ((w_turn hm (s := s) hT hTn hR hRn (R.a) 22 (by decide)).mono ?_)
  rintro v1 s2 ⟨e1, e2⟩; rw [e1, e2]; clear e1 e2
  refine ⟨⟨⟨_, _, _, OpR.ld1 rfl (hS1 (1) (by omega)), rfl, rfl, rfl, same_u32 _, by intro h; cases h⟩, ⟨⟨_, _, _, OpR.ld1 rfl (hS1 (2) (by omega)), rfl, rfl, rfl, same_u32 _, by intro h; cases h⟩, ⟨⟨_, _, _, OpR.ld1 rfl (hS1 (1) (by omega)), rfl, rfl, rfl, same_u32 _, by intro h; cases h⟩, ⟨⟨_, _, _, OpR.ld1 rfl (hS1 (2) (by omega)), rfl, rfl, rfl, same_u32 _, by intro h; cases h⟩, trivial⟩⟩⟩⟩, ?_⟩
  refine WS.step (v := (.int .u32 ((xor32 (xor32 (rot32 (R.a) 2) (rot32 (R.a) 13)) (rot32 (R.a) 22) : Nat) : Int))) (OpR.bin (u32_xor (xor32 (rot32 (R.a) 2) (rot32 (R.a) 13)) (rot32 (R.a) 22))) rfl ?_
  refine WS.step (v := (.int .u32 ((add32 (xor32 (xor32 (rot32 (R.a) 2) (rot32 (R.a) 13)) (rot32 (R.a) 22)) (xor32 (xor32 (and32 (R.a) (R.b)) (and32 (R.a) (R.c))) (and32 (R.b) (R.c))) : Nat) : Int))) (OpR.bin (u32_add (xor32 (xor32 (rot32 (R.a) 2) (rot32 (R.a) 13)) (rot32 (R.a) 22)) (xor32 (xor32 (and32 (R.a) (R.b)) (and32 (R.a) (R.c))) (and32 (R.b) (R.c))))) rfl ?_
  refine WS.step (v := (.int .u32 ((add32 (xor32 (xor32 (rot32 (R.a) 2) (rot32 (R.a) 13)) (rot32 (R.a) 22)) (xor32 (xor32 (and32 (R.a) (R.b)) (and32 (R.a) (R.c))) (and32 (R.b) (R.c))) : Nat) : Int))) OpR.mv rfl ?_
  exact WS.nil (hQ _ rfl rfl rfl rfl rfl rfl rfl rfl rfl)

include hm in
theorem take_l3 (hT : tab.get 346 = some c346) (hTn : nt.get 346 = none) (hR : tab.get 387 = some c387) (hRn : nt.get 387 = none) {H : AV} {W S : Nat} (hWS : W ≠ S) {b K : Nat → Nat} {KL : List AV} (hK : ∀ i, i < 64 → partOf false (i * 1) 1 KL = some (.int .u32 ((K i : Nat) : Int))) {s0 : W8} {s1 : AS} (hW : Own s1 W 0 0 64 (fun i => .int .u32 ((shaSch b i : Nat) : Int))) (hO : Own s1 S 0 0 8 (fun i => .int .u32 ((s0.list.getD i 0 : Nat) : Int)))
    {τ : Nat → AV} (h6 : τ 101 = .int .i64 0) (h0 : τ 0 = H) (h4 : τ 4 = .ptr W 0 0) (h9 : τ 9 = .ptr S 0 0) (hk : τ 100 = .agg KL) {Q : Ex → (Nat → AV) → AS → Prop}
    (hQ : ∀ τ s, τ 0 = H → τ 9 = .ptr S 0 0 → Only S s1 s → Own s S 0 0 8 (fun i => .int .u32 (((shaRounds b K s0 64).list.getD i 0 : Nat) : Int)) → Q (.exit 4) τ s) : WC E tab nt (.loop takeB3) τ s1 Q := by
  refine WC.loop hm (fun τ s => ∃ t : Nat, t ≤ 64 ∧ τ 101 = .int .i64 ((t : Nat) : Int) ∧ τ 0 = H ∧ τ 4 = .ptr W 0 0 ∧ τ 9 = .ptr S 0 0 ∧ τ 100 = .agg KL ∧ Only S s1 s ∧ Own s S 0 0 8 (fun i => .int .u32 (((shaRounds b K s0 t).list.getD i 0 : Nat) : Int))) (fun τ _ => 64 - natAt (τ 101)) ?_ ⟨0, by omega, h6, h0, h4, h9, hk, .refl _ _, hO⟩
  rintro τ s ⟨t, ht, h6, h0, h4, h9, hk, hs, ho⟩
  have hW1 : ∀ i, i < 64 → s.rd W 0 (0 + i * 1) = some (.int .u32 ((shaSch b i : Nat) : Int)) := fun i hi => by rw [Nat.mul_one, hs.rd hWS]; exact hW.rd hi
  obtain ⟨R, hR'⟩ : ∃ R, shaRounds b K s0 t = R := ⟨_, rfl⟩
  rw [hR'] at ho
  have hS1 : ∀ i, i < 8 → s.rd S 0 (0 + i * 1) = some (.int .u32 ((R.list.getD i 0 : Nat) : Int)) := fun i hi => by rw [Nat.mul_one]; exact ho.rd hi
  obtain ⟨ρ, rfl⟩ : ∃ ρ, τ = upd (upd (upd (upd (upd ρ 101 (.int .i64 ((t : Nat) : Int))) 0 H) 4 (.ptr W 0 0)) 9 (.ptr S 0 0)) 100 (.agg KL) := ⟨τ, by rw [upd_self h6, upd_self h0, upd_self h4, upd_self h9, upd_self hk]⟩
  refine WC.rseq hm ?_
  refine WS.step (v := (.bool (decide (t < 64)))) (OpR.bin (i64_lss (t) (64))) rfl ?_
  refine WS.nil ?_
  by_cases hlt : t < 64
  · refine WC.seq hm (WC.cond (b := true) (congrArg AV.bool (decide_eq_true hlt)) (WC.skip ?_))
    refine WC.seq hm (WC.block (WC.rseq hm ?_))
    refine take_r14 (K := K) (H := H) hT hTn hR hRn hK hW1 hS1 hlt rfl rfl rfl rfl rfl (fun τ h0 h4 h9 h101 h100 h10 h11 => ?_)
    refine WC.rseq hm (take_r15 (K := K) (H := H) hT hTn hR hRn hW1 hS1 hlt h0 h4 h9 h101 h100 h10 h11 (fun τ h0 h4 h9 h101 h100 h10 h11 h12 h13 => ?_))
    refine WC.rseq hm (take_r16 (K := K) (H := H) hm hT hTn hR hRn hW1 hS1 hlt h0 h4 h9 h101 h100 h10 h11 h12 h13 (fun τ h0 h4 h9 h101 h100 h12 h13 h14 => ?_))
    obtain ⟨one, hone⟩ : ∃ x, add32 (add32 (add32 (add32 (R.h) (xor32 (xor32 (rot32 (R.e) 6) (rot32 (R.e) 11)) (rot32 (R.e) 25))) (xor32 (and32 (R.e) (R.f)) (and32 (com32 (R.e)) (R.g)))) (K (t))) (shaSch b (t)) = x := ⟨_, rfl⟩
    rw [hone] at h14
    refine WC.rseq hm (take_r17 (K := K) (H := H) hm hT hTn hR hRn hW1 hS1 hlt h0 h4 h9 h101 h100 h12 h13 h14 (fun τ h0 h4 h9 h101 h100 h12 h13 h14 h15 => ?_))
    obtain ⟨two, htwo⟩ : ∃ x, add32 (xor32 (xor32 (rot32 (R.a) 2) (rot32 (R.a) 13)) (rot32 (R.a) 22)) (xor32 (xor32 (and32 (R.a) (R.b)) (and32 (R.a) (R.c))) (and32 (R.b) (R.c))) = x := ⟨_, rfl⟩
    rw [htwo] at h15
    refine WC.reg ?_
    obtain ⟨ρ, rfl⟩ : ∃ ρ, τ = (upd (upd (upd (upd (upd (upd (upd (upd (upd ρ 0 H) 4 (.ptr W 0 0)) 9 (.ptr S 0 0)) 101 (.int .i64 ((t : Nat) : Int))) 100 (.agg KL)) 12 (.int .u32 ((R.a : Nat) : Int))) 13 (.int .u32 ((R.e : Nat) : Int))) 14 (.int .u32 ((one : Nat) : Int))) 15 (.int .u32 ((two : Nat) : Int))) := ⟨τ, by rw [upd_self h0, upd_self h4, upd_self h9, upd_self h101, upd_self h100, upd_self h12, upd_self h13, upd_self h14, upd_self h15]⟩
    refine WS.step (v := (.int .u32 ((one : Nat) : Int))) OpR.mv rfl ?_
    refine WS.step (v := (.int .u32 ((two : Nat) : Int))) OpR.mv rfl ?_
    refine WS.step (v := (.int .u32 ((add32 (one) (two) : Nat) : Int))) (OpR.bin (u32_add (one) (two))) rfl ?_
    refine WS.step (v := (.int .u32 ((R.a : Nat) : Int))) OpR.mv rfl ?_
    refine WS.step (v := (.ptr S 0 (0 + (1) * 1))) (OpR.ixAA (k := .i64) (m := 1) rfl rfl (by omega)) rfl ?_
    refine WS.step (v := (.int .u32 ((R.b : Nat) : Int))) (OpR.ld1 rfl (hS1 (1) (by omega))) rfl ?_
    refine WS.step (v := (.ptr S 0 (0 + (2) * 1))) (OpR.ixAA (k := .i64) (m := 2) rfl rfl (by omega)) rfl ?_
    refine WS.step (v := (.int .u32 ((R.c : Nat) : Int))) (OpR.ld1 rfl (hS1 (2) (by omega))) rfl ?_
    refine WS.step (v := (.ptr S 0 (0 + (3) * 1))) (OpR.ixAA (k := .i64) (m := 3) rfl rfl (by omega)) rfl ?_
    refine WS.step (v := (.int .u32 ((R.d : Nat) : Int))) (OpR.ld1 rfl (hS1 (3) (by omega))) rfl ?_
    refine WS.step (v := (.int .u32 ((one : Nat) : Int))) OpR.mv rfl ?_
    refine WS.step (v := (.int .u32 ((add32 (R.d) (one) : Nat) : Int))) (OpR.bin (u32_add (R.d) (one))) rfl ?_
    refine WS.step (v := (.int .u32 ((R.e : Nat) : Int))) OpR.mv rfl ?_
    refine WS.step (v := (.ptr S 0 (0 + (5) * 1))) (OpR.ixAA (k := .i64) (m := 5) rfl rfl (by omega)) rfl ?_
    refine WS.step (v := (.int .u32 ((R.f : Nat) : Int))) (OpR.ld1 rfl (hS1 (5) (by omega))) rfl ?_
    refine WS.step (v := (.ptr S 0 (0 + (6) * 1))) (OpR.ixAA (k := .i64) (m := 6) rfl rfl (by omega)) rfl ?_
    refine WS.step (v := (.int .u32 ((R.g : Nat) : Int))) (OpR.ld1 rfl (hS1 (6) (by omega))) rfl ?_
    refine WS.step (v := (.agg [(.int .u32 ((add32 (one) (two) : Nat) : Int)), (.int .u32 ((R.a : Nat) : Int)), (.int .u32 ((R.b : Nat) : Int)), (.int .u32 ((R.c : Nat) : Int)), (.int .u32 ((add32 (R.d) (one) : Nat) : Int)), (.int .u32 ((R.e : Nat) : Int)), (.int .u32 ((R.f : Nat) : Int)), (.int .u32 ((R.g : Nat) : Int))])) (OpR.build rfl) rfl ?_
    obtain ⟨s', hw, hk', hn⟩ := ho.wrN (i := 0) (l := [(.int .u32 ((add32 (one) (two) : Nat) : Int)), (.int .u32 ((R.a : Nat) : Int)), (.int .u32 ((R.b : Nat) : Int)), (.int .u32 ((R.c : Nat) : Int)), (.int .u32 ((add32 (R.d) (one) : Nat) : Int)), (.int .u32 ((R.e : Nat) : Int)), (.int .u32 ((R.f : Nat) : Int)), (.int .u32 ((R.g : Nat) : Int))]) (by simp) (by simp [leaf])
    refine WS.step (v := .undef) (s' := s') (OpR.st rfl rfl rfl hw) rfl (WS.nil ?_)
    refine WC.reg ?_
    refine WS.step (v := (.int .i64 ((t + 1 : Nat) : Int))) (OpR.bin (i64_add (t) (1) (by omega))) rfl ?_
    refine WS.step (v := (.int .i64 ((t + 1 : Nat) : Int))) OpR.mv rfl ?_
    refine WS.nil ⟨⟨t + 1, by omega, rfl, rfl, rfl, rfl, rfl, hs.trans hk', hn.congr fun i hi => ?_⟩, ?_⟩
    · rw [if_pos (by simpa using hi), shaRounds, hR']
      exact shaRound_cells hone htwo i hi
    · show 64 - (t + 1) < 64 - t; omega
  · refine WC.seq hm (WC.cond (b := false) (congrArg AV.bool (decide_eq_false hlt)) (WC.exit ?_))
    obtain rfl : t = 64 := by omega
    subst hR'
    exact hQ _ _ rfl rfl hs ho

include hm in
theorem take_l4 {ha hj ho' S : Nat} (hS : S ≠ ha) {hf rf : Nat → Nat} {s1 : AS} {A0 : Arr} (hA : s1.arrs.get ha = some A0) (hA1 : A0.ver = hj) (hA2 : A0.lo ≤ ho') (hA3 : ho' + 8 ≤ A0.n) (hA4 : ∀ i, i < 8 → A0.rd hj (ho' + i) = some (.int .u32 ((hf i : Nat) : Int))) (hO : Own s1 S 0 0 8 (fun i => .int .u32 ((rf i : Nat) : Int)))
    {τ : Nat → AV} (h6 : τ 180 = .int .i64 0) (h0 : τ 0 = .ptr ha hj ho') (h9 : τ 9 = .ptr S 0 0) {Q : Ex → (Nat → AV) → AS → Prop}
    (hQ : ∀ τ s A, Only ha s1 s → s.arrs.get ha = some A → Ab.wrN A0 hj ho' ((List.range 8).map fun i => .int .u32 ((add32 (hf i) (rf i) : Nat) : Int)) = some A → Q (.exit 6) τ s) : WC E tab nt (.loop takeB4) τ s1 Q := by
  refine WC.loop hm (fun τ s => ∃ t : Nat, t ≤ 8 ∧ τ 180 = .int .i64 ((t : Nat) : Int) ∧ τ 0 = .ptr ha hj ho' ∧ τ 9 = .ptr S 0 0 ∧ Only ha s1 s ∧ ∃ A, s.arrs.get ha = some A ∧ Ab.wrN A0 hj ho' ((List.range t).map fun i => .int .u32 ((add32 (hf i) (rf i) : Nat) : Int)) = some A) (fun τ _ => 8 - natAt (τ 180)) ?_ ⟨0, by omega, h6, h0, h9, .refl _ _, A0, hA, rfl⟩
  rintro τ s ⟨t, ht, h6, h0, h9, hs, A, hg, hw0⟩
  have hS1 : ∀ i, i < 8 → s.rd S 0 (0 + i * 1) = some (.int .u32 ((rf i : Nat) : Int)) := fun i hi => by rw [Nat.mul_one, hs.rd hS]; exact hO.rd hi
  obtain ⟨w1, w2, w3, w4⟩ := wrN_told hw0 hA1 hA2 (by simp; omega) (by simp [leaf])
  obtain ⟨ρ, rfl⟩ : ∃ ρ, τ = upd (upd (upd ρ 180 (.int .i64 ((t : Nat) : Int))) 0 (.ptr ha hj ho')) 9 (.ptr S 0 0) := ⟨τ, by rw [upd_self h6, upd_self h0, upd_self h9]⟩
  refine WC.rseq hm ?_
  refine WS.step (v := (.bool (decide (t < 8)))) (OpR.bin (i64_lss (t) (8))) rfl ?_
  refine WS.nil ?_
  by_cases hlt : t < 8
  · refine WC.seq hm (WC.cond (b := true) (congrArg AV.bool (decide_eq_true hlt)) (WC.skip ?_))
    have hH1 : ∀ i, i = t → s.rd ha hj (ho' + i * 1) = some (.int .u32 ((hf i : Nat) : Int)) := fun i hi => by subst hi; rw [Nat.mul_one]; simp only [AS.rd, hg]; rw [w4, if_neg (by simp)]; exact hA4 i (by omega)
    refine WC.seq hm (WC.block (WC.rseq hm ?_))
    refine WS.step (v := (.int .i64 ((t : Nat) : Int))) OpR.mv rfl ?_
    refine WS.step (v := (.int .i64 ((t : Nat) : Int))) OpR.mv rfl ?_
    refine WS.nil (WC.reg ?_)
    refine WS.step (v := (.ptr ha hj ho')) OpR.mv rfl ?_
    refine WS.step (v := (.int .i64 ((t : Nat) : Int))) OpR.mv rfl ?_
    refine WS.step (v := (.ptr ha hj ho')) (OpR.nilck rfl) rfl ?_
    refine WS.step (v := (.ptr ha hj (ho' + (t) * 1))) (OpR.ixAA (k := .i64) (m := t) rfl rfl (by omega)) rfl ?_
    refine WS.step (v := (.int .u32 ((hf (t) : Nat) : Int))) (OpR.ld1 rfl (hH1 (t) (by omega))) rfl ?_
    refine WS.step (v := (.int .i64 ((t : Nat) : Int))) OpR.mv rfl ?_
    refine WS.step (v := (.ptr S 0 (0 + (t) * 1))) (OpR.ixAA (k := .i64) (m := t) rfl rfl (by omega)) rfl ?_
    refine WS.step (v := (.int .u32 ((rf (t) : Nat) : Int))) (OpR.ld1 rfl (hS1 (t) (by omega))) rfl ?_
    refine WS.step (v := (.int .u32 ((add32 (hf (t)) (rf (t)) : Nat) : Int))) (OpR.bin (u32_add (hf (t)) (rf (t)))) rfl ?_
    refine WS.step (v := (.ptr ha hj ho')) (OpR.nilck rfl) rfl ?_
    refine WS.step (v := (.ptr ha hj (ho' + (t) * 1))) (OpR.ixAA (k := .i64) (m := t) rfl rfl (by omega)) rfl ?_
    have hw1 : A.wr hj (ho' + t * 1) (.int .u32 ((add32 (hf (t)) (rf (t)) : Nat) : Int)) = some { A with cells := A.cells.set (ho' + t * 1) (hj, (.int .u32 ((add32 (hf (t)) (rf (t)) : Nat) : Int))) } := by
      simp [Arr.wr, beq_eq, w1, hA1, leaf, ltb_eq, ble_eq, w2, w3, show ho' + t < A0.n from by omega, show A0.lo ≤ ho' + t from by omega]
    have hw2 : s.wrN ha hj (ho' + t * 1) [(.int .u32 ((add32 (hf (t)) (rf (t)) : Nat) : Int))] = some { s with arrs := s.arrs.set ha { A with cells := A.cells.set (ho' + t * 1) (hj, (.int .u32 ((add32 (hf (t)) (rf (t)) : Nat) : Int))) } } := by simp only [AS.wrN, hg, Ab.wrN, hw1]
    refine WS.step (v := .undef) (s' := { s with arrs := s.arrs.set ha { A with cells := A.cells.set (ho' + t * 1) (hj, (.int .u32 ((add32 (hf (t)) (rf (t)) : Nat) : Int))) } }) (OpR.st rfl rfl rfl hw2) rfl (WS.nil ?_)
    refine WC.reg ?_
    refine WS.step (v := (.int .i64 ((t + 1 : Nat) : Int))) (OpR.bin (i64_add (t) (1) (by omega))) rfl ?_
    refine WS.step (v := (.int .i64 ((t + 1 : Nat) : Int))) OpR.mv rfl ?_
    refine WS.nil ⟨⟨t + 1, by omega, rfl, rfl, rfl, hs.trans ⟨rfl, rfl, rfl, rfl, rfl, fun b hb => Tr.get_set_ne _ _ hb⟩, _, Tr.get_set_same _ _ _, ?_⟩, ?_⟩
    · rw [List.range_succ, List.map_append, wrN_append, hw0]
      simp only [List.length_map, List.length_range, List.map_cons, List.map_nil, Ab.wrN]
      rw [show ho' + t = ho' + t * 1 from by omega, hw1]
    · show 8 - (t + 1) < 8 - t; omega
  · refine WC.seq hm (WC.cond (b := false) (congrArg AV.bool (decide_eq_false hlt)) (WC.exit ?_))
    obtain rfl : t = 8 := by omega
    exact hQ _ _ A hs hg hw0

end
end Go.Ab.B
end

noncomputable section
namespace Go.Ab.B
open Go Go.Ab
set_option maxRecDepth 100000
def shaZ64 : List AV := List.replicate 64 (.int .u32 0)
def shaZ8 : List AV := List.replicate 8 (.int .u32 0)
theorem shaZ64_ne : shaZ64 ≠ [] := by simp [shaZ64]
theorem shaZ8_ne : shaZ8 ≠ [] := by simp [shaZ8]
theorem shaZ64_at (i : Nat) (hi : i < 64) : shaZ64.getD (i % shaZ64.length) .undef = .int .u32 0 := by
  have h1 : shaZ64.length = 64 := by simp [shaZ64]
  rw [h1, Nat.mod_eq_of_lt hi, List.getD_eq_getElem?_getD, shaZ64, List.getElem?_replicate, if_pos hi]; rfl
def shaK : List Nat := [1116352408, 1899447441, 3049323471, 3921009573, 961987163, 1508970993, 2453635748, 2870763221, 3624381080, 310598401, 607225278, 1426881987, 1925078388, 2162078206, 2614888103, 3248222580, 3835390401, 4022224774, 264347078, 604807628, 770255983, 1249150122, 1555081692, 1996064986, 2554220882, 2821834349, 2952996808, 3210313671, 3336571891, 3584528711, 113926993, 338241895, 666307205, 773529912, 1294757372, 1396182291, 1695183700, 1986661051, 2177026350, 2456956037, 2730485921, 2820302411, 3259730800, 3345764771, 3516065817, 3600352804, 4094571909, 275423344, 430227734, 506948616, 659060556, 883997877, 958139571, 1322822218, 1537002063, 1747873779, 1955562222, 2024104815, 2227730452, 2361852424, 2428436474, 2756734187, 3204031479, 3329325298]
def shaKi (i : Nat) : Nat := shaK.getD i 0
def shaKL : List AV := shaK.map fun n => .int .u32 ((n : Nat) : Int)
theorem shaKL_at : ∀ i, i < 64 → partOf false (i * 1) 1 shaKL = some (.int .u32 ((shaKi i : Nat) : Int)) := by
  intro i hi
  have hl : shaK.length = 64 := by decide
  simp only [partOf, Nat.mul_one, nth_eq, shaKL, List.getElem?_map]
  rw [List.getElem?_eq_getElem (by omega)]
  simp only [Option.map_some, shaKi, List.getD_eq_getElem?_getD]
  rw [List.getElem?_eq_getElem (by omega)]
  rfl
section
variable {E : Env} {tab : Tab} {nt : NTab} (hm : NtMono nt)
include hm
theorem w_roots (ht : tab.get 347 = some c347) (hn : nt.get 347 = none) {s : AS} (x : Nat) :
    WF E tab nt (.fn 347 [] []) [] s (fun v s' => v = .agg shaKL ∧ Fr x s s') := by
  refine WF.fn hn ht (Nat.zero_le _) ?_
  refine WC.rseq hm (WS.step (OpR.alloc (zs := shaZ64)) rfl (WS.nil ?_))
  have ho := Own.newZ (s := s) (n := 64) (z := shaZ64) shaZ64_ne
  obtain ⟨s', hw, hk, hn'⟩ := ho.wrN (i := 0) (l := shaKL) (by rw [show shaKL.length = 64 from by kernel_rfl]; omega) (by intro v hv; simp only [shaKL, List.mem_map] at hv; obtain ⟨_, _, rfl⟩ := hv; rfl)
  refine WC.rseq hm (WS.step (v := .agg shaKL) (OpR.build (by kernel_rfl)) rfl (WS.step (v := .undef) (s' := s') (OpR.st rfl rfl rfl hw) rfl (WS.nil ?_)))
  have hr : s'.rdN s.na 0 0 64 = some shaKL := hn'.rdN.trans (congrArg some (by kernel_rfl))
  refine WC.ret ⟨fun id h => (by cases h), .agg shaKL, ?_, rfl, (Fr.newZ x s 64 _).more hk (Nat.le_refl _)⟩
  show (match (match (match s'.rdN s.na 0 0 64 with | some l => some (AV.agg l) | none => none) with | some v => some [v] | none => none) with | some [v] => some v | some vs => some (AV.tup vs) | none => none) = _
  rw [hr]

theorem w_take (hK : tab.get 298 = some c298) (hKn : nt.get 298 = none) (hT : tab.get 346 = some c346) (hTn : nt.get 346 = none) (hR : tab.get 387 = some c387) (hRn : nt.get 387 = none) (hS : tab.get 347 = some c347) (hSn : nt.get 347 = none)
    {s : AS} (wf : s.wf) {ha hj ho' ba bj bo : Nat} {cap : Cap} {b : Nat → Nat} {h0 : W8} {A0 : Arr} (hA : s.arrs.get ha = some A0) (hA1 : A0.ver = hj) (hA2 : A0.lo ≤ ho') (hA3 : ho' + 8 ≤ A0.n)
    (hA4 : ∀ i, i < 8 → A0.rd hj (ho' + i) = some (.int .u32 ((h0.list.getD i 0 : Nat) : Int))) (hB : ∀ i, i < 64 → s.rd ba bj (bo + i) = some (.int .u8 ((b i : Nat) : Int))) :
    WF E tab nt (.fn 298 [] []) [.ptr ha hj ho', .sl ba bj bo 64 cap] s (fun v s₁ => v = .tup [] ∧ Fr ha s s₁ ∧
      ∃ A, s₁.arrs.get ha = some A ∧ Ab.wrN A0 hj ho' ((List.range 8).map fun i => .int .u32 ((add32 (h0.list.getD i 0) ((shaRounds b shaKi h0 64).list.getD i 0) : Nat) : Int)) = some A) := by
  have lt : ∀ a A, s.arrs.get a = some A → a < s.na := fun a A h => by
    rcases Nat.lt_or_ge a s.na with k | k
    · exact k
    · rw [wf.arr a k] at h; cases h
  have hha := lt ha A0 hA
  have hba : ba < s.na := by
    have := hB 0 (by omega)
    simp only [AS.rd] at this
    split at this
    · rename_i A hA'; exact lt ba A hA'
    · cases this
  refine WF.fn hKn hK (show 2 ≤ _ from by decide) ?_
  refine WC.rseq hm (WS.step (OpR.alloc (zs := shaZ64)) rfl (WS.nil ?_))
  have f1 := Fr.newZ ha s 64 shaZ64
  have o1 := Own.newZ (s := s) (n := 64) (z := shaZ64) shaZ64_ne
  have o1' : Own (s.newZ 64 shaZ64).2 s.na 0 0 64 (fun _ => .int .u32 0) := o1.congr fun i hi => by
    exact shaZ64_at i hi
  generalize hs1 : (s.newZ 64 shaZ64).2 = s1 at f1 o1'
  have hs1' : (s.newZ shaZ64.length shaZ64).2 = s1 := hs1
  rw [hs1']
  have n1 : s1.na = s.na + 1 := by rw [← hs1]; rfl
  have hB1 : ∀ i, i < 64 → s1.rd ba bj (bo + i) = some (.int .u8 ((b i : Nat) : Int)) := fun i hi => by
    have e : s1.arrs.get ba = s.arrs.get ba := by rw [← hs1]; exact Tr.get_set_ne _ _ (by omega)
    simp only [AS.rd, e]; exact hB i hi
  refine WC.seq hm (WC.rseq hm (WS.step OpR.mv rfl (WS.nil (WC.block (take_l1 hm (H := .ptr ha hj ho') (W := s.na) (b := b) (by omega) hB1 o1' rfl rfl rfl rfl ?_)))))
  intro τ2 s2 e0 e1 e4 k2 o2
  show WC E tab nt _ τ2 s2 _
  refine WC.seq hm (WC.rseq hm (WS.step OpR.mv rfl (WS.nil (WC.block (take_l2 hm hT hTn hR hRn (τ := updO τ2 (some 6) _) (H := .ptr ha hj ho') (W := s.na) (b := b) o2 rfl e0 e4 ?_)))))
  intro τ3 s3 e0 e4 k3 o3
  show WC E tab nt _ τ3 s3 _
  have k13 := k2.trans k3
  have n3 : s3.na = s.na + 1 := k13.na.trans n1
  have g3 : s3.arrs.get ha = some A0 := by
    rw [k13.arr ha (by omega), ← hs1]
    exact (Tr.get_set_ne _ _ (by omega)).trans hA
  have f3 : Fr ha s s3 := f1.more k13 (Nat.le_refl _)
  have oh3 : Own s3 ha hj ho' 8 (fun i => .int .u32 ((h0.list.getD i 0 : Nat) : Int)) := ⟨A0, g3, hA1, hA2, hA3, hA4⟩
  obtain ⟨ρ, rfl⟩ : ∃ ρ, τ3 = upd (upd ρ 0 (.ptr ha hj ho')) 4 (.ptr s.na 0 0) := ⟨τ3, by rw [upd_self e0, upd_self e4]⟩
  have ldh := oh3.rdN
  have o4 := Own.newZ (s := s3) (n := 8) (z := shaZ8) shaZ8_ne
  have f4 := Fr.newZ ha s3 8 shaZ8
  obtain ⟨s5, hw5, k5, o5⟩ := o4.wrN (i := 0) (l := (List.range 8).map fun i => .int .u32 ((h0.list.getD i 0 : Nat) : Int)) (by simp) (by simp [leaf])
  refine WC.rseq hm (WS.step OpR.mv rfl (WS.step (v := .ptr ha hj ho') (OpR.nilck rfl) rfl (WS.step (OpR.ldn rfl ldh) rfl (WS.step (OpR.alloc (zs := shaZ8)) rfl (WS.step (v := .undef) (s' := s5) (OpR.st (l := (List.range 8).map fun i => .int .u32 ((h0.list.getD i 0 : Nat) : Int)) rfl rfl (by rw [List.length_map, List.length_range]) hw5) rfl (WS.nil ?_))))))
  have f5 : Fr ha s s5 := (f3.trans f4).more k5 (by omega)
  have n5 : s5.na = s.na + 2 := by rw [k5.na]; show s3.na + 1 = _; omega
  have oW5 : Own s5 s.na 0 0 64 (fun i => .int .u32 ((shaSch b i : Nat) : Int)) := (Own.frame o3 f4 (by omega) (by omega)).keep k5 (by omega)
  have oS5 : Own s5 s3.na 0 0 8 (fun i => .int .u32 ((h0.list.getD i 0 : Nat) : Int)) := o5.congr fun i hi => by
    rw [if_pos (by simpa using hi), List.getD_eq_getElem?_getD, List.getElem?_map, List.getElem?_range (by omega)]; rfl
  refine WC.seq hm (WC.rseq hm (WS.call hm rfl ((w_roots hm hS hSn (s := s5) s5.na).mono ?_)))
  rintro v s6 ⟨rfl, f6⟩
  refine ⟨trivial, WS.step OpR.mv rfl (WS.nil (WC.block ?_))⟩
  refine take_l3 hm hT hTn hR hRn (H := .ptr ha hj ho') (W := s.na) (S := s3.na) (by omega) shaKL_at (Own.frame oW5 f6 (by omega) (by omega)) (Own.frame oS5 f6 (by omega) (by omega)) rfl rfl rfl rfl rfl ?_
  intro τ7 s7 e0 e9 k7 o7
  show WC E tab nt _ τ7 s7 _
  have f7 : Fr ha s s7 := (f5.thn f6 (by omega)).more k7 (by omega)
  have g7 : s7.arrs.get ha = some A0 := by
    rw [k7.arr ha (by omega), f6.arr ha (by omega) (by omega), k5.arr ha (by omega)]
    exact (Tr.get_set_ne _ _ (by omega)).trans g3
  refine WC.rseq hm (WS.step OpR.mv rfl (WS.nil (WC.block ?_)))
  refine take_l4 hm (τ := updO τ7 (some 180) _) (ha := ha) (hj := hj) (ho' := ho') (S := s3.na) (hf := fun i => h0.list.getD i 0) (rf := fun i => (shaRounds b shaKi h0 64).list.getD i 0) (by omega) g7 hA1 hA2 hA3 hA4 o7 rfl e0 e9 ?_
  intro τ8 s8 A k8 g8 hw8
  exact ⟨fun id h => (by cases h), .tup [], rfl, rfl, f7.trans (Fr.only' k8), A, g8, hw8⟩
end
end Go.Ab.B
end

noncomputable section
namespace Go.Ab.B
open Go Go.Ab
theorem shaK_map : (List.range 64).map shaKi = shaK := by kernel_rfl
theorem sha_once {P : Program} {E : Env} {tab : Tab} (_ : TabOk P tab) {s s' : AS} (wf : s.wf) (hK : tab.get 298 = some c298) (hT : tab.get 346 = some c346) (hR : tab.get 387 = some c387) (hS : tab.get 347 = some c347)
    {ha hj ho ba bj bo : Nat} {cap : Cap} {hl bl : List AV} {hn bn : List Nat} {h : W8} (h1 : s.rdN ha hj ho 8 = some hl) (h2 : hl = hn.map fun n => .int .u32 ((n : Nat) : Int)) (h3 : hn = h.list)
    (h4 : s.rdN ba bj bo 64 = some bl) (h5 : bl = bn.map fun n => .int .u8 ((n : Nat) : Int)) (h6 : s.wrN ha hj ho ((shaF shaK bn h).list.map fun n => .int .u32 (.ofNat n)) = some s') :
    plainV (.tup []) = true ∧ ∃ lf n s₁, evCallN E tab .e lf (n + 1) (.fn 298 [] []) [.ptr ha hj ho, .sl ba bj bo 64 cap] s = some (.tup [], s₁) ∧ Shr [.ptr ha hj ho, .sl ba bj bo 64 cap] s s₁ s' := by
  refine ⟨rfl, ?_⟩
  subst h2 h3 h5
  obtain ⟨e1, e2⟩ := AS.rdN_spec h1
  obtain ⟨e3, e4⟩ := AS.rdN_spec h4
  have hbl : bn.length = 64 := by simpa using e3
  have hb : bn = (List.range 64).map fun i => bn.getD i 0 := by
    apply List.ext_getElem?
    intro i
    rw [List.getElem?_map]
    by_cases hi : i < 64
    · rw [List.getElem?_range hi, Option.map_some, List.getD_eq_getElem?_getD, List.getElem?_eq_getElem (by omega)]; rfl
    · rw [List.getElem?_eq_none (by omega), List.getElem?_eq_none (by simp; omega)]; rfl
  have hout : (shaF shaK bn h).list = (List.range 8).map fun i => add32 (h.list.getD i 0) ((shaRounds (fun i => bn.getD i 0) shaKi h 64).list.getD i 0) := by
    have : shaF shaK bn h = shaTake (fun i => bn.getD i 0) shaKi h := by
      rw [← shaF_eq, shaK_map, ← hb]
    rw [this, shaTake, W8.add_list]
  simp only [AS.wrN] at h6
  split at h6
  · rename_i A0 hA0
    split at h6
    · rename_i A' hA'
      cases h6
      have hlen : ((shaF shaK bn h).list.map fun n => AV.int .u32 (.ofNat n)).length = 8 := by rw [hout]; simp
      rcases wrN_conds hA' with k | ⟨k1, k2, k3, k4⟩
      · rw [k] at hlen; cases hlen
      · rw [hlen] at k4
        have cell : ∀ i, i < 8 → A0.rd hj (ho + i) = some (.int .u32 ((h.list.getD i 0 : Nat) : Int)) := by
          intro i hi
          have := e2 i hi
          simp only [AS.rd, hA0] at this
          rw [this, List.getElem?_map, List.getD_eq_getElem?_getD]
          have hll : i < h.list.length := hi
          rw [List.getElem?_eq_getElem hll]; rfl
        have hB : ∀ i, i < 64 → s.rd ba bj (bo + i) = some (.int .u8 ((bn.getD i 0 : Nat) : Int)) := by
          intro i hi
          rw [e4 i hi, List.getElem?_map, List.getD_eq_getElem?_getD, List.getElem?_eq_getElem (by omega)]; rfl
        have hm : NtMono .e := fun k g h => by cases h
        obtain ⟨lf, n, v, s₁, q1, rfl, q3, A, q4, q5⟩ := w_take (E := E) hm hK rfl hT rfl hR rfl hS rfl wf (cap := cap) hA0 k1.symm k3 k4 cell hB
        have hAA : A' = A := by
          have : ((shaF shaK bn h).list.map fun n => AV.int .u32 (.ofNat n)) = ((List.range 8).map fun i => AV.int .u32 ((add32 (h.list.getD i 0) ((shaRounds (fun i => bn.getD i 0) shaKi h 64).list.getD i 0) : Nat) : Int)) := by
            rw [hout, List.map_map]; rfl
          rw [this, q5] at hA'; cases hA'; rfl
        subst hAA
        obtain ⟨n, rfl⟩ : ∃ m, n = m + 1 := by
          cases n with
          | zero => simp [evCallN] at q1
          | succ m => exact ⟨m, rfl⟩
        refine ⟨lf, n, s₁, q1, rfl, rfl, rfl, ?_, fun m _ => ⟨by rw [q3.maps], by rw [q3.maps]⟩, fun l _ => ⟨by rw [q3.loops], by rw [q3.loops]⟩, ?_⟩
        · intro a ha'
          by_cases h7 : a = ha
          · subst h7
            refine ⟨by rw [q4]; exact Tr.get_set_same _ _ _, .inr ⟨⟨hj, ho, List.mem_cons_self ..⟩, fun A hA j i u hu => ?_⟩⟩
            rw [q4] at hA; cases hA
            rcases wrN_new hA' j i u hu with h8 | h8
            · left
              obtain ⟨x, _, rfl⟩ := List.mem_map.1 h8
              rfl
            · right; simp only [AS.rd, hA0]; exact h8
          · exact ⟨by rw [q3.arr a ha' h7]; exact Tr.get_set_ne _ _ h7, .inl (q3.arr a ha' h7)⟩
        · refine ⟨fun a ha' => ?_, wf.map⟩
          have : a ≠ ha := by
            rintro rfl
            rw [wf.arr a ha'] at hA0; cases hA0
          exact (Tr.get_set_ne _ _ this).trans (wf.arr a ha')
    · cases h6
  · cases h6

theorem sha_nsound {P : Program} {tab : Tab} (htab : TabOk P tab) (hmix : P.follows .mixedOrders = true) (hk : Entered P 298) (hK : tab.get 298 = some c298) (hT : tab.get 346 = some c346) (hR : tab.get 387 = some c387) (hS : tab.get 347 = some c347) :
    NSound P 298 (shaNat shaK) := by
  refine nsound_of_ev (nt := .e) htab (fun k g h => by cases h) hmix hk ?_
  intro E cl args s v s' wf hg
  unfold shaNat at hg
  split at hg
  · rename_i ha hj ho ba bj bo cap
    split at hg
    · rename_i hl hrd
      split at hg
      · rename_i hn hnat
        split at hg
        · rename_i h hw8
          split at hg
          · rename_i bl hbd
            split at hg
            · rename_i bn hbn
              split at hg
              · rename_i s₂ hwr
                cases hg
                exact sha_once htab wf hK hT hR hS hrd (natsOf_some hnat) (w8Of_some hw8) hbd (natsOf_some hbn) hwr
              · cases hg
            · cases hg
          · cases hg
        · cases hg
      · cases hg
    · cases hg
  · cases hg
end Go.Ab.B
end
