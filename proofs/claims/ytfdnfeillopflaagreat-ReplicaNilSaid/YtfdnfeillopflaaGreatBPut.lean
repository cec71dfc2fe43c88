/- BPut -/
import Derived.Test.YtfdnfeillopflaaGreatBTab
import Derived.Test.YtfdnfeillopflaaGreatMi
import Derived.KernelRfl
noncomputable section
namespace Go.Ab

/-- A number's bytes, seven bits each. -/
def vi (n : Nat) : List Nat := if n < 128 then [n] else (n % 128 + 128) :: vi (n / 128)
termination_by n
decreasing_by omega
theorem vi_small {n : Nat} (h : n < 128) : vi n = [n] := by rw [vi, if_pos h]
theorem vi_big {n : Nat} (h : ¬ n < 128) : vi n = (n % 128 + 128) :: vi (n / 128) := by rw [vi, if_neg h]
theorem vi_length : ∀ (d n : Nat), n < 128 ^ (d + 1) → (vi n).length ≤ d + 1 := by
  intro d
  induction d with
  | zero => intro n h; rw [vi_small (by simpa using h)]; simp
  | succ d ih =>
    intro n h
    by_cases h1 : n < 128
    · rw [vi_small h1]; simp
    · rw [vi_big h1]
      have := ih (n / 128) (by rw [Nat.div_lt_iff_lt_mul (by omega)]; rw [Nat.pow_succ] at h; exact h)
      simp only [List.length_cons]; omega
theorem or128 : ∀ a, a < 256 → (a % 256 ||| 128 % 256) % 256 = a % 128 + 128 := by decide +kernel
theorem wrapU8 (n : Nat) : IntKind.u8.wrap (n : Int) = ((n % 256 : Nat) : Int) := by
  show ((n : Int)) % ((256 : Nat) : Int) = _
  exact (Int.natCast_emod n 256).symm
theorem u8_or128 {E : Env} (a : Nat) (h : a < 256) : binAV E .or (.int .u8 a) (.int .u8 128) = some (.int .u8 ((a % 128 + 128 : Nat) : Int)) := by
  show (some (AV.int .u8 (IntKind.u8.wrap (((BitVec.ofInt 8 (a : Int) ||| BitVec.ofInt 8 ((128 : Nat) : Int)).toNat : Nat) : Int)))) = _
  rw [ofInt_nat, ofInt_nat, wrapU8]
  show some (AV.int .u8 (((a % 256 ||| 128 % 256) % 256 : Nat) : Int)) = _
  rw [or128 a h]
theorem u64_geq {E : Env} (a b : Nat) : binAV E .geq (.int .u64 a) (.int .u64 b) = some (.bool (decide (b ≤ a))) := by
  show some (AV.bool (decide ((a : Int) ≥ b))) = _
  congr 2; simp
theorem wrapU64 (n : Nat) (h : n < 18446744073709551616) : IntKind.u64.wrap (n : Int) = (n : Int) := by
  show ((n : Int)) % ((18446744073709551616 : Nat) : Int) = _
  rw [← Int.natCast_emod, Nat.mod_eq_of_lt h]
theorem u64_shr {E : Env} (a k : Nat) (kk : IntKind) : binAV E .shr (.int .u64 a) (.int kk (k : Int)) = some (.int .u64 ((a / 2 ^ min k 64 : Nat) : Int)) := by
  show shiftBin .shr .u64 a k = _
  simp only [shiftBin]
  have h : decide ((k : Int) < 0) = false := by simp
  rw [h]
  simp only [Int.toNat_natCast, IntKind.bits]
  congr 2
  rw [Int.fdiv_eq_ediv_of_nonneg]
  · norm_cast
  · exact Int.le_of_lt (Int.pow_pos (by decide))
theorem u64_and127 {E : Env} (a : Nat) (h : a < 18446744073709551616) : binAV E .and (.int .u64 a) (.int .u64 127) = some (.int .u64 ((a % 128 : Nat) : Int)) := by
  show (some (AV.int .u64 (IntKind.u64.wrap (((BitVec.ofInt 64 (a : Int) &&& BitVec.ofInt 64 ((127 : Nat) : Int)).toNat : Nat) : Int)))) = _
  rw [ofInt_nat, ofInt_nat]
  have e : (BitVec.ofNat 64 a &&& BitVec.ofNat 64 127).toNat = a % 128 := by
    simp only [BitVec.toNat_and, BitVec.toNat_ofNat]
    rw [Nat.mod_eq_of_lt (show a < 2 ^ 64 from h), Nat.mod_eq_of_lt (show 127 < 2 ^ 64 from by decide), show (127 : Nat) = 2 ^ 7 - 1 from rfl, Nat.and_two_pow_sub_one_eq_mod]
  rw [e, wrapU64 _ (by omega)]

namespace B
set_option maxRecDepth 100000
section
variable {E : Env} {tab : Tab} {nt : NTab} (hm : NtMono nt)
/-- One more byte behind a row: a row of one is made, and put behind. -/
theorem app1 {s : AS} {lo : Nat} {v : AV} {l : List Nat} (h : Byt s lo v l) (hlo : lo ≤ s.na) (x : Nat) (hs : l.length ≤ 1000000) (τ : Nat → AV) (p q : EO) (hp : p.evF τ = v) (hq : q.evF τ = .sl s.na 0 0 1 (.known 1)) :
    ∃ v' s', OpR E (.app 1 1 p q) τ (s.new (u8s [x])).2 v' s' ∧ Byt s' lo v' (l ++ [x]) ∧ FrL lo s s' := by
  have f1 := FrL.new (lo := s.na) s (u8s [x]) (Nat.le_refl _)
  have h1 : Byt (s.new (u8s [x])).2 lo v l := h.keep f1 h.lt
  obtain ⟨v', s', k1, k2, k3⟩ := h1.append (m := [x]) (Nat.le_trans hlo (Nat.le_succ _)) (by simp) (by simp; omega)
  have hx := Byt.fresh (s := s) (lo := s.na) (Nat.le_refl _) [x] (.known 1) (.inl rfl)
  refine ⟨v', s', ?_, k2, (f1.mono hlo).trans k3⟩
  exact OpR.app (k := 1) (new := u8s [x]) (by rw [hq]; rfl) (by rw [hq]; exact hx.src) (by rw [hp]; exact k1)
end
end B
end Go.Ab
end

noncomputable section
namespace Go.Ab.B
open Go Go.Ab
set_option maxRecDepth 100000
section
variable {E : Env} {tab : Tab} {nt : NTab} (hm : NtMono nt)
theorem mod_or {k : Nat} : binAV E .or (.int .u8 ((k % 128 % 256 : Nat) : Int)) (.int .u8 128) = some (.int .u8 ((k % 128 + 128 : Nat) : Int)) := by
  have := u8_or128 (E := E) (k % 128 % 256) (by omega)
  rwa [show k % 128 % 256 % 128 = k % 128 from by omega] at this
theorem mod_or2 {k : Nat} : binAV E .or (.int .u8 ((k % 256 : Nat) : Int)) (.int .u8 128) = some (.int .u8 ((k % 128 + 128 : Nat) : Int)) := by
  have := u8_or128 (E := E) (k % 256) (by omega)
  rwa [show k % 256 % 128 = k % 128 from by omega] at this
theorem vi_len {n : Nat} (h : n < 18446744073709551616) : (vi n).length ≤ 10 := vi_length 9 n (Nat.lt_of_lt_of_le h (by decide))
include hm
theorem w_put62 (ht : tab.get 62 = some c62) (hn : nt.get 62 = none) {s : AS} {lo : Nat} {b : AV} {l : List Nat} {n : Nat} (hb : Byt s lo b l) (hlo : lo ≤ s.na) (hl : l.length ≤ 1000) (hn' : n < 18446744073709551616) :
    WF E tab nt (.fn 62 [] []) [b, .int .u64 (n : Int)] s (fun v s' => Byt s' lo v (l ++ vi n) ∧ FrL lo s s') := by
  refine WF.fn hn ht (show 2 ≤ _ from by decide) ?_
  refine WC.rseq hm (WS.step OpR.mv rfl (WS.nil ?_))
  refine WC.seq hm (WC.block ?_)
  refine WC.loop hm (fun τ s' => ∃ (k : Nat) (pre : List Nat) (cur : AV), τ 0 = cur ∧ τ 1 = .int .u64 ((k : Nat) : Int) ∧ Byt s' lo cur (l ++ pre) ∧ FrL lo s s' ∧ pre ++ vi k = vi n ∧ k < 18446744073709551616) (fun τ _ => natAt (τ 1)) ?_
    ⟨n, [], b, rfl, rfl, by rw [List.append_nil]; exact hb, .refl _ _, rfl, hn'⟩
  rintro τ s' ⟨k, pre, cur, h0, h1, hcur, hfr, hpre, hk⟩
  have hpl : pre.length ≤ 10 := by
    have := congrArg List.length hpre
    rw [List.length_append] at this
    have := vi_len hn'
    omega
  have hll : (l ++ pre).length ≤ 1000000 := by rw [List.length_append]; omega
  have hlo' : lo ≤ s'.na := Nat.le_trans hlo hfr.na
  obtain ⟨ρ, rfl⟩ : ∃ ρ, τ = upd (upd ρ 0 cur) 1 (.int .u64 ((k : Nat) : Int)) := ⟨τ, by rw [upd_self h0, upd_self h1]⟩
  refine WC.seq hm (WC.rseq hm (WS.step OpR.mv rfl (WS.step (OpR.bin (u64_geq k 128)) rfl (WS.nil ?_))))
  by_cases hlt : 128 ≤ k
  · refine WC.cond (b := true) (congrArg AV.bool (decide_eq_true hlt)) (WC.skip ?_)
    refine WC.block (WC.rseq hm ?_)
    refine WS.step (v := cur) OpR.mv rfl ?_
    refine WS.step (v := .int .u64 ((k : Nat) : Int)) OpR.mv rfl ?_
    refine WS.step (OpR.bin (u64_and127 k hk)) rfl ?_
    refine WS.step (v := .int .u8 ((k % 128 % 256 : Nat) : Int)) ((wrapU8 (k % 128)) ▸ OpR.cvInt (k := .u8) (k' := .u64) (n := ((k % 128 : Nat) : Int)) rfl) rfl ?_
    refine WS.step (OpR.bin mod_or) rfl ?_
    refine WS.step (OpR.buildSl (l := u8s [k % 128 + 128]) rfl) rfl ?_
    obtain ⟨v', s₂, a1, a2, a3⟩ := app1 (E := E) hcur hlo' (k % 128 + 128) hll (updO (updO (updO (updO (updO (updO (updO (updO (upd (upd ρ 0 cur) 1 (.int .u64 ((k : Nat) : Int))) (some 5) (.int .u64 ((k : Nat) : Int))) (some 6) (.bool (decide (128 ≤ k)))) (some 7) cur) (some 8) (.int .u64 ((k : Nat) : Int))) (some 9) (.int .u64 ((k % 128 : Nat) : Int))) (some 10) (.int .u8 ((k % 128 % 256 : Nat) : Int))) (some 11) (.int .u8 ((k % 128 + 128 : Nat) : Int))) (some 12) (.sl s'.na 0 0 1 (.known 1))) (.t 7) (.t 12) rfl rfl
    refine WS.step a1 rfl (WS.step (v := v') OpR.mv rfl (WS.nil (WC.reg ?_)))
    refine WS.step (v := .int .u64 ((k : Nat) : Int)) OpR.mv rfl (WS.step (v := .int .u64 ((k / 128 : Nat) : Int)) (OpR.bin (u64_shr k 7 .u64)) rfl (WS.step (v := .int .u64 ((k / 128 : Nat) : Int)) OpR.mv rfl (WS.nil ?_)))
    refine ⟨⟨k / 128, pre ++ [k % 128 + 128], v', rfl, rfl, by rw [← List.append_assoc]; exact a2, hfr.trans a3, ?_, by omega⟩, ?_⟩
    · rw [← hpre, vi_big (n := k) (by omega), List.append_assoc]; rfl
    · show k / 128 < k
      exact Nat.div_lt_self (by omega) (by omega)
  · refine WC.cond (b := false) (congrArg AV.bool (decide_eq_false hlt)) (WC.exit ?_)
    show WC E tab nt _ _ s' _
    refine WC.rseq hm ?_
    refine WS.step (v := cur) OpR.mv rfl ?_
    refine WS.step (v := .int .u64 ((k : Nat) : Int)) OpR.mv rfl ?_
    refine WS.step (v := .int .u8 ((k % 256 : Nat) : Int)) ((wrapU8 k) ▸ OpR.cvInt (k := .u8) (k' := .u64) (n := ((k : Nat) : Int)) rfl) rfl ?_
    rw [Nat.mod_eq_of_lt (show k < 256 by omega)]
    refine WS.step (OpR.buildSl (l := u8s [k]) rfl) rfl ?_
    obtain ⟨v', s₂, a1, a2, a3⟩ := app1 (E := E) hcur hlo' k hll (updO (updO (updO (updO (updO (updO (upd (upd ρ 0 cur) 1 (.int .u64 ((k : Nat) : Int))) (some 5) (.int .u64 ((k : Nat) : Int))) (some 6) (.bool (decide (128 ≤ k)))) (some 16) cur) (some 17) (.int .u64 ((k : Nat) : Int))) (some 18) (.int .u8 ((k : Nat) : Int))) (some 19) (.sl s'.na 0 0 1 (.known 1))) (.t 16) (.t 19) rfl rfl
    refine WS.step a1 rfl (WS.step (v := v') OpR.mv rfl (WS.nil (WC.ret ?_)))
    refine ⟨fun id h => (by cases h), v', rfl, ?_, hfr.trans a3⟩
    rw [← hpre, vi_small (n := k) (by omega), ← List.append_assoc]; exact a2
end
end Go.Ab.B
end

noncomputable section
namespace Go.Ab.B
open Go Go.Ab
set_option maxRecDepth 100000
section
variable {E : Env} {tab : Tab} {nt : NTab} (hm : NtMono nt)
/-- A row's copy. -/
theorem copy_nil {s : AS} {l : List Nat} (hl : l.length ≤ 1000000) : ∃ v' s', appAV s 1 1 l.length (u8s l) .nils = some (v', s') ∧ Byt s' s.na v' l ∧ FrL s.na s s' := by
  by_cases h : l = []
  · subst h; exact ⟨.nils, s, rfl, .inl ⟨rfl, rfl⟩, .refl _ _⟩
  · have := Byt.append (s := s) (lo := s.na) (v := .nils) (l := []) (m := l) (.inl ⟨rfl, rfl⟩) (Nat.le_refl _) h (by simp; omega)
    simpa using this
include hm
theorem w_put61 (ht : tab.get 61 = some c61) (hn : nt.get 61 = none) {s : AS} {b : AV} {l : List Nat} {n : Nat} (hb1 : lenAV s b = some l.length) (hb2 : srcCells s 1 l.length b = some (u8s l)) (hl : l.length ≤ 1000) (hn' : n < 18446744073709551616) :
    WF E tab nt (.fn 61 [] []) [b, .int .u64 (n : Int)] s (fun v s' => Byt s' s.na v (l ++ vi n) ∧ FrL s.na s s') := by
  obtain ⟨v0, s0, a1, a2, a3⟩ := copy_nil (s := s) (l := l) (by omega)
  refine WF.fn hn ht (show 2 ≤ _ from by decide) ?_
  refine WC.rseq hm (WS.step OpR.mv rfl (WS.nil ?_))
  refine WC.rseq hm (WS.step (v := b) OpR.mv rfl (WS.step (OpR.app (k := l.length) (new := u8s l) hb1 hb2 a1) rfl (WS.step (v := v0) OpR.mv rfl (WS.nil ?_))))
  refine WC.seq hm (WC.block ?_)
  refine WC.loop hm (fun τ s' => ∃ (k : Nat) (pre : List Nat) (cur : AV), τ 5 = cur ∧ τ 1 = .int .u64 ((k : Nat) : Int) ∧ Byt s' s.na cur (l ++ pre) ∧ FrL s.na s s' ∧ pre ++ vi k = vi n ∧ k < 18446744073709551616) (fun τ _ => natAt (τ 1)) ?_
    ⟨n, [], v0, rfl, rfl, by rw [List.append_nil]; exact a2, a3, rfl, hn'⟩
  rintro τ s' ⟨k, pre, cur, h0, h1, hcur, hfr, hpre, hk⟩
  have hpl : pre.length ≤ 10 := by
    have := congrArg List.length hpre
    rw [List.length_append] at this
    have := vi_len hn'
    omega
  have hll : (l ++ pre).length ≤ 1000000 := by rw [List.length_append]; omega
  have hlo' : s.na ≤ s'.na := hfr.na
  obtain ⟨ρ, rfl⟩ : ∃ ρ, τ = upd (upd ρ 5 cur) 1 (.int .u64 ((k : Nat) : Int)) := ⟨τ, by rw [upd_self h0, upd_self h1]⟩
  refine WC.seq hm (WC.rseq hm (WS.step OpR.mv rfl (WS.step (OpR.bin (u64_geq k 128)) rfl (WS.nil ?_))))
  by_cases hlt : 128 ≤ k
  · refine WC.cond (b := true) (congrArg AV.bool (decide_eq_true hlt)) (WC.skip ?_)
    refine WC.seq hm (WC.block (WC.reg ?_))
    refine WS.step (v := cur) OpR.mv rfl ?_
    refine WS.step (v := .int .u64 ((k : Nat) : Int)) OpR.mv rfl ?_
    refine WS.step (v := .int .u8 ((k % 256 : Nat) : Int)) ((wrapU8 k) ▸ OpR.cvInt (k := .u8) (k' := .u64) (n := ((k : Nat) : Int)) rfl) rfl ?_
    refine WS.step (OpR.bin mod_or2) rfl ?_
    refine WS.step (OpR.buildSl (l := u8s [k % 128 + 128]) rfl) rfl ?_
    obtain ⟨v', s₂, a1, a2, a3⟩ := app1 (E := E) hcur hlo' (k % 128 + 128) hll (updO (updO (updO (updO (updO (updO (updO (upd (upd ρ 5 cur) 1 (.int .u64 ((k : Nat) : Int))) (some 8) (.int .u64 ((k : Nat) : Int))) (some 9) (.bool (decide (128 ≤ k)))) (some 12) cur) (some 13) (.int .u64 ((k : Nat) : Int))) (some 14) (.int .u8 ((k % 256 : Nat) : Int))) (some 15) (.int .u8 ((k % 128 + 128 : Nat) : Int))) (some 16) (.sl s'.na 0 0 1 (.known 1))) (.t 12) (.t 16) rfl rfl
    refine WS.step a1 rfl (WS.step (v := v') OpR.mv rfl (WS.nil (WC.reg ?_)))
    refine WS.step (v := .int .u64 ((k : Nat) : Int)) OpR.mv rfl (WS.step (v := .int .u64 ((k / 128 : Nat) : Int)) (OpR.bin (u64_shr k 7 .u64)) rfl (WS.step (v := .int .u64 ((k / 128 : Nat) : Int)) OpR.mv rfl (WS.nil ?_)))
    refine ⟨⟨k / 128, pre ++ [k % 128 + 128], v', rfl, rfl, by rw [← List.append_assoc]; exact a2, hfr.trans a3, ?_, by omega⟩, ?_⟩
    · rw [← hpre, vi_big (n := k) (by omega), List.append_assoc]; rfl
    · show k / 128 < k
      exact Nat.div_lt_self (by omega) (by omega)
  · refine WC.cond (b := false) (congrArg AV.bool (decide_eq_false hlt)) (WC.exit ?_)
    show WC E tab nt _ _ s' _
    refine WC.rseq hm ?_
    refine WS.step (v := cur) OpR.mv rfl ?_
    refine WS.step (v := .int .u64 ((k : Nat) : Int)) OpR.mv rfl ?_
    refine WS.step (v := .int .u8 ((k % 256 : Nat) : Int)) ((wrapU8 k) ▸ OpR.cvInt (k := .u8) (k' := .u64) (n := ((k : Nat) : Int)) rfl) rfl ?_
    rw [Nat.mod_eq_of_lt (show k < 256 by omega)]
    refine WS.step (OpR.buildSl (l := u8s [k]) rfl) rfl ?_
    obtain ⟨v', s₂, a1, a2, a3⟩ := app1 (E := E) hcur hlo' k hll (updO (updO (updO (updO (updO (updO (upd (upd ρ 5 cur) 1 (.int .u64 ((k : Nat) : Int))) (some 8) (.int .u64 ((k : Nat) : Int))) (some 9) (.bool (decide (128 ≤ k)))) (some 18) cur) (some 19) (.int .u64 ((k : Nat) : Int))) (some 20) (.int .u8 ((k : Nat) : Int))) (some 21) (.sl s'.na 0 0 1 (.known 1))) (.t 18) (.t 21) rfl rfl
    refine WS.step a1 rfl (WS.step (v := v') OpR.mv rfl (WS.nil (WC.ret ?_)))
    refine ⟨fun id h => (by cases h), v', rfl, ?_, hfr.trans a3⟩
    rw [← hpre, vi_small (n := k) (by omega), ← List.append_assoc]; exact a2

/-- What both say of an attestation. -/
def attB (seq : Nat) (d : List Nat) (ver : Nat) : List Nat := ([5] ++ vi seq ++ d) ++ vi ver
end
end Go.Ab.B
end

noncomputable section
namespace Go.Ab
def n64 (z : Int) : Nat := (z % 18446744073709551616).toNat
theorem n64_lt (z : Int) : n64 z < 18446744073709551616 := by unfold n64; omega
theorem wrap_n64 (z : Int) : IntKind.u64.wrap z = ((n64 z : Nat) : Int) := by
  show z % 18446744073709551616 = _
  unfold n64; omega
namespace B
set_option maxRecDepth 100000
section
variable {E : Env} {tab : Tab} {nt : NTab} (hm : NtMono nt)
include hm
theorem w_att30 (ht : tab.get 30 = some c30) (hn : nt.get 30 = none) (ht' : tab.get 61 = some c61) (hn' : nt.get 61 = none) {s : AS} {sq V : Int} {d : List Nat} {rest : List AV} (hd : d.length = 32) :
    WF E tab nt (.fn 30 [] []) [.agg ([.int .i64 sq] ++ u8s d ++ (.int .i64 V :: rest))] s (fun v s' => Byt s' s.na v (attB (n64 sq) d (n64 (max 0 V))) ∧ FrL s.na s s') := by
  have hdl : (u8s d).length = 32 := by rw [u8s_length, hd]
  refine WF.fn hn ht (show 1 ≤ _ from by decide) ?_
  refine WC.rseq hm (WS.step (OpR.box (l := [.int .i64 sq] ++ u8s d ++ (.int .i64 V :: rest)) rfl) rfl (WS.step OpR.mv rfl (WS.nil ?_)))
  obtain ⟨s1, hs1⟩ : ∃ x, (s.new ([.int .i64 sq] ++ u8s d ++ (.int .i64 V :: rest))).2 = x := ⟨_, rfl⟩
  rw [hs1]
  have f1 : FrL s.na s s1 := hs1 ▸ FrL.new s _ (Nat.le_refl _)
  have n1 : s1.na = s.na + 1 := by rw [← hs1]; rfl
  have r0 : s1.rd s.na 0 0 = some (.int .i64 sq) := by rw [← hs1, rd_new]; rfl
  have r1 : s1.rdN s.na 0 1 32 = some (u8s d) := by
    have := rdN_new s [.int .i64 sq] (u8s d) (.int .i64 V :: rest)
    rw [hs1, hdl] at this; exact this
  have r2 : s1.rd s.na 0 33 = some (.int .i64 V) := by
    rw [← hs1, rd_new, List.getElem?_append_right (by simp [hdl])]
    simp [hdl]
  -- the first byte
  have h5 := Byt.fresh (s := s1) (lo := s1.na) (Nat.le_refl _) [5] (.known 1) (.inl rfl)
  have f2 := FrL.new (lo := s1.na) s1 (u8s [5]) (Nat.le_refl _)
  obtain ⟨s2, hs2⟩ : ∃ x, (s1.new (u8s [5])).2 = x := ⟨_, rfl⟩
  have n2 : s2.na = s1.na + 1 := by rw [← hs2]; rfl
  rw [hs2] at h5 f2
  have r0' : s2.rd s.na 0 0 = some (.int .i64 sq) := by rw [f2.rd (by omega)]; exact r0
  refine WC.rseq hm ?_
  refine WS.step (OpR.buildSl (l := u8s [5]) rfl) rfl ?_
  rw [hs2]
  refine WS.step (v := .ptr s.na 0 0) (OpR.fldA rfl) rfl (WS.step (OpR.ld1 rfl r0') rfl (WS.step (v := .int .u64 ((n64 sq : Nat) : Int)) ((wrap_n64 sq) ▸ OpR.cvInt (k := .u64) (k' := .i64) (n := sq) rfl) rfl (WS.step (v := .ptr s.na 0 1) (OpR.fldA rfl) rfl (WS.step (v := .sl s.na 0 1 32 (.known 32)) (OpR.slArr (a := s.na) (j := 0) (o := 1) rfl rfl) rfl ?_))))
  refine WS.call hm rfl ((w_put61 hm ht' hn' (l := [5]) (n := n64 sq) h5.len.1 h5.src (by simp) (n64_lt sq)).mono ?_)
  rintro v3 s3 ⟨b3, f3⟩
  refine ⟨trivial, ?_⟩
  have r1' : srcCells s3 1 32 (.sl s.na 0 1 32 (.known 32)) = some (u8s d) := by
    show s3.rdN s.na 0 1 (32 * 1) = _
    rw [f3.rdN (by omega), f2.rdN (by omega)]; exact r1
  have lo3 : s2.na ≤ s3.na := f3.na
  have hl3 : ([5] ++ vi (n64 sq)).length ≤ 11 := by rw [List.length_append]; have := vi_len (n64_lt sq); simp; omega
  obtain ⟨v4, s4, a1, a2, a3⟩ := b3.append (m := d) lo3 (by intro h; rw [h] at hd; cases hd) (by rw [hd]; omega)
  rw [hd] at a1
  refine WS.step (OpR.app (k := 32) (new := u8s d) rfl r1' a1) rfl (WS.step (v := v4) OpR.mv rfl (WS.nil ?_))
  have f24 : FrL s2.na s2 s4 := f3.trans a3
  have r2' : s4.rd s.na 0 33 = some (.int .i64 V) := by rw [f24.rd (by omega), f2.rd (by omega)]; exact r2
  have hmx : (if V > 0 then V else 0) = max 0 V := by split <;> omega
  refine WC.rseq hm ?_
  refine WS.step (v := v4) OpR.mv rfl (WS.step (v := .ptr s.na 0 33) (OpR.fldA rfl) rfl (WS.step (OpR.ld1 rfl r2') rfl (WS.step (v := .int .i64 (max 0 V)) (OpR.mx (x := .int .i64 0) (l := [.int .i64 V]) rfl (by rw [← hmx]; rfl)) rfl (WS.step (v := .int .u64 ((n64 (max 0 V) : Nat) : Int)) ((wrap_n64 (max 0 V)) ▸ OpR.cvInt (k := .u64) (k' := .i64) (n := max 0 V) rfl) rfl ?_))))
  have hl4 : ([5] ++ vi (n64 sq) ++ d).length ≤ 1000 := by rw [List.length_append, hd]; omega
  refine WS.call hm rfl ((w_put61 hm ht' hn' (l := [5] ++ vi (n64 sq) ++ d) (n := n64 (max 0 V)) a2.len.1 a2.src hl4 (n64_lt _)).mono ?_)
  rintro v5 s5 ⟨b5, f5⟩
  refine ⟨trivial, WS.step (v := v5) OpR.mv rfl (WS.nil (WC.ret ⟨fun id h => (by cases h), v5, rfl, ?_, ?_⟩))⟩
  · have hle : s.na ≤ s4.na := Nat.le_trans (by omega) f24.na
    rcases b5 with b5 | ⟨a, j, o, cap, A, h1, h2, h3⟩
    · exact .inl b5
    · exact .inr ⟨a, j, o, cap, A, h1, Nat.le_trans hle h2, h3⟩
  · exact ((f1.trans (f2.mono (by omega))).trans (f24.mono (by omega))).trans (f5.mono (by have := f24.na; omega))
end
end B
end Go.Ab
end

noncomputable section
namespace Go.Ab
theorem same_int (k : IntKind) (n : Int) : same (.int k n) (.int k n) = true := by simp [same, same1, IntKind.same]
namespace B
set_option maxRecDepth 100000
section
variable {E : Env} {tab : Tab} {nt : NTab} (hm : NtMono nt)
include hm
theorem w_att31 (ht : tab.get 31 = some c31) (hn : nt.get 31 = none) (ht' : tab.get 62 = some c62) (hn' : nt.get 62 = none) {s : AS} {sq V : Int} {d : List Nat} {rest : List AV} (hd : d.length = 32) :
    WF E tab nt (.fn 31 [] []) [.agg ([.int .i64 sq] ++ u8s d ++ (.int .i64 V :: rest))] s (fun v s' => Byt s' s.na v (attB (n64 sq) d (n64 (max 0 V))) ∧ FrL s.na s s') := by
  have hdl : (u8s d).length = 32 := by rw [u8s_length, hd]
  refine WF.fn hn ht (show 1 ≤ _ from by decide) ?_
  refine WC.rseq hm (WS.step (OpR.box (l := [.int .i64 sq] ++ u8s d ++ (.int .i64 V :: rest)) rfl) rfl (WS.step OpR.mv rfl (WS.nil ?_)))
  obtain ⟨s1, hs1⟩ : ∃ x, (s.new ([.int .i64 sq] ++ u8s d ++ (.int .i64 V :: rest))).2 = x := ⟨_, rfl⟩
  rw [hs1]
  have f1 : FrL s.na s s1 := hs1 ▸ FrL.new s _ (Nat.le_refl _)
  have n1 : s1.na = s.na + 1 := by rw [← hs1]; rfl
  have r0 : s1.rd s.na 0 0 = some (.int .i64 sq) := by rw [← hs1, rd_new]; rfl
  have r1 : s1.rdN s.na 0 1 32 = some (u8s d) := by
    have := rdN_new s [.int .i64 sq] (u8s d) (.int .i64 V :: rest)
    rw [hs1, hdl] at this; exact this
  have r2 : s1.rd s.na 0 33 = some (.int .i64 V) := by
    rw [← hs1, rd_new, List.getElem?_append_right (by simp [hdl])]
    simp [hdl]
  have h5 := Byt.fresh (s := s1) (lo := s1.na) (Nat.le_refl _) [5] (.known 1) (.inl rfl)
  have f2 := FrL.new (lo := s1.na) s1 (u8s [5]) (Nat.le_refl _)
  obtain ⟨s2, hs2⟩ : ∃ x, (s1.new (u8s [5])).2 = x := ⟨_, rfl⟩
  have n2 : s2.na = s1.na + 1 := by rw [← hs2]; rfl
  rw [hs2] at h5 f2
  have r0' : s2.rd s.na 0 0 = some (.int .i64 sq) := by rw [f2.rd (by omega)]; exact r0
  refine WC.rseq hm ?_
  refine WS.step (OpR.buildSl (l := u8s [5]) rfl) rfl ?_
  rw [hs2]
  refine WS.step (v := .ptr s.na 0 0) (OpR.fldA rfl) rfl (WS.step (OpR.ld1 rfl r0') rfl (WS.step (v := .int .u64 ((n64 sq : Nat) : Int)) ((wrap_n64 sq) ▸ OpR.cvInt (k := .u64) (k' := .i64) (n := sq) rfl) rfl ?_))
  refine WS.call hm rfl ((w_put62 hm ht' hn' (lo := s1.na) (l := [5]) (n := n64 sq) h5 (by omega) (by simp) (n64_lt sq)).mono ?_)
  rintro v3 s3 ⟨b3, f3⟩
  refine ⟨trivial, WS.step (v := v3) OpR.mv rfl (WS.nil ?_)⟩
  have f23 := f2.trans f3
  have r1' : srcCells s3 1 32 (.sl s.na 0 1 32 (.known 32)) = some (u8s d) := by
    show s3.rdN s.na 0 1 (32 * 1) = _
    rw [f23.rdN (by omega)]; exact r1
  have r2' : s3.rd s.na 0 33 = some (.int .i64 V) := by rw [f23.rd (by omega)]; exact r2
  have hmx : (if V > 0 then V else 0) = max 0 V := by split <;> omega
  have hl3 : ([5] ++ vi (n64 sq)).length ≤ 11 := by rw [List.length_append]; have := vi_len (n64_lt sq); simp; omega
  obtain ⟨v4, s4, a1, a2, a3⟩ := b3.append (m := d) f23.na (by intro h; rw [h] at hd; cases hd) (by rw [hd]; omega)
  rw [hd] at a1
  have r2'' : s4.rd s.na 0 33 = some (.int .i64 V) := by rw [a3.rd (by omega)]; exact r2'
  refine WC.rseq hm ?_
  refine WS.step (v := v3) OpR.mv rfl (WS.step (v := .ptr s.na 0 1) (OpR.fldA rfl) rfl (WS.step (v := .sl s.na 0 1 32 (.known 32)) (OpR.slArr (a := s.na) (j := 0) (o := 1) rfl rfl) rfl (WS.step (v := .ptr s.na 0 33) (OpR.fldA rfl) rfl (WS.step (OpR.ld1 rfl r2') rfl (WS.step (v := .int .i64 (max 0 V)) (OpR.mx (x := .int .i64 0) (l := [.int .i64 V]) rfl (by rw [← hmx]; rfl)) rfl (WS.step (v := .int .u64 ((n64 (max 0 V) : Nat) : Int)) ((wrap_n64 (max 0 V)) ▸ OpR.cvInt (k := .u64) (k' := .i64) (n := max 0 V) rfl) rfl ?_))))))
  refine WS.stepR (OpR.app (k := 32) (new := u8s d) rfl r1' a1) rfl ⟨⟨_, _, _, OpR.ld1 rfl r2'', rfl, rfl, rfl, same_int _ _, by intro h; cases h⟩, trivial⟩ ?_
  have hl4 : ([5] ++ vi (n64 sq) ++ d).length ≤ 1000 := by rw [List.length_append, hd]; omega
  have lo4 : s1.na ≤ s4.na := Nat.le_trans f23.na a3.na
  refine WS.call hm rfl ((w_put62 hm ht' hn' (lo := s1.na) (l := [5] ++ vi (n64 sq) ++ d) (n := n64 (max 0 V)) a2 lo4 hl4 (n64_lt _)).mono ?_)
  rintro v5 s5 ⟨b5, f5⟩
  refine ⟨trivial, WS.step (v := v5) OpR.mv rfl (WS.nil (WC.ret ⟨fun id h => (by cases h), v5, rfl, ?_, ?_⟩))⟩
  · rcases b5 with b5 | ⟨a, j, o, cap, A, h1, h2, h3⟩
    · exact .inl b5
    · exact .inr ⟨a, j, o, cap, A, h1, by omega, h3⟩
  · exact f1.trans (((f23.trans a3).trans f5).mono (by omega))
end
end B
end Go.Ab
end
