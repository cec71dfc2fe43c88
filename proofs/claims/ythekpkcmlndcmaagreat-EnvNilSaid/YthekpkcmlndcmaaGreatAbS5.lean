/- Soundness of the abstract evaluator, part 5: arithmetic and comparisons. -/
import Derived.Test.YthekpkcmlndcmaaGreatAbS4
noncomputable section
namespace Go.Ab

theorem wrap64_id {n : Int} (h1 : -9223372036854775808 ≤ n) (h2 : n ≤ 9223372036854775807) : IntKind.i64.wrap n = n := by
  have e : IntKind.i64.wrap n = (if n % 18446744073709551616 ≥ 9223372036854775808 then n % 18446744073709551616 - 18446744073709551616 else n % 18446744073709551616) := by
    simp [IntKind.wrap, IntKind.signed, IntKind.bits]
  rw [e]; split <;> omega

theorem i64ok_spec {E : Env} {σ : Sg} (h : EOk E σ) {i : Nat} {o : Int} (k : i64ok E i o = true) : IntKind.i64.wrap (σ.sym i + o) = σ.sym i + o := by
  unfold i64ok at k
  split at k
  · rename_i a b hr
    have := h.rng i a b hr
    simp at k
    exact wrap64_id (by omega) (by omega)
  · cases k

theorem intBin_run {P : Program} {w : World} {σ : Sg} {op : BinOp} {k : IntKind} {a b : Int} {v : AV} (h : intBin op k a b = some v) (t : TypeId) (hs : isShift op = false) :
    (binOp op t (.int k a) (.int k b)).run P w = .ok (conc σ v) w ∧ In σ v := by
  cases op <;> simp only [intBin, isShift] at h hs <;> first
    | (cases hs; done)
    | (cases h; exact ⟨by simp [binOp, Op.intArith, Op.intBits, Op.intCmp, conc], trivial⟩)
    | (split at h <;> first
        | (cases h; done)
        | (rename_i hb; cases h; simp at hb; exact ⟨by simp [binOp, Op.intDiv, conc, hb], trivial⟩))

theorem shiftBin_run {P : Program} {w : World} {σ : Sg} {op : BinOp} {k k' : IntKind} {a b : Int} {v : AV} (h : shiftBin op k a b = some v) (t : TypeId) :
    (binOp op t (.int k a) (.int k' b)).run P w = .ok (conc σ v) w ∧ In σ v := by
  unfold shiftBin at h
  split at h
  · cases h
  · rename_i hb
    simp at hb
    have hb' : ¬ b < 0 := by omega
    cases op <;> first
      | (cases h; done)
      | (cases h; exact ⟨by simp [binOp, Op.shift, conc, hb'], trivial⟩)

theorem strBin_run {P : Program} {w : World} {σ : Sg} {op : BinOp} {a b : ByteArray} {v : AV} (h : strBin op a b = some v) (t : TypeId) :
    (binOp op t (.string a) (.string b)).run P w = .ok (conc σ v) w ∧ In σ v := by
  cases op <;> simp only [strBin] at h <;> first
    | (cases h; done)
    | (cases h; exact ⟨by simp [binOp, Op.stringOp, conc], trivial⟩)
    | (split at h
       · rename_i hb
         cases h
         simp [ble_eq] at hb
         refine ⟨?_, trivial⟩
         have hm : ¬ ((a.size + b.size : Nat) : Int) > IntKind.i64.max := by
           have e : IntKind.i64.max = 9223372036854775807 := by decide
           rw [e]; omega
         simp only [binOp, Op.stringOp, if_neg hm]
         rfl
       · cases h)

theorem same_kind {a b : IntKind} (h : IntKind.same a b = true) : a = b := by simpa [IntKind.same] using h
theorem isI64_eq {k : IntKind} (h : isI64 k = true) : k = .i64 := by cases k <;> first | rfl | cases h
theorem isU64_eq {k : IntKind} (h : isU64 k = true) : k = .u64 := by cases k <;> first | rfl | cases h

/-- The number that a value stands for. -/
def numOf (σ : Sg) : AV → Int
  | .int _ n => n
  | .sym i o => σ.sym i + o
  | _ => 0

theorem rngOf_spec {E : Env} {σ : Sg} (h : EOk E σ) {x : AV} {p : Int × Int} (k : rngOf E x = some p) : p.1 ≤ numOf σ x ∧ numOf σ x ≤ p.2 := by
  unfold rngOf at k
  split at k
  · cases k; simp [numOf]
  · split at k
    · rename_i hr
      have := h.rng _ _ _ hr
      cases k; simp only [numOf]; omega
    · cases k
  · cases k

theorem lssR_spec {p q : Int × Int} {b : Bool} {x y : Int} (h : lssR p q = some b) (hp : p.1 ≤ x ∧ x ≤ p.2) (hq : q.1 ≤ y ∧ y ≤ q.2) : decide (x < y) = b := by
  unfold lssR at h
  split at h
  · rename_i h1; cases h; simp at h1; simp; omega
  · split at h
    · rename_i h1; cases h; simp at h1; simp; omega
    · cases h

theorem eqlR_spec {p q : Int × Int} {b : Bool} {x y : Int} (h : eqlR p q = some b) (hp : p.1 ≤ x ∧ x ≤ p.2) (hq : q.1 ≤ y ∧ y ≤ q.2) : (x == y) = b := by
  unfold eqlR at h
  split at h
  · rename_i h1; cases h; simp at h1; simp; omega
  · split at h
    · rename_i h1; cases h; simp at h1; simp; omega
    · cases h

theorem notO_spec {o : Option Bool} {b : Bool} (h : notO o = some b) : o = some (!b) := by
  cases o with
  | none => cases h
  | some c => simp [notO] at h; subst h; simp

theorem cmpR_run {P : Program} {w : World} {op : BinOp} {p q : Int × Int} {b : Bool} {x y : Int} (h : cmpR op p q = some b) (hp : p.1 ≤ x ∧ x ≤ p.2) (hq : q.1 ≤ y ∧ y ≤ q.2) (t : TypeId) :
    (binOp op t (.int .i64 x) (.int .i64 y)).run P w = .ok (.bool b) w := by
  cases op <;> simp only [cmpR] at h <;> first | (cases h; done) | skip
  · have := eqlR_spec h hp hq; simp [binOp, Op.intCmp, this]
  · have := eqlR_spec (notO_spec h) hp hq; simp [binOp, Op.intCmp, bne, this]
  · have := lssR_spec h hp hq; simp [binOp, Op.intCmp, this]
  · have := lssR_spec (notO_spec h) hq hp
    have h2 : decide (x ≤ y) = b := by
      cases b <;> simp at this ⊢ <;> omega
    simp [binOp, Op.intCmp, h2]
  · have := lssR_spec h hq hp
    simp [binOp, Op.intCmp, this]
  · have := lssR_spec (notO_spec h) hp hq
    have h2 : decide (x ≥ y) = b := by
      cases b <;> simp at this ⊢ <;> omega
    simp [binOp, Op.intCmp, h2]

theorem symCmp_run {P : Program} {w : World} {E : Env} {σ : Sg} (he : EOk E σ) {op : BinOp} {x y v : AV} (h : symCmp E op x y = some v) (t : TypeId) :
    (binOp op t (.int .i64 (numOf σ x)) (.int .i64 (numOf σ y))).run P w = .ok (conc σ v) w ∧ In σ v := by
  unfold symCmp at h
  split at h
  · rename_i p hp
    split at h
    · rename_i q hq
      split at h
      · rename_i b hb
        cases h
        exact ⟨cmpR_run hb (rngOf_spec he hp) (rngOf_spec he hq) t, trivial⟩
      · cases h
    · cases h
  · cases h

theorem guard_run {P : Program} {w : World} {op : BinOp} {t : TypeId} {x y : Operand} {a b : Value} (h1 : op ≠ .eql) (h2 : op ≠ .neq) : (eqGuard op t x y a b).run P w = .ok () w := by
  cases op <;> first | exact absurd rfl h1 | exact absurd rfl h2 | rfl

theorem sim_bin {P : Program} {w : World} {E : Env} {σ : Sg} (he : EOk E σ) {op : BinOp} {x y v : AV} (h : binAV E op x y = some v) (t : TypeId) :
    (binOp op t (conc σ x) (conc σ y)).run P w = .ok (conc σ v) w ∧ In σ v := by
  unfold binAV at h
  split at h
  · split at h
    · exact shiftBin_run h t
    · rename_i hs
      split at h
      · rename_i hk; rw [same_kind hk] at h ⊢; exact intBin_run h t hs
      · cases h
  · exact strBin_run h t
  · split at h
    · cases h
    · rename_i hk
      rw [isI64_eq hk]
      split at h
      · split at h
        · rename_i hi
          cases h
          have := i64ok_spec he hi
          refine ⟨?_, trivial⟩
          simp only [binOp, conc]
          simp [Op.intArith]
          rw [Int.add_assoc]; exact this
        · cases h
      · split at h
        · rename_i hi
          cases h
          have := i64ok_spec he hi
          refine ⟨?_, trivial⟩
          simp only [binOp, conc]
          simp [Op.intArith]
          rw [Int.add_sub_assoc]; exact this
        · cases h
      · exact symCmp_run he h t
  · split at h
    · cases h
    · rename_i hk
      rw [isI64_eq hk]
      split at h
      · exact symCmp_run he h t
      · cases h
  · split at h
    · exact symCmp_run he h t
    · cases h
  · split at h
    · cases h
    · rename_i hk
      rw [isU64_eq hk]
      split at h
      · split at h
        · rename_i p hp
          have h1 := List.mem_of_find?_eq_some hp
          have h2 := List.find?_some hp
          simp [beq_eq, ble_eq] at h2
          cases h
          have h3 := he.rem _ h1
          simp only at h3 h2
          refine ⟨?_, trivial⟩
          obtain ⟨h4, h6, h5⟩ := h2
          subst h4
          rw [← h5]
          simp only [binOp, conc, Op.intDiv]
          simp [h3]; intro hz; omega
        · cases h
      · cases h
  · cases h

end Go.Ab
