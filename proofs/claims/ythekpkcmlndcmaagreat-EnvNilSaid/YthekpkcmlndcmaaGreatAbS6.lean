/- Soundness of the abstract evaluator, part 6: == and !=. -/
import Derived.Test.YthekpkcmlndcmaaGreatAbS5
import Derived.ChangeKeysEq
import Derived.Laws.StructEq
import Derived.Laws.Cover3
import Derived.Laws.Pointers
noncomputable section
namespace Go.Ab

theorem equal_eq (t : TypeId) (x y : Value) : Op.equal t x y = Op.equalIn (9999 + 1) t x y := rfl

/-- Of what type a leaf is. -/
def isLK (P : Program) (t : TypeId) : LK → Prop
  | .b => P.underlying t = some .bool
  | .i => ∃ k, P.underlying t = some (.int k)
  | .s => P.underlying t = some .string

theorem symB_some {o : Option AV} {b : Bool} (h : symB o = some b) : o = some (.bool b) := by
  unfold symB at h
  split at h
  · cases h; rfl
  · cases h

/-- Two leaves: as the interpreter holds them against one another, whatever the depth. -/
theorem eqLeaf_in {P : Program} {w : World} {E : Env} {σ : Sg} (he : EOk E σ) {t : TypeId} {k : LK} {x y : AV} {b : Bool} (h : eqLeaf E k x y = some b) (ht : isLK P t k) (d : Nat) :
    (Op.equalIn (d + 1) t (conc σ x) (conc σ y)).run P w = .ok b w := by
  cases k with
  | b =>
    simp only [isLK] at ht
    simp only [eqLeaf] at h
    split at h
    · cases h; exact run_equalIn_bool' w d t _ _ ht
    · cases h
  | s =>
    simp only [isLK] at ht
    simp only [eqLeaf] at h
    split at h
    · cases h; exact run_equalIn_string w d t _ _ ht
    · cases h
  | i =>
    obtain ⟨k', ht⟩ := ht
    simp only [eqLeaf] at h
    split at h
    · split at h
      · rename_i hk
        cases h
        rw [same_kind hk]
        exact run_equalIn_int w d t _ _ _ _ ht
      · cases h
    · split at h
      · rename_i hk
        rw [isI64_eq hk]
        obtain ⟨h1, _⟩ := symCmp_run (P := P) (w := w) he (symB_some h) t
        simp only [conc]
        rw [run_equalIn_int w d t _ _ _ _ ht]
        simp [binOp, Op.intCmp, numOf, conc] at h1
        simp [h1]
      · cases h
    · split at h
      · rename_i hk
        rw [isI64_eq hk]
        obtain ⟨h1, _⟩ := symCmp_run (P := P) (w := w) he (symB_some h) t
        simp only [conc]
        rw [run_equalIn_int w d t _ _ _ _ ht]
        simp [binOp, Op.intCmp, numOf, conc] at h1
        simp [h1]
      · cases h
    · cases h

end Go.Ab
