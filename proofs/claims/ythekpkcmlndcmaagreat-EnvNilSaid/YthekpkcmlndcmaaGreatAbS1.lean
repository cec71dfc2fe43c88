/- Soundness of the abstract evaluator, part 1: tries, what abstract values stand for, the relation between abstract heaps and worlds. -/
import Derived.Test.YthekpkcmlndcmaaGreatAbD2
import Derived.Calls
import Derived.Laws.Sem
import Derived.Laws.World
noncomputable section
namespace Go.Ab

/-! ### Tries -/
theorem beq_eq {a b : Nat} : Nat.beq a b = decide (a = b) := by
  cases h : Nat.beq a b with
  | true => have := Nat.eq_of_beq_eq_true h; simp [this]
  | false => have := Nat.ne_of_beq_eq_false h; simp [this]

theorem Tr.get_sing {α : Type} (f k k' : Nat) (x : α) (h : k ≤ f) : (Tr.sing f k x).get k' = if k' = k then some x else none := by
  induction f generalizing k k' with
  | zero =>
    obtain rfl : k = 0 := by omega
    simp only [Tr.sing_zero, Tr.sing_succ, Tr.get_nil, Tr.get_node, beq_eq]
    by_cases h0 : k' = 0
    · simp [h0]
    · simp only [h0, decide_false]
      split <;> simp
  | succ f ih =>
    simp only [Tr.sing_zero, Tr.sing_succ, beq_eq]
    by_cases h0 : k = 0
    · subst h0
      simp only [decide_true, Tr.get_nil, Tr.get_node, beq_eq]
      by_cases h1 : k' = 0
      · simp [h1]
      · simp only [h1, decide_false]
        split <;> simp
    · simp only [h0, decide_false]
      by_cases h2 : k % 2 = 1
      · simp only [h2, decide_true, Tr.get_nil, Tr.get_node, beq_eq]
        by_cases h1 : k' = 0
        · subst h1; simp; omega
        · simp only [h1, decide_false]
          by_cases h3 : k' % 2 = 1
          · simp only [h3, decide_true, ih (k / 2) (k' / 2) (by omega)]
            by_cases h4 : k' = k
            · subst h4; simp
            · rw [if_neg h4, if_neg (by omega)]
          · simp only [h3, decide_false]
            rw [if_neg (by rintro rfl; exact h3 h2)]
      · simp only [h2, decide_false, Tr.get_nil, Tr.get_node, beq_eq]
        by_cases h1 : k' = 0
        · subst h1; simp; omega
        · simp only [h1, decide_false]
          by_cases h3 : k' % 2 = 1
          · simp only [h3, decide_true]
            rw [if_neg (by rintro rfl; exact h2 h3)]
          · simp only [h3, decide_false, ih (k / 2 - 1) (k' / 2 - 1) (by omega)]
            by_cases h4 : k' = k
            · subst h4; simp
            · rw [if_neg h4, if_neg (by omega)]

theorem Tr.get_set {α : Type} (t : Tr α) (k k' : Nat) (x : α) : (t.set k x).get k' = if k' = k then some x else t.get k' := by
  induction t generalizing k k' with
  | e => simp only [Tr.set_nil, Tr.set_node, Tr.get_sing k k k' x (Nat.le_refl _), Tr.get_nil, Tr.get_node]
  | n l v r ihl ihr =>
    simp only [Tr.set_nil, Tr.set_node, beq_eq]
    by_cases h0 : k = 0
    · subst h0
      simp only [decide_true, Tr.get_nil, Tr.get_node, beq_eq]
      by_cases h1 : k' = 0
      · simp [h1]
      · simp [h1]
    · simp only [h0, decide_false]
      by_cases h2 : k % 2 = 1
      · simp only [h2, decide_true, Tr.get_nil, Tr.get_node, beq_eq]
        by_cases h1 : k' = 0
        · subst h1; simp; omega
        · simp only [h1, decide_false]
          by_cases h3 : k' % 2 = 1
          · simp only [h3, decide_true, ihl]
            by_cases h4 : k' = k
            · subst h4; simp
            · rw [if_neg h4, if_neg (by omega)]
          · simp only [h3, decide_false]
            rw [if_neg (by rintro rfl; exact h3 h2)]
      · simp only [h2, decide_false, Tr.get_nil, Tr.get_node, beq_eq]
        by_cases h1 : k' = 0
        · subst h1; simp; omega
        · simp only [h1, decide_false]
          by_cases h3 : k' % 2 = 1
          · simp only [h3, decide_true]
            rw [if_neg (by rintro rfl; exact h2 h3)]
          · simp only [h3, decide_false, ihr]
            by_cases h4 : k' = k
            · subst h4; simp
            · rw [if_neg h4, if_neg (by omega)]

@[simp] theorem Tr.get_set_same {α : Type} (t : Tr α) (k : Nat) (x : α) : (t.set k x).get k = some x := by simp [Tr.get_set]
theorem Tr.get_set_ne {α : Type} (t : Tr α) {k k' : Nat} (x : α) (h : k' ≠ k) : (t.set k x).get k' = t.get k' := by simp [Tr.get_set, h]
@[simp] theorem Tr.get_e {α : Type} (k : Nat) : (Tr.e : Tr α).get k = none := rfl

/-! ### What abstract values stand for -/
/-- One version of an array: its block; the array's cell that is the block's first; the cell behind its last. -/
structure VI where
  blk : Nat
  sh : Nat
  en : Nat

structure Sg where
  ar : Nat → List VI
  mp : Nat → Option Nat
  lp : Nat → Option Nat
  opq : Nat → Value
  sym : Nat → Int

def Sg.vi (σ : Sg) (a j : Nat) : VI := ((σ.ar a)[j]?).getD ⟨0, 0, 0⟩
def Sg.adr (σ : Sg) (a j o : Nat) : Addr := ⟨(σ.vi a j).blk, o - (σ.vi a j).sh, none⟩
def Sg.cap (σ : Sg) (a j o : Nat) : Cap → Nat
  | .known c => c
  | .rest es => ((σ.vi a j).en - o) / es

mutual
def conc (σ : Sg) : AV → Value
  | .undef => Go.undef
  | .bool b => .bool b
  | .int k n => .int k n
  | .str s => .string s
  | .nilp => .pointer none
  | .nils => .slice none 0 0
  | .nilm => .map none
  | .nilf => .nilFunc
  | .nili => .nilIface
  | .ptr a j o => .pointer (some (σ.adr a j o))
  | .sl a j o len cap => .slice (some (σ.adr a j o)) len (σ.cap a j o cap)
  | .tail a j o l es => .slice (some (if σ.cap a j o (.rest es) = l then σ.adr a j o else (σ.adr a j o).add (l * es))) 0 (σ.cap a j o (.rest es) - l)
  | .mp m => .map (some ((σ.mp m).getD 0))
  | .fn f a b => .func (.func f) (concL σ a).toArray (concL σ b).toArray
  | .yld l => .func (.yield ((σ.lp l).getD 0)) #[] #[]
  | .ifc t v => .iface t (conc σ v)
  | .agg l => .agg (concL σ l).toArray
  | .tup l => .tuple (concL σ l).toArray
  | .sym i o => .int .i64 (σ.sym i + o)
  | .symu i => .int .u64 (IntKind.u64.wrap (σ.sym i))
  | .opq i => σ.opq i
def concL (σ : Sg) : List AV → List Value
  | [] => []
  | v :: l => conc σ v :: concL σ l
end

mutual
def In (σ : Sg) : AV → Prop
  | .ptr a j o => j < (σ.ar a).length ∧ (σ.vi a j).sh ≤ o
  | .sl a j o len (.known c) => j < (σ.ar a).length ∧ (σ.vi a j).sh ≤ o ∧ len ≤ c
  | .sl a j o len (.rest es) => j < (σ.ar a).length ∧ (σ.vi a j).sh ≤ o ∧ o + len * es ≤ (σ.vi a j).en ∧ 1 ≤ es
  | .tail a j o l es => j < (σ.ar a).length ∧ (σ.vi a j).sh ≤ o ∧ o + l * es ≤ (σ.vi a j).en ∧ 1 ≤ es ∧ 1 ≤ l
  | .mp m => (σ.mp m).isSome
  | .fn _ a b => InL σ a ∧ InL σ b
  | .yld l => (σ.lp l).isSome
  | .ifc _ v => In σ v
  | .agg l => InL σ l
  | .tup l => InL σ l
  | _ => True
def InL (σ : Sg) : List AV → Prop
  | [] => True
  | v :: l => In σ v ∧ InL σ l
end

theorem concL_eq (σ : Sg) (l : List AV) : concL σ l = l.map (conc σ) := by
  induction l with
  | nil => rfl
  | cons v l ih => simp only [concL, ih, List.map_cons]
theorem InL_iff (σ : Sg) (l : List AV) : InL σ l ↔ ∀ v ∈ l, In σ v := by
  induction l with
  | nil => simp [InL]
  | cons v l ih => simp [InL, ih]

structure Sg.le (σ τ : Sg) : Prop where
  ar : ∀ a, σ.ar a <+: τ.ar a
  mp : ∀ m r, σ.mp m = some r → τ.mp m = some r
  lp : ∀ l r, σ.lp l = some r → τ.lp l = some r
  opq : τ.opq = σ.opq
  sym : τ.sym = σ.sym

theorem Sg.le.refl (σ : Sg) : σ.le σ := ⟨fun _ => List.prefix_refl _, fun _ _ h => h, fun _ _ h => h, rfl, rfl⟩
theorem Sg.le.trans {a b c : Sg} (h : a.le b) (k : b.le c) : a.le c :=
  ⟨fun x => (h.ar x).trans (k.ar x), fun m r e => k.mp m r (h.mp m r e), fun m r e => k.lp m r (h.lp m r e), k.opq.trans h.opq, k.sym.trans h.sym⟩

theorem Sg.le.get {σ τ : Sg} (h : σ.le τ) {a j : Nat} (hj : j < (σ.ar a).length) : (τ.ar a)[j]? = (σ.ar a)[j]? := by
  obtain ⟨t, ht⟩ := h.ar a
  rw [← ht, List.getElem?_append_left hj]
theorem Sg.le.vi {σ τ : Sg} (h : σ.le τ) {a j : Nat} (hj : j < (σ.ar a).length) : τ.vi a j = σ.vi a j := by
  simp only [Sg.vi, h.get hj]
theorem Sg.le.len {σ τ : Sg} (h : σ.le τ) (a : Nat) : (σ.ar a).length ≤ (τ.ar a).length := (h.ar a).length_le

theorem isSome_get {α : Type} {o : Option α} (h : o.isSome) : ∃ x, o = some x := Option.isSome_iff_exists.1 h

mutual
theorem conc_le {σ τ : Sg} (h : σ.le τ) : ∀ (v : AV), In σ v → conc τ v = conc σ v ∧ In τ v
  | .ptr a j o, hv => by
    simp only [In] at hv ⊢
    simp only [conc, Sg.adr, h.vi hv.1]
    exact ⟨trivial, Nat.lt_of_lt_of_le hv.1 (h.len a), hv.2⟩
  | .sl a j o len (.known c), hv => by
    simp only [In] at hv ⊢
    simp only [conc, Sg.adr, Sg.cap, h.vi hv.1]
    exact ⟨trivial, Nat.lt_of_lt_of_le hv.1 (h.len a), hv.2⟩
  | .sl a j o len (.rest es), hv => by
    simp only [In] at hv ⊢
    simp only [conc, Sg.adr, Sg.cap, h.vi hv.1]
    exact ⟨trivial, Nat.lt_of_lt_of_le hv.1 (h.len a), hv.2⟩
  | .tail a j o l es, hv => by
    simp only [In] at hv ⊢
    simp only [conc, Sg.adr, Sg.cap, h.vi hv.1]
    exact ⟨rfl, Nat.lt_of_lt_of_le hv.1 (h.len a), hv.2⟩
  | .mp m, hv => by
    simp only [In] at hv ⊢
    obtain ⟨r, hr⟩ := isSome_get hv
    simp [conc, hr, h.mp m r hr]
  | .yld m, hv => by
    simp only [In] at hv ⊢
    obtain ⟨r, hr⟩ := isSome_get hv
    simp [conc, hr, h.lp m r hr]
  | .fn f a b, hv => by
    simp only [In] at hv ⊢
    simp only [conc, (concL_le h a hv.1).1, (concL_le h b hv.2).1]
    exact ⟨trivial, (concL_le h a hv.1).2, (concL_le h b hv.2).2⟩
  | .ifc t v, hv => by
    simp only [In] at hv ⊢
    simp only [conc, (conc_le h v hv).1]
    exact ⟨trivial, (conc_le h v hv).2⟩
  | .agg l, hv => by
    simp only [In] at hv ⊢
    simp only [conc, (concL_le h l hv).1]
    exact ⟨trivial, (concL_le h l hv).2⟩
  | .tup l, hv => by
    simp only [In] at hv ⊢
    simp only [conc, (concL_le h l hv).1]
    exact ⟨trivial, (concL_le h l hv).2⟩
  | .sym i o, _ => by simp [conc, In, h.sym]
  | .symu i, _ => by simp [conc, In, h.sym]
  | .opq i, _ => by simp [conc, In, h.opq]
  | .undef, _ => ⟨rfl, trivial⟩
  | .bool _, _ => ⟨rfl, trivial⟩
  | .int _ _, _ => ⟨rfl, trivial⟩
  | .str _, _ => ⟨rfl, trivial⟩
  | .nilp, _ => ⟨rfl, trivial⟩
  | .nils, _ => ⟨rfl, trivial⟩
  | .nilm, _ => ⟨rfl, trivial⟩
  | .nilf, _ => ⟨rfl, trivial⟩
  | .nili, _ => ⟨rfl, trivial⟩
theorem concL_le {σ τ : Sg} (h : σ.le τ) : ∀ (l : List AV), InL σ l → concL τ l = concL σ l ∧ InL τ l
  | [], _ => ⟨rfl, trivial⟩
  | v :: l, hv => by
    simp only [InL] at hv ⊢
    simp only [concL, (conc_le h v hv.1).1, (concL_le h l hv.2).1]
    exact ⟨trivial, (conc_le h v hv.1).2, (concL_le h l hv.2).2⟩
end

end Go.Ab
