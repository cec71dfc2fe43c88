/- The evaluator's answer, told of the machine: from an empty abstract heap, at arguments that are not looked into. -/
import Derived.Test.YthekpkcmlndcmaaGreatAbV2
import Derived.Below
import Derived.WideShapes
noncomputable section
namespace Go.Ab
open Go.RowKit

/-- Nothing is known of the heap; the unknowns are these. -/
def Sg.start (o : Nat → Value) : Sg := ⟨fun _ => [], fun _ => none, fun _ => none, o, fun _ => 0⟩

theorem rel_start {P : Program} {o : Nat → Value} (ho : ∀ i, (o i).oneCell' = true) (w : World) : Rel P (Sg.start o) AS.empty w where
  arr a h := absurd rfl h
  inj a a' vi vi' h := by cases h
  map m r h := by cases h
  minj m m' r h := by cases h
  lop l r h := by cases h
  linj l l' r h := by cases h
  na _ _ := rfl
  nm _ _ := rfl
  nl _ _ := rfl
  opq := ho
  wf := ⟨fun _ _ => rfl, fun _ _ => rfl⟩

def E0 : Env := ⟨[], []⟩
theorem eok0 (σ : Sg) : EOk E0 σ := ⟨fun i a b h => by simp [E0] at h, fun p h => by simp [E0] at h⟩

theorem ext_below {σ' : Sg} {o : Nat → Value} {s s' : AS} {w w' : World} (h : Ext (Sg.start o) s w σ' s' w') : Below w.heap.size w w' :=
  ⟨h.os, h.tape, h.output, h.size, fun k hk => h.fr k hk fun hi => by
    rcases hi with ⟨a, vi, hv, _⟩ | ⟨m, hm⟩ | ⟨l, hl⟩
    · cases hv
    · cases hm
    · cases hl⟩

def isT (x : Option (AV × AS)) : Bool :=
  match x with
  | some (.bool true, _) => true
  | _ => false

theorem isT_some {x : Option (AV × AS)} (h : isT x = true) : ∃ s, x = some (.bool true, s) := by
  unfold isT at h
  split at h
  · exact ⟨_, rfl⟩
  · cases h

/-- Unknowns i, i+1, .. -/
def opqs : Nat → Nat → List AV
  | 0, _ => []
  | n + 1, i => .opq i :: opqs n (i + 1)

theorem opqs_in (σ : Sg) (n i : Nat) : InL σ (opqs n i) := by
  induction n generalizing i with
  | zero => trivial
  | succ n ih => exact ⟨trivial, ih (i + 1)⟩

theorem opqs_conc (o : Nat → Value) (n i : Nat) : concL (Sg.start o) (opqs n i) = (List.range' i n).map o := by
  induction n generalizing i with
  | zero => rfl
  | succ n ih => rw [List.range'_succ]; simp only [opqs, concL, conc, ih (i + 1), List.map_cons]; rfl

/-- The unknowns of a list of values. -/
def ofL (l : List Value) (i : Nat) : Value := l.getD i .nilIface

theorem ofL_leaf {l : List Value} (h : ∀ v ∈ l, v.oneCell' = true) (i : Nat) : (ofL l i).oneCell' = true := by
  simp only [ofL, List.getD_eq_getElem?_getD]
  cases hi : l[i]? with
  | none => rfl
  | some v => exact h v (List.mem_of_getElem? hi)

theorem ofL_seg (a b c : List Value) : (List.range' a.length b.length).map (ofL (a ++ b ++ c)) = b := by
  apply List.ext_getElem?
  intro i
  simp only [List.getElem?_map]
  by_cases h : i < b.length
  · rw [List.getElem?_range' (by omega)]
    simp only [Option.map_some, ofL, List.getD_eq_getElem?_getD, Nat.one_mul]
    rw [List.append_assoc, List.getElem?_append_right (by omega), Nat.add_sub_cancel_left, List.getElem?_append_left h, List.getElem?_eq_getElem h]
    rfl
  · rw [List.getElem?_eq_none (by simp; omega), List.getElem?_eq_none (by omega)]; rfl

/-- THE EVALUATOR SAYS TRUE: the machine returns true, and all that lay there lies as it lay. -/
theorem true_of_ev {P : Program} {tab : Tab} (htab : TabOk P tab) (hmix : P.follows .mixedOrders = true) {lf n : Nat} {k : FuncId} {args : List AV} (h : isT (evCall2 E0 tab lf (n + 1) (.fn k [] []) args AS.empty) = true)
    {o : Nat → Value} (ho : ∀ i, (o i).oneCell' = true) (hin : InL (Sg.start o) args) (w : World) :
    Calls P k (concL (Sg.start o) args).toArray w (fun e w' => e = .returned (.bool true) ∧ Below w.heap.size w w') := by
  obtain ⟨s', hs⟩ := isT_some h
  rw [evCall2_eq] at hs
  obtain ⟨σ', w', _, _, k3, k4⟩ := calls_of_ev htab hmix lf n hs (rel_start ho w) (eok0 _) hin
  exact k4.mono fun e w'' ⟨h1, h2⟩ => ⟨h1, by rw [h2]; exact ext_below k3⟩

/-! A table's functions, one by one -/
def Tr.allOk {α : Type} : Tr α → (Nat → α → Prop) → Prop
  | .e, _ => True
  | .n l v r, f => (match v with | some x => f 0 x | none => True) ∧ Tr.allOk l (fun k => f (2 * k + 1)) ∧ Tr.allOk r (fun k => f (2 * k + 2))

theorem Tr.allOk_get {α : Type} : ∀ (t : Tr α) (f : Nat → α → Prop), t.allOk f → ∀ k x, t.get k = some x → f k x := by
  intro t
  induction t with
  | e => intro f _ k x h; cases h
  | n l v r ihl ihr =>
    intro f h k x hg
    obtain ⟨h1, h2, h3⟩ := h
    rw [Tr.get_node] at hg
    cases hk0 : Nat.beq k 0 with
    | true =>
      rw [hk0] at hg
      have := Nat.eq_of_beq_eq_true hk0
      subst this
      simp only at hg
      subst hg
      exact h1
    | false =>
      rw [hk0] at hg
      have hk0 := Nat.ne_of_beq_eq_false hk0
      cases hk : Nat.beq (k % 2) 1 with
      | true =>
        simp only [hk] at hg
        have hk := Nat.eq_of_beq_eq_true hk
        have := ihl _ h2 _ _ hg
        rw [show 2 * (k / 2) + 1 = k from by omega] at this
        exact this
      | false =>
        simp only [hk] at hg
        have hk := Nat.ne_of_beq_eq_false hk
        have := ihr _ h3 _ _ hg
        rw [show 2 * (k / 2 - 1) + 2 = k from by omega] at this
        exact this

/-- One function of the table. -/
def FOk (P : Program) (k : Nat) (F : EFunc) : Prop := ∃ f, P.funcs[k]? = some f ∧ cFunc P f = some F

theorem tabOk_of {P : Program} {tab : Tab} (h : tab.allOk (FOk P)) : TabOk P tab := fun k F hk => Tr.allOk_get tab _ h k F hk

/-! What a value of a readable type is made of -/
theorem cell_leaf {P : Program} {w : World} {r : Reach} {base : Nat} {t : TypeId} {v : Value} (h : Cell.okWide P w r base t v) : v.oneCell' = true := by
  cases v <;> first | rfl | (exfalso; unfold Cell.okWide at h; split at h <;> first | (rename_i e1 e2; cases e2; done) | (unfold Cell.ok at h; split at h <;> first | (rename_i e1 e2; cases e2; done) | exact h))

theorem agg_leaf {P : Program} {w : World} {r : Reach} {base : Nat} {t : TypeId} {fs : Array Field} {v : Value} (ht : P.underlying t = some (.struct fs)) (h : Value.okWide P w r base t v) : ∃ cs, v = .agg cs ∧ cs.size = P.cellsOf t ∧ ∀ x ∈ cs.toList, x.oneCell' = true := by
  unfold Value.okWide at h
  simp only [ht] at h
  obtain ⟨cs, h1, h2, ts, _, _, h3⟩ := h
  refine ⟨cs, h1, h2, fun x hx => ?_⟩
  obtain ⟨i, hi⟩ := List.getElem?_of_mem hx
  obtain ⟨u, _, hu⟩ := h3 i x (by rw [← Array.getElem?_toList]; exact hi)
  exact cell_leaf hu

theorem plain_leaf {P : Program} {w : World} {r : Reach} {base : Nat} {t : TypeId} {u : TypeDesc} {v : Value} (ht : P.underlying t = some u) (h1 : ∀ fs, u ≠ .struct fs) (h2 : ∀ n e, u ≠ .array n e) (h : Value.okWide P w r base t v) : v.oneCell' = true := by
  unfold Value.okWide at h
  rw [ht] at h
  split at h
  · rename_i e; cases e; exact absurd rfl (h1 _)
  · rename_i e; cases e; exact absurd rfl (h2 _ _)
  · exact cell_leaf h

end Go.Ab
