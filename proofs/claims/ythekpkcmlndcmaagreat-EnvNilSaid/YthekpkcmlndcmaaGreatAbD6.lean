/- Soundness of the abstract evaluator: two stores that may come either way round. -/
import Derived.Test.YthekpkcmlndcmaaGreatAbD5
noncomputable section
namespace Go.Ab

theorem Tr.sing_fuel {α : Type} (x : α) : ∀ (n f g k : Nat), k ≤ n → k ≤ f → k ≤ g → Tr.sing f k x = Tr.sing g k x := by
  intro n
  induction n with
  | zero =>
    intro f g k h _ _
    obtain rfl : k = 0 := by omega
    cases f <;> cases g <;> simp [Tr.sing_zero, Tr.sing_succ, beq_eq]
  | succ n ih =>
    intro f g k h hf hg
    by_cases h0 : k = 0
    · subst h0; cases f <;> cases g <;> simp [Tr.sing_zero, Tr.sing_succ, beq_eq]
    · cases f with
      | zero => omega
      | succ f =>
        cases g with
        | zero => omega
        | succ g =>
          simp only [Tr.sing_zero, Tr.sing_succ, beq_eq, h0, decide_false]
          rw [ih f g (k / 2) (by omega) (by omega) (by omega), ih f g (k / 2 - 1) (by omega) (by omega) (by omega)]

theorem Tr.sing_e {α : Type} (f k : Nat) (x : α) (h : k ≤ f) : Tr.sing f k x = (Tr.e : Tr α).set k x := Tr.sing_fuel x k f k k (Nat.le_refl _) h (Nat.le_refl _)

theorem Tr.set_e {α : Type} (k : Nat) (x : α) : (Tr.e : Tr α).set k x = (Tr.n .e none .e : Tr α).set k x := by
  show Tr.sing k k x = _
  cases k with
  | zero => simp [Tr.sing_zero, Tr.sing_succ, Tr.set_nil, Tr.set_node, beq_eq]
  | succ k =>
    simp only [Tr.sing_zero, Tr.sing_succ, Tr.set_nil, Tr.set_node, beq_eq]
    rw [Tr.sing_fuel x ((k + 1) / 2) k ((k + 1) / 2) ((k + 1) / 2) (Nat.le_refl _) (by omega) (Nat.le_refl _),
      Tr.sing_fuel x ((k + 1) / 2 - 1) k ((k + 1) / 2 - 1) ((k + 1) / 2 - 1) (Nat.le_refl _) (by omega) (Nat.le_refl _)]

theorem Tr.set_comm_n {α : Type} (x y : α) : ∀ (n k k' : Nat) (t : Tr α), k ≤ n → k' ≤ n → k ≠ k' → (t.set k x).set k' y = (t.set k' y).set k x := by
  intro n
  induction n with
  | zero => intro k k' t h h' hne; omega
  | succ n ih =>
    intro k k' t h h' hne
    have key : ∀ (l : Tr α) (v : Option α) (r : Tr α), ((Tr.n l v r).set k x).set k' y = ((Tr.n l v r).set k' y).set k x := by
      intro l v r
      by_cases h0 : k = 0
      · subst h0
        have h1 : k' ≠ 0 := fun e => hne e.symm
        by_cases h2 : k' % 2 = 1 <;> simp [Tr.set_nil, Tr.set_node, beq_eq, h1, h2]
      · by_cases h1 : k' = 0
        · subst h1
          by_cases h2 : k % 2 = 1 <;> simp [Tr.set_nil, Tr.set_node, beq_eq, h0, h2]
        · by_cases h2 : k % 2 = 1 <;> by_cases h3 : k' % 2 = 1
          · simp only [Tr.set_nil, Tr.set_node, beq_eq, h0, h1, h2, h3, decide_false, decide_true]
            rw [ih (k / 2) (k' / 2) l (by omega) (by omega) (by omega)]
          · simp [Tr.set_nil, Tr.set_node, beq_eq, h0, h1, h2, h3]
          · simp [Tr.set_nil, Tr.set_node, beq_eq, h0, h1, h2, h3]
          · simp only [Tr.set_nil, Tr.set_node, beq_eq, h0, h1, h2, h3, decide_false]
            rw [ih (k / 2 - 1) (k' / 2 - 1) r (by omega) (by omega) (by omega)]
    cases t with
    | n l v r => exact key l v r
    | e => rw [Tr.set_e k x, Tr.set_e k' y]; exact key _ _ _

theorem Tr.set_comm {α : Type} (t : Tr α) (x y : α) {k k' : Nat} (h : k ≠ k') : (t.set k x).set k' y = (t.set k' y).set k x :=
  Tr.set_comm_n x y (max k k') k k' t (by omega) (by omega) h

theorem setAll_set (l : List AV) : ∀ (t : Tr (Nat × AV)) (m i k : Nat) (x : Nat × AV), (k < i ∨ i + l.length ≤ k) → setAll (t.set k x) m i l = (setAll t m i l).set k x := by
  induction l with
  | nil => intro t m i k x _; rfl
  | cons v l ih =>
    intro t m i k x h
    simp only [setAll, List.length_cons] at h ⊢
    rw [Tr.set_comm t x (m, v) (by omega), ih _ m (i + 1) k x (by omega)]

theorem setAll_comm (l l' : List AV) : ∀ (t : Tr (Nat × AV)) (m m' i i' : Nat), (i + l.length ≤ i' ∨ i' + l'.length ≤ i) → setAll (setAll t m i l) m' i' l' = setAll (setAll t m' i' l') m i l := by
  induction l with
  | nil => intro t m m' i i' _; rfl
  | cons v l ih =>
    intro t m m' i i' h
    simp only [setAll, List.length_cons] at h ⊢
    rw [ih _ m m' (i + 1) i' (by omega), setAll_set l' t m' i' i _ (by omega)]

/-- What a row of writes is. -/
theorem wrN_eq {j : Nat} : ∀ {l : List AV} {A A' : Arr} {i : Nat}, wrN A j i l = some A' → A' = { A with cells := setAll A.cells j i l } ∧ (l = [] ∨ (j = A.ver ∧ (∀ v, v ∈ l → leaf v = true) ∧ A.lo ≤ i ∧ i + l.length ≤ A.n))
  | [], A, A', i, h => by simp [wrN] at h; subst h; exact ⟨rfl, .inl rfl⟩
  | v :: l, A, A', i, h => by
    simp only [wrN] at h
    split at h
    · rename_i A₁ hA
      simp only [Arr.wr, beq_eq, ltb_eq, ble_eq] at hA
      split at hA
      · rename_i hc
        simp at hc hA
        subst hA
        obtain ⟨h1, h2⟩ := wrN_eq h
        refine ⟨by rw [h1]; rfl, .inr ⟨hc.1, ?_, hc.2.2.2, ?_⟩⟩
        · intro u hu
          rcases List.mem_cons.1 hu with rfl | hu
          · exact hc.2.1
          · rcases h2 with rfl | h2
            · simp at hu
            · exact h2.2.1 u hu
        · rcases h2 with rfl | h2
          · simp; omega
          · have := h2.2.2.2; simp only [List.length_cons] at this ⊢; omega
      · cases hA
    · cases h

theorem wrN_of {j : Nat} : ∀ {l : List AV} {A : Arr} {i : Nat}, (l = [] ∨ (j = A.ver ∧ (∀ v, v ∈ l → leaf v = true) ∧ A.lo ≤ i ∧ i + l.length ≤ A.n)) → wrN A j i l = some { A with cells := setAll A.cells j i l }
  | [], A, i, _ => rfl
  | v :: l, A, i, h => by
    rcases h with h | ⟨h1, h2, h3, h4⟩
    · cases h
    · simp only [List.length_cons] at h4
      have hc : (Nat.beq j A.ver && (leaf v && (ltb i A.n && Nat.ble A.lo i))) = true := by
        simp [beq_eq, ltb_eq, ble_eq, h1, h2 v (List.mem_cons_self ..), h3]; omega
      simp only [wrN, Arr.wr, hc]
      exact wrN_of (.inr ⟨h1, fun u hu => h2 u (List.mem_cons_of_mem _ hu), by simp only; omega, by simp only; omega⟩)

theorem AS.wrN_eq {s s' : AS} {a j i : Nat} {l : List AV} (h : s.wrN a j i l = some s') :
    ∃ A, s.arrs.get a = some A ∧ s' = { s with arrs := s.arrs.set a { A with cells := setAll A.cells j i l } } ∧ (l = [] ∨ (j = A.ver ∧ (∀ v, v ∈ l → leaf v = true) ∧ A.lo ≤ i ∧ i + l.length ≤ A.n)) := by
  simp only [AS.wrN] at h
  split at h
  · rename_i A hA
    split at h
    · rename_i A' hA'
      obtain ⟨h1, h2⟩ := Ab.wrN_eq hA'
      cases h; subst h1
      exact ⟨A, hA, rfl, h2⟩
    · cases h
  · cases h

/-- Two rows of writes that do not meet. -/
theorem AS.wrN_comm {s s₁ s₂ s₃ : AS} {a a' j j' i i' : Nat} {l l' : List AV} (h1 : s.wrN a j i l = some s₁) (h2 : s₁.wrN a' j' i' l' = some s₂) (h3 : s.wrN a' j' i' l' = some s₃)
    (hd : a ≠ a' ∨ i + l.length ≤ i' ∨ i' + l'.length ≤ i) : s₃.wrN a j i l = some s₂ := by
  obtain ⟨A, e1, e2, e3⟩ := AS.wrN_eq h1
  obtain ⟨A', f1, f2, f3⟩ := AS.wrN_eq h3
  obtain ⟨A₂, g1, g2, g3⟩ := AS.wrN_eq h2
  subst e2 f2 g2
  by_cases ha : a = a'
  · subst ha
    rw [e1] at f1; cases f1
    simp only [Tr.get_set_same, Option.some.injEq] at g1
    subst g1
    have hd' : i + l.length ≤ i' ∨ i' + l'.length ≤ i := hd.resolve_left (fun h => h rfl)
    simp only [AS.wrN, Tr.get_set_same]
    rw [wrN_of (A := { A with cells := setAll A.cells j' i' l' }) e3]
    simp only [Tr.set_set, Option.some.injEq]
    rw [setAll_comm l l' A.cells j j' i i' hd']
  · simp only at g1
    rw [Tr.get_set_ne _ _ (fun h => ha h.symm), f1] at g1; cases g1
    simp only [AS.wrN]
    rw [Tr.get_set_ne _ _ ha, e1]
    simp only
    rw [wrN_of e3]
    simp only [Option.some.injEq]
    rw [Tr.set_comm _ _ _ ha]

theorem evOper_plain {E : Env} {cl : Oracle} {o : EOper} {T : Tr AV} {s : AS} (h : o.guard = none) : evOper E cl o T s = evOp E cl o.op T s := by
  unfold evOper; rw [h]; rfl

/-- Two stores that do not meet, the other way round. -/
theorem stores_comm {E : Env} {cl : Oracle} {x y : EOper} {T : Tr AV} {s s₁ s₂ s₃ : AS} {v v' u : AV} {p q : Nat × Nat × Nat} (hx : isStore x.op = true) (hy : isStore y.op = true) (gx : x.guard = none) (gy : y.guard = none)
    (h1 : evOper E cl x T s = some (v, s₁)) (h2 : evOper E cl y T s₁ = some (v', s₂)) (h3 : evOper E cl y T s = some (u, s₃)) (tx : target T x.op = some p) (ty : target T y.op = some q) (hd : apart p q = true) :
    evOper E cl x T s₃ = some (v, s₂) ∧ u = v' := by
  rw [evOper_plain gx] at h1 ⊢
  rw [evOper_plain gy] at h2 h3
  obtain ⟨d, g, opx⟩ := x
  obtain ⟨d', g', opy⟩ := y
  simp only at *
  cases opx <;> simp [isStore] at hx
  cases opy <;> simp [isStore] at hy
  rename_i n a b n' a' b'
  simp only [evOp] at h1 h2 h3 ⊢
  simp only [target] at tx ty
  split at tx
  · rename_i a₀ j₀ o₀ ha
    cases tx
    split at ty
    · rename_i a₁ j₁ o₁ ha'
      cases ty
      simp only [ha] at h1 ⊢
      simp only [ha'] at h2 h3
      split at h1
      · rename_i hl
        split at h1
        · rename_i t₁ ht₁
          cases h1
          split at h2
          · rename_i hl'
            split at h2
            · rename_i t₂ ht₂
              cases h2
              split at h3
              · split at h3
                · rename_i t₃ ht₃
                  cases h3
                  have key := AS.wrN_comm ht₁ ht₂ ht₃ (by
                    simp only [beq_eq, decide_eq_true_eq] at hl hl'
                    simp only [apart, beq_eq, ble_eq, Bool.or_eq_true, Bool.not_eq_true', decide_eq_true_eq, decide_eq_false_iff_not] at hd
                    rw [hl, hl']; exact hd)
                  simp [hl, key]
                · cases h3
              · cases h3
            · cases h2
          · cases h2
        · cases h1
      · cases h1
    · cases ty
  · cases tx

end Go.Ab
