/- Soundness of the abstract evaluator: orders of a region. -/
import Derived.Test.YthekpkcmlndcmaaGreatAbD1
import Derived.Orders
noncomputable section
namespace Go.Ab

/-- A row of operations, each behind all that it waits for. -/
def GoodL (P : Program) (ops : Array Oper) (L : List RI) : Prop :=
  ∀ A r B, L = A ++ r :: B → ∃ o p, ops[r.i]? = some o ∧ preOf A (predsOf o) = some p ∧ r = mkRI P ops r.i o p ∧ ∀ a, a ∈ A → a.i ≠ r.i

theorem GoodL.nil (P : Program) (ops : Array Oper) : GoodL P ops [] := fun A r B h => by simp at h

theorem GoodL.snoc {P : Program} {ops : Array Oper} {L : List RI} {r : RI} {o : Oper} {p : Nat} (h : GoodL P ops L) (ho : ops[r.i]? = some o) (hp : preOf L (predsOf o) = some p) (hr : r = mkRI P ops r.i o p)
    (hn : ∀ a, a ∈ L → a.i ≠ r.i) : GoodL P ops (L ++ [r]) := by
  intro A r' B e
  rcases List.append_eq_append_iff.1 e with ⟨X, h1, h2⟩ | ⟨X, h1, h2⟩
  · cases X with
    | nil =>
      simp at h2 h1
      obtain ⟨rfl, rfl⟩ := h2
      subst h1
      exact ⟨o, p, ho, hp, hr, hn⟩
    | cons x X => simp at h2
  · cases X with
    | nil =>
      simp at h1 h2
      obtain ⟨rfl, rfl⟩ := h2
      subst h1
      exact ⟨o, p, ho, hp, hr, hn⟩
    | cons x X =>
      simp at h2
      obtain ⟨rfl, rfl⟩ := h2
      exact h A r' X h1

theorem pick_mem {P : Program} {ops : Array Oper} {done : List RI} {left : List (Nat × Oper)} {r : RI} (h : pickNext P ops done left = some r) :
    ∃ o p, (r.i, o) ∈ left ∧ preOf done (predsOf o) = some p ∧ r = mkRI P ops r.i o p := by
  have key : r ∈ left.filterMap fun (i, o) => (preOf done (predsOf o)).map fun p => mkRI P ops i o p := by
    unfold pickNext at h
    simp only at h
    split at h
    · rename_i q hq; cases h; exact List.mem_of_find?_eq_some hq
    · exact List.mem_of_head? h
  rw [List.mem_filterMap] at key
  obtain ⟨⟨i, o⟩, h1, h2⟩ := key
  simp only at h2
  cases hp : preOf done (predsOf o) with
  | none => simp [hp] at h2
  | some p =>
    simp [hp] at h2
    subst h2
    exact ⟨o, p, h1, hp, rfl⟩

theorem order_good {P : Program} {ops : Array Oper} : ∀ (n : Nat) (done : List RI) (left : List (Nat × Oper)) (L : List RI), orderOf P ops n done left = some L → GoodL P ops done →
    (∀ x, x ∈ left → ops[x.1]? = some x.2 ∧ ∀ a, a ∈ done → a.i ≠ x.1) → (∀ i, i < ops.size → (∃ r, r ∈ done ∧ r.i = i) ∨ ∃ o, (i, o) ∈ left) →
    GoodL P ops L ∧ ∀ i, i < ops.size → ∃ r, r ∈ L ∧ r.i = i := by
  intro n
  induction n with
  | zero =>
    intro done left L h hg hl hc
    cases left with
    | nil =>
      simp [orderOf] at h; subst h
      refine ⟨hg, fun i hi => ?_⟩
      rcases hc i hi with h | ⟨o, h⟩
      · exact h
      · simp at h
    | cons x l => simp [orderOf] at h
  | succ n ih =>
    intro done left L h hg hl hc
    simp only [orderOf] at h
    split at h
    · cases h
      refine ⟨hg, fun i hi => ?_⟩
      rcases hc i hi with h | ⟨o, h⟩
      · exact h
      · simp at h
    · split at h
      · rename_i r hr
        obtain ⟨o, p, h1, h2, h3⟩ := pick_mem hr
        obtain ⟨h4, h5⟩ := hl _ h1
        refine ih _ _ L h (hg.snoc h4 h2 h3 h5) ?_ ?_
        · intro x hx
          rw [List.mem_filter] at hx
          obtain ⟨hx1, hx2⟩ := hx
          obtain ⟨h6, h7⟩ := hl x hx1
          refine ⟨h6, fun a ha => ?_⟩
          rcases List.mem_append.1 ha with ha | ha
          · exact h7 a ha
          · simp at ha; subst ha
            simp at hx2
            exact fun e => hx2 e.symm
        · intro i hi
          rcases hc i hi with ⟨r', hr', e⟩ | ⟨o', ho'⟩
          · exact .inl ⟨r', List.mem_append_left _ hr', e⟩
          · by_cases he : i = r.i
            · exact .inl ⟨r, by simp, he.symm⟩
            · exact .inr ⟨o', by rw [List.mem_filter]; exact ⟨ho', by simpa using he⟩⟩
      · cases h

theorem preOf_bit {done : List RI} : ∀ {l : List Nat} {p j : Nat}, preOf done l = some p → Nat.testBit p j = true → ∃ k r, k ∈ l ∧ r ∈ done ∧ r.i = k ∧ (j = k ∨ Nat.testBit r.pre j = true)
  | [], p, j, h, hj => by simp [preOf] at h; subst h; simp at hj
  | k :: l, p, j, h, hj => by
    simp only [preOf] at h
    split at h
    · rename_i a r ha hr
      cases h
      have h1 := List.mem_of_find?_eq_some hr
      have h2 := List.find?_some hr
      simp at h2
      simp only [Nat.testBit_or, Bool.or_eq_true] at hj
      rcases hj with hj | hj | hj
      · obtain ⟨k', r', m1, m2, m3, m4⟩ := preOf_bit ha hj
        exact ⟨k', r', List.mem_cons_of_mem _ m1, m2, m3, m4⟩
      · exact ⟨k, r, List.mem_cons_self .., h1, h2, .inr hj⟩
      · refine ⟨k, r, List.mem_cons_self .., h1, h2, .inl ?_⟩
        rw [Nat.shiftLeft_eq, Nat.one_mul, Nat.testBit_two_pow] at hj
        simp at hj; exact hj.symm
    · cases h

/-- Who comes before an operation stands ahead of it in a good row. -/
theorem GoodL.ahead {P : Program} {ops : Array Oper} {L : List RI} (h : GoodL P ops L) : ∀ (n : Nat) (A : List RI) (r : RI) (B : List RI), A.length = n → L = A ++ r :: B → ∀ j, bfr j r = true → ∃ q, q ∈ A ∧ q.i = j := by
  intro n
  induction n using Nat.strongRecOn with
  | _ n ih =>
    intro A r B hn e j hj
    obtain ⟨o, p, h1, h2, h3, h4⟩ := h A r B e
    have hpre : r.pre = p := by rw [h3]; rfl
    unfold bfr at hj
    rw [hpre] at hj
    obtain ⟨k, q, m1, m2, m3, m4⟩ := preOf_bit h2 hj
    rcases m4 with rfl | m4
    · exact ⟨q, m2, m3⟩
    · obtain ⟨A₁, A₂, rfl⟩ := List.append_of_mem m2
      obtain ⟨q', hq1, hq2⟩ := ih A₁.length (by simp at hn; omega) A₁ q (A₂ ++ r :: B) rfl (by simp [e]) j m4
      exact ⟨q', by simp [hq1], hq2⟩

/-- A set of operations that holds with each what it waits for. -/
def Closed (ops : Array Oper) (D : Nat → Prop) : Prop := ∀ i, D i → ∀ o, ops[i]? = some o → ∀ j, j ∈ predsOf o → D j

theorem GoodL.closed {P : Program} {ops : Array Oper} {L : List RI} (h : GoodL P ops L) {D : Nat → Prop} (hD : Closed ops D) : ∀ (n : Nat) (A : List RI) (r : RI) (B : List RI), A.length = n → L = A ++ r :: B → D r.i → ∀ j, bfr j r = true → D j := by
  intro n
  induction n using Nat.strongRecOn with
  | _ n ih =>
    intro A r B hn e hr j hj
    obtain ⟨o, p, h1, h2, h3, h4⟩ := h A r B e
    have hpre : r.pre = p := by rw [h3]; rfl
    unfold bfr at hj
    rw [hpre] at hj
    obtain ⟨k, q, m1, m2, m3, m4⟩ := preOf_bit h2 hj
    have hk : D k := hD _ hr o h1 k m1
    rcases m4 with rfl | m4
    · exact hk
    · obtain ⟨A₁, A₂, rfl⟩ := List.append_of_mem m2
      exact ih A₁.length (by simp at hn; omega) A₁ q (A₂ ++ r :: B) rfl (by simp [e]) (m3 ▸ hk) j m4

theorem preOf_mem {done : List RI} : ∀ {l : List Nat} {p : Nat}, preOf done l = some p → ∀ k, k ∈ l → ∃ r, r ∈ done ∧ r.i = k
  | [], _, _, k, hk => by simp at hk
  | j :: l, p, h, k, hk => by
    simp only [preOf] at h
    split at h
    · rename_i a r ha hr
      rcases List.mem_cons.1 hk with rfl | hk
      · have h1 := List.mem_of_find?_eq_some hr
        have h2 := List.find?_some hr
        simp at h2
        exact ⟨r, h1, h2⟩
      · exact preOf_mem ha k hk
    · cases h

/-- A row in which each comes behind all that it waits for, and all come. -/
inductive LinP (ops : Array Oper) : List Nat → List Nat → Prop where
  | nil {D : List Nat} (h : ∀ i, i < ops.size → i ∈ D) : LinP ops D []
  | cons {D : List Nat} {i : Nat} {l : List Nat} {o : Oper} (ho : ops[i]? = some o) (hn : i ∉ D) (hp : ∀ j, j ∈ predsOf o → j ∈ D) (h : LinP ops (i :: D) l) : LinP ops D (i :: l)

theorem exists_first (p : RI → Bool) : ∀ {L : List RI} {r : RI}, r ∈ L → p r = true → ∃ A x B, L = A ++ x :: B ∧ p x = true ∧ ∀ a, a ∈ A → p a = false
  | [], r, h, _ => by simp at h
  | y :: L, r, h, hr => by
    by_cases hy : p y = true
    · exact ⟨[], y, L, rfl, hy, by simp⟩
    · rcases List.mem_cons.1 h with rfl | h
      · exact absurd hr hy
      · obtain ⟨A, x, B, h1, h2, h3⟩ := exists_first p h hr
        refine ⟨y :: A, x, B, by rw [h1]; rfl, h2, fun a ha => ?_⟩
        rcases List.mem_cons.1 ha with rfl | ha
        · simpa using hy
        · exact h3 a ha

theorem lin_go {P : Program} {ops : Array Oper} {L : List RI} (hL : GoodL P ops L) (hc : ∀ i, i < ops.size → ∃ r, r ∈ L ∧ r.i = i) :
    ∀ (fuel t : Nat) (listed : Array Bool) (D : List Nat), listed.size = ops.size → (∀ i, i < ops.size → (listed.getD i true = true ↔ i ∈ D)) → (∀ i, i < ops.size → (listed.getD i false = true ↔ i ∈ D)) →
      (∀ i, i ∈ D → i < ops.size) → ((List.range ops.size).filter fun i => !decide (i ∈ D)).length ≤ fuel → LinP ops D (Region.linearise.go .any ops fuel t listed []) := by
  intro fuel
  induction fuel with
  | zero =>
    intro t listed D _ _ _ _ hf
    simp only [Region.linearise.go, List.reverse_nil]
    refine .nil fun i hi => ?_
    have h0 := List.eq_nil_of_length_eq_zero (Nat.le_zero.1 hf)
    rw [List.filter_eq_nil_iff] at h0
    have := h0 i (List.mem_range.2 hi)
    simpa using this
  | succ fuel ih =>
    intro t listed D hs h1 h2 hD hf
    simp only [Region.linearise.go]
    change LinP ops D (match (Region.ready .any ops listed)[t % (Region.ready .any ops listed).length]? with
      | some i => Region.linearise.go .any ops fuel (t / (Region.ready .any ops listed).length) (listed.setIfInBounds i true) [i]
      | none => [].reverse)
    split
    · rename_i i hi
      have hm := List.mem_of_getElem? hi
      rw [linearise_go_acc]
      simp only [Region.ready, List.mem_filter, List.mem_range, Bool.and_eq_true, Bool.not_eq_true'] at hm
      obtain ⟨hm1, hm2, hm3⟩ := hm
      have hiD : i ∉ D := fun h => by rw [(h1 i hm1).2 h] at hm2; cases hm2
      cases ho : ops[i]? with
      | none => simp [ho] at hm3
      | some o =>
        simp only [ho, Option.map_some, Option.getD_some, Array.all_eq_true] at hm3
        refine LinP.cons ho hiD ?_ ?_
        · intro j hj
          simp only [predsOf, List.mem_map, List.mem_filter] at hj
          obtain ⟨e, ⟨he1, he2⟩, rfl⟩ := hj
          obtain ⟨k, hk, rfl⟩ := Array.getElem_of_mem (Array.mem_toList_iff.1 he1)
          have := hm3 k hk
          rw [he2] at this
          simp only [Bool.not_true, Bool.false_or] at this
          have hlt : (o.after[k]).on < ops.size := by
            rcases Nat.lt_or_ge (o.after[k]).on ops.size with h | h
            · exact h
            · rw [Array.getD_eq_getD_getElem?, Array.getElem?_eq_none (by omega)] at this; simp at this
          exact (h2 _ hlt).1 this
        · have hget : ∀ (d : Bool) j, j < ops.size → ((listed.setIfInBounds i true).getD j d = true ↔ (j = i ∨ listed.getD j d = true)) := by
            intro d j hj
            simp only [Array.getD_eq_getD_getElem?]
            by_cases hji : j = i
            · subst hji
              rw [Array.getElem?_setIfInBounds_self]; simp [hs, hj]
            · rw [Array.getElem?_setIfInBounds_ne (fun h => hji h.symm)]; simp [hji]
          refine ih _ _ (i :: D) (by simp [hs]) ?_ ?_ ?_ ?_
          · intro j hj; rw [hget true j hj, h1 j hj]; simp
          · intro j hj; rw [hget false j hj, h2 j hj]; simp
          · intro j hj
            rcases List.mem_cons.1 hj with rfl | hj
            · exact hm1
            · exact hD j hj
          · have hlt : ((List.range ops.size).filter fun j => !decide (j ∈ i :: D)).length < ((List.range ops.size).filter fun j => !decide (j ∈ D)).length := by
              have e : ((List.range ops.size).filter fun j => !decide (j ∈ i :: D)) = (((List.range ops.size).filter fun j => !decide (j ∈ D)).filter fun j => !decide (j = i)) := by
                rw [List.filter_filter]
                apply List.filter_congr
                intro x _
                simp
              rw [e]
              refine List.length_filter_lt_length_iff_exists.2 ⟨i, ?_, by simp⟩
              rw [List.mem_filter]; exact ⟨List.mem_range.2 hm1, by simpa using hiD⟩
            omega
    · rename_i hnone
      have hnil : Region.ready .any ops listed = [] := by
        cases hr : Region.ready .any ops listed with
        | nil => rfl
        | cons x xs =>
          rw [hr] at hnone
          have hlt : t % (x :: xs).length < (x :: xs).length := Nat.mod_lt _ (by simp)
          simp at hnone
          simp at hlt
          omega
      refine .nil fun i hi => ?_
      refine Classical.byContradiction fun hiD => ?_
      obtain ⟨r, hr1, hr2⟩ := hc i hi
      obtain ⟨A, x, B, e1, e2, e3⟩ := exists_first (fun q => !decide (q.i ∈ D)) hr1 (by simpa [hr2] using hiD)
      obtain ⟨o, p, k1, k2, k3, k4⟩ := hL A x B e1
      have hx : x.i ∉ D := by simpa using e2
      have hxlt : x.i < ops.size := by
        rcases Nat.lt_or_ge x.i ops.size with h | h
        · exact h
        · rw [Array.getElem?_eq_none h] at k1; cases k1
      have hmem : x.i ∈ Region.ready .any ops listed := by
        simp only [Region.ready, List.mem_filter, List.mem_range, Bool.and_eq_true, Bool.not_eq_true']
        refine ⟨hxlt, ?_, ?_⟩
        · cases hb : listed.getD x.i true with
          | false => rfl
          | true => exact absurd ((h1 _ hxlt).1 hb) hx
        · simp only [k1, Option.map_some, Option.getD_some, Array.all_eq_true]
          intro k hk
          by_cases hb : Region.binds .any (o.after[k]) = true
          · have hpm : (o.after[k]).on ∈ predsOf o := by
              simp only [predsOf, List.mem_map, List.mem_filter]
              exact ⟨_, ⟨by simp, hb⟩, rfl⟩
            obtain ⟨a, ha1, ha2⟩ := preOf_mem k2 _ hpm
            have haD := e3 a ha1
            simp at haD
            rw [ha2] at haD
            simp [(h2 _ (hD _ haD)).2 haD]
          · simp at hb; simp [hb]
      rw [hnil] at hmem; simp at hmem

theorem lin_schedule {P : Program} {ops : Array Oper} {L : List RI} (hL : GoodL P ops L) (hc : ∀ i, i < ops.size → ∃ r, r ∈ L ∧ r.i = i) (t : Nat) : LinP ops [] (Region.schedule true ops t) := by
  simp only [Region.schedule, Bool.true_or, if_true, Region.linearise]
  refine lin_go hL hc _ _ _ [] (by simp) ?_ ?_ (by simp) ?_
  · intro i hi; simp [Array.getD, hi]
  · intro i hi; simp [Array.getD, hi]
  · exact Nat.le_trans (List.length_filter_le _ _) (by simp)

end Go.Ab
