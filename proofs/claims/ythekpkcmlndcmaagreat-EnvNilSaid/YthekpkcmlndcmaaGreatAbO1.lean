/- Soundness of the abstract evaluator: operations that look at no memory. -/
import Derived.Test.YthekpkcmlndcmaaGreatAbS6
noncomputable section
namespace Go.Ab

section
variable {P : Program} {E : Env} {cl : Oracle} {σ : Sg} {s s' : AS} {w : World} {T : Tr AV} {ρ : Operand → Value}

theorem map_some {α β : Type} {o : Option α} {f : α → β} {y : β} (h : o.map f = some y) : ∃ x, o = some x ∧ f x = y := by
  cases o with
  | none => cases h
  | some x => exact ⟨x, rfl, by simpa using h⟩

theorem Res.val (r : Rel P σ s w) {x : Sem Value} {v : AV} (hx : x.run P w = .ok (conc σ v) w ∧ In σ v) : Res P σ s w ((do Pure.pure (Next.value (← x)) : Sem Next).run P w) v s :=
  Res.of r hx.2 (by simp [hx.1])

theorem some2_some {s₁ : AS} {o : Option AV} {v : AV} (h : some2 s o = some (v, s₁)) : o = some v ∧ s₁ = s := by
  cases o with
  | none => cases h
  | some x => cases h; exact ⟨rfl, rfl⟩

/-! numbers that come in -/
theorem natOf_conc {x : AV} {n : Nat} (h : natOf x = some n) : ∃ k, conc σ x = .int k (n : Int) := by
  unfold natOf at h
  split at h
  · rename_i k m; cases h; exact ⟨k, rfl⟩
  · cases h

/-! address arithmetic -/
theorem run_fieldPlace {a : Addr} {f : Field} {n : Nat} (h : tsize P.toTables f.type = some (n + 1)) : (fieldPlace a f).run P w = .ok (a.add f.offset) w := by
  simp [fieldPlace, run_size h]

theorem sim_fldA {t : TypeId} {fs : Array Field} {i : Nat} {f : Field} {n : Nat} (ht : P.underlying t = some (.struct fs)) (hf : fs[i]? = some f) (hn : tsize P.toTables f.type = some (n + 1)) {a j o : Nat} (hin : In σ (.ptr a j o)) :
    (Instr.fieldAt t (conc σ (.ptr a j o)) i).run P w = .ok (conc σ (.ptr a j (o + f.offset))) w ∧ In σ (.ptr a j (o + f.offset)) := by
  simp only [In] at hin ⊢
  refine ⟨?_, hin.1, by omega⟩
  simp only [Instr.fieldAt, conc, Sem.run_bind, run_und ht, Result.andThen_ok]
  simp [hf, Instr.sureAddr, run_fieldPlace hn, adr_add hin.2]

theorem sim_ixA {t e : TypeId} {n : Nat} (ht : P.underlying t = some (.slice e)) (hn : tsize P.toTables e = some n) {a j o len : Nat} {c : Cap} (hin : In σ (.sl a j o len c)) {k : IntKind} {i : Nat} (hi : i < len) :
    (Instr.indexAt t (conc σ (.sl a j o len c)) (.int k i)).run P w = .ok (conc σ (.ptr a j (o + i * n))) w ∧ In σ (.ptr a j (o + i * n)) := by
  have hj : j < (σ.ar a).length ∧ (σ.vi a j).sh ≤ o := by cases c <;> simp only [In] at hin <;> exact ⟨hin.1, hin.2.1⟩
  simp only [In]
  refine ⟨?_, hj.1, by omega⟩
  have h1 : (0 : Int) ≤ (i : Int) ∧ (i : Int) < (len : Int) := ⟨by omega, by omega⟩
  simp only [Instr.indexAt, conc, asIntOf, Sem.run_bind, Sem.run_pure, Result.andThen_ok, run_und ht]
  rw [if_pos h1]
  simp [run_size hn, adr_add hj.2]

theorem sim_ixAA {t e : TypeId} {n m : Nat} (ht : P.underlying t = some (.array m e)) (hn : tsize P.toTables e = some n) {a j o : Nat} (hin : In σ (.ptr a j o)) {k : IntKind} {i : Nat} (hi : i < m) :
    (Instr.indexAt t (conc σ (.ptr a j o)) (.int k i)).run P w = .ok (conc σ (.ptr a j (o + i * n))) w ∧ In σ (.ptr a j (o + i * n)) := by
  simp only [In] at hin ⊢
  refine ⟨?_, hin.1, by omega⟩
  have h1 : (0 : Int) ≤ (i : Int) ∧ (i : Int) < (m : Int) := ⟨by omega, by omega⟩
  simp only [Instr.indexAt, conc, asIntOf, Sem.run_bind, Sem.run_pure, Result.andThen_ok, run_und ht, Instr.sureAddr]
  rw [if_pos h1]
  simp [run_size hn, adr_add hin.2]

/-! parts -/
theorem takeN_eq (n : Nat) (l : List AV) : takeN n l = l.take n := by
  induction n generalizing l with
  | zero => simp [takeN]
  | succ n ih => cases l <;> simp [takeN, ih]
theorem dropN_eq (n : Nat) (l : List AV) : dropN n l = l.drop n := by
  induction n generalizing l with
  | zero => simp [dropN]
  | succ n ih => cases l <;> simp [dropN, ih]

theorem part_run {t : TypeId} {g : Bool} {n off : Nat} {l : List AV} {v : AV} (hg : tagg P t = some g) (hn : tsize P.toTables t = some n) (hin : InL σ l) (h : partOf g off n l = some v) :
    (part t (concL σ l).toArray off).run P w = .ok (conc σ v) w ∧ In σ v := by
  rw [InL_iff] at hin
  cases g with
  | true =>
    simp only [partOf, ble_eq] at h
    split at h
    · rename_i hb
      cases h
      simp only [part, Sem.run_bind, run_agg hg, Result.andThen_ok, if_true, run_size hn, Sem.run_pure]
      refine ⟨?_, ?_⟩
      · simp only [conc, takeN_eq, dropN_eq, concL_eq]
        congr 2
        apply Array.ext'
        simp [List.map_take, List.map_drop]
      · simp only [In, takeN_eq, dropN_eq, InL_iff]
        intro x hx
        exact hin x (List.mem_of_mem_drop (List.mem_of_mem_take hx))
    · cases h
  | false =>
    simp only [partOf, nth_eq] at h
    refine ⟨?_, hin v (List.mem_of_getElem? h)⟩
    simp [part, run_agg hg, concL_eq, h]

/-! nil checks, closures, tuples -/
theorem sim_ext {x : AV} {l : List AV} {i : Nat} {v : AV} (hx : x = .tup l) (hin : In σ x) (h : nth l i = some v) : (Instr.extract (conc σ x) i).run P w = .ok (conc σ v) w ∧ In σ v := by
  subst hx
  simp only [In, InL_iff] at hin
  rw [nth_eq] at h
  refine ⟨?_, hin v (List.mem_of_getElem? h)⟩
  simp [Instr.extract, conc, concL_eq, h]

/-! putting parts over a row -/
def putV' : List Value → Nat → List Value → List Value
  | cs, _, [] => cs
  | [], _, _ => []
  | _ :: cs, 0, v :: vs => v :: putV' cs 0 vs
  | c :: cs, k + 1, v :: vs => c :: putV' cs k (v :: vs)

theorem putAt_get : ∀ (cs vs : List AV) (k i : Nat), (putAt cs k vs)[i]? = if k ≤ i ∧ i < k + vs.length ∧ i < cs.length then vs[i - k]? else cs[i]?
  | cs, [], k, i => by
    cases cs <;> simp [putAt] <;> omega
  | [], v :: vs, k, i => by simp [putAt]
  | c :: cs, v :: vs, k, i => by
    simp only [putAt, beq_eq]
    by_cases hk : k = 0
    · subst hk
      simp only [decide_true]
      cases i with
      | zero => simp
      | succ i =>
        rw [List.getElem?_cons_succ, putAt_get cs vs 0 i]
        simp only [List.length_cons, Nat.zero_le, true_and, Nat.sub_zero, Nat.zero_add]
        by_cases h : i < vs.length ∧ i < cs.length
        · rw [if_pos h, if_pos (by omega)]; simp
        · rw [if_neg h, if_neg (by omega)]; simp
    · simp only [hk, decide_false]
      cases i with
      | zero => rw [List.getElem?_cons_zero, if_neg (by omega)]; simp
      | succ i =>
        rw [List.getElem?_cons_succ, putAt_get cs (v :: vs) (k - 1) i]
        simp only [List.length_cons]
        by_cases h : k - 1 ≤ i ∧ i < k - 1 + (vs.length + 1) ∧ i < cs.length
        · rw [if_pos h, if_pos (by omega)]
          congr 1; omega
        · rw [if_neg h, if_neg (by omega)]; simp

theorem fold_set_get (vs : List Value) : ∀ (cs : Array Value) (off m : Nat) (i : Nat),
    ((vs.zipIdx m).foldl (fun cs (x : Value × Nat) => cs.setIfInBounds (off + x.2) x.1) cs)[i]? = if off + m ≤ i ∧ i < off + m + vs.length ∧ i < cs.size then vs[i - (off + m)]? else cs[i]? := by
  induction vs with
  | nil => intro cs off m i; simp; omega
  | cons v vs ih =>
    intro cs off m i
    rw [List.zipIdx_cons, List.foldl_cons, ih]
    simp only [Array.size_setIfInBounds, List.length_cons]
    by_cases h1 : off + (m + 1) ≤ i ∧ i < off + (m + 1) + vs.length ∧ i < cs.size
    · rw [if_pos h1, if_pos (by omega)]
      have : i - (off + m) = (i - (off + (m + 1))) + 1 := by omega
      rw [this]; simp
    · rw [if_neg h1]
      by_cases h2 : i = off + m
      · subst h2
        by_cases h3 : off + m < cs.size
        · rw [Array.getElem?_setIfInBounds_self, if_pos (by omega)]; simp [h3]
        · rw [if_neg (by omega), Array.getElem?_eq_none (by simp; omega), Array.getElem?_eq_none (by omega)]
      · rw [Array.getElem?_setIfInBounds_ne (fun e => h2 e.symm)]
        rw [if_neg (by omega)]

theorem putAt_len : ∀ (cs vs : List AV) (k : Nat), (putAt cs k vs).length = cs.length
  | cs, [], k => by cases cs <;> rfl
  | [], v :: vs, k => rfl
  | c :: cs, v :: vs, k => by
    simp only [putAt, beq_eq]
    split <;> simp [putAt_len]

theorem putAt_in {cs vs : List AV} {k : Nat} (h : InL σ cs) (h' : InL σ vs) : InL σ (putAt cs k vs) := by
  rw [InL_iff] at *
  intro v hv
  obtain ⟨i, hi⟩ := List.getElem?_of_mem hv
  rw [putAt_get] at hi
  split at hi
  · exact h' v (List.mem_of_getElem? hi)
  · exact h v (List.mem_of_getElem? hi)

theorem put_conc (cs vs : List AV) (off : Nat) :
    (((concL σ vs).toArray.zipIdx.foldl (fun cs (c, j) => cs.setIfInBounds (off + j) c) (concL σ cs).toArray) : Array Value) = (concL σ (putAt cs off vs)).toArray := by
  apply Array.ext_getElem?
  intro i
  rw [← Array.foldl_toList, Array.toList_zipIdx]
  have := fold_set_get (concL σ vs) (concL σ cs).toArray off 0 i
  simp only [Nat.add_zero] at this
  rw [this]
  simp only [concL_eq, List.size_toArray, List.length_map, List.getElem?_toArray, List.getElem?_map, putAt_get]
  split <;> simp

theorem fill_run (r : Rel P σ s w) (ev : REv σ T ρ) {place : Nat → Option (Nat × Nat)} : ∀ {parts : List (Nat × Operand)} {ps : List (Nat × Nat × EO)} {cs l : List AV}, cPlaces P place parts = some ps → InL σ cs → fillP T cs ps = some l →
    Instr.fill place (concL σ cs).toArray (parts.map fun x => (x.1, ρ x.2)) = some (concL σ l).toArray ∧ InL σ l
  | [], ps, cs, l, h1, hin, h2 => by
    simp only [cPlaces] at h1; cases h1
    simp only [fillP] at h2; cases h2
    exact ⟨rfl, hin⟩
  | (i, x) :: parts, ps, cs, l, h1, hin, h2 => by
    simp only [cPlaces] at h1
    split at h1
    · rename_i o n x' ps' hp hx hps
      cases h1
      simp only [fillP, beq_eq, ble_eq] at h2
      split at h2
      · rename_i hc
        simp at hc
        obtain ⟨e1, e2⟩ := ev _ _ hx
        have hin' : InL σ (putAt cs o (cellsOf (x'.ev T))) := putAt_in hin (In_cells e2)
        obtain ⟨k1, k2⟩ := fill_run r ev hps hin' h2
        refine ⟨?_, k2⟩
        simp only [List.map_cons, Instr.fill, hp]
        rw [e1, conc_cells r]
        have hcond : ¬ (((concL σ (cellsOf (x'.ev T))).toArray.size ≠ n || o + (concL σ (cellsOf (x'.ev T))).toArray.size > (concL σ cs).toArray.size) = true) := by
          simp [concL_length]; omega
        rw [if_neg hcond, put_conc]
        exact k1
      · cases h2
    · cases h1

end
end Go.Ab
