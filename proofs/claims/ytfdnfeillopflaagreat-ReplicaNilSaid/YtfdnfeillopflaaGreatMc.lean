/- Soundness of the abstract evaluator: operations that look at no memory. -/
import Derived.Test.YtfdnfeillopflaaGreatMb
noncomputable section
namespace Go.Ab

section
variable {P : Program} {E : Env} {cl : Oracle} {σ : Sg} {s s' : AS} {w : World} {T : Tr AV} {ρ : Operand → Value}

theorem map_some {α β : Type} {o : Option α} {f : α → β} {y : β} (h : o.map f = some y) : ∃ x, o = some x ∧ f x = y := by
  cases o with
  | none => cases h
  | some x => exact ⟨x, rfl, by simpa using h⟩

theorem Res.val (r : Rel P σ s w) {x : Sem Value} {v : AV} (hx : x.run P w = .ok (conc σ v) w ∧ In σ v) : Res P σ s w ((do Pure.pure (Next.value (← x)) : Sem Next).run P w) v s :=
  Res.of r hx.2 (by simp [hx.1])

theorem some2_some {s₁ : AS} {o : Option AV} {v : AV} (h : some2 s o = some (v, s₁)) : o = some v ∧ s₁ = s := by
  cases o with
  | none => cases h
  | some x => cases h; exact ⟨rfl, rfl⟩

/-! numbers that come in -/
theorem natOf_conc {x : AV} {n : Nat} (h : natOf x = some n) : ∃ k, conc σ x = .int k (n : Int) := by
  unfold natOf at h
  split at h
  · rename_i k m; cases h; exact ⟨k, rfl⟩
  · cases h

/-! address arithmetic -/
theorem run_fieldPlace {a : Addr} {f : Field} {n : Nat} (h : tsize P.toTables f.type = some (n + 1)) : (fieldPlace a f).run P w = .ok (a.add f.offset) w := by
  simp [fieldPlace, run_size h]

theorem sim_fldA {t : TypeId} {fs : Array Field} {i : Nat} {f : Field} {n : Nat} (ht : P.underlying t = some (.struct fs)) (hf : fs[i]? = some f) (hn : tsize P.toTables f.type = some (n + 1)) {a j o : Nat} (hin : In σ (.ptr a j o)) :
    (Instr.fieldAt t (conc σ (.ptr a j o)) i).run P w = .ok (conc σ (.ptr a j (o + f.offset))) w ∧ In σ (.ptr a j (o + f.offset)) := by
  simp only [In] at hin ⊢
  refine ⟨?_, hin.1, by omega⟩
  simp only [Instr.fieldAt, conc, Sem.run_bind, run_und ht, Result.andThen_ok]
  simp [hf, Instr.sureAddr, run_fieldPlace hn, adr_add hin.2]

theorem sim_ixA {t e : TypeId} {n : Nat} (ht : P.underlying t = some (.slice e)) (hn : tsize P.toTables e = some n) {a j o len : Nat} {c : Cap} (hin : In σ (.sl a j o len c)) {k : IntKind} {i : Nat} (hi : i < len) :
    (Instr.indexAt t (conc σ (.sl a j o len c)) (.int k i)).run P w = .ok (conc σ (.ptr a j (o + i * n))) w ∧ In σ (.ptr a j (o + i * n)) := by
  have hj : j < (σ.ar a).length ∧ (σ.vi a j).sh ≤ o := by cases c <;> simp only [In] at hin <;> exact ⟨hin.1, hin.2.1⟩
  simp only [In]
  refine ⟨?_, hj.1, by omega⟩
  have h1 : (0 : Int) ≤ (i : Int) ∧ (i : Int) < (len : Int) := ⟨by omega, by omega⟩
  simp only [Instr.indexAt, conc, asIntOf, Sem.run_bind, Sem.run_pure, Result.andThen_ok, run_und ht]
  rw [if_pos h1]
  simp [run_size hn, adr_add hj.2]

theorem sim_ixAA {t e : TypeId} {n m : Nat} (ht : P.underlying t = some (.array m e)) (hn : tsize P.toTables e = some n) {a j o : Nat} (hin : In σ (.ptr a j o)) {k : IntKind} {i : Nat} (hi : i < m) :
    (Instr.indexAt t (conc σ (.ptr a j o)) (.int k i)).run P w = .ok (conc σ (.ptr a j (o + i * n))) w ∧ In σ (.ptr a j (o + i * n)) := by
  simp only [In] at hin ⊢
  refine ⟨?_, hin.1, by omega⟩
  have h1 : (0 : Int) ≤ (i : Int) ∧ (i : Int) < (m : Int) := ⟨by omega, by omega⟩
  simp only [Instr.indexAt, conc, asIntOf, Sem.run_bind, Sem.run_pure, Result.andThen_ok, run_und ht, Instr.sureAddr]
  rw [if_pos h1]
  simp [run_size hn, adr_add hin.2]

/-! parts -/
theorem takeN_eq (n : Nat) (l : List AV) : takeN n l = l.take n := by
  induction n generalizing l with
  | zero => simp [takeN]
  | succ n ih => cases l <;> simp [takeN, ih]
theorem dropN_eq (n : Nat) (l : List AV) : dropN n l = l.drop n := by
  induction n generalizing l with
  | zero => simp [dropN]
  | succ n ih => cases l <;> simp [dropN, ih]

theorem part_run {t : TypeId} {g : Bool} {n off : Nat} {l : List AV} {v : AV} (hg : tagg P t = some g) (hn : tsize P.toTables t = some n) (hin : InL σ l) (h : partOf g off n l = some v) :
    (part t (concL σ l).toArray off).run P w = .ok (conc σ v) w ∧ In σ v := by
  rw [InL_iff] at hin
  cases g with
  | true =>
    simp only [partOf, ble_eq] at h
    split at h
    · rename_i hb
      cases h
      simp only [part, Sem.run_bind, run_agg hg, Result.andThen_ok, if_true, run_size hn, Sem.run_pure]
      refine ⟨?_, ?_⟩
      · simp only [conc, takeN_eq, dropN_eq, concL_eq]
        congr 2
        apply Array.ext'
        simp [List.map_take, List.map_drop]
      · simp only [In, takeN_eq, dropN_eq, InL_iff]
        intro x hx
        exact hin x (List.mem_of_mem_drop (List.mem_of_mem_take hx))
    · cases h
  | false =>
    simp only [partOf, nth_eq] at h
    refine ⟨?_, hin v (List.mem_of_getElem? h)⟩
    simp [part, run_agg hg, concL_eq, h]

/-! nil checks, closures, tuples -/
theorem sim_ext {x : AV} {l : List AV} {i : Nat} {v : AV} (hx : x = .tup l) (hin : In σ x) (h : nth l i = some v) : (Instr.extract (conc σ x) i).run P w = .ok (conc σ v) w ∧ In σ v := by
  subst hx
  simp only [In, InL_iff] at hin
  rw [nth_eq] at h
  refine ⟨?_, hin v (List.mem_of_getElem? h)⟩
  simp [Instr.extract, conc, concL_eq, h]

/-! putting parts over a row -/
def putV' : List Value → Nat → List Value → List Value
  | cs, _, [] => cs
  | [], _, _ => []
  | _ :: cs, 0, v :: vs => v :: putV' cs 0 vs
  | c :: cs, k + 1, v :: vs => c :: putV' cs k (v :: vs)

theorem putAt_get : ∀ (cs vs : List AV) (k i : Nat), (putAt cs k vs)[i]? = if k ≤ i ∧ i < k + vs.length ∧ i < cs.length then vs[i - k]? else cs[i]?
  | cs, [], k, i => by
    cases cs <;> simp [putAt] <;> omega
  | [], v :: vs, k, i => by simp [putAt]
  | c :: cs, v :: vs, k, i => by
    simp only [putAt, beq_eq]
    by_cases hk : k = 0
    · subst hk
      simp only [decide_true]
      cases i with
      | zero => simp
      | succ i =>
        rw [List.getElem?_cons_succ, putAt_get cs vs 0 i]
        simp only [List.length_cons, Nat.zero_le, true_and, Nat.sub_zero, Nat.zero_add]
        by_cases h : i < vs.length ∧ i < cs.length
        · rw [if_pos h, if_pos (by omega)]; simp
        · rw [if_neg h, if_neg (by omega)]; simp
    · simp only [hk, decide_false]
      cases i with
      | zero => rw [List.getElem?_cons_zero, if_neg (by omega)]; simp
      | succ i =>
        rw [List.getElem?_cons_succ, putAt_get cs (v :: vs) (k - 1) i]
        simp only [List.length_cons]
        by_cases h : k - 1 ≤ i ∧ i < k - 1 + (vs.length + 1) ∧ i < cs.length
        · rw [if_pos h, if_pos (by omega)]
          congr 1; omega
        · rw [if_neg h, if_neg (by omega)]; simp

theorem fold_set_get (vs : List Value) : ∀ (cs : Array Value) (off m : Nat) (i : Nat),
    ((vs.zipIdx m).foldl (fun cs (x : Value × Nat) => cs.setIfInBounds (off + x.2) x.1) cs)[i]? = if off + m ≤ i ∧ i < off + m + vs.length ∧ i < cs.size then vs[i - (off + m)]? else cs[i]? := by
  induction vs with
  | nil => intro cs off m i; simp; omega
  | cons v vs ih =>
    intro cs off m i
    rw [List.zipIdx_cons, List.foldl_cons, ih]
    simp only [Array.size_setIfInBounds, List.length_cons]
    by_cases h1 : off + (m + 1) ≤ i ∧ i < off + (m + 1) + vs.length ∧ i < cs.size
    · rw [if_pos h1, if_pos (by omega)]
      have : i - (off + m) = (i - (off + (m + 1))) + 1 := by omega
      rw [this]; simp
    · rw [if_neg h1]
      by_cases h2 : i = off + m
      · subst h2
        by_cases h3 : off + m < cs.size
        · rw [Array.getElem?_setIfInBounds_self, if_pos (by omega)]; simp [h3]
        · rw [if_neg (by omega), Array.getElem?_eq_none (by simp; omega), Array.getElem?_eq_none (by omega)]
      · rw [Array.getElem?_setIfInBounds_ne (fun e => h2 e.symm)]
        rw [if_neg (by omega)]

theorem putAt_len : ∀ (cs vs : List AV) (k : Nat), (putAt cs k vs).length = cs.length
  | cs, [], k => by cases cs <;> rfl
  | [], v :: vs, k => rfl
  | c :: cs, v :: vs, k => by
    simp only [putAt, beq_eq]
    split <;> simp [putAt_len]

theorem putAt_in {cs vs : List AV} {k : Nat} (h : InL σ cs) (h' : InL σ vs) : InL σ (putAt cs k vs) := by
  rw [InL_iff] at *
  intro v hv
  obtain ⟨i, hi⟩ := List.getElem?_of_mem hv
  rw [putAt_get] at hi
  split at hi
  · exact h' v (List.mem_of_getElem? hi)
  · exact h v (List.mem_of_getElem? hi)

theorem put_conc (cs vs : List AV) (off : Nat) :
    (((concL σ vs).toArray.zipIdx.foldl (fun cs (c, j) => cs.setIfInBounds (off + j) c) (concL σ cs).toArray) : Array Value) = (concL σ (putAt cs off vs)).toArray := by
  apply Array.ext_getElem?
  intro i
  rw [← Array.foldl_toList, Array.toList_zipIdx]
  have := fold_set_get (concL σ vs) (concL σ cs).toArray off 0 i
  simp only [Nat.add_zero] at this
  rw [this]
  simp only [concL_eq, List.size_toArray, List.length_map, List.getElem?_toArray, List.getElem?_map, putAt_get]
  split <;> simp

theorem fill_run (r : Rel P σ s w) (ev : REv σ T ρ) {place : Nat → Option (Nat × Nat)} : ∀ {parts : List (Nat × Operand)} {ps : List (Nat × Nat × EO)} {cs l : List AV}, cPlaces P place parts = some ps → InL σ cs → fillP T cs ps = some l →
    Instr.fill place (concL σ cs).toArray (parts.map fun x => (x.1, ρ x.2)) = some (concL σ l).toArray ∧ InL σ l
  | [], ps, cs, l, h1, hin, h2 => by
    simp only [cPlaces] at h1; cases h1
    simp only [fillP] at h2; cases h2
    exact ⟨rfl, hin⟩
  | (i, x) :: parts, ps, cs, l, h1, hin, h2 => by
    simp only [cPlaces] at h1
    split at h1
    · rename_i o n x' ps' hp hx hps
      cases h1
      simp only [fillP, beq_eq, ble_eq] at h2
      split at h2
      · rename_i hc
        simp at hc
        obtain ⟨e1, e2⟩ := ev _ _ hx
        have hin' : InL σ (putAt cs o (cellsOf (x'.ev T))) := putAt_in hin (In_cells e2)
        obtain ⟨k1, k2⟩ := fill_run r ev hps hin' h2
        refine ⟨?_, k2⟩
        simp only [List.map_cons, Instr.fill, hp]
        rw [e1, conc_cells r]
        have hcond : ¬ (((concL σ (cellsOf (x'.ev T))).toArray.size ≠ n || o + (concL σ (cellsOf (x'.ev T))).toArray.size > (concL σ cs).toArray.size) = true) := by
          simp [concL_length]; omega
        rw [if_neg hcond, put_conc]
        exact k1
      · cases h2
    · cases h1

end
end Go.Ab
end

noncomputable section
namespace Go.Ab

section
variable {P : Program} {E : Env} {cl : Oracle} {σ : Sg} {s s' : AS} {w : World} {T : Tr AV} {ρ : Operand → Value}

theorem run_bound {v : AV} {n y : Nat} {c : BoundsCode} (h : natOf v = some n) (hn : n ≤ y) : (Instr.sliceBound (conc σ v) y c).run P w = .ok n w := by
  obtain ⟨k, hk⟩ := natOf_conc (σ := σ) h
  rw [hk]
  have h1 : (0 : Int) ≤ (n : Int) ∧ (n : Int) ≤ (y : Int) := ⟨by omega, by omega⟩
  simp only [Instr.sliceBound, asIntOf, Sem.run_bind, Sem.run_pure, Result.andThen_ok]
  rw [if_pos h1]; simp

theorem bounds_run {b : Bool} {len cap l h m : Nat} {lo hi mx : Option AV} (hl : optN 0 lo = some l) (hh : optN len hi = some h) (hm : optN cap mx = some m) (h1 : l ≤ h) (h2 : h ≤ m) (h3 : m ≤ cap) (h4 : mx.isSome → hi.isSome) :
    (Instr.sliceBounds b len cap (lo.map (conc σ)) (hi.map (conc σ)) (mx.map (conc σ))).run P w = .ok (l, h, m) w := by
  have b1 : ∀ v, mx = some v → ∀ c, (Instr.sliceBound (conc σ v) cap c).run P w = .ok m w := fun v e c => by subst e; exact run_bound hm h3
  have b2 : ∀ v, hi = some v → ∀ c, (Instr.sliceBound (conc σ v) m c).run P w = .ok h w := fun v e c => by subst e; exact run_bound hh h2
  have b3 : ∀ v, lo = some v → ∀ c, (Instr.sliceBound (conc σ v) h c).run P w = .ok l w := fun v e c => by subst e; exact run_bound hl h1
  cases mx with
  | none =>
    simp only [optN, Option.some.injEq] at hm; subst hm
    cases hi with
    | none =>
      simp only [optN, Option.some.injEq] at hh; subst hh
      cases lo with
      | none => simp only [optN, Option.some.injEq] at hl; subst hl; simp [Instr.sliceBounds]
      | some v => simp [Instr.sliceBounds, b3 v rfl]
    | some u =>
      cases lo with
      | none => simp only [optN, Option.some.injEq] at hl; subst hl; simp [Instr.sliceBounds, b2 u rfl]
      | some v => simp [Instr.sliceBounds, b3 v rfl, b2 u rfl]
  | some x =>
    cases hi with
    | none => simp at h4
    | some u =>
      cases lo with
      | none => simp only [optN, Option.some.injEq] at hl; subst hl; simp [Instr.sliceBounds, b1 x rfl, b2 u rfl]
      | some v => simp [Instr.sliceBounds, b1 x rfl, b3 v rfl, b2 u rfl]

/-- A slice expression over a slice, once its bounds are known. -/
theorem slice_run {a : Option Addr} {len cap n l h m : Nat} {t e : TypeId} (ht : P.underlying t = some (.slice e)) (hn : tsize P.toTables e = some n) {lo hi mx : Option AV}
    (hl : optN 0 lo = some l) (hh : optN len hi = some h) (hm : optN cap mx = some m) (h1 : l ≤ h) (h2 : h ≤ m) (h3 : m ≤ cap) (h4 : mx.isSome → hi.isSome) :
    (Instr.sliceAt t (.slice a len cap) (lo.map (conc σ)) (hi.map (conc σ)) (mx.map (conc σ))).run P w = .ok (.slice (if m = l then a else a.map (·.add (l * n))) (h - l) (m - l)) w := by
  simp only [Instr.sliceAt, Sem.run_bind, run_und ht, Result.andThen_ok, Instr.slice]
  simp [bounds_run hl hh hm h1 h2 h3 h4, run_size hn]

theorem sim_slSl {t e : TypeId} {n : Nat} (ht : P.underlying t = some (.slice e)) (hn : tsize P.toTables e = some n) (hn1 : 1 ≤ n) {x v : AV} {lo hi mx : Option AV} (hin : In σ x) (h : sliceAV n lo hi mx x = some v) :
    (Instr.sliceAt t (conc σ x) (lo.map (conc σ)) (hi.map (conc σ)) (mx.map (conc σ))).run P w = .ok (conc σ v) w ∧ In σ v := by
  unfold sliceAV at h
  split at h
  · cases h
  · rename_i hmh
    have h4 : mx.isSome → hi.isSome := by
      cases mx <;> cases hi <;> simp at hmh ⊢
    split at h
    · split at h
      · rename_i hl
        split at h
        · rename_i hh
          split at h
          · rename_i hm
            cases h
            refine ⟨?_, trivial⟩
            simp only [conc]
            rw [slice_run ht hn hl hh hm (Nat.le_refl _) (Nat.le_refl _) (Nat.le_refl _) h4]
            simp
          · cases h
        · cases h
      · cases h
    · rename_i a j off len c
      simp only [In] at hin
      split at h
      · cases h
      · rename_i m hm
        split at h
        · cases h
        · rename_i hh' hh
          split at h
          · cases h
          · rename_i l hl
            split at h
            · cases h
            · rename_i hc
              cases h
              simp only [ble_eq, Bool.and_eq_true, decide_eq_true_eq] at hc
              simp only [conc, Sg.cap]
              rw [slice_run ht hn hl hh hm hc.1 hc.2.1 hc.2.2 h4]
              simp only [beq_eq, In]
              by_cases hml : m = l
              · simp only [hml, if_true, decide_true]
                exact ⟨trivial, hin.1, hin.2.1, by omega⟩
              · simp only [hml, if_false, decide_false, Option.map_some, adr_add hin.2.1]
                exact ⟨trivial, hin.1, by omega, by omega⟩
    · rename_i a j off len es'
      simp only [In] at hin
      split at h
      · cases h
      · rename_i hes
        simp only [beq_eq, decide_eq_true_eq] at hes
        subst hes
        obtain ⟨i1, i2, i3, _⟩ := hin
        have hlen : len ≤ ((σ.vi a j).en - off) / n := by
          rw [Nat.le_div_iff_mul_le (by omega)]; omega
        split at h
        · cases h
        · rename_i hh' hh
          split at h
          · cases h
          · rename_i l hl
            split at h
            · cases h
            · rename_i hc
              simp only [ble_eq, Bool.and_eq_true, decide_eq_true_eq] at hc
              split at h
              · rename_i u
                split at h
                · rename_i m hm
                  split at h
                  · rename_i hc2
                    cases h
                    simp only [ble_eq, Bool.and_eq_true, decide_eq_true_eq] at hc2
                    simp only [conc, Sg.cap]
                    rw [slice_run ht hn hl hh (mx := some u) (m := m) hm hc.1 hc2.1 (by omega) h4]
                    simp only [beq_eq, In]
                    by_cases hml : m = l
                    · simp only [hml, if_true, decide_true]
                      exact ⟨trivial, i1, i2, by omega⟩
                    · simp only [hml, if_false, decide_false, Option.map_some, adr_add i2]
                      exact ⟨trivial, i1, by omega, by omega⟩
                  · cases h
                · cases h
              · have hrun := slice_run (σ := σ) (P := P) (w := w) (a := some (σ.adr a j off)) (len := len) (cap := ((σ.vi a j).en - off) / n) ht hn hl hh (mx := none) (m := ((σ.vi a j).en - off) / n) rfl hc.1 (by omega) (Nat.le_refl _) (by simp)
                have hcap : ((σ.vi a j).en - off) / n - l = ((σ.vi a j).en - (off + l * n)) / n := by
                  rw [← Nat.sub_mul_div, Nat.mul_comm n l, Nat.sub_sub]
                split at h
                · rename_i hc2
                  cases h
                  simp only [ltb_eq, beq_eq, Bool.or_eq_true, decide_eq_true_eq] at hc2
                  simp only [conc, Sg.cap, In]
                  have hmul : l * n + (hh' - l) * n ≤ len * n := by
                    rw [← Nat.add_mul]; exact Nat.mul_le_mul_right _ (by omega)
                  refine ⟨?_, i1, by omega, by omega, hn1⟩
                  refine hrun.trans ?_
                  rw [hcap]
                  congr 2
                  split
                  · rename_i heq
                    rcases hc2 with hc2 | hc2
                    · omega
                    · subst hc2; simp
                  · simp [adr_add i2]
                · rename_i hc2
                  cases h
                  simp only [ltb_eq, beq_eq, Bool.or_eq_false_iff, decide_eq_false_iff_not] at hc2
                  have hll : l = len := by omega
                  have hhl : hh' = len := by omega
                  subst hll hhl
                  simp only [conc, Sg.cap, In]
                  refine ⟨?_, i1, i2, i3, hn1, by omega⟩
                  refine hrun.trans ?_
                  simp only [Nat.sub_self]
                  by_cases hq : ((σ.vi a j).en - off) / n = hh' <;> simp [hq]
    · rename_i a j off l es
      split at h
      · rename_i hl
        split at h
        · rename_i hh
          split at h
          · cases h
            refine ⟨?_, hin⟩
            simp only [conc]
            rw [slice_run ht hn hl hh (mx := none) (m := σ.cap a j off (.rest es) - l) rfl (Nat.le_refl _) (Nat.zero_le _) (Nat.le_refl _) (by simp)]
            simp only [Nat.zero_mul, Nat.sub_zero]
            congr 2
            split
            · rfl
            · simp [Addr.add]
          · cases h
        · cases h
      · cases h
    · cases h

/-- A slice expression over an array behind a pointer. -/
theorem sim_slArr {t e : TypeId} {n m : Nat} (ht : P.underlying t = some (.array m e) ∨ ∃ arr, P.underlying t = some (.pointer arr) ∧ P.underlying arr = some (.array m e)) (hn : tsize P.toTables e = some n) {a j o : Nat} {v : AV} {lo hi mx : Option AV} (hin : In σ (.ptr a j o))
    (h : sliceAV n lo hi mx (.sl a j o m (.known m)) = some v) :
    (Instr.sliceAt t (conc σ (.ptr a j o)) (lo.map (conc σ)) (hi.map (conc σ)) (mx.map (conc σ))).run P w = .ok (conc σ v) w ∧ In σ v := by
  simp only [In] at hin
  unfold sliceAV at h
  split at h
  · cases h
  · rename_i hmh
    have h4 : mx.isSome → hi.isSome := by
      cases mx <;> cases hi <;> simp at hmh ⊢
    simp only at h
    split at h
    · cases h
    · rename_i k hm
      split at h
      · cases h
      · rename_i hh' hh
        split at h
        · cases h
        · rename_i l hl
          split at h
          · cases h
          · rename_i hc
            cases h
            simp only [ble_eq, Bool.and_eq_true, decide_eq_true_eq] at hc
            have key : (Instr.sliceAt t (conc σ (.ptr a j o)) (lo.map (conc σ)) (hi.map (conc σ)) (mx.map (conc σ))).run P w = .ok (.slice (some (if k = l then σ.adr a j o else (σ.adr a j o).add (l * n))) (hh' - l) (k - l)) w := by
              rcases ht with ht | ⟨arr, ht, ht'⟩
              · simp only [Instr.sliceAt, conc, Sem.run_bind, run_und ht, Result.andThen_ok, Instr.sureAddr, Sem.run_pure]
                simp [bounds_run (b := false) hl hh hm hc.1 hc.2.1 hc.2.2 h4, run_size hn]
              · simp only [Instr.sliceAt, conc, Sem.run_bind, run_und ht, Result.andThen_ok, Instr.slice, asAddr, Sem.run_pure, run_und ht']
                simp [bounds_run (b := false) hl hh hm hc.1 hc.2.1 hc.2.2 h4, run_size hn]
            rw [key]
            simp only [beq_eq, conc, Sg.cap, In]
            by_cases hkl : k = l
            · simp only [hkl, if_true, decide_true]
              exact ⟨trivial, hin.1, hin.2, by omega⟩
            · simp only [hkl, if_false, decide_false, adr_add hin.2]
              exact ⟨trivial, hin.1, by omega, by omega⟩

end
end Go.Ab
end

noncomputable section
namespace Go.Ab

section
variable {P : Program} {E : Env} {cl : Oracle} {σ : Sg} {s s' : AS} {w : World} {T : Tr AV} {ρ : Operand → Value}

theorem sim_slStr {t : TypeId} (ht : P.underlying t = some .string) {b : ByteArray} {lo hi : Option AV} {l h : Nat} (hh : optN b.size hi = some h) (hl : optN 0 lo = some l) (h1 : l ≤ h) (h2 : h ≤ b.size) :
    (Instr.sliceAt t (.string b) (lo.map (conc σ)) (hi.map (conc σ)) none).run P w = .ok (.string (b.extract l h)) w := by
  simp only [Instr.sliceAt, Sem.run_bind, run_und ht, Result.andThen_ok, Instr.slice]
  have := bounds_run (σ := σ) (P := P) (w := w) (b := false) (cap := b.size) (mx := none) (m := b.size) hl hh rfl h1 h2 (Nat.le_refl _) (by simp)
  simp only [Option.map_none] at this
  simp [this]

theorem sim_mx (he : EOk E σ) {x y v : AV} (h : mxAV E x y = some v) (hx : In σ x) (hy : In σ y) : (Builtin.max2 (conc σ x) (conc σ y)).run P w = .ok (conc σ v) w ∧ In σ v := by
  unfold mxAV at h
  split at h
  · cases h; exact ⟨rfl, trivial⟩
  · cases h
    refine ⟨?_, trivial⟩
    simp only [Builtin.max2, conc, Sem.run_bind, Op.stringOp, Sem.run_pure, Result.andThen_ok, asBool]
  · split at h
    · cases h
    · rename_i hk
      rw [isI64_eq hk] at *
      split at h
      · rename_i hc; cases h
        obtain ⟨k1, _⟩ := symCmp_run (P := P) (w := w) he hc 0
        simp [binOp, Op.intCmp, numOf, conc] at k1
        simp [Builtin.max2, conc, k1, In]
      · rename_i hc; cases h
        obtain ⟨k1, _⟩ := symCmp_run (P := P) (w := w) he hc 0
        simp [binOp, Op.intCmp, numOf, conc] at k1
        simp [Builtin.max2, conc, In]
        omega
      · cases h
  · split at h
    · cases h
    · rename_i hk
      rw [isI64_eq hk] at *
      split at h
      · rename_i hc; cases h
        obtain ⟨k1, _⟩ := symCmp_run (P := P) (w := w) he hc 0
        simp [binOp, Op.intCmp, numOf, conc] at k1
        simp [Builtin.max2, conc, k1, In]
      · rename_i hc; cases h
        obtain ⟨k1, _⟩ := symCmp_run (P := P) (w := w) he hc 0
        simp [binOp, Op.intCmp, numOf, conc] at k1
        simp [Builtin.max2, conc, In]
        omega
      · cases h
  · cases h

theorem sim_mn (he : EOk E σ) {x y v : AV} (h : mnAV E x y = some v) (hx : In σ x) (hy : In σ y) : (Builtin.min2 (conc σ x) (conc σ y)).run P w = .ok (conc σ v) w ∧ In σ v := by
  unfold mnAV at h
  split at h
  · cases h; exact ⟨rfl, trivial⟩
  · cases h
    refine ⟨?_, trivial⟩
    simp only [Builtin.min2, conc, Sem.run_bind, Op.stringOp, Sem.run_pure, Result.andThen_ok, asBool]
  · split at h
    · cases h
    · rename_i hk
      rw [isI64_eq hk] at *
      split at h
      · rename_i hc; cases h
        obtain ⟨k1, _⟩ := symCmp_run (P := P) (w := w) he hc 0
        simp [binOp, Op.intCmp, numOf, conc] at k1
        have k1 := of_decide_eq_true k1
        simp [Builtin.min2, conc, In]
        omega
      · rename_i hc; cases h
        obtain ⟨k1, _⟩ := symCmp_run (P := P) (w := w) he hc 0
        simp [binOp, Op.intCmp, numOf, conc] at k1
        have k1 := of_decide_eq_false k1
        simp [Builtin.min2, conc, In]
        omega
      · cases h
  · split at h
    · cases h
    · rename_i hk
      rw [isI64_eq hk] at *
      split at h
      · rename_i hc; cases h
        obtain ⟨k1, _⟩ := symCmp_run (P := P) (w := w) he hc 0
        simp [binOp, Op.intCmp, numOf, conc] at k1
        have k1 := of_decide_eq_true k1
        simp [Builtin.min2, conc, In]
        omega
      · rename_i hc; cases h
        obtain ⟨k1, _⟩ := symCmp_run (P := P) (w := w) he hc 0
        simp [binOp, Op.intCmp, numOf, conc] at k1
        have k1 := of_decide_eq_false k1
        simp [Builtin.min2, conc, In]
        omega
      · cases h
  · cases h

theorem sim_fold {f : AV → AV → Option AV} {g : Value → Value → Sem Value} (hf : ∀ {x y v}, f x y = some v → In σ x → In σ y → (g (conc σ x) (conc σ y)).run P w = .ok (conc σ v) w ∧ In σ v) :
    ∀ {l : List AV} {x v : AV}, foldAV f x l = some v → In σ x → InL σ l → ((concL σ l).foldlM g (conc σ x)).run P w = .ok (conc σ v) w ∧ In σ v
  | [], x, v, h, hx, _ => by simp only [foldAV] at h; cases h; exact ⟨rfl, hx⟩
  | y :: l, x, v, h, hx, hl => by
    simp only [foldAV] at h
    split at h
    · rename_i z hz
      obtain ⟨k1, k2⟩ := hf hz hx hl.1
      obtain ⟨m1, m2⟩ := sim_fold hf h k2 hl.2
      refine ⟨?_, m2⟩
      simp only [concL, List.foldlM_cons, Sem.run_bind]
      rw [k1]; exact m1
    · cases h

theorem sim_un {k : IntKind} {n : Int} : (Op.unary .neg (.int k n)).run P w = .ok (.int k (k.wrap (0 - n))) w := by
  simp [Op.unary, Op.intArith]

/-! conversions -/
theorem sim_cvInt {a d : TypeId} {u : TypeDesc} {k : IntKind} (ha : P.underlying a = some u) (hd : P.underlying d = some (.int k)) {k' : IntKind} {n : Int} :
    (convert a d (.int k' n)).run P w = .ok (.int k (k.wrap n)) w := by
  simp only [convert, Sem.run_bind, run_und ha, run_und hd, Result.andThen_ok]
  cases u <;> rfl

theorem sim_cvStr {a d : TypeId} (ha : P.underlying a = some .string) (hd : P.underlying d = some .string) {b : ByteArray} : (convert a d (.string b)).run P w = .ok (.string b) w := by
  simp [convert, run_und ha, run_und hd]

theorem bytesOfL_conc : ∀ {l : List AV} {b : List UInt8}, bytesOfL l = some b → ∃ ns : List Nat, concL σ l = List.map (fun (n : Nat) => Value.int .u8 (n : Int)) ns ∧ b = ns.map UInt8.ofNat
  | [], b, h => by simp only [bytesOfL] at h; cases h; exact ⟨[], rfl, rfl⟩
  | x :: l, b, h => by
    have key : ∀ n : Nat, x = .int .u8 (.ofNat n) → ∃ ns : List Nat, concL σ (x :: l) = List.map (fun (n : Nat) => Value.int .u8 (n : Int)) ns ∧ b = ns.map UInt8.ofNat := by
      intro n hx
      subst hx
      simp only [bytesOfL] at h
      split at h
      · rename_i r hr
        cases h
        obtain ⟨ns, h2, h3⟩ := bytesOfL_conc hr
        exact ⟨n :: ns, by simp [concL, conc, h2], by simp [h3]⟩
      · cases h
    cases x with
    | int k n =>
      cases n with
      | ofNat n => cases k <;> first | exact key n rfl | (simp [bytesOfL] at h)
      | negSucc n => cases k <;> simp [bytesOfL] at h
    | _ => simp [bytesOfL] at h

theorem fromBytes_run (ns : List Nat) : ∀ (acc : ByteArray),
    (forIn (List.map (fun (n : Nat) => Value.int .u8 (n : Int)) ns) acc (fun c s => (match c with
      | .int .u8 n => pure (ForInStep.yield (s.push (UInt8.ofNat n.toNat)))
      | _ => do
        (stuck "bytesToString: byte expected" : Sem PUnit)
        pure (ForInStep.yield s) : Sem (ForInStep ByteArray))) : Sem ByteArray).run P w = .ok ⟨acc.data ++ (ns.map UInt8.ofNat).toArray⟩ w := by
  induction ns with
  | nil => intro acc; simp
  | cons n ns ih =>
    intro acc
    simp only [List.map_cons, List.forIn_cons, Sem.run_bind, Sem.run_pure, Result.andThen_ok, Int.toNat_natCast]
    rw [ih]
    congr 2
    simp [ByteArray.push]

theorem sim_cvBS {a d e : TypeId} (ha : P.underlying a = some (.slice e)) (hd : P.underlying d = some .string) (hu : P.underlying e = some (.int .u8)) {x : Value} {ns : List Nat}
    (hx : (x = .slice none 0 0 ∧ ns = []) ∨ ∃ p n c, x = .slice (some p) n c ∧ (loadCells p n).run P w = .ok (List.map (fun (n : Nat) => Value.int .u8 (n : Int)) ns).toArray w) :
    (convert a d x).run P w = .ok (.string ⟨(ns.map UInt8.ofNat).toArray⟩) w := by
  rcases hx with ⟨rfl, rfl⟩ | ⟨p, n, c, rfl, hl⟩
  · simp [convert, run_und ha, run_und hd, run_und hu, Conv.bytesToString]; rfl
  · simp only [convert, Sem.run_bind, run_und ha, run_und hd, run_und hu, Result.andThen_ok, Conv.bytesToString, hl]
    have := fromBytes_run (P := P) (w := w) ns .empty
    rw [← List.forIn_toArray] at this
    refine (congrArg (fun r => Result.andThen r (fun a w' => Sem.run P (pure (Value.string a)) w')) this).trans ?_
    simp

end
end Go.Ab
end

noncomputable section
namespace Go.Ab

/-- As 'Ext', of what lies below two bounds alone. -/
structure ExtB (B Bm : Nat) (σ : Sg) (s : AS) (w : World) (σ' : Sg) (s' : AS) (w' : World) : Prop where
  le : σ.le σ'
  img : ∀ r, img σ' r → img σ r ∨ w.heap.size ≤ r
  fr : ∀ r, r < w.heap.size → ¬ Ab.img σ r → w'.heap[r]? = w.heap[r]?
  size : w.heap.size ≤ w'.heap.size
  os : w'.os = w.os
  tape : w'.tape = w.tape
  output : w'.output = w.output
  na : s.na ≤ s'.na
  nm : s.nm ≤ s'.nm
  nl : s.nl ≤ s'.nl
  fa : ∀ a, a < B → σ.ar a = [] → s'.arrs.get a = s.arrs.get a ∧ σ'.ar a = []
  fm : ∀ m, m < Bm → σ.mp m = none → s'.maps.get m = s.maps.get m ∧ σ'.mp m = none

theorem Ext.toB {B Bm : Nat} {σ σ' : Sg} {s s' : AS} {w w' : World} (h : Ext σ s w σ' s' w') (hB : B ≤ s.na) (hm : Bm ≤ s.nm) : ExtB B Bm σ s w σ' s' w' :=
  ⟨h.le, h.img, h.fr, h.size, h.os, h.tape, h.output, h.na, h.nm, h.nl, fun a ha h0 => h.fa a (by omega) h0, fun a ha h0 => h.fm a (by omega) h0⟩
theorem ExtB.toExt {σ σ' : Sg} {s s' : AS} {w w' : World} (h : ExtB s.na s.nm σ s w σ' s' w') : Ext σ s w σ' s' w' :=
  ⟨h.le, h.img, h.fr, h.size, h.os, h.tape, h.output, h.na, h.nm, h.nl, h.fa, h.fm⟩
theorem ExtB.refl (B Bm : Nat) (σ : Sg) (s : AS) (w : World) : ExtB B Bm σ s w σ s w :=
  ⟨.refl σ, fun _ h => .inl h, fun _ _ _ => rfl, Nat.le_refl _, rfl, rfl, rfl, Nat.le_refl _, Nat.le_refl _, Nat.le_refl _, fun _ _ h => ⟨rfl, h⟩, fun _ _ h => ⟨rfl, h⟩⟩
theorem ExtB.trans {B Bm : Nat} {σ σ₁ σ₂ : Sg} {s s₁ s₂ : AS} {w w₁ w₂ : World} (h : ExtB B Bm σ s w σ₁ s₁ w₁) (k : ExtB B Bm σ₁ s₁ w₁ σ₂ s₂ w₂) : ExtB B Bm σ s w σ₂ s₂ w₂ where
  le := h.le.trans k.le
  img r hr := by
    rcases k.img r hr with h1 | h1
    · exact h.img r h1
    · exact .inr (Nat.le_trans h.size h1)
  fr r hr hn := by
    have h1 : ¬ Ab.img σ₁ r := fun h1 => by
      rcases h.img r h1 with h2 | h2
      · exact hn h2
      · omega
    rw [k.fr r (Nat.lt_of_lt_of_le hr h.size) h1, h.fr r hr hn]
  size := Nat.le_trans h.size k.size
  os := k.os.trans h.os
  tape := k.tape.trans h.tape
  output := k.output.trans h.output
  na := Nat.le_trans h.na k.na
  nm := Nat.le_trans h.nm k.nm
  nl := Nat.le_trans h.nl k.nl
  fa a ha hn := by
    obtain ⟨h1, h2⟩ := h.fa a ha hn
    obtain ⟨h3, h4⟩ := k.fa a ha h2
    exact ⟨h3.trans h1, h4⟩
  fm a ha hn := by
    obtain ⟨h1, h2⟩ := h.fm a ha hn
    obtain ⟨h3, h4⟩ := k.fm a ha h2
    exact ⟨h3.trans h1, h4⟩

/-- More abstract memory, of which nothing stands in the world yet. -/
structure More (s t : AS) : Prop where
  na : s.na ≤ t.na
  nm : s.nm ≤ t.nm
  nl : s.nl ≤ t.nl
  arr : ∀ a, a < s.na → t.arrs.get a = s.arrs.get a
  map : ∀ m, m < s.nm → t.maps.get m = s.maps.get m
  lop : ∀ l, t.loops.get l = s.loops.get l

theorem More.refl (s : AS) : More s s := ⟨Nat.le_refl _, Nat.le_refl _, Nat.le_refl _, fun _ _ => rfl, fun _ _ => rfl, fun _ => rfl⟩
theorem More.trans {a b c : AS} (h : More a b) (k : More b c) : More a c :=
  ⟨Nat.le_trans h.na k.na, Nat.le_trans h.nm k.nm, Nat.le_trans h.nl k.nl, fun x hx => (k.arr x (Nat.lt_of_lt_of_le hx h.na)).trans (h.arr x hx),
    fun x hx => (k.map x (Nat.lt_of_lt_of_le hx h.nm)).trans (h.map x hx), fun l => (k.lop l).trans (h.lop l)⟩

theorem OneMore.more {s t : AS} (h : OneMore s t) : More s t := by
  rcases h with rfl | ⟨A, rfl⟩ | ⟨M, rfl⟩
  · exact .refl _
  · exact ⟨Nat.le_succ _, Nat.le_refl _, Nat.le_refl _, fun a ha => Tr.get_set_ne _ _ (by omega), fun _ _ => rfl, fun _ => rfl⟩
  · exact ⟨Nat.le_refl _, Nat.le_succ _, Nat.le_refl _, fun _ _ => rfl, fun a ha => Tr.get_set_ne _ _ (by omega), fun _ => rfl⟩

theorem Rel.more {P : Program} {σ : Sg} {s t : AS} {w : World} (r : Rel P σ s w) (h : More s t) (hw : t.wf) : Rel P σ t w where
  arr a := by
    rcases Nat.lt_or_ge a s.na with ha | ha
    · exact (r.arr a).mono (.refl σ) rfl (h.arr a ha) fun _ _ => rfl
    · intro hne; exact absurd (r.na a ha) hne
  inj := r.inj
  map m := by
    rcases Nat.lt_or_ge m s.nm with hm | hm
    · exact (r.map m).mono (.refl σ) rfl (h.map m hm) fun _ _ => rfl
    · intro b hb; rw [r.nm m hm] at hb; cases hb
  minj := r.minj
  lop l := (r.lop l).mono (.refl σ) rfl (h.lop l) fun _ _ => rfl
  linj := r.linj
  na a ha := r.na a (Nat.le_trans h.na ha)
  nm a ha := r.nm a (Nat.le_trans h.nm ha)
  nl a ha := r.nl a (Nat.le_trans h.nl ha)
  opq := r.opq
  wf := hw

theorem OneMore.wf {s t : AS} (h : OneMore s t) (hs : s.wf) : t.wf := by
  rcases h with rfl | ⟨A, rfl⟩ | ⟨M, rfl⟩
  · exact hs
  · exact ⟨fun a ha => by simp only at ha ⊢; rw [Tr.get_set_ne _ _ (by omega)]; exact hs.arr a (by omega), hs.map⟩
  · exact ⟨hs.arr, fun a ha => by simp only at ha ⊢; rw [Tr.get_set_ne _ _ (by omega)]; exact hs.map a (by omega)⟩

theorem OneMore.aext {s t : AS} (h : OneMore s t) (hs : s.wf) : AExt s t := by
  rcases h with rfl | ⟨A, rfl⟩ | ⟨M, rfl⟩
  · exact .refl _
  · refine ⟨fun a B hB => ?_, fun _ _ h => h⟩
    have hne : a ≠ s.na := by rintro rfl; rw [hs.arr _ (Nat.le_refl _)] at hB; cases hB
    simp only; rw [Tr.get_set_ne _ _ hne]; exact hB
  · refine ⟨fun _ _ h => h, fun a B hB => ?_⟩
    have hne : a ≠ s.nm := by rintro rfl; rw [hs.map _ (Nat.le_refl _)] at hB; cases hB
    simp only; rw [Tr.get_set_ne _ _ hne]; exact hB

theorem ExtB.more {B Bm : Nat} {σ : Sg} {s t : AS} {w : World} (h : More s t) (hB : B ≤ s.na) (hm : Bm ≤ s.nm) : ExtB B Bm σ s w σ t w :=
  ⟨.refl σ, fun _ h => .inl h, fun _ _ _ => rfl, Nat.le_refl _, rfl, rfl, rfl, h.na, h.nm, h.nl, fun a ha h0 => ⟨h.arr a (by omega), h0⟩, fun a ha h0 => ⟨h.map a (by omega), h0⟩⟩

/-- A new block for an array that the abstract heap has already. -/
theorem Rel.lateA {P : Program} {σ : Sg} {s : AS} {w : World} (r : Rel P σ s w) {a B Bm : Nat} {A : Arr} {cs : Array Value} {E : TypeId} {fz : Nat × Nat} (hB : B ≤ a)
    (ha : a < s.na) (h0 : σ.ar a = []) (hA : s.arrs.get a = some A)
    (hv : A.ver = 0) (hful : ∀ i, A.lo ≤ i → i < A.n → ∃ m v, A.get i = some (m, v) ∧ m ≤ A.ver) (hin : ∀ j i v, A.rd j i = some v → In σ v) (hfz : fine fz cs.size)
    (hcs : ∀ i v, A.rd 0 i = some v → cs[i]? = some (conc σ v)) :
    Rel P (σ.addA a ⟨w.heap.size, 0, cs.size⟩) s (w.alloc (.cells cs E fz)) ∧
    ExtB B Bm σ s w (σ.addA a ⟨w.heap.size, 0, cs.size⟩) s (w.alloc (.cells cs E fz)) ∧
    (σ.addA a ⟨w.heap.size, 0, cs.size⟩).ar a = [⟨w.heap.size, 0, cs.size⟩] := by
  have hle := σ.le_addA a ⟨w.heap.size, 0, cs.size⟩
  have hsame : (σ.addA a ⟨w.heap.size, 0, cs.size⟩).ar a = [⟨w.heap.size, 0, cs.size⟩] := by rw [Sg.addA_same, h0]; rfl
  have hmem : ∀ x vi, vi ∈ (σ.addA a ⟨w.heap.size, 0, cs.size⟩).ar x → (x = a ∧ vi.blk = w.heap.size) ∨ (x ≠ a ∧ vi ∈ σ.ar x ∧ vi.blk < w.heap.size) := by
    intro x vi hvi
    by_cases hx : x = a
    · subst hx; rw [hsame] at hvi; simp at hvi; exact .inl ⟨rfl, by rw [hvi]⟩
    · rw [Sg.addA_ne _ _ hx] at hvi; exact .inr ⟨hx, hvi, r.blk_lt (.inl ⟨x, vi, hvi, rfl⟩)⟩
  refine ⟨?_, ?_, hsame⟩
  · constructor
    · intro x
      by_cases hx : x = a
      · subst hx
        intro _
        refine ⟨A, hA, ?_⟩
        rw [hsame]
        refine ⟨by simp [hv], hful, by simp, fun j i v h => (conc_le hle v (hin j i v h)).2, ?_⟩
        intro j vi hj
        cases j with
        | zero =>
          simp at hj; subst hj
          refine ⟨cs, E, fz, heap_alloc_new _ _, by simp, hfz, fun i v h => ⟨Nat.zero_le _, ?_⟩⟩
          rw [(conc_le hle v (hin 0 i v h)).1]; simpa using hcs i v h
        | succ j => simp at hj
      · exact (r.arr x).mono hle (Sg.addA_ne _ _ hx) rfl fun vi hv => heap_alloc w _ (r.blk_lt (.inl ⟨x, vi, hv, rfl⟩))
    · intro x x' vi vi' h h' he
      rcases hmem x vi h with ⟨h1, h2⟩ | ⟨h1, h2, h3⟩ <;> rcases hmem x' vi' h' with ⟨k1, k2⟩ | ⟨k1, k2, k3⟩
      · omega
      · omega
      · omega
      · exact r.inj x x' vi vi' h2 k2 he
    · exact fun m => (r.map m).mono hle rfl rfl fun b hb => heap_alloc w _ (r.blk_lt (.inr (.inl ⟨m, hb⟩)))
    · exact r.minj
    · exact fun l => (r.lop l).mono hle rfl rfl fun b hb => heap_alloc w _ (r.blk_lt (.inr (.inr ⟨l, hb⟩)))
    · exact r.linj
    · intro x hx
      rw [Sg.addA_ne _ _ (by omega)]; exact r.na x hx
    · exact r.nm
    · exact r.nl
    · exact r.opq
    · exact r.wf
  · refine ⟨hle, ?_, fun b hb _ => heap_alloc w _ hb, by simp, rfl, rfl, rfl, Nat.le_refl _, Nat.le_refl _, Nat.le_refl _, ?_, fun _ _ h => ⟨rfl, h⟩⟩
    · rintro b (⟨x, vi, hv, rfl⟩ | h | h)
      · rcases hmem x vi hv with ⟨h1, h2⟩ | ⟨h1, h2, h3⟩
        · exact .inr (by omega)
        · exact .inl (.inl ⟨x, vi, h2, rfl⟩)
      · exact .inl (.inr (.inl h))
      · exact .inl (.inr (.inr h))
    · intro x hx h
      exact ⟨rfl, by rw [Sg.addA_ne _ _ (by omega)]; exact h⟩

def Sg.addM (σ : Sg) (m b : Nat) : Sg := { σ with mp := fun x => if x = m then some b else σ.mp x }
theorem Sg.le_addM (σ : Sg) (m b : Nat) (h : σ.mp m = none) : σ.le (σ.addM m b) where
  ar _ := List.prefix_refl _
  mp x r hr := by
    simp only [Sg.addM]
    split
    · rename_i e; subst e; rw [h] at hr; cases hr
    · exact hr
  lp _ _ h := h
  opq := rfl
  sym := rfl

/-- A new map that the abstract heap has already. -/
theorem Rel.lateM {P : Program} {σ : Sg} {s : AS} {w : World} (r : Rel P σ s w) {m B Bm : Nat} (hB : Bm ≤ m) (hm : m < s.nm) (h0 : σ.mp m = none) (hA : s.maps.get m = some ⟨[], 0⟩) :
    Rel P (σ.addM m w.heap.size) s (w.alloc (.map #[] 0)) ∧ ExtB B Bm σ s w (σ.addM m w.heap.size) s (w.alloc (.map #[] 0)) ∧ (σ.addM m w.heap.size).mp m = some w.heap.size := by
  have hle := σ.le_addM m w.heap.size h0
  have hsame : (σ.addM m w.heap.size).mp m = some w.heap.size := by simp [Sg.addM]
  have hne : ∀ x, x ≠ m → (σ.addM m w.heap.size).mp x = σ.mp x := fun x hx => by simp [Sg.addM, hx]
  refine ⟨?_, ?_, hsame⟩
  · constructor
    · exact fun x => (r.arr x).mono hle rfl rfl fun vi hv => heap_alloc w _ (r.blk_lt (.inl ⟨x, vi, hv, rfl⟩))
    · exact r.inj
    · intro x
      by_cases hx : x = m
      · subst hx
        intro b hb
        rw [hsame] at hb; cases hb
        exact ⟨_, hA, by simpa using heap_alloc_new w _, by simp⟩
      · exact (r.map x).mono hle (hne x hx) rfl fun b hb => heap_alloc w _ (r.blk_lt (.inr (.inl ⟨x, hb⟩)))
    · intro x x' b h h'
      by_cases hx : x = m <;> by_cases hx' : x' = m
      · omega
      · subst hx; rw [hsame] at h; cases h
        rw [hne x' hx'] at h'
        have := r.blk_lt (.inr (.inl ⟨x', h'⟩)); omega
      · subst hx'; rw [hsame] at h'; cases h'
        rw [hne x hx] at h
        have := r.blk_lt (.inr (.inl ⟨x, h⟩)); omega
      · rw [hne x hx] at h; rw [hne x' hx'] at h'; exact r.minj x x' b h h'
    · exact fun l => (r.lop l).mono hle rfl rfl fun b hb => heap_alloc w _ (r.blk_lt (.inr (.inr ⟨l, hb⟩)))
    · exact r.linj
    · exact r.na
    · intro x hx; rw [hne x (by omega)]; exact r.nm x hx
    · exact r.nl
    · exact r.opq
    · exact r.wf
  · refine ⟨hle, ?_, fun b hb _ => heap_alloc w _ hb, by simp, rfl, rfl, rfl, Nat.le_refl _, Nat.le_refl _, Nat.le_refl _, fun _ _ h => ⟨rfl, h⟩, ?_⟩
    · rintro b (⟨x, vi, hv, rfl⟩ | ⟨x, h⟩ | h)
      · exact .inl (.inl ⟨x, vi, hv, rfl⟩)
      · by_cases hx : x = m
        · subst hx; rw [hsame] at h; cases h; exact .inr (Nat.le_refl _)
        · rw [hne x hx] at h; exact .inl (.inr (.inl ⟨x, h⟩))
      · exact .inl (.inr (.inr h))
    · intro x hx h
      exact ⟨rfl, by rw [hne x (by omega)]; exact h⟩

/-- What an operation that makes memory comes to. -/
inductive AllocRes (P : Program) (σ : Sg) (w : World) (s : AS) (v : AV) (s₁ : AS) (res : Result Next) : Prop where
  | arr (A : Arr) (cs : Array Value) (E : TypeId) (fz : Nat × Nat) (w₁ : World) (V : Value)
      (hs : s₁ = { s with arrs := s.arrs.set s.na A, na := s.na + 1 }) (hw : w₁ = w ∨ w₁ = w.drew) (hr : res = .ok (.value V) (w₁.alloc (.cells cs E fz)))
      (hv : A.ver = 0) (hful : ∀ i, A.lo ≤ i → i < A.n → ∃ m v, A.get i = some (m, v) ∧ m ≤ A.ver) (hin : ∀ j i v, A.rd j i = some v → In σ v) (hfz : fine fz cs.size)
      (hcs : ∀ i v, A.rd 0 i = some v → cs[i]? = some (conc σ v))
      (hV : ∀ τ : Sg, τ.ar s.na = [⟨w.heap.size, 0, cs.size⟩] → V = conc τ v ∧ In τ v)
  | map (hs : s₁ = { s with maps := s.maps.set s.nm ⟨[], 0⟩, nm := s.nm + 1 }) (hv : v = .mp s.nm) (hr : res = .ok (.value (.map (some w.heap.size))) (w.alloc (.map #[] 0)))

/-- Memory that comes about now, where the abstract heap has it since then. -/
theorem AllocRes.late {P : Program} {σ : Sg} {w : World} {s s₁ t : AS} {v : AV} {res : Result Next} {B Bm : Nat} (h : AllocRes P σ w s v s₁ res) (r : Rel P σ t w) (hB : B ≤ s.na) (hBm : Bm ≤ s.nm)
    (hna : s₁.na ≤ t.na) (hnm : s₁.nm ≤ t.nm)
    (hpa : ∀ a, s.na ≤ a → a < s₁.na → σ.ar a = [] ∧ t.arrs.get a = s₁.arrs.get a) (hpm : ∀ m, s.nm ≤ m → m < s₁.nm → σ.mp m = none ∧ t.maps.get m = s₁.maps.get m) :
    ∃ σ' w', res = .ok (.value (conc σ' v)) w' ∧ Rel P σ' t w' ∧ In σ' v ∧ ExtB B Bm σ t w σ' t w' ∧
      (∀ a, (a < s.na ∨ s₁.na ≤ a) → σ'.ar a = σ.ar a) ∧ (∀ m, (m < s.nm ∨ s₁.nm ≤ m) → σ'.mp m = σ.mp m) := by
  cases h with
  | arr A cs E fz w₁ V hs hw hr hv hful hin hfz hcs hV =>
    subst hs
    simp only at hna hnm hpa hpm
    obtain ⟨h1, h2⟩ := hpa s.na (Nat.le_refl _) (by omega)
    simp only [Tr.get_set_same] at h2
    have hh : w₁.heap = w.heap := by rcases hw with rfl | rfl <;> rfl
    have r₁ : Rel P σ t w₁ := r.world fun b _ => by rw [hh]
    have x₁ : ExtB B Bm σ t w σ t w₁ := by
      rcases hw with rfl | rfl
      · exact .refl _ _ _ _ _
      · exact ⟨.refl σ, fun _ h => .inl h, fun _ _ _ => rfl, Nat.le_refl _, rfl, rfl, rfl, Nat.le_refl _, Nat.le_refl _, Nat.le_refl _, fun _ _ h => ⟨rfl, h⟩, fun _ _ h => ⟨rfl, h⟩⟩
    obtain ⟨k1, k2, k3⟩ := r₁.lateA (B := B) (Bm := Bm) (E := E) hB (by omega) h1 h2 hv hful hin hfz hcs
    rw [hh] at k1 k2 k3
    obtain ⟨m1, m2⟩ := hV _ k3
    refine ⟨_, _, by rw [hr, m1], k1, m2, x₁.trans k2, ?_, fun _ _ => rfl⟩
    intro a ha
    exact Sg.addA_ne _ _ (by simp only at ha; omega)
  | map hs hv hr =>
    subst hs; subst hv
    simp only at hna hnm hpa hpm
    obtain ⟨h1, h2⟩ := hpm s.nm (Nat.le_refl _) (by omega)
    simp only [Tr.get_set_same] at h2
    obtain ⟨k1, k2, k3⟩ := r.lateM (B := B) (Bm := Bm) hBm (by omega) h1 h2
    refine ⟨_, _, by rw [hr]; simp [conc, k3], k1, by simp [In, k3], k2, fun _ _ => rfl, ?_⟩
    intro a ha
    have hne : a ≠ s.nm := by simp only at ha; omega
    simp [Sg.addM, hne]

end Go.Ab
end

noncomputable section
namespace Go.Ab

theorem rowOf_full (l : List AV) : ∀ i, (rowOf l).lo ≤ i → i < (rowOf l).n → ∃ m v, (rowOf l).get i = some (m, v) ∧ m ≤ (rowOf l).ver := by
  intro i _ hi
  simp only [rowOf] at hi
  refine ⟨0, l[i], ?_, Nat.le_refl _⟩
  simp [Arr.get, rowOf, ltb_eq, ble_eq, setAll_get, hi]

theorem rowZ_full (n : Nat) (z : List AV) (h : n = 0 ∨ z ≠ []) : ∀ i, (rowZ n z).lo ≤ i → i < (rowZ n z).n → ∃ m v, (rowZ n z).get i = some (m, v) ∧ m ≤ (rowZ n z).ver := by
  intro i _ hi
  simp only [rowZ] at hi
  have hz : z ≠ [] := by
    rcases h with h | h
    · omega
    · exact h
  cases z with
  | nil => exact absurd rfl hz
  | cons x l =>
    have hlt : i % (x :: l).length < (x :: l).length := Nat.mod_lt _ (by simp)
    refine ⟨0, (x :: l)[i % (x :: l).length], ?_, Nat.le_refl _⟩
    simp only [Arr.get, rowZ, ltb_eq, ble_eq, hi, decide_true, Nat.zero_le, Bool.and_self, Tr.get_e, nth_eq]
    rw [List.getElem?_eq_getElem hlt]

theorem rowZ_none (z : List AV) (j i : Nat) : (rowZ 0 z).rd j i = none := by
  simp [Arr.rd, Arr.get, rowZ, ltb_eq]

section
variable {P : Program} {E : Env} {σ : Sg} {s s₁ t : AS} {w : World} {T : Tr AV} {ρ : Operand → Value}

/-- A row that is what it is made of. -/
theorem allocRow (E' : TypeId) {l : List AV} (hin : InL σ l) {v : AV} {V : Value} {res : Result Next} (hr : res = .ok (.value V) (w.alloc (.cells (concL σ l).toArray E')))
    (hV : ∀ τ : Sg, τ.ar s.na = [⟨w.heap.size, 0, (concL σ l).toArray.size⟩] → V = conc τ v ∧ In τ v) :
    AllocRes P σ w s v { s with arrs := s.arrs.set s.na (rowOf l), na := s.na + 1 } res := by
  refine .arr (rowOf l) (concL σ l).toArray E' (0, 0) w V rfl (.inl rfl) hr rfl (rowOf_full l) ?_ (.inl rfl) ?_ hV
  · intro j i v hv
    rw [rowOf_rd] at hv
    exact (InL_iff σ l).1 hin v (List.mem_of_getElem? hv)
  · intro i v hv
    rw [rowOf_rd] at hv
    simp [concL_eq, hv]

theorem vi_of {τ : Sg} {a : Nat} {vi : VI} (h : τ.ar a = [vi]) : τ.vi a 0 = vi := by simp [Sg.vi, h]
theorem ptr_new {τ : Sg} {a b n : Nat} (h : τ.ar a = [⟨b, 0, n⟩]) : Value.pointer (some ⟨b, 0, none⟩) = conc τ (.ptr a 0 0) ∧ In τ (.ptr a 0 0) := by
  simp [conc, Sg.adr, vi_of h, In, h]
theorem sl_new {τ : Sg} {a b n len c : Nat} (h : τ.ar a = [⟨b, 0, n⟩]) (hc : len ≤ c) : Value.slice (some ⟨b, 0, none⟩) len c = conc τ (.sl a 0 0 len (.known c)) ∧ In τ (.sl a 0 0 len (.known c)) := by
  simp [conc, Sg.adr, Sg.cap, vi_of h, In, h, hc]
theorem sl_rest {τ : Sg} {a b n len es c : Nat} (h : τ.ar a = [⟨b, 0, n⟩]) (hn : n = c * es) (hc : len ≤ c) (he : 1 ≤ es) : Value.slice (some ⟨b, 0, none⟩) len c = conc τ (.sl a 0 0 len (.rest es)) ∧ In τ (.sl a 0 0 len (.rest es)) := by
  have hm : len * es ≤ c * es := Nat.mul_le_mul_right _ hc
  simp only [conc, Sg.adr, Sg.cap, vi_of h, In, h, hn, Nat.sub_zero]
  rw [Nat.mul_div_cancel _ (by omega)]
  exact ⟨rfl, by simp, by simp, by omega, he⟩

theorem tzero_some {t : TypeId} {a : AV} (h : tzero P.toTables t = some a) : ∃ z, (zeroValue t).run P w = .ok z w ∧ ofV z = some a := by
  unfold tzero at h
  cases hi : P.info? t with
  | none => simp [hi] at h
  | some i =>
    simp [hi] at h
    cases hz : i.zero with
    | none => simp [hz] at h
    | some z =>
      simp [hz] at h
      exact ⟨z, by simp [zeroValue, run_tinfo hi, hz], h⟩

theorem tzeros_some {t : TypeId} {l : List AV} (r : Rel P σ s w) (h : tzeros P.toTables t = some l) : ∃ z, (zeroValue t).run P w = .ok z w ∧ z.cells = (concL σ l).toArray ∧ InL σ l := by
  obtain ⟨a, h1, h2⟩ := map_some h
  obtain ⟨z, h3, h4⟩ := tzero_some (w := w) h1
  obtain ⟨h5, h6⟩ := ofV_conc (σ := σ) h4
  subst h2
  exact ⟨z, h3, by rw [← h5, conc_cells r], In_cells h6⟩

theorem al_alloc (r : Rel P σ t w) {e : TypeId} {zs : List AV} (hz : tzeros P.toTables e = some zs) {v : AV} {E : Env} {cl : Oracle} (h : evOp E cl (.alloc zs) T s = some (v, s₁)) :
    AllocRes P σ w s v s₁ ((do pure (Next.value (← Instr.alloc e true (.tuple #[]))) : Sem Next).run P w) := by
  simp only [evOp, AS.newZ] at h; cases h
  obtain ⟨z, h1, h2, h3⟩ := tzeros_some r hz
  refine .arr (rowZ zs.length zs) (concL σ zs).toArray e (0, 0) w _ rfl (.inl rfl) ?_ rfl (rowZ_full _ _ ?_) ?_ (.inl rfl) ?_ fun τ hτ => ptr_new hτ
  · simp [Instr.alloc, h1, newVar, newRow, h2]
  · cases zs with
    | nil => exact .inl rfl
    | cons x l => exact .inr (by simp)
  · intro j i v hv
    cases zs with
    | nil => rw [List.length_nil, rowZ_none] at hv; cases hv
    | cons x l =>
      rw [rowZ_rd _ _ _ _ (by simp)] at hv
      split at hv
      · exact (InL_iff σ _).1 h3 v (List.mem_of_getElem? hv)
      · cases hv
  · intro i v hv
    cases zs with
    | nil => rw [List.length_nil, rowZ_none] at hv; cases hv
    | cons x l =>
      rw [rowZ_rd _ _ _ _ (by simp)] at hv
      split at hv
      · rename_i hi
        rw [Nat.mod_eq_of_lt hi] at hv
        rw [concL_eq, List.getElem?_toArray, List.getElem?_map, hv]; rfl
      · cases hv

theorem al_box (r : Rel P σ t w) (ev : REv σ T ρ) {e : TypeId} {x : Operand} {x' : EO} (hx : cEO x = some x') {v : AV} {E : Env} {cl : Oracle} (h : evOp E cl (.box x') T s = some (v, s₁)) :
    AllocRes P σ w s v s₁ ((do pure (Next.value (← Instr.box e (ρ x))) : Sem Next).run P w) := by
  simp only [evOp, AS.new] at h; cases h
  obtain ⟨h1, h2⟩ := ev _ _ hx
  refine allocRow e (In_cells h2) ?_ fun τ hτ => ptr_new hτ
  simp [Instr.box, newVar, newRow, h1, conc_cells r]

theorem repL_eq (n : Nat) (z : List AV) : ∀ i, (repL n z)[i]? = if i < n * z.length then z[i % z.length]? else none := by
  induction n with
  | zero => intro i; simp [repL]
  | succ n ih =>
    intro i
    simp only [repL]
    by_cases h : i < z.length
    · rw [List.getElem?_append_left h, if_pos, Nat.mod_eq_of_lt h]
      rw [Nat.succ_mul]; omega
    · rw [List.getElem?_append_right (by omega), ih]
      have e : (i - z.length) % z.length = i % z.length := by
        conv => rhs; rw [show i = (i - z.length) + z.length from by omega]
        rw [Nat.add_mod_right]
      rw [e, Nat.succ_mul]
      by_cases h2 : i - z.length < n * z.length
      · rw [if_pos h2, if_pos (by omega)]
      · rw [if_neg h2, if_neg (by omega)]

theorem repL_in {n : Nat} {z : List AV} (h : InL σ z) : InL σ (repL n z) := by
  induction n with
  | zero => trivial
  | succ n ih =>
    rw [InL_iff] at *
    intro v hv
    rcases List.mem_append.1 hv with hv | hv
    · exact h v hv
    · exact ih v hv

theorem rep_conc (n : Nat) (z : List AV) (hz : z ≠ []) : ((Array.range (n * z.length)).map fun i => (concL σ z).toArray[i % (concL σ z).toArray.size]!) = (concL σ (repL n z)).toArray := by
  apply Array.ext_getElem?
  intro i
  simp only [Array.getElem?_map, List.getElem?_toArray, concL_eq, List.getElem?_map, repL_eq, List.size_toArray, List.length_map]
  by_cases h : i < n * z.length
  · have hlt : i % z.length < z.length := Nat.mod_lt _ (by cases z with | nil => exact absurd rfl hz | cons x l => simp)
    rw [if_pos h, List.getElem?_eq_getElem hlt]
    simp [Array.getElem?_range, h, hlt]
  · rw [if_neg h]
    simp [Array.getElem?_range, h]

theorem al_buildSl (r : Rel P σ t w) (ev : REv σ T ρ) {ty e : TypeId} {n len : Nat} {z : List AV} {parts : Array (Nat × Operand)} {ps : List (Nat × Nat × EO)} (ht : P.underlying ty = some (.slice e)) (hn : tsize P.toTables e = some n) (hz : tzeros P.toTables e = some z)
    (h1 : 1 ≤ n) (h2 : z.length = n) (h3 : len * n ≤ 65536) (hp : cPlaces P (fun i => some (i * n, n)) parts.toList = some ps) {v : AV} {E : Env} {cl : Oracle} (h : evOp E cl (.buildSl n len (repL len z) ps) T s = some (v, s₁)) :
    AllocRes P σ w s v s₁ ((do pure (Next.value (← Instr.buildSlice ty len (parts.map fun (i, x) => (i, ρ x)))) : Sem Next).run P w) := by
  simp only [evOp] at h
  split at h
  · rename_i l hl
    simp only [AS.new] at h; cases h
    obtain ⟨zv, k1, k2, k3⟩ := tzeros_some r hz
    have hzne : z ≠ [] := by rintro rfl; simp at h2; omega
    obtain ⟨f1, f2⟩ := fill_run r ev hp (repL_in k3) hl
    refine allocRow e f2 ?_ fun τ hτ => sl_new hτ (Nat.le_refl _)
    have hbig : ¬ len * n > 2 ^ 24 := by omega
    have hrow : ∀ zero : Array Value, (len * n = 0 ∨ zero = (concL σ z).toArray) → ((Array.range (len * n)).map (zero[· % zero.size]!)) = (concL σ (repL len z)).toArray := by
      intro zero hzero
      rcases hzero with h0 | h0
      · have hl0 : len = 0 := by
          rcases Nat.mul_eq_zero.1 h0 with h | h
          · exact h
          · omega
        subst hl0; simp [repL, concL]
      · subst h0
        rw [← h2]; exact rep_conc len z hzne
    have f1' : Instr.fill (fun i => some (i * n, n)) (concL σ (repL len z)).toArray (parts.map fun (i, x) => (i, ρ x)).toList = some (concL σ l).toArray := by
      rw [Array.toList_map]; exact f1
    simp only [Instr.buildSlice, Sem.run_bind, run_und ht, Result.andThen_ok, run_size hn, if_neg hbig]
    by_cases h0 : len * n = 0
    · simp only [h0, if_true, Sem.run_pure, Result.andThen_ok, pure_bind]
      have := hrow #[] (.inl h0)
      rw [h0] at this
      simp only [this, f1']
      simp [newRow]
    · simp only [h0, if_false, Sem.run_bind, k1, Result.andThen_ok, Sem.run_pure]
      have := hrow zv.cells (.inr k2)
      simp only [this, f1']
      simp [newRow]
  · cases h

theorem al_mkMap {ty : TypeId} {v : AV} {E : Env} {cl : Oracle} (h : evOp E cl .mkMap T s = some (v, s₁)) :
    AllocRes P σ w s v s₁ ((do pure (Next.value (← Instr.makeMap ty none)) : Sem Next).run P w) := by
  simp only [evOp] at h; cases h
  exact .map rfl rfl (by simp [Instr.makeMap])

theorem sane_spec {n b : Nat} (h : sane n b = true) : n * (b + 1) ≤ 1099511627776 := by
  simpa [sane, ble_eq] using h

theorem run_asInt {x : AV} {n : Nat} (h : natOf x = some n) : (asInt (conc σ x)).run P w = .ok (n : Int) w := by
  obtain ⟨k, hk⟩ := natOf_conc (σ := σ) h
  simp [asInt, asIntOf, hk]

theorem al_mkSl (r : Rel P σ t w) (ev : REv σ T ρ) {ty e : TypeId} {es bytes : Nat} {z : List AV} {l c : Operand} {l' c' : EO} (ht : P.underlying ty = some (.slice e)) (hn : tsize P.toTables e = some es) (hb : tbytes P.toTables e = some bytes) (hz : tzeros P.toTables e = some z)
    (h1 : 1 ≤ es) (h2 : z.length = es) (hl : cEO l = some l') (hc : cEO c = some c') {v : AV} {E : Env} {cl : Oracle} (h : evOp E cl (.mkSl es bytes z l' c') T s = some (v, s₁)) :
    AllocRes P σ w s v s₁ ((do pure (Next.value (← Instr.makeSlice ty (ρ l) (ρ c))) : Sem Next).run P w) := by
  simp only [evOp] at h
  split at h
  · cases h
  · rename_i ln hln
    split at h
    · cases h
    · rename_i cn hcn
      split at h
      · rename_i hcond
        simp only [AS.newZ] at h; cases h
        simp only [Bool.and_eq_true, ble_eq, decide_eq_true_eq] at hcond
        have hs := sane_spec hcond.2
        obtain ⟨i, hi1, hi2⟩ := tbytes_some hb
        obtain ⟨zv, k1, k2, k3⟩ := tzeros_some r hz
        have hzne : z ≠ [] := by rintro rfl; simp at h2; omega
        have hcb : cn ≤ 1099511627776 ∧ bytes * cn ≤ 1099511627776 := by
          rw [Nat.mul_add, Nat.mul_one] at hs
          rw [Nat.mul_comm]; omega
        have w1 : IntKind.i64.wrap (ln : Int) = (ln : Int) := wrap64_id (by omega) (by omega)
        have w2 : IntKind.i64.wrap (cn : Int) = (cn : Int) := wrap64_id (by omega) (by omega)
        have hrun : (Instr.makeSlice ty (ρ l) (ρ c)).run P w = .ok (.slice (some ⟨w.heap.size, 0, none⟩) ln cn) (w.alloc (.cells (concL σ (repL cn z)).toArray e)) := by
          have hno : ¬ (((decide ((cn : Int) < 0) || decide ((bytes : Int) * (cn : Int) > 2 ^ 48)) || decide ((ln : Int) < 0) || decide ((ln : Int) > (cn : Int))) = true) := by
            have e1 : ((bytes : Int) * (cn : Int)) = ((bytes * cn : Nat) : Int) := by simp
            simp only [e1, Bool.or_eq_true, decide_eq_true_eq, not_or]
            omega
          have hrow : ∀ zero : Array Value, (cn * es = 0 ∨ zero = (concL σ z).toArray) → ((Array.range (cn * es)).map (zero[· % zero.size]!)) = (concL σ (repL cn z)).toArray := by
            intro zero hzero
            rcases hzero with h0 | h0
            · have hl0 : cn = 0 := by
                rcases Nat.mul_eq_zero.1 h0 with h | h
                · exact h
                · omega
              subst hl0; simp [repL, concL]
            · subst h0; rw [← h2]; exact rep_conc cn z hzne
          simp only [Instr.makeSlice, Sem.run_bind, run_und ht, Result.andThen_ok, (ev _ _ hl).1, (ev _ _ hc).1, run_asInt hln, run_asInt hcn, run_tinfo hi1, hi2, w1, w2]
          rw [if_neg hno]
          simp only [Sem.run_bind, run_askRoom, Result.andThen_ok, run_size hn, Int.toNat_natCast]
          by_cases h0 : cn * es = 0
          · simp only [h0, if_true, Sem.run_pure, Result.andThen_ok, pure_bind]
            have := hrow #[] (.inl h0)
            rw [h0] at this
            simp only [this]
            simp [newRow]
          · simp only [h0, if_false, Sem.run_bind, k1, Result.andThen_ok, Sem.run_pure]
            have := hrow zv.cells (.inr k2)
            simp only [this]
            simp [newRow]
        refine .arr (rowZ (cn * es) z) (concL σ (repL cn z)).toArray e (0, 0) w _ rfl (.inl rfl) (by simp only [Sem.run_bind, hrun, Result.andThen_ok, Sem.run_pure]) rfl (rowZ_full _ _ (.inr hzne)) ?_ (.inl rfl) ?_ fun τ hτ => sl_new hτ hcond.1
        · intro j i v hv
          rw [rowZ_rd _ _ _ _ hzne] at hv
          split at hv
          · exact (InL_iff σ _).1 k3 v (List.mem_of_getElem? hv)
          · cases hv
        · intro i v hv
          rw [rowZ_rd _ _ _ _ hzne] at hv
          split at hv
          · rename_i hlt
            rw [concL_eq, List.getElem?_toArray, List.getElem?_map, repL_eq, h2, if_pos hlt, ← h2, hv]; rfl
          · cases hv
      · cases h

theorem freeze_new (w : World) (cs : Array Value) (e : TypeId) : (w.alloc (.cells cs e)).freeze ⟨w.heap.size, cs.size, none⟩ 1 = w.alloc (.cells cs e (cs.size, cs.size + 1)) := by
  simp only [World.freeze, World.alloc]
  rw [if_neg (by decide)]
  congr 1
  apply Array.ext_getElem?
  intro i
  rw [Array.getElem?_modify]
  by_cases h : w.heap.size = i
  · subst h; simp
  · rw [if_neg h, Array.getElem?_push, Array.getElem?_push]
    have h' : ¬ i = w.heap.size := fun e => h e.symm
    rw [if_neg h', if_neg h']

theorem al_cvSB (r : Rel P σ t w) (ev : REv σ T ρ) {a d e : TypeId} (ha : P.underlying a = some .string) (hd : P.underlying d = some (.slice e)) (hu : P.underlying e = some (.int .u8)) {x : Operand} {x' : EO} (hx : cEO x = some x') {v : AV} {E : Env} {cl : Oracle}
    (h : evOp E cl (.cvSB x') T s = some (v, s₁)) : AllocRes P σ w s v s₁ ((do pure (Next.value (← convert a d (ρ x))) : Sem Next).run P w) := by
  simp only [evOp] at h
  split at h
  · rename_i b hb
    simp only [freshSl, AS.new] at h; cases h
    have hρ : ρ x = .string b := by rw [(ev _ _ hx).1, hb]; rfl
    have hlist : b.toList = b.data.toList := ByteArray.toList_eq b
    obtain ⟨c, hc⟩ : ∃ c, c = (Question.appendCap b.size 0 e).cut (w.tape w.drawn (.appendCap b.size 0 e)) := ⟨_, rfl⟩
    have hcb : b.size ≤ c := by rw [hc]; simp [Question.cut]
    have hrun : (convert a d (ρ x)).run P w = .ok (.slice (some ⟨w.heap.size, 0, none⟩) b.size c)
        (w.drew.alloc (.cells (b.data.map (fun (b : UInt8) => Value.int .u8 (b.toNat : Int)) ++ Array.replicate (c - b.size) (Value.int .u8 0)) e
          ((b.data.map (fun (b : UInt8) => Value.int .u8 (b.toNat : Int)) ++ Array.replicate (c - b.size) (Value.int .u8 0)).size, (b.data.map (fun (b : UInt8) => Value.int .u8 (b.toNat : Int)) ++ Array.replicate (c - b.size) (Value.int .u8 0)).size + 1))) := by
      rw [hρ]
      simp only [convert, Sem.run_bind, run_und ha, run_und hd, run_und hu, Result.andThen_ok, Conv.stringToBytes, run_choose, Question.forced, Bool.false_eq_true, if_false, newRow, run_newObj, markStringish, Sem.run_pure, run_shape, ← hc]
      have hsh : ∀ cs : Array Value, ({ w with heap := w.heap.push (.cells cs e), drawn := w.drawn + 1 } : World).shape? w.heap.size = some (e, cs.size) := by
        intro cs; simp [World.shape?]
      simp only [hsh, run_freeze, Result.andThen_ok, Sem.run_bind, Sem.run_pure]
      rw [← freeze_new w.drew]
      rfl
    refine .arr (rowOf (b.toList.map fun c => .int .u8 (c.toNat : Int))) _ e _ w.drew _ rfl (.inr rfl) (by simp only [Sem.run_bind, hrun, Result.andThen_ok, Sem.run_pure]; rfl) rfl (rowOf_full _) ?_ (.inr (Nat.le_refl _)) ?_ fun τ hτ => sl_rest hτ (c := c) ?_ hcb (Nat.le_refl _)
    · intro j i v hv
      rw [rowOf_rd, List.getElem?_map] at hv
      cases hg : b.toList[i]? with
      | none => simp [hg] at hv
      | some u => simp [hg] at hv; subst hv; trivial
    · intro i v hv
      rw [rowOf_rd, List.getElem?_map, hlist] at hv
      cases hg : b.data.toList[i]? with
      | none => simp [hg] at hv
      | some u =>
        simp [hg] at hv; subst hv
        have hlt : i < b.data.size := by
          rcases Nat.lt_or_ge i b.data.size with h | h
          · exact h
          · rw [List.getElem?_eq_none (by simpa using h)] at hg; cases hg
        rw [Array.getElem?_append_left (by simpa using hlt)]
        rw [Array.getElem?_toList] at hg
        simp [hg, conc]
    · have : b.data.size = b.size := rfl
      simp [this]; omega
  · cases h

end
end Go.Ab
end

noncomputable section
namespace Go.Ab
section
variable {P : Program} {E : Env} {σ : Sg} {s : AS} {w : World}

theorem eqFlat_app {k₁ k₂ : List LK} : ∀ {l m : List AV} {b : Bool}, k₁.length ≤ l.length → k₁.length ≤ m.length → eqFlat E (k₁ ++ k₂) l m = some b →
    ∃ c, eqFlat E k₁ (l.take k₁.length) (m.take k₁.length) = some c ∧ (c = false → b = false) ∧ (c = true → eqFlat E k₂ (l.drop k₁.length) (m.drop k₁.length) = some b) := by
  induction k₁ with
  | nil => intro l m b _ _ h; exact ⟨true, rfl, by simp, fun _ => h⟩
  | cons k ks ih =>
    intro l m b hl hm h
    cases l with
    | nil => simp at hl
    | cons x l => cases m with
      | nil => simp at hm
      | cons y m =>
        simp only [List.cons_append, eqFlat] at h
        simp only [List.length_cons, List.take_succ_cons, List.drop_succ_cons, eqFlat]
        split at h
        · rename_i he
          obtain ⟨c, h1, h2, h3⟩ := ih (by simpa using hl) (by simpa using hm) h
          exact ⟨c, h1, h2, h3⟩
        · rename_i he
          cases h
          exact ⟨false, rfl, fun _ => rfl, by simp⟩
        · cases h

/-- A flat value: its cells under a type. -/
def flatVal (P : Program) (σ : Sg) (t : TypeId) (l : List AV) (X : Value) : Prop :=
  (tagg P t = some true ∧ X = .agg (concL σ l).toArray) ∨ (tagg P t = some false ∧ ∃ x, l = [x] ∧ X = conc σ x)

/-- Values of a type, held against one another cell by cell. -/
def EqT (P : Program) (E : Env) (σ : Sg) (d : Nat) (t : TypeId) (ks : List LK) : Prop :=
  ∀ (w : World) (l m : List AV) (b : Bool) (X Y : Value), InL σ l → InL σ m → l.length = ks.length → m.length = ks.length → eqFlat E ks l m = some b → flatVal P σ t l X → flatVal P σ t m Y →
    (Op.equalIn d t X Y).run P w = .ok b w

theorem part_flat {t : TypeId} {g : Bool} {n off : Nat} {l : List AV} (hg : tagg P t = some g) (hn : tsize P.toTables t = some n) (h1 : g = true ∨ n = 1) (hin : InL σ l) (hl : off + n ≤ l.length) :
    ∃ X, (part t (concL σ l).toArray off).run P w = .ok X w ∧ flatVal P σ t ((l.drop off).take n) X := by
  cases g with
  | true =>
    have h : partOf true off n l = some (.agg ((l.drop off).take n)) := by simp [partOf, ble_eq, hl, takeN_eq, dropN_eq]
    exact ⟨_, (part_run hg hn hin h).1, .inl ⟨hg, by simp [conc]⟩⟩
  | false =>
    obtain rfl : n = 1 := by rcases h1 with h | h; cases h; exact h
    have hlt : off < l.length := by omega
    have h : partOf false off 1 l = some l[off] := by simp [partOf, nth_eq, hlt]
    refine ⟨_, (part_run hg hn hin h).1, .inr ⟨hg, _, ?_, rfl⟩⟩
    rw [List.drop_eq_getElem_cons hlt]; rfl

theorem InL_sub {l l' : List AV} (h : InL σ l) (hs : ∀ x, x ∈ l' → x ∈ l) : InL σ l' := by
  rw [InL_iff] at *; exact fun v hv => h v (hs v hv)

theorem fields_flat {dd : Nat} {f : TypeId → Option (List LK)} (hf : ∀ t ks, f t = some ks → EqT P E σ dd t ks) {l m : List AV} (hl : InL σ l) (hm : InL σ m) : ∀ (fs : List Field) (k : Nat) (ks : List LK) (b : Bool) (w : World),
    flat.flatFs P f fs k = some ks → l.length = k + ks.length → m.length = k + ks.length → eqFlat E ks (l.drop k) (m.drop k) = some b →
    (Op.eqFields dd (concL σ l).toArray (concL σ m).toArray fs).run P w = .ok b w := by
  intro fs
  induction fs with
  | nil =>
    intro k ks b w h h1 h2 h3
    simp [flat.flatFs] at h; subst h
    simp at h1 h2
    rw [List.drop_eq_nil_of_le (by omega), List.drop_eq_nil_of_le (by omega)] at h3
    simp [eqFlat] at h3
    simp [Op.eqFields, h3]
  | cons x fs ih =>
    intro k ks b w h h1 h2 h3
    simp only [flat.flatFs] at h
    split at h
    · rename_i ks' n g e1 e2 e3
      split at h
      · rename_i hc
        obtain ⟨c1, c2, c3, c4⟩ := hc
        split at h
        · rename_i r hr
          cases h
          simp only [List.length_append] at h1 h2
          obtain ⟨c, q1, q2, q3⟩ := eqFlat_app (by rw [List.length_drop]; omega) (by rw [List.length_drop]; omega) h3
          obtain ⟨X, p1, p2⟩ := part_flat (w := w) e3 e2 c4 hl (off := k) (by omega)
          obtain ⟨Y, p3, p4⟩ := part_flat (w := w) e3 e2 c4 hm (off := k) (by omega)
          have hq := hf _ _ e1 w _ _ c X Y (InL_sub hl fun _ h => List.mem_of_mem_drop (List.mem_of_mem_take h)) (InL_sub hm fun _ h => List.mem_of_mem_drop (List.mem_of_mem_take h))
            (by rw [List.length_take, List.length_drop]; omega) (by rw [List.length_take, List.length_drop]; omega) q1 (c3 ▸ p2) (c3 ▸ p4)
          simp only [Op.eqFields, c1, c2, ne_eq, not_false_eq_true, if_true, Sem.run_bind, p1, p3, Result.andThen_ok, hq]
          cases c with
          | false => simp [q2 rfl]
          | true =>
            simp only [Bool.not_true, Bool.false_eq_true, if_false]
            refine ih (k + n) r b w hr (by omega) (by omega) ?_
            have := q3 rfl
            rw [List.drop_drop, List.drop_drop] at this
            rw [c3]; exact this
        · cases h
      · cases h
    · cases h

theorem items_flat {dd : Nat} {e : TypeId} {k : LK} (hf : EqT P E σ dd e [k]) (hg : tagg P e = some false) (hn : tsize P.toTables e = some 1) {l m : List AV} (hl : InL σ l) (hm : InL σ m) : ∀ (c i : Nat) (b : Bool) (w : World),
    l.length = i + c → m.length = i + c → eqFlat E (flat.repK c [k]) (l.drop i) (m.drop i) = some b →
    (Op.eqItems dd e 1 (concL σ l).toArray (concL σ m).toArray (List.range' i c)).run P w = .ok b w := by
  intro c
  induction c with
  | zero =>
    intro i b w h1 h2 h3
    rw [List.drop_eq_nil_of_le (by omega), List.drop_eq_nil_of_le (by omega)] at h3
    simp [flat.repK, eqFlat] at h3
    simp [Op.eqItems, h3]
  | succ c ih =>
    intro i b w h1 h2 h3
    simp only [flat.repK] at h3
    obtain ⟨q, q1, q2, q3⟩ := eqFlat_app (by rw [List.length_drop]; simp; omega) (by rw [List.length_drop]; simp; omega) h3
    obtain ⟨X, p1, p2⟩ := part_flat (w := w) hg hn (.inr rfl) hl (off := i) (by omega)
    obtain ⟨Y, p3, p4⟩ := part_flat (w := w) hg hn (.inr rfl) hm (off := i) (by omega)
    have hq := hf w _ _ q X Y (InL_sub hl fun _ h => List.mem_of_mem_drop (List.mem_of_mem_take h)) (InL_sub hm fun _ h => List.mem_of_mem_drop (List.mem_of_mem_take h))
      (by rw [List.length_take, List.length_drop]; simp; omega) (by rw [List.length_take, List.length_drop]; simp; omega) q1 p2 p4
    rw [List.range'_succ]
    simp only [Op.eqItems, Nat.mul_one, Sem.run_bind, p1, p3, Result.andThen_ok, hq]
    cases q with
    | false => simp [q2 rfl]
    | true =>
      simp only [Bool.not_true, Bool.false_eq_true, if_false]
      refine ih (i + 1) b w (by omega) (by omega) ?_
      have := q3 rfl
      rw [List.drop_drop, List.drop_drop] at this
      exact this

theorem repK_len (c : Nat) (ks : List LK) : (flat.repK c ks).length = c * ks.length := by
  induction c with
  | zero => simp [flat.repK]
  | succ c ih => simp [flat.repK, ih, Nat.succ_mul, Nat.add_comm]

theorem tagg_leaf {t : TypeId} {u : TypeDesc} (h : P.underlying t = some u) (h1 : ∀ fs, u ≠ .struct fs) (h2 : ∀ n e, u ≠ .array n e) : tagg P t = some false := by
  unfold tagg; rw [h]; cases u <;> first | rfl | exact absurd rfl (h1 _) | exact absurd rfl (h2 _ _)

theorem leaf_EqT (he : EOk E σ) {d : Nat} {t : TypeId} {k : LK} (hk : isLK P t k) (hg : tagg P t = some false) : EqT P E σ (d + 1) t [k] := by
  intro w l m b X Y _ _ hl hm h hX hY
  rcases hX with ⟨e1, _⟩ | ⟨_, x, rfl, rfl⟩
  · rw [hg] at e1; cases e1
  rcases hY with ⟨e1, _⟩ | ⟨_, y, rfl, rfl⟩
  · rw [hg] at e1; cases e1
  simp only [eqFlat] at h
  split at h
  · rename_i he'; cases h; exact eqLeaf_in he he' hk d
  · rename_i he'; cases h; exact eqLeaf_in he he' hk d
  · cases h

theorem flat_EqT (he : EOk E σ) (D : Nat) : ∀ (d : Nat) (t : TypeId) (ks : List LK), flat P d t = some ks → EqT P E σ (D + d) t ks := by
  intro d
  induction d with
  | zero => intro t ks h; simp [flat] at h
  | succ d ih =>
    intro t ks h
    simp only [flat] at h
    split at h
    · rename_i hu
      cases h
      exact leaf_EqT he (show isLK P t .b from hu) (tagg_leaf hu (by simp) (by simp))
    · rename_i hu
      cases h
      exact leaf_EqT he (show isLK P t .i from ⟨_, hu⟩) (tagg_leaf hu (by simp) (by simp))
    · rename_i hu
      cases h
      exact leaf_EqT he (show isLK P t .s from hu) (tagg_leaf hu (by simp) (by simp))
    · rename_i fs hu
      split at h
      · rename_i hs
        intro w l m b X Y hl hm e1 e2 e3 hX hY
        have hg : tagg P t = some true := by simp [tagg, hu]
        rcases hX with ⟨_, rfl⟩ | ⟨q, _⟩
        · rcases hY with ⟨_, rfl⟩ | ⟨q, _⟩
          · have hfs : P.fieldsOf t = fs := by simp [Program.fieldsOf, hu]
            rw [show D + (d + 1) = (D + d) + 1 from rfl, run_equalIn_struct w (D + d) t _ _ (by rw [hfs]; exact hu) hs, hfs]
            exact fields_flat ih hl hm fs.toList 0 ks b w h (by omega) (by omega) e3
          · rw [hg] at q; cases q
        · rw [hg] at q; cases q
      · cases h
    · rename_i n e hu
      split at h
      · rename_i ke hke
        split at h
        · rename_i hc
          cases h
          obtain ⟨c1, c2, c3⟩ := hc
          intro w l m b X Y hl hm e1 e2 e3 hX hY
          have hg : tagg P t = some true := by simp [tagg, hu]
          rcases hX with ⟨_, rfl⟩ | ⟨q, _⟩
          · rcases hY with ⟨_, rfl⟩ | ⟨q, _⟩
            · obtain ⟨i, hi, hi2⟩ := tsize_some c1
              rw [c3] at hi2
              obtain ⟨k, rfl⟩ : ∃ k, ke = [k] := by
                match ke, c3 with
                | [k], _ => exact ⟨k, rfl⟩
              have hco : P.cellsOf e = 1 := by simp [Program.cellsOf, hi, hi2]
              rw [show D + (d + 1) = (D + d) + 1 from rfl, run_equalIn_array w (D + d) _ _ hu hi, hco, List.range_eq_range']
              rw [repK_len] at e1 e2
              exact items_flat (ih _ _ hke) c2 (by simpa using c1) hl hm n 0 b w (by simpa using e1) (by simpa using e2) e3
            · rw [hg] at q; cases q
          · rw [hg] at q; cases q
        · cases h
      · cases h
    · cases h

theorem xorb_some {n : Bool} {o : Option Bool} {v : AV} (h : xorb n o = some v) : ∃ b, o = some b ∧ v = .bool (b != n) := by
  unfold xorb at h
  split at h
  · cases h; exact ⟨_, rfl, rfl⟩
  · cases h

/-- '==' or '!='. -/
def eqOp (n : Bool) : BinOp := if n then .neq else .eql

theorem eq_by (n : Bool) (t : TypeId) {X Y : Value} {b : Bool} (hg : ∀ (x y : Operand), (eqGuard (eqOp n) t x y X Y).run P w = .ok () w) (hb : binOp (eqOp n) t X Y = (do pure (.bool ((← Op.equal t X Y) != n)) : Sem Value))
    (h : (Op.equalIn (9999 + 1) t X Y).run P w = .ok b w) (x y : Operand) : ((do eqGuard (eqOp n) t x y X Y; binOp (eqOp n) t X Y) : Sem Value).run P w = .ok (.bool (b != n)) w := by
  simp only [Sem.run_bind, hg, Result.andThen_ok, hb, equal_eq, h, Sem.run_pure]


theorem ptr_in {t e : TypeId} (hu : P.underlying t = some (.pointer e)) {m : Nat} (hn : tsize P.toTables e = some (m + 1)) {x y : AV} {b : Bool} (hx : In σ x) (hy : In σ y) (h : eqAV E .ptr x y = some b) (d : Nat) :
    (Op.equalIn (d + 1) t (conc σ x) (conc σ y)).run P w = .ok b w := by
  simp only [eqAV] at h
  split at h
  · cases h; simp [conc, Op.equalIn, run_und hu]
  · cases h; simp [conc, Op.equalIn, run_und hu]
  · cases h; simp [conc, Op.equalIn, run_und hu]
  · rename_i a j o a' j' o'
    split at h
    · rename_i hb
      cases h
      simp only [Bool.and_eq_true, beq_eq, decide_eq_true_eq] at hb
      obtain ⟨rfl, rfl⟩ := hb
      simp only [In] at hx hy
      have : (σ.adr a j o == σ.adr a j o') = Nat.beq o o' := by
        rw [beq_eq]
        by_cases h : o = o'
        · subst h; simp
        · have : σ.adr a j o ≠ σ.adr a j o' := by
            intro e
            have := congrArg Addr.off e
            simp only [Sg.adr] at this
            omega
          simp [h, this]
      simp [conc, Op.equalIn, run_und hu, run_size hn, sameAddr, this]
      simp [Sg.adr]
    · cases h
  · cases h

theorem sl_in {t e : TypeId} (hu : P.underlying t = some (.slice e)) {x y : AV} {b : Bool} (h : eqAV E .sl x y = some b) (d : Nat) :
    (Op.equalIn (d + 1) t (conc σ x) (conc σ y)).run P w = .ok b w := by
  simp only [eqAV] at h
  split at h <;> first | (cases h; simp [conc, Op.equalIn, run_und hu]) | cases h

theorem mp_in {t k e : TypeId} (hu : P.underlying t = some (.map k e)) {x y : AV} {b : Bool} (h : eqAV E .mp x y = some b) (d : Nat) :
    (Op.equalIn (d + 1) t (conc σ x) (conc σ y)).run P w = .ok b w := by
  simp only [eqAV] at h
  split at h <;> first | (cases h; simp [conc, Op.equalIn, run_und hu]) | cases h

theorem fn_in {t : TypeId} {p q : Array TypeId} {v : Bool} (hu : P.underlying t = some (.func p q v)) {x y : AV} {b : Bool} (h : eqAV E .fn x y = some b) (d : Nat) :
    (Op.equalIn (d + 1) t (conc σ x) (conc σ y)).run P w = .ok b w := by
  simp only [eqAV] at h
  split at h <;> first | (cases h; simp [conc, Op.equalIn, run_und hu]) | cases h

theorem ifc_in {t : TypeId} {ms : Array (String × TypeId)} (hu : P.underlying t = some (.interface ms)) {x y : AV} {b : Bool} (h : eqAV E .ifc x y = some b) (d : Nat) :
    (Op.equalIn (d + 1) t (conc σ x) (conc σ y)).run P w = .ok b w := by
  simp only [eqAV] at h
  split at h <;> first | (cases h; simp [conc, Op.equalIn, run_und hu]) | cases h

theorem flat_in (he : EOk E σ) {t : TypeId} {ks : List LK} (hk : flat P 8 t = some ks) (hg : tagg P t = some true) {x y : AV} {b : Bool} (hx : In σ x) (hy : In σ y) (h : eqAV E (.flat ks) x y = some b) (d : Nat) :
    ∃ X Y, conc σ x = .agg X ∧ conc σ y = .agg Y ∧ (Op.equalIn (d + 8) t (.agg X) (.agg Y)).run P w = .ok b w := by
  simp only [eqAV] at h
  split at h
  · rename_i l m
    split at h
    · rename_i hc
      simp only [Bool.and_eq_true, beq_eq, decide_eq_true_eq] at hc
      refine ⟨_, _, rfl, rfl, ?_⟩
      exact flat_EqT he d 8 t ks hk w l m b _ _ hx hy hc.1 hc.2 h (.inl ⟨hg, rfl⟩) (.inl ⟨hg, rfl⟩)
    · cases h
  · cases h

theorem gd1 (n : Bool) (t : TypeId) {X Y : Value} (h1 : ∀ c, X ≠ .agg c) (h2 : X ≠ .nilIface) (x y : Operand) : (eqGuard (eqOp n) t x y X Y).run P w = .ok () w := by
  cases n <;> cases X <;> simp_all [eqGuard, eqOp]

theorem gd2 (n : Bool) (t : TypeId) {X Y : Value} (h1 : ∀ c, Y ≠ .agg c) (h2 : Y ≠ .nilIface) (x y : Operand) : (eqGuard (eqOp n) t x y X Y).run P w = .ok () w := by
  cases n <;> cases X <;> simp only [eqGuard, eqOp, Bool.false_eq_true, if_true, if_false] <;> (cases Y <;> simp_all)

/-- Values that '==' gives to the general comparison. -/
def genV : Value → Bool
  | .bool _ | .pointer _ | .slice _ _ _ | .map _ | .func _ _ _ | .nilFunc | .nilIface | .iface _ _ | .agg _ => true
  | _ => false

theorem bin_gen (n : Bool) (t : TypeId) {X Y : Value} (h : genV X = true) (h' : genV Y = true) : binOp (eqOp n) t X Y = (do pure (.bool ((← Op.equal t X Y) != n)) : Sem Value) := by
  cases n <;> cases X <;> first | (cases h; done) | (cases Y <;> first | (cases h'; done) | simp [binOp, eqOp])

theorem sim_eq (he : EOk E σ) {t : TypeId} {k : EqK} (hk : eqKind P t = some k) {x y : AV} {b : Bool} (hx : In σ x) (hy : In σ y) (h : eqAV E k x y = some b) (n : Bool) (xo yo : Operand) :
    ((do eqGuard (eqOp n) t xo yo (conc σ x) (conc σ y); binOp (eqOp n) t (conc σ x) (conc σ y)) : Sem Value).run P w = .ok (.bool (b != n)) w := by
  unfold eqKind at hk
  split at hk
  · rename_i hu
    cases hk
    simp only [eqAV] at h
    have hin := eqLeaf_in (w := w) he h (show isLK P t .b from hu) 9999
    simp only [eqLeaf] at h
    split at h
    · exact eq_by n t (gd1 n t (by simp [conc]) (by simp [conc])) (bin_gen n t rfl rfl) hin xo yo
    · cases h
  · rename_i hu
    cases hk
    simp only [eqAV, eqLeaf] at h
    split at h
    · split at h
      · rename_i hk2
        cases h
        rw [same_kind hk2]
        simp only [Sem.run_bind, gd1 (X := conc σ (.int _ _)) n t (by simp [conc]) (by simp [conc]), Result.andThen_ok]
        cases n <;> simp [conc, binOp, eqOp, Op.intCmp, bne]
      · cases h
    · split at h
      · rename_i hk2
        rw [isI64_eq hk2]
        obtain ⟨h1, _⟩ := symCmp_run (P := P) (w := w) he (symB_some h) t
        simp only [Sem.run_bind, gd1 (X := conc σ (.sym _ _)) n t (by simp [conc]) (by simp [conc]), Result.andThen_ok]
        simp [binOp, Op.intCmp, numOf, conc] at h1
        cases n <;> simp [conc, binOp, eqOp, Op.intCmp, h1, bne]
      · cases h
    · split at h
      · rename_i hk2
        rw [isI64_eq hk2]
        obtain ⟨h1, _⟩ := symCmp_run (P := P) (w := w) he (symB_some h) t
        simp only [Sem.run_bind, gd1 (X := conc σ (.int _ _)) n t (by simp [conc]) (by simp [conc]), Result.andThen_ok]
        simp [binOp, Op.intCmp, numOf, conc] at h1
        cases n <;> simp [conc, binOp, eqOp, Op.intCmp, h1, bne]
      · cases h
    · cases h
  · rename_i hu
    cases hk
    simp only [eqAV, eqLeaf] at h
    split at h
    · cases h
      simp only [Sem.run_bind, gd1 (X := conc σ (.str _)) n t (by simp [conc]) (by simp [conc]), Result.andThen_ok]
      cases n <;> simp [conc, binOp, eqOp, Op.stringOp, bne]
    · cases h
  · rename_i e hu
    split at hk
    · cases hk
    · rename_i m hm hm2
      cases hk
      obtain ⟨m', rfl⟩ : ∃ m', m = m' + 1 := by
        cases m with
        | zero => exact absurd rfl hm
        | succ m' => exact ⟨m', rfl⟩
      have hin := ptr_in (w := w) hu hm2 hx hy h 9999
      simp only [eqAV] at h
      split at h <;> first | (cases h; done) | exact eq_by n t (gd1 n t (by simp [conc]) (by simp [conc])) (bin_gen n t rfl rfl) hin xo yo
    · cases hk
  · rename_i e hu
    cases hk
    have hin := sl_in (w := w) (σ := σ) hu h 9999
    simp only [eqAV] at h
    split at h <;> first | (cases h; done) | exact eq_by n t (gd1 n t (by simp [conc]) (by simp [conc])) (bin_gen n t rfl rfl) hin xo yo
  · rename_i k' e hu
    cases hk
    have hin := mp_in (w := w) (σ := σ) hu h 9999
    simp only [eqAV] at h
    split at h <;> first | (cases h; done) | exact eq_by n t (gd1 n t (by simp [conc]) (by simp [conc])) (bin_gen n t rfl rfl) hin xo yo
  · rename_i p q v hu
    cases hk
    have hin := fn_in (w := w) (σ := σ) hu h 9999
    simp only [eqAV] at h
    split at h <;> first | (cases h; done) | exact eq_by n t (gd1 n t (by simp [conc]) (by simp [conc])) (bin_gen n t rfl rfl) hin xo yo
  · rename_i ms hu
    cases hk
    have hin := ifc_in (w := w) (σ := σ) hu h 9999
    simp only [eqAV] at h
    split at h
    · exact eq_by n t (gd2 n t (by simp [conc]) (by simp [conc])) (bin_gen n t rfl rfl) hin xo yo
    · exact eq_by n t (gd1 n t (by simp [conc]) (by simp [conc])) (bin_gen n t rfl rfl) hin xo yo
    · cases h
  · rename_i fs hu
    split at hk
    · rename_i hgt
      obtain ⟨ks, hks, rfl⟩ := map_some hk
      obtain ⟨X, Y, e1, e2, e3⟩ := flat_in (w := w) he hks (by simp [tagg, hu]) hx hy h 9992
      rw [e1, e2]
      exact eq_by n t (fun x y => run_eqGuard_agg w _ t x y X Y hgt) (bin_gen n t rfl rfl) e3 xo yo
    · cases hk
  · rename_i m e hu
    split at hk
    · rename_i hgt
      obtain ⟨ks, hks, rfl⟩ := map_some hk
      obtain ⟨X, Y, e1, e2, e3⟩ := flat_in (w := w) he hks (by simp [tagg, hu]) hx hy h 9992
      rw [e1, e2]
      exact eq_by n t (fun x y => run_eqGuard_agg w _ t x y X Y hgt) (bin_gen n t rfl rfl) e3 xo yo
    · cases hk
  · cases hk

end
end Go.Ab
end
