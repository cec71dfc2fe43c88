/- Soundness of the abstract evaluator: more operations that look at no memory: slices, strings, the greatest and the least. -/
import Derived.Test.YthekpkcmlndcmaaGreatAbO1
noncomputable section
namespace Go.Ab

section
variable {P : Program} {E : Env} {cl : Oracle} {σ : Sg} {s s' : AS} {w : World} {T : Tr AV} {ρ : Operand → Value}

theorem run_bound {v : AV} {n y : Nat} {c : BoundsCode} (h : natOf v = some n) (hn : n ≤ y) : (Instr.sliceBound (conc σ v) y c).run P w = .ok n w := by
  obtain ⟨k, hk⟩ := natOf_conc (σ := σ) h
  rw [hk]
  have h1 : (0 : Int) ≤ (n : Int) ∧ (n : Int) ≤ (y : Int) := ⟨by omega, by omega⟩
  simp only [Instr.sliceBound, asIntOf, Sem.run_bind, Sem.run_pure, Result.andThen_ok]
  rw [if_pos h1]; simp

theorem bounds_run {b : Bool} {len cap l h m : Nat} {lo hi mx : Option AV} (hl : optN 0 lo = some l) (hh : optN len hi = some h) (hm : optN cap mx = some m) (h1 : l ≤ h) (h2 : h ≤ m) (h3 : m ≤ cap) (h4 : mx.isSome → hi.isSome) :
    (Instr.sliceBounds b len cap (lo.map (conc σ)) (hi.map (conc σ)) (mx.map (conc σ))).run P w = .ok (l, h, m) w := by
  have b1 : ∀ v, mx = some v → ∀ c, (Instr.sliceBound (conc σ v) cap c).run P w = .ok m w := fun v e c => by subst e; exact run_bound hm h3
  have b2 : ∀ v, hi = some v → ∀ c, (Instr.sliceBound (conc σ v) m c).run P w = .ok h w := fun v e c => by subst e; exact run_bound hh h2
  have b3 : ∀ v, lo = some v → ∀ c, (Instr.sliceBound (conc σ v) h c).run P w = .ok l w := fun v e c => by subst e; exact run_bound hl h1
  cases mx with
  | none =>
    simp only [optN, Option.some.injEq] at hm; subst hm
    cases hi with
    | none =>
      simp only [optN, Option.some.injEq] at hh; subst hh
      cases lo with
      | none => simp only [optN, Option.some.injEq] at hl; subst hl; simp [Instr.sliceBounds]
      | some v => simp [Instr.sliceBounds, b3 v rfl]
    | some u =>
      cases lo with
      | none => simp only [optN, Option.some.injEq] at hl; subst hl; simp [Instr.sliceBounds, b2 u rfl]
      | some v => simp [Instr.sliceBounds, b3 v rfl, b2 u rfl]
  | some x =>
    cases hi with
    | none => simp at h4
    | some u =>
      cases lo with
      | none => simp only [optN, Option.some.injEq] at hl; subst hl; simp [Instr.sliceBounds, b1 x rfl, b2 u rfl]
      | some v => simp [Instr.sliceBounds, b1 x rfl, b3 v rfl, b2 u rfl]

/-- A slice expression over a slice, once its bounds are known. -/
theorem slice_run {a : Option Addr} {len cap n l h m : Nat} {t e : TypeId} (ht : P.underlying t = some (.slice e)) (hn : tsize P.toTables e = some n) {lo hi mx : Option AV}
    (hl : optN 0 lo = some l) (hh : optN len hi = some h) (hm : optN cap mx = some m) (h1 : l ≤ h) (h2 : h ≤ m) (h3 : m ≤ cap) (h4 : mx.isSome → hi.isSome) :
    (Instr.sliceAt t (.slice a len cap) (lo.map (conc σ)) (hi.map (conc σ)) (mx.map (conc σ))).run P w = .ok (.slice (if m = l then a else a.map (·.add (l * n))) (h - l) (m - l)) w := by
  simp only [Instr.sliceAt, Sem.run_bind, run_und ht, Result.andThen_ok, Instr.slice]
  simp [bounds_run hl hh hm h1 h2 h3 h4, run_size hn]

theorem sim_slSl {t e : TypeId} {n : Nat} (ht : P.underlying t = some (.slice e)) (hn : tsize P.toTables e = some n) (hn1 : 1 ≤ n) {x v : AV} {lo hi mx : Option AV} (hin : In σ x) (h : sliceAV n lo hi mx x = some v) :
    (Instr.sliceAt t (conc σ x) (lo.map (conc σ)) (hi.map (conc σ)) (mx.map (conc σ))).run P w = .ok (conc σ v) w ∧ In σ v := by
  unfold sliceAV at h
  split at h
  · cases h
  · rename_i hmh
    have h4 : mx.isSome → hi.isSome := by
      cases mx <;> cases hi <;> simp at hmh ⊢
    split at h
    · split at h
      · rename_i hl
        split at h
        · rename_i hh
          split at h
          · rename_i hm
            cases h
            refine ⟨?_, trivial⟩
            simp only [conc]
            rw [slice_run ht hn hl hh hm (Nat.le_refl _) (Nat.le_refl _) (Nat.le_refl _) h4]
            simp
          · cases h
        · cases h
      · cases h
    · rename_i a j off len c
      simp only [In] at hin
      split at h
      · cases h
      · rename_i m hm
        split at h
        · cases h
        · rename_i hh' hh
          split at h
          · cases h
          · rename_i l hl
            split at h
            · cases h
            · rename_i hc
              cases h
              simp only [ble_eq, Bool.and_eq_true, decide_eq_true_eq] at hc
              simp only [conc, Sg.cap]
              rw [slice_run ht hn hl hh hm hc.1 hc.2.1 hc.2.2 h4]
              simp only [beq_eq, In]
              by_cases hml : m = l
              · simp only [hml, if_true, decide_true]
                exact ⟨trivial, hin.1, hin.2.1, by omega⟩
              · simp only [hml, if_false, decide_false, Option.map_some, adr_add hin.2.1]
                exact ⟨trivial, hin.1, by omega, by omega⟩
    · rename_i a j off len es'
      simp only [In] at hin
      split at h
      · cases h
      · rename_i hes
        simp only [beq_eq, decide_eq_true_eq] at hes
        subst hes
        obtain ⟨i1, i2, i3, _⟩ := hin
        have hlen : len ≤ ((σ.vi a j).en - off) / n := by
          rw [Nat.le_div_iff_mul_le (by omega)]; omega
        split at h
        · cases h
        · rename_i hh' hh
          split at h
          · cases h
          · rename_i l hl
            split at h
            · cases h
            · rename_i hc
              simp only [ble_eq, Bool.and_eq_true, decide_eq_true_eq] at hc
              split at h
              · rename_i u
                split at h
                · rename_i m hm
                  split at h
                  · rename_i hc2
                    cases h
                    simp only [ble_eq, Bool.and_eq_true, decide_eq_true_eq] at hc2
                    simp only [conc, Sg.cap]
                    rw [slice_run ht hn hl hh (mx := some u) (m := m) hm hc.1 hc2.1 (by omega) h4]
                    simp only [beq_eq, In]
                    by_cases hml : m = l
                    · simp only [hml, if_true, decide_true]
                      exact ⟨trivial, i1, i2, by omega⟩
                    · simp only [hml, if_false, decide_false, Option.map_some, adr_add i2]
                      exact ⟨trivial, i1, by omega, by omega⟩
                  · cases h
                · cases h
              · have hrun := slice_run (σ := σ) (P := P) (w := w) (a := some (σ.adr a j off)) (len := len) (cap := ((σ.vi a j).en - off) / n) ht hn hl hh (mx := none) (m := ((σ.vi a j).en - off) / n) rfl hc.1 (by omega) (Nat.le_refl _) (by simp)
                have hcap : ((σ.vi a j).en - off) / n - l = ((σ.vi a j).en - (off + l * n)) / n := by
                  rw [← Nat.sub_mul_div, Nat.mul_comm n l, Nat.sub_sub]
                split at h
                · rename_i hc2
                  cases h
                  simp only [ltb_eq, beq_eq, Bool.or_eq_true, decide_eq_true_eq] at hc2
                  simp only [conc, Sg.cap, In]
                  have hmul : l * n + (hh' - l) * n ≤ len * n := by
                    rw [← Nat.add_mul]; exact Nat.mul_le_mul_right _ (by omega)
                  refine ⟨?_, i1, by omega, by omega, hn1⟩
                  refine hrun.trans ?_
                  rw [hcap]
                  congr 2
                  split
                  · rename_i heq
                    rcases hc2 with hc2 | hc2
                    · omega
                    · subst hc2; simp
                  · simp [adr_add i2]
                · rename_i hc2
                  cases h
                  simp only [ltb_eq, beq_eq, Bool.or_eq_false_iff, decide_eq_false_iff_not] at hc2
                  have hll : l = len := by omega
                  have hhl : hh' = len := by omega
                  subst hll hhl
                  simp only [conc, Sg.cap, In]
                  refine ⟨?_, i1, i2, i3, hn1, by omega⟩
                  refine hrun.trans ?_
                  simp only [Nat.sub_self]
                  by_cases hq : ((σ.vi a j).en - off) / n = hh' <;> simp [hq]
    · rename_i a j off l es
      split at h
      · rename_i hl
        split at h
        · rename_i hh
          split at h
          · cases h
            refine ⟨?_, hin⟩
            simp only [conc]
            rw [slice_run ht hn hl hh (mx := none) (m := σ.cap a j off (.rest es) - l) rfl (Nat.le_refl _) (Nat.zero_le _) (Nat.le_refl _) (by simp)]
            simp only [Nat.zero_mul, Nat.sub_zero]
            congr 2
            split
            · rfl
            · simp [Addr.add]
          · cases h
        · cases h
      · cases h
    · cases h

/-- A slice expression over an array behind a pointer. -/
theorem sim_slArr {t e : TypeId} {n m : Nat} (ht : P.underlying t = some (.array m e) ∨ ∃ arr, P.underlying t = some (.pointer arr) ∧ P.underlying arr = some (.array m e)) (hn : tsize P.toTables e = some n) {a j o : Nat} {v : AV} {lo hi mx : Option AV} (hin : In σ (.ptr a j o))
    (h : sliceAV n lo hi mx (.sl a j o m (.known m)) = some v) :
    (Instr.sliceAt t (conc σ (.ptr a j o)) (lo.map (conc σ)) (hi.map (conc σ)) (mx.map (conc σ))).run P w = .ok (conc σ v) w ∧ In σ v := by
  simp only [In] at hin
  unfold sliceAV at h
  split at h
  · cases h
  · rename_i hmh
    have h4 : mx.isSome → hi.isSome := by
      cases mx <;> cases hi <;> simp at hmh ⊢
    simp only at h
    split at h
    · cases h
    · rename_i k hm
      split at h
      · cases h
      · rename_i hh' hh
        split at h
        · cases h
        · rename_i l hl
          split at h
          · cases h
          · rename_i hc
            cases h
            simp only [ble_eq, Bool.and_eq_true, decide_eq_true_eq] at hc
            have key : (Instr.sliceAt t (conc σ (.ptr a j o)) (lo.map (conc σ)) (hi.map (conc σ)) (mx.map (conc σ))).run P w = .ok (.slice (some (if k = l then σ.adr a j o else (σ.adr a j o).add (l * n))) (hh' - l) (k - l)) w := by
              rcases ht with ht | ⟨arr, ht, ht'⟩
              · simp only [Instr.sliceAt, conc, Sem.run_bind, run_und ht, Result.andThen_ok, Instr.sureAddr, Sem.run_pure]
                simp [bounds_run (b := false) hl hh hm hc.1 hc.2.1 hc.2.2 h4, run_size hn]
              · simp only [Instr.sliceAt, conc, Sem.run_bind, run_und ht, Result.andThen_ok, Instr.slice, asAddr, Sem.run_pure, run_und ht']
                simp [bounds_run (b := false) hl hh hm hc.1 hc.2.1 hc.2.2 h4, run_size hn]
            rw [key]
            simp only [beq_eq, conc, Sg.cap, In]
            by_cases hkl : k = l
            · simp only [hkl, if_true, decide_true]
              exact ⟨trivial, hin.1, hin.2, by omega⟩
            · simp only [hkl, if_false, decide_false, adr_add hin.2]
              exact ⟨trivial, hin.1, by omega, by omega⟩

end
end Go.Ab
