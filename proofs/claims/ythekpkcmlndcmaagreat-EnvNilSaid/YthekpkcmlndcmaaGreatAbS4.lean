/- Soundness of the abstract evaluator, part 4: operands; operations that read or write no memory but for cells. -/
import Derived.Test.YthekpkcmlndcmaaGreatAbS3
import Derived.Laws.StructEq
noncomputable section
namespace Go.Ab

/-! ### Types -/
theorem run_und {P : Program} {w : World} {t : TypeId} {d : TypeDesc} (h : P.underlying t = some d) : (underlying t).run P w = .ok d w := by
  simp [underlying, h]
theorem run_tinfo {P : Program} {w : World} {t : TypeId} {i : TypeInfo} (h : P.info? t = some i) : (typeInfo t).run P w = .ok i w := by
  simp [typeInfo, h]
theorem tsize_some {P : Program} {t : TypeId} {n : Nat} (h : tsize P.toTables t = some n) : ∃ i, P.info? t = some i ∧ i.size = n := by
  simp only [tsize] at h
  cases hi : P.info? t with
  | none => simp [hi] at h
  | some i => simp [hi] at h; exact ⟨i, rfl, h⟩
theorem tbytes_some {P : Program} {t : TypeId} {n : Nat} (h : tbytes P.toTables t = some n) : ∃ i, P.info? t = some i ∧ i.bytes = n := by
  simp only [tbytes] at h
  cases hi : P.info? t with
  | none => simp [hi] at h
  | some i => simp [hi] at h; exact ⟨i, rfl, h⟩
theorem run_size {P : Program} {w : World} {t : TypeId} {n : Nat} (h : tsize P.toTables t = some n) : (sizeOf t).run P w = .ok n w := by
  obtain ⟨i, h1, h2⟩ := tsize_some h
  simp [sizeOf, run_tinfo h1, h2]
theorem run_agg {P : Program} {w : World} {t : TypeId} {b : Bool} (h : tagg P t = some b) : (isAgg t).run P w = .ok b w := by
  simp only [tagg] at h
  split at h <;> rename_i hu
  · cases h; simp [isAgg, run_und hu]
  · cases h; simp [isAgg, run_und hu]
  · cases h
    rename_i d h1 h2 
    simp only [isAgg, Sem.run_bind, run_und hu, Result.andThen_ok]
    rfl
  · cases h

/-! ### Constants and operands -/
theorem ofLeaf_conc {σ : Sg} {v : Value} {a : AV} (h : ofLeaf v = some a) : conc σ a = v ∧ In σ a := by
  unfold ofLeaf at h
  split at h <;> first | (cases h; done) | (cases h; exact ⟨rfl, trivial⟩)
theorem ofLeaves_conc {σ : Sg} : ∀ {l : List Value} {r : List AV}, ofLeaves l = some r → concL σ r = l ∧ InL σ r
  | [], r, h => by simp [ofLeaves] at h; subst h; exact ⟨rfl, trivial⟩
  | v :: l, r, h => by
    simp only [ofLeaves] at h
    split at h
    · rename_i a ha
      split at h
      · rename_i m hm
        cases h
        obtain ⟨h1, h2⟩ := ofLeaf_conc (σ := σ) ha
        obtain ⟨h3, h4⟩ := ofLeaves_conc (σ := σ) hm
        exact ⟨by simp [concL, h1, h3], h2, h4⟩
      · cases h
    · cases h
theorem ofV_conc {σ : Sg} {v : Value} {a : AV} (h : ofV v = some a) : conc σ a = v ∧ In σ a := by
  unfold ofV at h
  split at h
  · rename_i cs
    cases hl : ofLeaves cs.toList with
    | none => simp [hl] at h
    | some r =>
      simp [hl] at h; subst h
      obtain ⟨h1, h2⟩ := ofLeaves_conc (σ := σ) hl
      exact ⟨by simp [conc, h1], by simpa [In] using h2⟩
  · rename_i cs
    split at h
    · rename_i hc
      cases h
      have : cs = #[] := by simpa using hc
      subst this
      exact ⟨rfl, trivial⟩
    · cases h
  · exact ofLeaf_conc h

/-- Operands as the abstract temporaries give them. -/
def REv (σ : Sg) (T : Tr AV) (ρ : Operand → Value) : Prop := ∀ x x', cEO x = some x' → ρ x = conc σ (x'.ev T) ∧ In σ (x'.ev T)

theorem RTmp.ev {σ : Sg} {N : Nat} {T : Tr AV} {tmps : Array Value} (r : RTmp σ N T tmps) {ρ : Operand → Value}
    (h1 : ∀ t, ρ (.tmp t) = tmps.getD t Go.undef) (h2 : ∀ v, ρ (.const v) = v) (h3 : ∀ f, ρ (.func f) = .func (.func f) #[] #[]) : REv σ T ρ := by
  intro x x' h
  unfold cEO at h
  split at h
  · cases h; exact ⟨by rw [h1, (r.2 _).2], (r.2 _).1⟩
  · rename_i v
    cases hv : ofV v with
    | none => simp [hv] at h
    | some a =>
      simp [hv] at h; subst h
      obtain ⟨k1, k2⟩ := ofV_conc (σ := σ) hv
      exact ⟨by rw [h2]; exact k1.symm, k2⟩
  · cases h; rw [h3]; exact ⟨rfl, trivial, trivial⟩
  · cases h

theorem REv.le {σ τ : Sg} {T : Tr AV} {ρ : Operand → Value} (r : REv σ T ρ) (h : σ.le τ) : REv τ T ρ := fun x x' hx =>
  ⟨by rw [(r x x' hx).1, (conc_le h _ (r x x' hx).2).1], (conc_le h _ (r x x' hx).2).2⟩

theorem cEOs_conc {σ : Sg} {T : Tr AV} {ρ : Operand → Value} (r : REv σ T ρ) : ∀ {l : List Operand} {l' : List EO}, cEOs l = some l' → l.map ρ = concL σ (evs T l') ∧ InL σ (evs T l')
  | [], l', h => by simp [cEOs] at h; subst h; exact ⟨rfl, trivial⟩
  | x :: l, l', h => by
    simp only [cEOs] at h
    split at h
    · rename_i a ha
      split at h
      · rename_i m hm
        cases h
        obtain ⟨h1, h2⟩ := r _ _ ha
        obtain ⟨h3, h4⟩ := cEOs_conc r hm
        exact ⟨by simp [evs, concL, h1, h3], h2, h4⟩
      · cases h
    · cases h

/-- What the unknowns are known to be. -/
structure EOk (E : Env) (σ : Sg) : Prop where
  rng : ∀ (i : Nat) a b, E.rng[i]? = some (a, b) → a ≤ σ.sym i ∧ σ.sym i ≤ b
  rem : ∀ (p : Nat × Nat × Nat), p ∈ E.rem → (IntKind.u64.wrap (σ.sym p.1)).tmod (p.2.1 : Int) = (p.2.2 : Int)

theorem EOk.le {E : Env} {σ τ : Sg} (h : EOk E σ) (k : σ.le τ) : EOk E τ := ⟨by rw [k.sym]; exact h.rng, by rw [k.sym]; exact h.rem⟩

/-- What an operation comes to: a value (or none), in a world that fits. -/
def Res (P : Program) (σ : Sg) (s : AS) (w : World) (r : Result Next) (v : AV) (s' : AS) : Prop :=
  ∃ σ' w', (r = .ok (.value (conc σ' v)) w' ∨ (v = .undef ∧ r = .ok .skip w')) ∧ Rel P σ' s' w' ∧ In σ' v ∧ Ext σ s w σ' s' w'

theorem Res.pure {P : Program} {σ : Sg} {s : AS} {w : World} {v : AV} (r : Rel P σ s w) (h : In σ v) : Res P σ s w (.ok (.value (conc σ v)) w) v s :=
  ⟨σ, w, .inl rfl, r, h, .refl _ _ _⟩
theorem Res.of {P : Program} {σ : Sg} {s : AS} {w : World} {v : AV} {x : Result Next} (r : Rel P σ s w) (h : In σ v) (hx : x = .ok (.value (conc σ v)) w) : Res P σ s w x v s :=
  hx ▸ Res.pure r h

/-- 'do pure (.value (← s))'. -/
theorem run_v {P : Program} {w : World} (s : Sem Value) : (do pure (Next.value (← s)) : Sem Next).run P w = (s.run P w).andThen fun v w' => .ok (.value v) w' := by
  simp
theorem run_u {P : Program} {w : World} (s : Sem Unit) : (do s; pure Next.skip : Sem Next).run P w = (s.run P w).andThen fun _ w' => .ok .skip w' := by
  simp

theorem conc_cells {P : Program} {σ : Sg} {s : AS} {w : World} (r : Rel P σ s w) (v : AV) : (conc σ v).cells = (concL σ (cellsOf v)).toArray := by
  cases v with
  | opq i =>
    have h := r.opq i
    simp only [conc, cellsOf, concL]
    generalize σ.opq i = u at h
    cases u <;> first | rfl | (simp [Value.oneCell'] at h)
  | sl a j o l c => rfl
  | _ => rfl

theorem In_cells {σ : Sg} {v : AV} (h : In σ v) : InL σ (cellsOf v) := by
  cases v <;> first | exact ⟨h, trivial⟩ | exact h

theorem concL_length (σ : Sg) (l : List AV) : (concL σ l).length = l.length := by simp [concL_eq]

/-! ### Loads and stores -/
theorem sim_ld1 {P : Program} {σ : Sg} {s : AS} {w : World} (r : Rel P σ s w) {t : TypeId} {a j o : Nat} {v : AV} (hin : In σ (.ptr a j o)) (ht : tagg P t = some false) (h : s.rd a j o = some v) :
    (Instr.loadAt t (conc σ (.ptr a j o))).run P w = .ok (conc σ v) w ∧ In σ v := by
  simp only [In] at hin
  obtain ⟨h1, h2, h3, h4⟩ := r.rd hin.1 h
  refine ⟨?_, h4⟩
  simp only [Instr.loadAt, conc, Instr.sureAddr, loadVar, Sem.run_bind, Sem.run_pure, Result.andThen_ok, run_agg ht, Bool.false_eq_true, if_false]
  exact run_load_some h2

theorem sim_ldn {P : Program} {σ : Sg} {s : AS} {w : World} (r : Rel P σ s w) {t : TypeId} {a j o n : Nat} {l : List AV} (hin : In σ (.ptr a j o)) (ht : tagg P t = some true) (hn : tsize P.toTables t = some n)
    (h : s.rdN a j o n = some l) : (Instr.loadAt t (conc σ (.ptr a j o))).run P w = .ok (conc σ (.agg l)) w ∧ In σ (.agg l) := by
  simp only [In] at hin
  obtain ⟨h1, h2, h3⟩ := r.rdN hin.1 hin.2 h
  refine ⟨?_, by simpa [In] using h2⟩
  simp only [Instr.loadAt, conc, Instr.sureAddr, loadVar, Sem.run_bind, Sem.run_pure, Result.andThen_ok, run_agg ht, if_true, run_size hn, h1]

theorem sim_st {P : Program} {σ : Sg} {s s' : AS} {w : World} (r : Rel P σ s w) {t : TypeId} {a j o n : Nat} {v : AV} (hin : In σ (.ptr a j o)) (hv : In σ v) (hn : tsize P.toTables t = some n)
    (hl : (cellsOf v).length = n) (h : s.wrN a j o (cellsOf v) = some s') :
    ∃ w', (Instr.storeAt t (conc σ (.ptr a j o)) (conc σ v)).run P w = .ok () w' ∧ Rel P σ s' w' ∧ Ext σ s w σ s' w' := by
  simp only [In] at hin
  obtain ⟨w', h1, h2, h3⟩ := r.wrN (k := 0) hin.1 hin.2 (In_cells hv) h
  refine ⟨w', ?_, h2, h3⟩
  simp only [Instr.storeAt, conc, Instr.sureAddr, storeVar, Sem.run_bind, Sem.run_pure, Result.andThen_ok, run_size hn]
  rw [conc_cells r]
  simp only [List.size_toArray, concL_length, hl, ne_eq, not_true_eq_false, if_false]
  exact h1

end Go.Ab
