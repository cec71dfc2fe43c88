/- Soundness of the abstract evaluator: maps. -/
import Derived.Test.YthekpkcmlndcmaaGreatAbO4
import Derived.MapKept
noncomputable section
namespace Go.Ab
section
variable {P : Program} {E : Env} {σ : Sg} {s : AS} {w : World}

theorem mapKind_leaf {t : TypeId} {k : EqK} (h : mapKind P t = some k) : ∃ q d, k = .leaf q ∧ P.underlying t = some d ∧ isLK P t q := by
  unfold mapKind at h
  split at h
  · rename_i q hq
    cases h
    unfold eqKind at hq
    split at hq
    · rename_i hu; cases hq; exact ⟨_, _, rfl, hu, hu⟩
    · rename_i hu; cases hq; exact ⟨_, _, rfl, hu, ⟨_, hu⟩⟩
    · rename_i hu; cases hq; exact ⟨_, _, rfl, hu, hu⟩
    all_goals (first | cases hq | (split at hq <;> first | cases hq | (obtain ⟨x, _, h2⟩ := map_some hq; cases h2)))
  · cases h

theorem sameNow_leaf (w : World) (he : EOk E σ) {t : TypeId} {d : TypeDesc} (hu : P.underlying t = some d) {q : LK} (hq : isLK P t q) {x y : AV} {b : Bool} (h : eqLeaf E q x y = some b) :
    Instr.sameNow d (conc σ x) (conc σ y) = some b ∧ (b = true → ∀ n, Instr.sameBits n (conc σ y) (conc σ x) = true) := by
  cases q with
  | b =>
    simp only [isLK] at hq
    rw [hq] at hu; cases hu
    simp only [eqLeaf] at h
    split at h
    · cases h
      refine ⟨by simp [conc, Instr.sameNow], fun hb n => ?_⟩
      simp at hb; subst hb
      simp [conc, Instr.sameBits]
    · cases h
  | s =>
    simp only [isLK] at hq
    rw [hq] at hu; cases hu
    simp only [eqLeaf] at h
    split at h
    · cases h
      refine ⟨by simp [conc, Instr.sameNow, beq_toListBytes], fun hb n => ?_⟩
      simp [conc, Instr.sameBits, beq_toListBytes]
      simp at hb
      exact hb.symm
    · cases h
  | i =>
    obtain ⟨k', hq⟩ := hq
    rw [hq] at hu; cases hu
    have hin := fun w => eqLeaf_in (P := P) (w := w) he h (show isLK P t .i from ⟨_, hq⟩) 0
    simp only [eqLeaf] at h
    split at h
    · split at h
      · rename_i hk
        have := same_kind hk
        subst this
        cases h
        refine ⟨by simp [conc, Instr.sameNow], fun hb n => ?_⟩
        simp at hb; subst hb
        simp [conc, Instr.sameBits]
      · cases h
    · split at h
      · rename_i hk
        have := isI64_eq hk
        subst this
        have := hin w
        rw [conc, conc, run_equalIn_int w 0 t _ _ _ _ hq] at this
        simp only [Result.ok.injEq, and_true] at this
        refine ⟨by simp [conc, Instr.sameNow, this], fun hb n => ?_⟩
        subst hb
        simp at this
        simp [conc, Instr.sameBits, this]
      · cases h
    · split at h
      · rename_i hk
        have := isI64_eq hk
        subst this
        have := hin w
        rw [conc, conc, run_equalIn_int w 0 t _ _ _ _ hq] at this
        simp only [Result.ok.injEq, and_true] at this
        refine ⟨by simp [conc, Instr.sameNow, this], fun hb n => ?_⟩
        subst hb
        simp at this
        simp [conc, Instr.sameBits, this]
      · cases h
    · cases h

theorem find_spec (he : EOk E σ) {t : TypeId} {d : TypeDesc} (hu : P.underlying t = some d) {q : LK} (hq : isLK P t q) {x : AV} (w : World) : ∀ {es : List (AV × AV × Nat)} {i : Nat} {r : Option (Nat × AV × Nat)}, lookM E (.leaf q) x es i = some r →
    Instr.findNow d (conc σ x) (es.map (centry σ)) i = some (r.map fun p => (p.1, conc σ p.2.1)) ∧
      ∀ p v b, r = some (p, v, b) → i ≤ p ∧ ∃ a, es[p - i]? = some (a, v, b) ∧ ∀ n, Instr.sameBits n (conc σ a) (conc σ x) = true := by
  intro es
  induction es with
  | nil => intro i r h; simp [lookM] at h; subst h; simp [Instr.findNow]
  | cons e es ih =>
    intro i r h
    obtain ⟨a, v, b⟩ := e
    simp only [lookM, eqAV] at h
    split at h
    · rename_i hb
      obtain ⟨h1, h2⟩ := sameNow_leaf w he hu hq hb
      cases h
      refine ⟨by simp [Instr.findNow, centry, h1], ?_⟩
      intro p v' b' hr
      cases hr
      exact ⟨Nat.le_refl _, a, by simp, h2 rfl⟩
    · rename_i hb
      obtain ⟨h1, h2⟩ := sameNow_leaf w he hu hq hb
      obtain ⟨k1, k2⟩ := ih h
      refine ⟨by simpa [Instr.findNow, centry, h1] using k1, ?_⟩
      intro p v' b' hr
      obtain ⟨m1, a', m2, m3⟩ := k2 p v' b' hr
      refine ⟨by omega, a', ?_, m3⟩
      rw [show p - i = (p - (i + 1)) + 1 from by omega]
      simpa using m2
    · cases h

theorem check_leaf {t : TypeId} {q : LK} (hq : isLK P t q) (e : Bool) (n : Nat) (X : Value) : (Instr.checkKey e (n + 1) t X).run P w = .ok () w := by
  cases q with
  | b => simp only [isLK] at hq; simp [Instr.checkKey, run_und hq]
  | i => obtain ⟨k, hq⟩ := hq; simp [Instr.checkKey, run_und hq]
  | s => simp only [isLK] at hq; simp [Instr.checkKey, run_und hq]

theorem stays_leaf {a x : Value} (h : ∀ n, Instr.sameBits n a x = true) : (Instr.keyThatStays a x).run P w = .ok x w := by
  simp only [Instr.keyThatStays, h, if_true, Sem.run_pure]

/-- A map whose entries are others now. -/
def setMap (w : World) (r : Nat) (σ : Sg) (M : AMap) : World := { w with heap := w.heap.setIfInBounds r (.map (M.es.map (centry σ)).toArray M.clock) }

theorem Rel.setMap {m r : Nat} (h : Rel P σ s w) (hm : σ.mp m = some r) (M' : AMap) (hin : ∀ e ∈ M'.es, In σ e.1 ∧ In σ e.2.1) :
    Rel P σ { s with maps := s.maps.set m M' } (setMap w r σ M') ∧ Ext σ s w σ { s with maps := s.maps.set m M' } (setMap w r σ M') := by
  obtain ⟨M, h1, h2, h3⟩ := h.map m r hm
  have hlt : r < w.heap.size := h.blk_lt (.inr (.inl ⟨m, hm⟩))
  have hmn : m < s.nm := by
    rcases Nat.lt_or_ge m s.nm with h4 | h4
    · exact h4
    · rw [h.nm m h4] at hm; cases hm
  have hne : ∀ b, b ≠ r → (Ab.setMap w r σ M').heap[b]? = w.heap[b]? := fun b hb => Array.getElem?_setIfInBounds_ne (fun e => hb e.symm)
  have hcell : ∀ a vi, vi ∈ σ.ar a → vi.blk ≠ r := by
    intro a vi hv e
    obtain ⟨A, _, hA⟩ := h.arr a (List.ne_nil_of_mem hv)
    obtain ⟨j, hj⟩ := List.getElem?_of_mem hv
    obtain ⟨cs, E', fz, q1, _⟩ := hA.blk j vi hj
    rw [e, h2] at q1; cases q1
  have hloop : ∀ l b, σ.lp l = some b → b ≠ r := by
    intro l b hb e
    obtain ⟨L, _, hL⟩ := h.lop l b hb
    obtain ⟨N, fn, tm, asn, body, d, q1, _⟩ := hL.ex
    rw [e, h2] at q1; cases q1
  refine ⟨?_, ?_⟩
  · constructor
    · exact fun a => (h.arr a).mono (.refl σ) rfl rfl fun vi hv => hne _ (hcell a vi hv)
    · exact h.inj
    · intro m' b hb
      by_cases e : m' = m
      · subst e
        rw [hm] at hb; cases hb
        refine ⟨M', by simp, ?_, hin⟩
        simp [Ab.setMap, hlt]
      · exact (h.map m').mono (.refl σ) rfl (Tr.get_set_ne _ _ e) (fun b hb => hne b fun e2 => e (h.minj m' m r (e2 ▸ hb) hm)) b hb
    · exact h.minj
    · exact fun l => (h.lop l).mono (.refl σ) rfl rfl fun b hb => hne b (hloop l b hb)
    · exact h.linj
    · exact h.na
    · exact h.nm
    · exact h.nl
    · exact h.opq
    · exact ⟨h.wf.arr, fun a ha => by simp only at ha ⊢; rw [Tr.get_set_ne _ _ (by omega)]; exact h.wf.map a ha⟩
  · refine ⟨.refl σ, fun _ h => .inl h, fun b _ hb => hne b fun e => hb (e ▸ .inr (.inl ⟨m, hm⟩)), by simp [Ab.setMap], rfl, rfl, rfl, Nat.le_refl _, Nat.le_refl _, Nat.le_refl _, fun _ _ h => ⟨rfl, h⟩, ?_⟩
    intro m' _ hn
    exact ⟨Tr.get_set_ne _ _ (by rintro rfl; rw [hm] at hn; cases hn), hn⟩

theorem run_getMap {r : Nat} {es : Array MapEntry} {c : Nat} (h : w.heap[r]? = some (.map es c)) : (getObj r).run P w = .ok (.map es c) w := by
  simp [getObj, Sem.run, h]
theorem run_setMap {r : Nat} {es : Array MapEntry} {c : Nat} (o : Obj) (h : w.heap[r]? = some (.map es c)) : (setObj r o).run P w = .ok () { w with heap := w.heap.setIfInBounds r o } := by
  simp [setObj, Sem.run, h]
theorem run_find {kt : TypeId} {d : TypeDesc} {k : Value} {l : List MapEntry} {a : Option (Nat × Value)} (hd : P.underlying kt = some d) (h : Instr.findNow d k l 0 = some a) : (Instr.findKey kt k l).run P w = .ok a w := by
  simp [Instr.findKey, run_und hd, h]

theorem setM_eq : ∀ (es : List (AV × AV × Nat)) (p : Nat) (x v : AV) {a u : AV} {b : Nat}, es[p]? = some (a, u, b) → setM es p x v = es.set p (x, v, b) := by
  intro es
  induction es with
  | nil => intro p x v a u b h; simp at h
  | cons e es ih =>
    intro p x v a u b h
    obtain ⟨a', u', b'⟩ := e
    simp only [setM, beq_eq]
    cases p with
    | zero => simp at h; simp [h]
    | succ p => simp at h; simp [ih p x v h]

theorem modify_conc {es : List (AV × AV × Nat)} {p : Nat} {x v a u : AV} {b : Nat} (h : es[p]? = some (a, u, b)) (f : MapEntry → MapEntry) (hf : f (centry σ (a, u, b)) = centry σ (x, v, b)) :
    (es.map (centry σ)).toArray.modify p f = ((setM es p x v).map (centry σ)).toArray := by
  rw [setM_eq es p x v h]
  apply Array.ext_getElem?
  intro i
  rw [Array.getElem?_modify]
  simp only [List.getElem?_toArray, List.getElem?_map, List.getElem?_set]
  by_cases hi : p = i
  · subst hi
    have hlt : p < es.length := by
      rcases Nat.lt_or_ge p es.length with h' | h'
      · exact h'
      · rw [List.getElem?_eq_none h'] at h; cases h
    have h' : es[p] = (a, u, b) := by rw [List.getElem?_eq_getElem hlt] at h; exact Option.some.inj h
    simp [h', hf, hlt]
  · simp [hi]

theorem In_set {es : List (AV × AV × Nat)} {p : Nat} {e : AV × AV × Nat} (h : ∀ x ∈ es, In σ x.1 ∧ In σ x.2.1) (he : In σ e.1 ∧ In σ e.2.1) : ∀ x ∈ es.set p e, In σ x.1 ∧ In σ x.2.1 := by
  intro x hx
  rcases List.mem_or_eq_of_mem_set hx with hx | rfl
  · exact h x hx
  · exact he

theorem sim_look (r : Rel P σ s w) (he : EOk E σ) {t kt e : TypeId} {k : EqK} {z : AV} (ht : P.underlying t = some (.map kt e)) (hk : mapKind P kt = some k) (hz : tzero P.toTables e = some z) {x i : AV} {ok : Bool} {p : Option (Nat × AV × Nat)} (hx : In σ x) (hi : In σ i)
    (h : lookOf E k s x i = some p) : ∀ v, v = (match p with | some (_, v, _) => (match ok with | true => AV.tup [v, .bool true] | false => v) | none => (match ok with | true => AV.tup [z, .bool false] | false => z)) →
    (Instr.lookup t (conc σ x) (conc σ i) ok).run P w = .ok (conc σ v) w ∧ In σ v := by
  intro v hv
  obtain ⟨q, d, rfl, hd, hq⟩ := mapKind_leaf hk
  obtain ⟨z', hz1, hz2⟩ := tzero_some (w := w) hz
  obtain ⟨hz3, hz4⟩ := ofV_conc (σ := σ) hz2
  unfold lookOf at h
  split at h
  · cases h
    subst hv
    simp only [conc, Instr.lookup, Sem.run_bind, run_und ht, Result.andThen_ok, Sem.run_pure, check_leaf hq, run_find hd (show Instr.findNow d (conc σ i) (#[] : Array MapEntry).toList 0 = some none from rfl), hz1]
    cases ok <;> simp [conc, concL, hz3, In, InL, hz4]
  · rename_i m
    simp only [In] at hx
    obtain ⟨b, hb⟩ := isSome_get hx
    obtain ⟨M, h1, h2, h3⟩ := r.map m b hb
    simp only [h1] at h
    obtain ⟨k1, k2⟩ := find_spec (P := P) he hd hq w h
    simp only [conc, hb, Option.getD_some, Instr.lookup, Sem.run_bind, run_und ht, Result.andThen_ok, Sem.run_pure, check_leaf hq, run_getMap h2, run_find hd k1]
    subst hv
    cases p with
    | none =>
      simp only [Option.map_none, Sem.run_bind, hz1, Result.andThen_ok, Sem.run_pure]
      cases ok <;> simp [conc, concL, hz3, In, InL, hz4]
    | some p =>
      obtain ⟨p, v, bn⟩ := p
      obtain ⟨_, a, m2, _⟩ := k2 p v bn rfl
      have hin := h3 _ (List.mem_of_getElem? m2)
      simp only [Option.map_some, Sem.run_pure, Result.andThen_ok]
      cases ok <;> simp [conc, concL, In, InL, hin.2]
  · cases h

end
end Go.Ab
