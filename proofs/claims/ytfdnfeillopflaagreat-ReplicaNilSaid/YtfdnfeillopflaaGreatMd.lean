/- Soundness of the abstract evaluator: maps. -/
import Derived.Test.YtfdnfeillopflaaGreatMc
import Derived.MapKept
import Derived.Deep.DeepAppendWide
noncomputable section
namespace Go.Ab
section
variable {P : Program} {E : Env} {σ : Sg} {s : AS} {w : World}

theorem mapKind_leaf {t : TypeId} {k : EqK} (h : mapKind P t = some k) : ∃ q d, k = .leaf q ∧ P.underlying t = some d ∧ isLK P t q := by
  unfold mapKind at h
  split at h
  · rename_i q hq
    cases h
    unfold eqKind at hq
    split at hq
    · rename_i hu; cases hq; exact ⟨_, _, rfl, hu, hu⟩
    · rename_i hu; cases hq; exact ⟨_, _, rfl, hu, ⟨_, hu⟩⟩
    · rename_i hu; cases hq; exact ⟨_, _, rfl, hu, hu⟩
    all_goals (first | cases hq | (split at hq <;> first | cases hq | (obtain ⟨x, _, h2⟩ := map_some hq; cases h2)))
  · cases h

theorem sameNow_leaf (w : World) (he : EOk E σ) {t : TypeId} {d : TypeDesc} (hu : P.underlying t = some d) {q : LK} (hq : isLK P t q) {x y : AV} {b : Bool} (h : eqLeaf E q x y = some b) :
    Instr.sameNow d (conc σ x) (conc σ y) = some b ∧ (b = true → ∀ n, Instr.sameBits n (conc σ y) (conc σ x) = true) := by
  cases q with
  | b =>
    simp only [isLK] at hq
    rw [hq] at hu; cases hu
    simp only [eqLeaf] at h
    split at h
    · cases h
      refine ⟨by simp [conc, Instr.sameNow], fun hb n => ?_⟩
      simp at hb; subst hb
      simp [conc, Instr.sameBits]
    · cases h
  | s =>
    simp only [isLK] at hq
    rw [hq] at hu; cases hu
    simp only [eqLeaf] at h
    split at h
    · cases h
      refine ⟨by simp [conc, Instr.sameNow, beq_toListBytes], fun hb n => ?_⟩
      simp [conc, Instr.sameBits, beq_toListBytes]
      simp at hb
      exact hb.symm
    · cases h
  | i =>
    obtain ⟨k', hq⟩ := hq
    rw [hq] at hu; cases hu
    have hin := fun w => eqLeaf_in (P := P) (w := w) he h (show isLK P t .i from ⟨_, hq⟩) 0
    simp only [eqLeaf] at h
    split at h
    · split at h
      · rename_i hk
        have := same_kind hk
        subst this
        cases h
        refine ⟨by simp [conc, Instr.sameNow], fun hb n => ?_⟩
        simp at hb; subst hb
        simp [conc, Instr.sameBits]
      · cases h
    · split at h
      · rename_i hk
        have := isI64_eq hk
        subst this
        have := hin w
        rw [conc, conc, run_equalIn_int w 0 t _ _ _ _ hq] at this
        simp only [Result.ok.injEq, and_true] at this
        refine ⟨by simp [conc, Instr.sameNow, this], fun hb n => ?_⟩
        subst hb
        simp at this
        simp [conc, Instr.sameBits, this]
      · cases h
    · split at h
      · rename_i hk
        have := isI64_eq hk
        subst this
        have := hin w
        rw [conc, conc, run_equalIn_int w 0 t _ _ _ _ hq] at this
        simp only [Result.ok.injEq, and_true] at this
        refine ⟨by simp [conc, Instr.sameNow, this], fun hb n => ?_⟩
        subst hb
        simp at this
        simp [conc, Instr.sameBits, this]
      · cases h
    · cases h

theorem find_spec (he : EOk E σ) {t : TypeId} {d : TypeDesc} (hu : P.underlying t = some d) {q : LK} (hq : isLK P t q) {x : AV} (w : World) : ∀ {es : List (AV × AV × Nat)} {i : Nat} {r : Option (Nat × AV × Nat)}, lookM E (.leaf q) x es i = some r →
    Instr.findNow d (conc σ x) (es.map (centry σ)) i = some (r.map fun p => (p.1, conc σ p.2.1)) ∧
      ∀ p v b, r = some (p, v, b) → i ≤ p ∧ ∃ a, es[p - i]? = some (a, v, b) ∧ ∀ n, Instr.sameBits n (conc σ a) (conc σ x) = true := by
  intro es
  induction es with
  | nil => intro i r h; simp [lookM] at h; subst h; simp [Instr.findNow]
  | cons e es ih =>
    intro i r h
    obtain ⟨a, v, b⟩ := e
    simp only [lookM, eqAV] at h
    split at h
    · rename_i hb
      obtain ⟨h1, h2⟩ := sameNow_leaf w he hu hq hb
      cases h
      refine ⟨by simp [Instr.findNow, centry, h1], ?_⟩
      intro p v' b' hr
      cases hr
      exact ⟨Nat.le_refl _, a, by simp, h2 rfl⟩
    · rename_i hb
      obtain ⟨h1, h2⟩ := sameNow_leaf w he hu hq hb
      obtain ⟨k1, k2⟩ := ih h
      refine ⟨by simpa [Instr.findNow, centry, h1] using k1, ?_⟩
      intro p v' b' hr
      obtain ⟨m1, a', m2, m3⟩ := k2 p v' b' hr
      refine ⟨by omega, a', ?_, m3⟩
      rw [show p - i = (p - (i + 1)) + 1 from by omega]
      simpa using m2
    · cases h

theorem check_leaf {t : TypeId} {q : LK} (hq : isLK P t q) (e : Bool) (n : Nat) (X : Value) : (Instr.checkKey e (n + 1) t X).run P w = .ok () w := by
  cases q with
  | b => simp only [isLK] at hq; simp [Instr.checkKey, run_und hq]
  | i => obtain ⟨k, hq⟩ := hq; simp [Instr.checkKey, run_und hq]
  | s => simp only [isLK] at hq; simp [Instr.checkKey, run_und hq]

theorem stays_leaf {a x : Value} (h : ∀ n, Instr.sameBits n a x = true) : (Instr.keyThatStays a x).run P w = .ok x w := by
  simp only [Instr.keyThatStays, h, if_true, Sem.run_pure]

/-- A map whose entries are others now. -/
def setMap (w : World) (r : Nat) (σ : Sg) (M : AMap) : World := { w with heap := w.heap.setIfInBounds r (.map (M.es.map (centry σ)).toArray M.clock) }

theorem Rel.setMap {m r : Nat} (h : Rel P σ s w) (hm : σ.mp m = some r) (M' : AMap) (hin : ∀ e ∈ M'.es, In σ e.1 ∧ In σ e.2.1) :
    Rel P σ { s with maps := s.maps.set m M' } (setMap w r σ M') ∧ Ext σ s w σ { s with maps := s.maps.set m M' } (setMap w r σ M') := by
  obtain ⟨M, h1, h2, h3⟩ := h.map m r hm
  have hlt : r < w.heap.size := h.blk_lt (.inr (.inl ⟨m, hm⟩))
  have hmn : m < s.nm := by
    rcases Nat.lt_or_ge m s.nm with h4 | h4
    · exact h4
    · rw [h.nm m h4] at hm; cases hm
  have hne : ∀ b, b ≠ r → (Ab.setMap w r σ M').heap[b]? = w.heap[b]? := fun b hb => Array.getElem?_setIfInBounds_ne (fun e => hb e.symm)
  have hcell : ∀ a vi, vi ∈ σ.ar a → vi.blk ≠ r := by
    intro a vi hv e
    obtain ⟨A, _, hA⟩ := h.arr a (List.ne_nil_of_mem hv)
    obtain ⟨j, hj⟩ := List.getElem?_of_mem hv
    obtain ⟨cs, E', fz, q1, _⟩ := hA.blk j vi hj
    rw [e, h2] at q1; cases q1
  have hloop : ∀ l b, σ.lp l = some b → b ≠ r := by
    intro l b hb e
    obtain ⟨L, _, hL⟩ := h.lop l b hb
    obtain ⟨N, fn, tm, asn, body, d, q1, _⟩ := hL.ex
    rw [e, h2] at q1; cases q1
  refine ⟨?_, ?_⟩
  · constructor
    · exact fun a => (h.arr a).mono (.refl σ) rfl rfl fun vi hv => hne _ (hcell a vi hv)
    · exact h.inj
    · intro m' b hb
      by_cases e : m' = m
      · subst e
        rw [hm] at hb; cases hb
        refine ⟨M', by simp, ?_, hin⟩
        simp [Ab.setMap, hlt]
      · exact (h.map m').mono (.refl σ) rfl (Tr.get_set_ne _ _ e) (fun b hb => hne b fun e2 => e (h.minj m' m r (e2 ▸ hb) hm)) b hb
    · exact h.minj
    · exact fun l => (h.lop l).mono (.refl σ) rfl rfl fun b hb => hne b (hloop l b hb)
    · exact h.linj
    · exact h.na
    · exact h.nm
    · exact h.nl
    · exact h.opq
    · exact ⟨h.wf.arr, fun a ha => by simp only at ha ⊢; rw [Tr.get_set_ne _ _ (by omega)]; exact h.wf.map a ha⟩
  · refine ⟨.refl σ, fun _ h => .inl h, fun b _ hb => hne b fun e => hb (e ▸ .inr (.inl ⟨m, hm⟩)), by simp [Ab.setMap], rfl, rfl, rfl, Nat.le_refl _, Nat.le_refl _, Nat.le_refl _, fun _ _ h => ⟨rfl, h⟩, ?_⟩
    intro m' _ hn
    exact ⟨Tr.get_set_ne _ _ (by rintro rfl; rw [hm] at hn; cases hn), hn⟩

theorem run_getMap {r : Nat} {es : Array MapEntry} {c : Nat} (h : w.heap[r]? = some (.map es c)) : (getObj r).run P w = .ok (.map es c) w := by
  simp [getObj, Sem.run, h]
theorem run_setMap {r : Nat} {es : Array MapEntry} {c : Nat} (o : Obj) (h : w.heap[r]? = some (.map es c)) : (setObj r o).run P w = .ok () { w with heap := w.heap.setIfInBounds r o } := by
  simp [setObj, Sem.run, h]
theorem run_find {kt : TypeId} {d : TypeDesc} {k : Value} {l : List MapEntry} {a : Option (Nat × Value)} (hd : P.underlying kt = some d) (h : Instr.findNow d k l 0 = some a) : (Instr.findKey kt k l).run P w = .ok a w := by
  simp [Instr.findKey, run_und hd, h]

theorem setM_eq : ∀ (es : List (AV × AV × Nat)) (p : Nat) (x v : AV) {a u : AV} {b : Nat}, es[p]? = some (a, u, b) → setM es p x v = es.set p (x, v, b) := by
  intro es
  induction es with
  | nil => intro p x v a u b h; simp at h
  | cons e es ih =>
    intro p x v a u b h
    obtain ⟨a', u', b'⟩ := e
    simp only [setM, beq_eq]
    cases p with
    | zero => simp at h; simp [h]
    | succ p => simp at h; simp [ih p x v h]

theorem modify_conc {es : List (AV × AV × Nat)} {p : Nat} {x v a u : AV} {b : Nat} (h : es[p]? = some (a, u, b)) (f : MapEntry → MapEntry) (hf : f (centry σ (a, u, b)) = centry σ (x, v, b)) :
    (es.map (centry σ)).toArray.modify p f = ((setM es p x v).map (centry σ)).toArray := by
  rw [setM_eq es p x v h]
  apply Array.ext_getElem?
  intro i
  rw [Array.getElem?_modify]
  simp only [List.getElem?_toArray, List.getElem?_map, List.getElem?_set]
  by_cases hi : p = i
  · subst hi
    have hlt : p < es.length := by
      rcases Nat.lt_or_ge p es.length with h' | h'
      · exact h'
      · rw [List.getElem?_eq_none h'] at h; cases h
    have h' : es[p] = (a, u, b) := by rw [List.getElem?_eq_getElem hlt] at h; exact Option.some.inj h
    simp [h', hf, hlt]
  · simp [hi]

theorem In_set {es : List (AV × AV × Nat)} {p : Nat} {e : AV × AV × Nat} (h : ∀ x ∈ es, In σ x.1 ∧ In σ x.2.1) (he : In σ e.1 ∧ In σ e.2.1) : ∀ x ∈ es.set p e, In σ x.1 ∧ In σ x.2.1 := by
  intro x hx
  rcases List.mem_or_eq_of_mem_set hx with hx | rfl
  · exact h x hx
  · exact he

theorem sim_look (r : Rel P σ s w) (he : EOk E σ) {t kt e : TypeId} {k : EqK} {z : AV} (ht : P.underlying t = some (.map kt e)) (hk : mapKind P kt = some k) (hz : tzero P.toTables e = some z) {x i : AV} {ok : Bool} {p : Option (Nat × AV × Nat)} (hx : In σ x) (hi : In σ i)
    (h : lookOf E k s x i = some p) : ∀ v, v = (match p with | some (_, v, _) => (match ok with | true => AV.tup [v, .bool true] | false => v) | none => (match ok with | true => AV.tup [z, .bool false] | false => z)) →
    (Instr.lookup t (conc σ x) (conc σ i) ok).run P w = .ok (conc σ v) w ∧ In σ v := by
  intro v hv
  obtain ⟨q, d, rfl, hd, hq⟩ := mapKind_leaf hk
  obtain ⟨z', hz1, hz2⟩ := tzero_some (w := w) hz
  obtain ⟨hz3, hz4⟩ := ofV_conc (σ := σ) hz2
  unfold lookOf at h
  split at h
  · cases h
    subst hv
    simp only [conc, Instr.lookup, Sem.run_bind, run_und ht, Result.andThen_ok, Sem.run_pure, check_leaf hq, run_find hd (show Instr.findNow d (conc σ i) (#[] : Array MapEntry).toList 0 = some none from rfl), hz1]
    cases ok <;> simp [conc, concL, hz3, In, InL, hz4]
  · rename_i m
    simp only [In] at hx
    obtain ⟨b, hb⟩ := isSome_get hx
    obtain ⟨M, h1, h2, h3⟩ := r.map m b hb
    simp only [h1] at h
    obtain ⟨k1, k2⟩ := find_spec (P := P) he hd hq w h
    simp only [conc, hb, Option.getD_some, Instr.lookup, Sem.run_bind, run_und ht, Result.andThen_ok, Sem.run_pure, check_leaf hq, run_getMap h2, run_find hd k1]
    subst hv
    cases p with
    | none =>
      simp only [Option.map_none, Sem.run_bind, hz1, Result.andThen_ok, Sem.run_pure]
      cases ok <;> simp [conc, concL, hz3, In, InL, hz4]
    | some p =>
      obtain ⟨p, v, bn⟩ := p
      obtain ⟨_, a, m2, _⟩ := k2 p v bn rfl
      have hin := h3 _ (List.mem_of_getElem? m2)
      simp only [Option.map_some, Sem.run_pure, Result.andThen_ok]
      cases ok <;> simp [conc, concL, In, InL, hin.2]
  · cases h

end
end Go.Ab
end

noncomputable section
namespace Go.Ab
section
variable {P : Program} {E : Env} {σ : Sg} {s : AS} {w : World}

theorem push_conc (es : List (AV × AV × Nat)) (e : AV × AV × Nat) : (es.map (centry σ)).toArray.push (centry σ e) = ((es ++ [e]).map (centry σ)).toArray := by simp

theorem In_push {es : List (AV × AV × Nat)} {e : AV × AV × Nat} (h : ∀ x ∈ es, In σ x.1 ∧ In σ x.2.1) (he : In σ e.1 ∧ In σ e.2.1) : ∀ x ∈ es ++ [e], In σ x.1 ∧ In σ x.2.1 := by
  intro x hx
  rcases List.mem_append.1 hx with hx | hx
  · exact h x hx
  · simp at hx; subst hx; exact he

theorem run_mset (r : Rel P σ s w) (he : EOk E σ) {t kt e : TypeId} {k : EqK} (ht : P.underlying t = some (.map kt e)) (hk : mapKind P kt = some k) {m : Nat} {i v : AV} (hm : In σ (.mp m)) (hi : In σ i) (hv : In σ v) {M : AMap} (hM : s.maps.get m = some M)
    {p : Option (Nat × AV × Nat)} (h : lookM E k i M.es 0 = some p) {M' : AMap} (hM' : M' = match p with | some (q, _, _) => ⟨setM M.es q i v, M.clock⟩ | none => ⟨M.es ++ [(i, v, M.clock)], M.clock + 1⟩) :
    ∃ w', (Instr.mapUpdate t (conc σ (.mp m)) (conc σ i) (conc σ v)).run P w = .ok () w' ∧ Rel P σ { s with maps := s.maps.set m M' } w' ∧ Ext σ s w σ { s with maps := s.maps.set m M' } w' := by
  obtain ⟨q, d, rfl, hd, hq⟩ := mapKind_leaf hk
  simp only [In] at hm
  obtain ⟨b, hb⟩ := isSome_get hm
  obtain ⟨M₁, h1, h2, h3⟩ := r.map m b hb
  rw [hM] at h1; cases h1
  obtain ⟨k1, k2⟩ := find_spec (P := P) he hd hq w h
  have hin : ∀ e ∈ M'.es, In σ e.1 ∧ In σ e.2.1 := by
    subst hM'
    cases p with
    | none => exact In_push h3 ⟨hi, hv⟩
    | some p =>
      obtain ⟨p, u, bn⟩ := p
      obtain ⟨_, a, m2, _⟩ := k2 p u bn rfl
      rw [Nat.sub_zero] at m2
      simp only
      rw [setM_eq _ _ _ _ m2]
      exact In_set h3 ⟨hi, hv⟩
  refine ⟨setMap w b σ M', ?_, r.setMap hb M' hin⟩
  simp only [conc, hb, Option.getD_some, Instr.mapUpdate, Sem.run_bind, run_und ht, Result.andThen_ok, run_getMap h2, check_leaf hq, run_find hd k1]
  subst hM'
  cases p with
  | none =>
    simp only [Option.map_none, run_setMap _ h2, Ab.setMap]
    rw [← push_conc]; rfl
  | some p =>
    obtain ⟨p, u, bn⟩ := p
    obtain ⟨_, a, m2, m3⟩ := k2 p u bn rfl
    simp only [Nat.sub_zero] at m2
    have hold : (((((M.es.map (centry σ)).toArray)[p]?).map (·.key)).getD (conc σ i)) = conc σ a := by simp [m2, centry]
    simp only [Option.map_some, Sem.run_bind, hold, stays_leaf m3, Result.andThen_ok, run_setMap _ h2, Ab.setMap]
    rw [← modify_conc m2 (fun e => { e with key := conc σ i, val := conc σ v }) rfl]

theorem run_ment (r : Rel P σ s w) (he : EOk E σ) {t kt e : TypeId} {k : EqK} {z : AV} (ht : P.underlying t = some (.map kt e)) (hk : mapKind P kt = some k) (hz : tzero P.toTables e = some z) {m : Nat} {i : AV} (hm : In σ (.mp m)) (hi : In σ i) {M : AMap} (hM : s.maps.get m = some M)
    {p : Option (Nat × AV × Nat)} (h : lookM E k i M.es 0 = some p) {M' : AMap} (hM' : M' = match p with | some (q, v, _) => ⟨setM M.es q i v, M.clock⟩ | none => ⟨M.es ++ [(i, z, M.clock)], M.clock + 1⟩)
    {x : AV} (hx : x = match p with | some (_, v, b) => .tup [v, intN b] | none => .tup [z, intN M.clock]) :
    ∃ w', (Instr.mapEntry t (conc σ (.mp m)) (conc σ i)).run P w = .ok (conc σ x) w' ∧ In σ x ∧ Rel P σ { s with maps := s.maps.set m M' } w' ∧ Ext σ s w σ { s with maps := s.maps.set m M' } w' := by
  obtain ⟨q, d, rfl, hd, hq⟩ := mapKind_leaf hk
  obtain ⟨z', hz1, hz2⟩ := tzero_some (w := w) hz
  obtain ⟨hz3, hz4⟩ := ofV_conc (σ := σ) hz2
  simp only [In] at hm
  obtain ⟨b, hb⟩ := isSome_get hm
  obtain ⟨M₁, h1, h2, h3⟩ := r.map m b hb
  rw [hM] at h1; cases h1
  obtain ⟨k1, k2⟩ := find_spec (P := P) he hd hq w h
  have hin : ∀ e ∈ M'.es, In σ e.1 ∧ In σ e.2.1 := by
    subst hM'
    cases p with
    | none => exact In_push h3 ⟨hi, hz4⟩
    | some p =>
      obtain ⟨p, u, bn⟩ := p
      obtain ⟨_, a, m2, _⟩ := k2 p u bn rfl
      rw [Nat.sub_zero] at m2
      simp only
      rw [setM_eq _ _ _ _ m2]
      exact In_set h3 ⟨hi, (h3 _ (List.mem_of_getElem? m2)).2⟩
  have hinx : In σ x := by
    subst hx
    cases p with
    | none => simp [In, InL, hz4, intN]
    | some p =>
      obtain ⟨p, u, bn⟩ := p
      obtain ⟨_, a, m2, _⟩ := k2 p u bn rfl
      simp [In, InL, intN, (h3 _ (List.mem_of_getElem? m2)).2]
  refine ⟨setMap w b σ M', ?_, hinx, r.setMap hb M' hin⟩
  simp only [conc, hb, Option.getD_some, Instr.mapEntry, Sem.run_bind, run_und ht, Result.andThen_ok, run_getMap h2, check_leaf hq, run_find hd k1]
  subst hM'
  subst hx
  cases p with
  | none =>
    simp only [Option.map_none, Sem.run_bind, hz1, Result.andThen_ok, run_setMap _ h2, Ab.setMap, Sem.run_pure]
    rw [← push_conc]; simp [conc, concL, intN, centry, hz3, goInt]
  | some p =>
    obtain ⟨p, u, bn⟩ := p
    obtain ⟨_, a, m2, m3⟩ := k2 p u bn rfl
    simp only [Nat.sub_zero] at m2
    have hold : (((((M.es.map (centry σ)).toArray)[p]?).map (·.key)).getD (conc σ i)) = conc σ a := by simp [m2, centry]
    have hborn : ((((M.es.map (centry σ)).toArray)[p]?).map (·.born)).getD 0 = bn := by simp [m2, centry]
    simp only [Option.map_some, Sem.run_bind, hold, stays_leaf m3, Result.andThen_ok, run_setMap _ h2, Ab.setMap, Sem.run_pure, hborn]
    rw [← modify_conc m2 (fun e => { e with key := conc σ i }) rfl]
    simp [conc, concL, intN, goInt, m2, centry]

theorem setBorn_spec : ∀ {es l : List (AV × AV × Nat)} {b : Nat} {v : AV}, setBorn es b v = some l → ∃ p a u, es[p]? = some (a, u, b) ∧ l = es.set p (a, v, b) ∧ es.findIdx? (fun e => e.2.2 == b) = some p := by
  intro es
  induction es with
  | nil => intro l b v h; simp [setBorn] at h
  | cons e es ih =>
    intro l b v h
    obtain ⟨a, u, b'⟩ := e
    simp only [setBorn, beq_eq] at h
    split at h
    · rename_i hb
      simp at hb; subst hb
      cases h
      exact ⟨0, a, u, by simp, by simp, by simp [List.findIdx?_cons]⟩
    · rename_i hb
      simp at hb
      split at h
      · rename_i l' hl
        cases h
        obtain ⟨p, a', u', h1, h2, h3⟩ := ih hl
        exact ⟨p + 1, a', u', by simpa using h1, by simp [h2], by simp [List.findIdx?_cons, hb, h3]⟩
      · cases h

theorem run_mest (r : Rel P σ s w) {t : TypeId} {m : Nat} {x v : AV} {b : Nat} (hm : In σ (.mp m)) (hx : natOf x = some b) (hv : In σ v) {M : AMap} (hM : s.maps.get m = some M) {l : List (AV × AV × Nat)} (h : setBorn M.es b v = some l) :
    ∃ w', (Instr.entryStore t (conc σ (.mp m)) (conc σ x) (conc σ v)).run P w = .ok () w' ∧ Rel P σ { s with maps := s.maps.set m ⟨l, M.clock⟩ } w' ∧ Ext σ s w σ { s with maps := s.maps.set m ⟨l, M.clock⟩ } w' := by
  simp only [In] at hm
  obtain ⟨c, hb⟩ := isSome_get hm
  obtain ⟨M₁, h1, h2, h3⟩ := r.map m c hb
  rw [hM] at h1; cases h1
  obtain ⟨p, a, u, k1, k2, k3⟩ := setBorn_spec h
  refine ⟨setMap w c σ ⟨l, M.clock⟩, ?_, r.setMap hb _ ?_⟩
  · have hf : (M.es.map (centry σ)).toArray.findIdx? (fun e => (e.born : Int) == (b : Int)) = some p := by
      rw [List.findIdx?_toArray, List.findIdx?_map]
      rw [← k3]
      congr 1
      funext e
      simp only [Function.comp, centry]
      by_cases h : e.2.2 = b
      · simp [h]
      · have h' : ¬ ((e.2.2 : Int) = (b : Int)) := by omega
        rw [beq_eq_false_iff_ne.2 h, beq_eq_false_iff_ne.2 h']
    simp only [conc, hb, Option.getD_some, Instr.entryStore, Sem.run_bind, run_getMap h2, Result.andThen_ok, run_asInt hx, hf, run_setMap _ h2, Ab.setMap]
    rw [← setM_eq _ _ _ _ k1] at k2
    rw [modify_conc (x := a) (v := v) k1 _ rfl, k2]
  · rw [k2]
    exact In_set h3 ⟨(h3 _ (List.mem_of_getElem? k1)).1, hv⟩

end
end Go.Ab
end

noncomputable section
namespace Go.Ab
section
variable {P : Program} {E : Env} {σ : Sg} {s : AS} {w : World}

/-- The array behind an append: a new version. -/
def bumpA (A : Arr) (off N : Nat) (new : List AV) : Arr := ⟨A.ver + 1, N + new.length, off, A.dv, setAll A.cells (A.ver + 1) N new⟩

theorem bump_get {A : Arr} {off N : Nat} {new : List AV} (hlo : A.lo ≤ off) (hN : off ≤ N) (hn : N ≤ A.n) (i : Nat) :
    (bumpA A off N new).get i = if off ≤ i ∧ i < N + new.length then (if h : N ≤ i ∧ i - N < new.length then some (A.ver + 1, new[i - N]'h.2) else A.get i) else none := by
  by_cases h : off ≤ i ∧ i < N + new.length
  · rw [if_pos h]
    by_cases h2 : N ≤ i
    · have h3 : i - N < new.length := by omega
      rw [dif_pos ⟨h2, h3⟩]
      simp [Arr.get, bumpA, ltb_eq, ble_eq, h, setAll_get, h2, h3]
    · have h4 : ¬ (N ≤ i ∧ i - N < new.length) := by omega
      rw [dif_neg h4]
      have e1 : (ltb i (N + new.length) && Nat.ble off i) = true := by simp [ltb_eq, ble_eq, h]
      have e2 : (ltb i A.n && Nat.ble A.lo i) = true := by simp [ltb_eq, ble_eq]; omega
      simp only [Arr.get, bumpA, e1, e2, setAll_get]
      rw [if_neg (by omega)]
  · rw [if_neg h]
    have e1 : (ltb i (N + new.length) && Nat.ble off i) = false := by
      simp only [ltb_eq, ble_eq]
      by_cases h1 : i < N + new.length
      · have : ¬ off ≤ i := fun h2 => h ⟨h2, h1⟩
        simp [this]
      · simp [h1]
    simp only [Arr.get, bumpA, e1]

theorem bump_old {A : Arr} {off N : Nat} {new : List AV} (hlo : A.lo ≤ off) (hN : off ≤ N) (hn : N ≤ A.n) {j i : Nat} {v : AV} (hj : j ≤ A.ver) (h : (bumpA A off N new).rd j i = some v) :
    off ≤ i ∧ i < N ∧ A.rd j i = some v := by
  simp only [Arr.rd, bump_get hlo hN hn] at h
  by_cases h1 : off ≤ i ∧ i < N + new.length
  · rw [if_pos h1] at h
    by_cases h2 : N ≤ i ∧ i - N < new.length
    · rw [dif_pos h2] at h
      simp only [ble_eq] at h
      have : ¬ (A.ver + 1 ≤ j) := by omega
      simp [this] at h
    · rw [dif_neg h2] at h
      exact ⟨h1.1, by omega, by simpa only [Arr.rd] using h⟩
  · rw [if_neg h1] at h; cases h

theorem bump_new {A : Arr} {off N : Nat} {new : List AV} (hlo : A.lo ≤ off) (hN : off ≤ N) (hn : N ≤ A.n) {i : Nat} {v : AV} {j : Nat} (h : (bumpA A off N new).rd j i = some v) :
    (off ≤ i ∧ i < N ∧ ∃ m, A.get i = some (m, v)) ∨ (N ≤ i ∧ new[i - N]? = some v) := by
  simp only [Arr.rd, bump_get hlo hN hn] at h
  by_cases h1 : off ≤ i ∧ i < N + new.length
  · rw [if_pos h1] at h
    by_cases h2 : N ≤ i ∧ i - N < new.length
    · rw [dif_pos h2] at h
      simp only at h
      split at h
      · cases h
        exact .inr ⟨h2.1, by rw [List.getElem?_eq_getElem h2.2]⟩
      · cases h
    · rw [dif_neg h2] at h
      split at h
      · rename_i m v' hg
        split at h
        · cases h; exact .inl ⟨h1.1, by omega, m, hg⟩
        · cases h
      · cases h
  · rw [if_neg h1] at h; cases h

theorem Rel.bump (r : Rel P σ s w) {a j off N : Nat} {A : Arr} {new : List AV} (hj : j < (σ.ar a).length) (hA : s.arrs.get a = some A) (hlo : A.lo ≤ off) (hN : off ≤ N) (hn : N ≤ A.n) (hin : InL σ new)
    {vi : VI} {w' : World} {cs : Array Value} {E' : TypeId} {fz : Nat × Nat} (hb : w'.heap[vi.blk]? = some (.cells cs E' fz)) (hen : vi.en = vi.sh + cs.size) (hfz : fine fz cs.size)
    (ho : ∀ i m v, off ≤ i → i < N → A.get i = some (m, v) → vi.sh ≤ i ∧ cs[i - vi.sh]? = some (conc σ v)) (hnw : ∀ i v, new[i]? = some v → vi.sh ≤ N + i ∧ cs[N + i - vi.sh]? = some (conc σ v))
    (hk : vi.blk = w.heap.size ∨ (vi = σ.vi a j ∧ ∀ cs₀ E₀ fz₀, w.heap[vi.blk]? = some (.cells cs₀ E₀ fz₀) → cs₀.size = cs.size ∧ ∀ i, vi.sh ≤ i → i < N → cs[i - vi.sh]? = cs₀[i - vi.sh]?))
    (hfr : ∀ b, b < w.heap.size → b ≠ vi.blk → w'.heap[b]? = w.heap[b]?) (hsz : w.heap.size ≤ w'.heap.size) (hos : w'.os = w.os) (htp : w'.tape = w.tape) (hou : w'.output = w.output) :
    Rel P (σ.addA a vi) { s with arrs := s.arrs.set a (bumpA A off N new) } w' ∧ Ext σ s w (σ.addA a vi) { s with arrs := s.arrs.set a (bumpA A off N new) } w' ∧
      (σ.addA a vi).ar a = σ.ar a ++ [vi] := by
  have hle := σ.le_addA a vi
  have hsame := Sg.addA_same σ a vi
  have hne : σ.ar a ≠ [] := List.ne_nil_of_mem (Sg.vi_mem hj)
  obtain ⟨A₀, hA₀, h2⟩ := r.arr a hne
  rw [hA] at hA₀; cases hA₀
  have hlen := h2.len
  have hmem : ∀ x u, u ∈ (σ.addA a vi).ar x → (u ∈ σ.ar x) ∨ (x = a ∧ u = vi) := by
    intro x u hu
    by_cases hx : x = a
    · subst hx
      rw [hsame] at hu
      rcases List.mem_append.1 hu with hu | hu
      · exact .inl hu
      · simp at hu; exact .inr ⟨rfl, hu⟩
    · rw [Sg.addA_ne _ _ hx] at hu; exact .inl hu
  have hlt : ∀ x u, u ∈ σ.ar x → u.blk < w.heap.size := fun x u hu => r.blk_lt (.inl ⟨x, u, hu, rfl⟩)
  -- a block that is the new version's is an old one of the same array, or new
  have hblk : ∀ x u, u ∈ σ.ar x → u.blk = vi.blk → x = a ∧ vi = σ.vi a j := by
    intro x u hu he
    rcases hk with hk | ⟨hk, _⟩
    · have := hlt x u hu; omega
    · exact ⟨r.inj x a u (σ.vi a j) hu (Sg.vi_mem hj) (by rw [he, hk]), hk⟩
  have hother : ∀ b, img σ b → b ≠ vi.blk → w'.heap[b]? = w.heap[b]? := fun b hb hne => hfr b (r.blk_lt hb) hne
  have hcells : ∀ o, (∀ c E f, o ≠ Obj.cells c E f) → ∀ b, w.heap[b]? = some o → img σ b → b ≠ vi.blk := by
    intro o ho b hbo hib e
    rcases hk with hk | ⟨hk, _⟩
    · have := r.blk_lt hib; omega
    · obtain ⟨A₁, cs₁, E₁, fz₁, _, _, q, _⟩ := r.at hj
      rw [e, hk, q] at hbo
      cases hbo
      exact ho _ _ _ rfl
  refine ⟨?_, ?_, hsame⟩
  · constructor
    · intro x
      by_cases hx : x = a
      · subst hx
        intro _
        refine ⟨bumpA A off N new, by simp, ?_⟩
        rw [hsame]
        refine ⟨by simp [hlen, bumpA], ?_, ?_, ?_, ?_⟩
        · intro i hi1 hi2
          simp only [bumpA] at hi1 hi2
          rw [bump_get hlo hN hn, if_pos ⟨hi1, hi2⟩]
          by_cases h3 : N ≤ i ∧ i - N < new.length
          · rw [dif_pos h3]; exact ⟨_, _, rfl, Nat.le_refl _⟩
          · rw [dif_neg h3]
            obtain ⟨m, v, h4, h5⟩ := h2.full i (by omega) (by omega)
            exact ⟨m, v, h4, by simp only [bumpA]; omega⟩
        · intro u u' hu hu' he
          rcases hmem x u (by rw [hsame]; exact hu) with h3 | ⟨_, e1⟩ <;> rcases hmem x u' (by rw [hsame]; exact hu') with h4 | ⟨_, e2⟩
          · exact h2.shs u u' h3 h4 he
          · rw [e2] at he ⊢
            obtain ⟨_, q⟩ := hblk x u h3 he
            rw [q] at he ⊢; exact h2.shs u _ h3 (Sg.vi_mem hj) he
          · rw [e1] at he ⊢
            obtain ⟨_, q⟩ := hblk x u' h4 he.symm
            rw [q] at he ⊢; exact h2.shs _ u' (Sg.vi_mem hj) h4 he
          · rw [e1, e2]
        · intro j' i v hv
          refine (conc_le hle v ?_).2
          rcases bump_new hlo hN hn hv with ⟨_, _, m, h3⟩ | ⟨_, h3⟩
          · obtain ⟨m', v', h4, h5⟩ := h2.full i (by omega) (by omega)
            rw [h3] at h4; cases h4
            exact h2.inn A.ver i v (by simp [Arr.rd, h3, ble_eq, h5])
          · exact (InL_iff σ _).1 hin v (List.mem_of_getElem? h3)
        · intro j' u hju
          by_cases hj' : j' < (σ.ar x).length
          · rw [List.getElem?_append_left hj'] at hju
            have humem := List.mem_of_getElem? hju
            obtain ⟨cs', E₁, fz', q1, q2, q3, q4⟩ := h2.blk j' u hju
            by_cases hub : u.blk = vi.blk
            · obtain ⟨_, hvi⟩ := hblk x u humem hub
              have hsh : u.sh = vi.sh := by rw [hvi] at hub ⊢; exact h2.shs u _ humem (Sg.vi_mem hj) hub
              rcases hk with hk | ⟨_, hk⟩
              · have := hlt x u humem; omega
              · obtain ⟨k1, k2⟩ := hk cs' E₁ fz' (by rw [← hub]; exact q1)
                refine ⟨cs, E', fz, by rw [hub]; exact hb, by rw [q2, k1], hfz, ?_⟩
                intro i v hv
                obtain ⟨b1, b2, b3⟩ := bump_old hlo hN hn (by omega) hv
                obtain ⟨b4, b5⟩ := q4 i v b3
                refine ⟨b4, ?_⟩
                rw [hsh, k2 i (by omega) b2, ← hsh, b5, (conc_le hle v (h2.inn _ _ _ b3)).1]
            · refine ⟨cs', E₁, fz', by rw [hother _ (.inl ⟨x, u, humem, rfl⟩) hub]; exact q1, q2, q3, ?_⟩
              intro i v hv
              obtain ⟨b1, b2, b3⟩ := bump_old hlo hN hn (by omega) hv
              obtain ⟨b4, b5⟩ := q4 i v b3
              exact ⟨b4, by rw [b5, (conc_le hle v (h2.inn _ _ _ b3)).1]⟩
          · rw [List.getElem?_append_right (by omega)] at hju
            have : j' - (σ.ar x).length = 0 := by
              rcases Nat.eq_zero_or_pos (j' - (σ.ar x).length) with h | h
              · exact h
              · rw [List.getElem?_eq_none (by simp; omega)] at hju; cases hju
            rw [this] at hju
            simp at hju; subst hju
            refine ⟨cs, E', fz, hb, hen, hfz, ?_⟩
            intro i v hv
            rcases bump_new hlo hN hn hv with ⟨b1, b2, m, h3⟩ | ⟨b1, h3⟩
            · obtain ⟨m', v', h4, h5⟩ := h2.full i (by omega) (by omega)
              rw [h3] at h4; cases h4
              obtain ⟨b4, b5⟩ := ho i m v b1 b2 h3
              exact ⟨b4, by rw [b5, (conc_le hle v (h2.inn A.ver i v (by simp [Arr.rd, h3, ble_eq, h5]))).1]⟩
            · obtain ⟨b4, b5⟩ := hnw (i - N) v h3
              rw [show N + (i - N) = i from by omega] at b4 b5
              exact ⟨b4, by rw [b5, (conc_le hle v ((InL_iff σ _).1 hin v (List.mem_of_getElem? h3))).1]⟩
      · exact (r.arr x).mono hle (Sg.addA_ne _ _ hx) (Tr.get_set_ne _ _ hx) fun u hu => hother _ (.inl ⟨x, u, hu, rfl⟩) fun e => hx (hblk x u hu e).1
    · intro x y u u' hu hu' he
      rcases hmem x u hu with h1 | ⟨e1, e2⟩ <;> rcases hmem y u' hu' with h3 | ⟨e3, e4⟩
      · exact r.inj x y u u' h1 h3 he
      · rw [e3]; exact (hblk x u h1 (by rw [he, e4])).1
      · rw [e1]; exact (hblk y u' h3 (by rw [← he, e2])).1.symm
      · rw [e1, e3]
    · intro m
      refine (r.map m).mono hle rfl rfl fun b hb' => ?_
      obtain ⟨M, _, hM, _⟩ := r.map m b hb'
      exact hother b (.inr (.inl ⟨m, hb'⟩)) (hcells _ (by intro _ _ _ h; cases h) b hM (.inr (.inl ⟨m, hb'⟩)))
    · exact r.minj
    · intro l
      refine (r.lop l).mono hle rfl rfl fun b hb' => ?_
      obtain ⟨L, _, hL⟩ := r.lop l b hb'
      obtain ⟨N', fn, tmps, asn, body, d, hL1, _⟩ := hL.ex
      exact hother b (.inr (.inr ⟨l, hb'⟩)) (hcells _ (by intro _ _ _ h; cases h) b hL1 (.inr (.inr ⟨l, hb'⟩)))
    · exact r.linj
    · intro x hx
      have : x ≠ a := by rintro rfl; exact hne (r.na x hx)
      rw [Sg.addA_ne _ _ this]; exact r.na x hx
    · exact r.nm
    · exact r.nl
    · exact r.opq
    · refine ⟨fun x hx => ?_, r.wf.map⟩
      have : x ≠ a := by rintro rfl; exact hne (r.na x hx)
      simp only; rw [Tr.get_set_ne _ _ this]; exact r.wf.arr x hx
  · refine ⟨hle, ?_, ?_, hsz, hos, htp, hou, Nat.le_refl _, Nat.le_refl _, Nat.le_refl _, ?_, fun _ _ h => ⟨rfl, h⟩⟩
    · rintro b (⟨x, u, hu, rfl⟩ | h | h)
      · rcases hmem x u hu with hu | ⟨rfl, rfl⟩
        · exact .inl (.inl ⟨x, u, hu, rfl⟩)
        · rcases hk with hk | ⟨hk, _⟩
          · exact .inr (by omega)
          · exact .inl (.inl ⟨x, _, Sg.vi_mem hj, by rw [hk]⟩)
      · exact .inl (.inr (.inl h))
      · exact .inl (.inr (.inr h))
    · intro b hb1 hb2
      refine hfr b hb1 fun e => ?_
      rcases hk with hk | ⟨hk, _⟩
      · omega
      · exact hb2 (.inl ⟨a, _, Sg.vi_mem hj, by rw [e, hk]⟩)
    · intro x _ hx
      have : x ≠ a := by rintro rfl; exact hne hx
      exact ⟨Tr.get_set_ne _ _ this, by rw [Sg.addA_ne _ _ this]; exact hx⟩

end
end Go.Ab
end

noncomputable section
namespace Go.Ab
section
variable {P : Program} {E : Env} {σ : Sg} {s : AS} {w : World}

theorem add_plain (b o n : Nat) : (⟨b, o, none⟩ : Addr).add n = ⟨b, o + n, none⟩ := by
  simp only [Addr.add]
  split
  · rename_i h; subst h; rfl
  · rfl

/-- A row of cells stored in a block. -/
theorem storeRow_run {b o₀ : Nat} {E' : TypeId} {fz : Nat × Nat} : ∀ (vals : List Value) (k : Nat) (w : World) (cs : Array Value), w.heap[b]? = some (.cells cs E' fz) → fine fz cs.size → o₀ + k + vals.length ≤ cs.size → (∀ v ∈ vals, v.oneCell' = true) →
    ∃ w' cs', (storeCells ⟨b, o₀, none⟩ vals k).run P w = .ok () w' ∧ w'.heap[b]? = some (.cells cs' E' fz) ∧ cs'.size = cs.size ∧ (∀ i, cs'[i]? = if o₀ + k ≤ i ∧ i < o₀ + k + vals.length then vals[i - (o₀ + k)]? else cs[i]?) ∧
      (∀ c, c ≠ b → w'.heap[c]? = w.heap[c]?) ∧ w'.heap.size = w.heap.size ∧ w'.os = w.os ∧ w'.tape = w.tape ∧ w'.output = w.output := by
  intro vals
  induction vals with
  | nil =>
    intro k w cs h _ _ _
    refine ⟨w, cs, by simp [storeCells], h, rfl, fun i => ?_, fun _ _ => rfl, rfl, rfl, rfl, rfl⟩
    rw [if_neg (by simp)]
  | cons v vals ih =>
    intro k w cs h hf hl h1
    simp only [List.length_cons] at hl
    have hin : o₀ + k < cs.size := by omega
    have hcell : w.cell? ⟨b, o₀ + k, none⟩ = some cs[o₀ + k] := by simp [World.cell?, h, hin]
    have hfr : w.frozen? ⟨b, o₀ + k, none⟩ = false := by
      simp only [World.frozen?, h]
      rcases hf with rfl | hf
      · simp
      · have h9 : ¬ fz.1 ≤ o₀ + k := by omega
        simp [h9]
    have hst : (store ⟨b, o₀ + k, none⟩ v).run P w = .ok () (w.setCell ⟨b, o₀ + k, none⟩ v) := by
      rw [run_store P w _ _ _ (h1 v (List.mem_cons_self ..)), hcell]; simp [hfr]
    have h2 := heap_setCell_eq w b (o₀ + k) v h
    obtain ⟨w', cs', k1, k2, k3, k4, k5, k6, k7, k8, k9⟩ := ih (k + 1) (w.setCell ⟨b, o₀ + k, none⟩ v) _ h2 (by simpa using hf) (by simp; omega) (fun x hx => h1 x (List.mem_cons_of_mem _ hx))
    refine ⟨w', cs', ?_, k2, by simpa using k3, ?_, ?_, by simpa using k6, k7, k8, k9⟩
    · simp only [storeCells, Sem.run_bind, add_plain, hst, Result.andThen_ok]; exact k1
    · intro i
      rw [k4 i]
      by_cases hi : i = o₀ + k
      · subst hi
        rw [if_neg (by omega), if_pos (by simp)]
        simp [hin]
      · by_cases h3 : o₀ + (k + 1) ≤ i ∧ i < o₀ + (k + 1) + vals.length
        · rw [if_pos h3, if_pos (by simp; omega)]
          rw [show i - (o₀ + k) = (i - (o₀ + (k + 1))) + 1 from by omega]
          simp
        · rw [if_neg h3, if_neg (by simp; omega), Array.getElem?_setIfInBounds_ne (by omega)]
    · intro c hc
      rw [k5 c hc, heap_setCell_ne w _ _ hc]

theorem lenOf_run {y : AV} {n : Nat} (h : lenAV s y = some n) (hy : ∀ m, y ≠ .mp m) (hn : y ≠ .nilm) : (Builtin.lenOf (conc σ y)).run P w = .ok n w := by
  unfold lenAV at h
  split at h
  all_goals (first | (cases h; simp [conc, Builtin.lenOf]; done) | (exact absurd rfl hn) | (exact absurd rfl (hy _)) | cases h)

theorem src_run (r : Rel P σ s w) {es n : Nat} {y : AV} {l : List AV} (hy : In σ y) (h : srcCells s es n y = some l) (hn : y = .nils ∨ (∃ a j o l e, y = .tail a j o l e) → n = 0) : (Builtin.firstCells es n (conc σ y)).run P w = .ok (concL σ l).toArray w ∧ InL σ l := by
  unfold srcCells at h
  split at h
  · cases h
    simp [conc, Builtin.firstCells, concL, InL]
  · cases h
    obtain rfl := hn (.inr ⟨_, _, _, _, _, rfl⟩)
    simp [conc, Builtin.firstCells, concL, InL, loadCells, loadCellsFrom]
  · rename_i a j o len c
    have hin : j < (σ.ar a).length ∧ (σ.vi a j).sh ≤ o := by
      cases c <;> (simp only [In] at hy; exact ⟨hy.1, hy.2.1⟩)
    rw [beq_eq] at h
    split at h
    · rename_i h0
      simp at h0; subst h0
      cases h
      simp [conc, Builtin.firstCells, concL, InL, loadCells, loadCellsFrom]
    · obtain ⟨h1, h2, h3⟩ := r.rdN hin.1 hin.2 h
      simp only [conc, Builtin.firstCells]
      exact ⟨h1, h2⟩
  · rename_i b
    cases h
    refine ⟨?_, ?_⟩
    · simp only [conc, Builtin.firstCells, Sem.run_pure]
      congr 1
      apply Array.ext'
      simp only [Array.toList_map, concL_eq, List.map_map]
      have : (b.extract 0 n).data.toList = b.toList.take n := by
        rw [ByteArray.toList_eq b]
        simp [ByteArray.data_extract]
      rw [this]
      rfl
    · rw [InL_iff]
      intro v hv
      obtain ⟨x, _, rfl⟩ := List.mem_map.1 hv
      trivial
  · cases h

theorem allLeaf_mem {l : List AV} (h : allLeaf l = true) : ∀ v ∈ l, leaf v = true := by
  induction l with
  | nil => intro v hv; cases hv
  | cons x l ih =>
    simp only [allLeaf] at h
    split at h
    · rename_i hx
      intro v hv
      cases hv with
      | head => exact hx
      | tail _ hv => exact ih h v hv
    · cases h

theorem leaf_cells (r : Rel P σ s w) {l : List AV} (h : allLeaf l = true) : ∀ v ∈ concL σ l, v.oneCell' = true := by
  intro v hv
  rw [concL_eq] at hv
  obtain ⟨x, hx, rfl⟩ := List.mem_map.1 hv
  exact oneCell_conc r (allLeaf_mem h x hx)


theorem app_fit {sT xT elem type : TypeId} {u : TypeDesc} {es n : Nat} {X : Value} {new : Array Value} (hsl : P.underlying sT = some (.slice elem)) (hes : tsize P.toTables elem = some es) (hu : P.underlying xT = some u) (hk : ∀ k, u ≠ .int k)
    (h1 : (Builtin.lenOf X).run P w = .ok n w) (h2 : (Builtin.firstCells es n X).run P w = .ok new w) {base : Option Addr} {len cap : Nat} (hc : len + n ≤ cap) {w' : World}
    (hs : base = none ∧ w' = w ∨ ∃ a, base = some a ∧ (storeCells (a.add (len * es)) new.toList).run P w = .ok () w') :
    (Builtin.append_ #[sT, xT] type #[.slice base len cap, X]).run P w = .ok (.slice base (len + n) cap) w' := by
  simp only [Builtin.append_, List.getElem?_toArray, List.getElem?_cons_zero, List.getElem?_cons_succ, Sem.run_bind, run_und hsl, run_und hu, Result.andThen_ok, run_size hes, Sem.run_pure]
  simp only [Bool.false_eq_true, if_false, Sem.run_bind, h1, Result.andThen_ok, if_pos hc, Bool.not_false, if_true, h2]
  rcases hs with ⟨rfl, rfl⟩ | ⟨a, rfl, hs⟩
  · simp
  · simp [hs]

theorem nextcap_ok {need cap bytes : Nat} (h : sane need bytes = true) (hc : cap < need) : ¬ Builtin.nextslicecap need cap * bytes > 2 ^ 48 := by
  have h1 := nextslicecap_le_wide hc
  have h2 := sane_spec h
  have h3 : Builtin.nextslicecap need cap * bytes ≤ (need + need / 4 + 192) * bytes := Nat.mul_le_mul_right _ h1
  have h4 : (need + need / 4 + 192) * bytes ≤ (194 * need) * bytes := Nat.mul_le_mul_right _ (by omega)
  have h5 : (194 * need) * bytes = 194 * (need * bytes) := Nat.mul_assoc ..
  have h6 : need * (bytes + 1) = need * bytes + need := Nat.mul_succ ..
  omega

theorem app_grow {sT xT elem type : TypeId} {u : TypeDesc} {es bytes n : Nat} {X : Value} {old new : Array Value} {zero : Value} (hsl : P.underlying sT = some (.slice elem)) (hes : tsize P.toTables elem = some es) (hby : tbytes P.toTables elem = some bytes) (hu : P.underlying xT = some u) (hk : ∀ k, u ≠ .int k)
    (h1 : (Builtin.lenOf X).run P w = .ok n w) {base : Option Addr} {len cap : Nat} (hc : ¬ len + n ≤ cap) (hsane : sane (len + n) bytes = true)
    (ho : (Builtin.firstCells es len (.slice base len cap)).run P w.drew = .ok old w.drew) (h2 : (Builtin.firstCells es n X).run P w.drew = .ok new w.drew) (hz : (zeroValue elem).run P w.drew = .ok zero w.drew) :
    ∃ c, len + n ≤ c ∧ (Builtin.append_ #[sT, xT] type #[.slice base len cap, X]).run P w =
      .ok (.slice (some ⟨w.heap.size, 0, none⟩) (len + n) c) (w.drew.alloc (.cells (old ++ new ++ Builtin.zeroCells zero.cells (c - (len + n))) elem)) := by
  refine ⟨(Question.appendCap (len + n) cap elem).cut (w.tape w.drawn (.appendCap (len + n) cap elem)), by simp [Question.cut], ?_⟩
  obtain ⟨i, hi1, hi2⟩ := tbytes_some hby
  have hmax : ¬ (((len + n : Nat) : Int) > IntKind.i64.max ∧ (false = true ∨ bytes = 0)) := by
    have := sane_spec hsane
    have h6 : (len + n) * (bytes + 1) = (len + n) * bytes + (len + n) := Nat.mul_succ ..
    have : IntKind.i64.max = 9223372036854775807 := by decide
    rw [this]
    rintro ⟨h, _⟩
    omega
  have hnext := nextcap_ok hsane (by omega : cap < len + n)
  simp only [Builtin.append_, List.getElem?_toArray, List.getElem?_cons_zero, List.getElem?_cons_succ, Sem.run_bind, run_und hsl, run_und hu, Result.andThen_ok, run_size hes, Sem.run_pure]
  simp only [Bool.false_eq_true, if_false, Sem.run_bind, h1, Result.andThen_ok, if_neg hc, run_tinfo hi1, hi2]
  simp only [Bool.false_eq_true] at hmax
  rw [if_neg hmax]
  simp only [Sem.run_bind, run_tinfo hi1, hi2, Result.andThen_ok]
  rw [if_neg hnext]
  simp only [Sem.run_bind, run_choose, Question.forced, Bool.false_eq_true, if_false, Result.andThen_ok, run_tinfo hi1, run_askRoom, ho, Bool.not_false, if_true, h2, hz, newRow, run_newObj, Sem.run_pure]
  simp [ho, h2, hz]


theorem fresh_sound (r : Rel P σ s w) {es len c : Nat} {l : List AV} {elem : TypeId} {rest : Array Value} (hin : InL σ l) (hl : l.length = len * es) (hes : 1 ≤ es) (hc : len ≤ c) (hr : l.length + rest.size = c * es) {v : AV} {s₁ : AS} (h : freshSl s es l len = (v, s₁)) :
    ∃ σ' w', Result.ok (Next.value (Value.slice (some ⟨w.heap.size, 0, none⟩) len c)) (w.drew.alloc (.cells ((concL σ l).toArray ++ rest) elem)) = .ok (.value (conc σ' v)) w' ∧ Rel P σ' s₁ w' ∧ In σ' v ∧ Ext σ s w σ' s₁ w' := by
  simp only [freshSl, AS.new] at h
  cases h
  obtain ⟨k1, k2, k3⟩ := r.drew.newA (rowOf l) ((concL σ l).toArray ++ rest) elem (0, 0) rfl (rowOf_full l) (by
    intro j i v hv; rw [rowOf_rd] at hv; exact (InL_iff σ l).1 hin v (List.mem_of_getElem? hv)) (.inl rfl) (by
    intro i v hv
    rw [rowOf_rd] at hv
    have hlt : i < l.length := by
      rcases Nat.lt_or_ge i l.length with h | h
      · exact h
      · rw [List.getElem?_eq_none h] at hv; cases hv
    rw [Array.getElem?_append_left (by simp [concL_eq, hlt])]
    simp [concL_eq, hv])
  have hs : ((concL σ l).toArray ++ rest).size = c * es := by simp [concL_length, hr]
  obtain ⟨k4, k5⟩ := sl_rest k3 hs hc hes
  have k4' : Value.slice (some ⟨w.heap.size, 0, none⟩) len c = _ := k4
  exact ⟨_, _, by rw [← k4'], k1, k5, (Ext.drew σ s w).trans k2⟩

theorem zeroCells_size (z : Array Value) (n : Nat) : (Builtin.zeroCells z n).size = n * z.size := by simp [Builtin.zeroCells]

theorem oldOk_spec {A : Arr} {j : Nat} : ∀ {n i : Nat}, oldOk A j i n = true → ∀ q, q < n → ∃ v, A.rd j (i + q) = some v := by
  intro n
  induction n with
  | zero => intro i _ q hq; omega
  | succ n ih =>
    intro i h q hq
    simp only [oldOk] at h
    split at h
    · rename_i v hv
      cases q with
      | zero => exact ⟨v, hv⟩
      | succ q =>
        obtain ⟨u, hu⟩ := ih h q (by omega)
        exact ⟨u, by rw [← hu]; congr 1; omega⟩
    · cases h

theorem rdN_ex {A : Arr} {j : Nat} : ∀ {n i : Nat}, (∀ q, q < n → ∃ v, A.rd j (i + q) = some v) → ∃ l, rdN A j i n = some l := by
  intro n
  induction n with
  | zero => intro i _; exact ⟨[], rfl⟩
  | succ n ih =>
    intro i h
    obtain ⟨v, hv⟩ := h 0 (by omega)
    obtain ⟨l, hl⟩ := ih (i := i + 1) fun q hq => by
      obtain ⟨u, hu⟩ := h (q + 1) (by omega)
      exact ⟨u, by rw [← hu]; congr 1; omega⟩
    exact ⟨v :: l, by simp only [rdN]; rw [show A.rd j i = some v from hv, hl]⟩

/-- append of cells. -/
theorem sim_app (r : Rel P σ s w) {sT xT elem type : TypeId} {u : TypeDesc} {es bytes k : Nat} {x y : AV} {new z : List AV} (hsl : P.underlying sT = some (.slice elem)) (hes : tsize P.toTables elem = some es) (hby : tbytes P.toTables elem = some bytes)
    (hz : tzeros P.toTables elem = some z) (h1 : 1 ≤ es) (hzl : z.length = es) (hu : P.underlying xT = some u) (hk : ∀ k, u ≠ .int k) (hx : In σ x) (hy : In σ y)
    (hlen : (Builtin.lenOf (conc σ y)).run P w = .ok k w) (hsrc : ∀ w', Rel P σ s w' → (Builtin.firstCells es k (conc σ y)).run P w' = .ok (concL σ new).toArray w') (hnew : InL σ new) {v : AV} {s₁ : AS} (h : appAV s es bytes k new x = some (v, s₁)) :
    ∃ σ' w', (do pure (Next.value (← Builtin.append_ #[sT, xT] type #[conc σ x, conc σ y])) : Sem Next).run P w = .ok (.value (conc σ' v)) w' ∧ Rel P σ' s₁ w' ∧ In σ' v ∧ Ext σ s w σ' s₁ w' := by
  unfold appAV at h
  split at h
  · rename_i hc
    simp only [Bool.and_eq_true, beq_eq, decide_eq_true_eq] at hc
    obtain ⟨hnl, hlf⟩ := hc
    obtain ⟨zv, z1, z2, z3⟩ := tzeros_some (w := w.drew) r.drew hz
    have zs : zv.cells.size = es := by rw [z2]; simp [concL_length, hzl]
    have d1 := hsrc _ r
    have d2 := hsrc _ r.drew
    have fit : ∀ {base : Option Addr} {len cap : Nat}, conc σ x = .slice base len cap → len + k ≤ cap → ∀ {w' : World}, (base = none ∧ w' = w ∨ ∃ a, base = some a ∧ (storeCells (a.add (len * es)) (concL σ new)).run P w = .ok () w') →
        (do pure (Next.value (← Builtin.append_ #[sT, xT] type #[conc σ x, conc σ y])) : Sem Next).run P w = .ok (.value (.slice base (len + k) cap)) w' := by
      intro base len cap hX hc w' hs
      rw [run_v, hX, app_fit (type := type) hsl hes hu hk hlen d1 hc (by simpa using hs)]; rfl
    have grow : ∀ {base : Option Addr} {len cap : Nat} {old : List AV}, conc σ x = .slice base len cap → ¬ len + k ≤ cap → sane (len + k) bytes = true → (Builtin.firstCells es len (.slice base len cap)).run P w.drew = .ok (concL σ old).toArray w.drew → InL σ old → old.length = len * es →
        ∃ c rest, len + k ≤ c ∧ (old ++ new).length + rest.size = c * es ∧
        (do pure (Next.value (← Builtin.append_ #[sT, xT] type #[conc σ x, conc σ y])) : Sem Next).run P w = .ok (.value (.slice (some ⟨w.heap.size, 0, none⟩) (len + k) c)) (w.drew.alloc (.cells ((concL σ (old ++ new)).toArray ++ rest) elem)) := by
      intro base len cap old hX hc hsn ho hio hol
      obtain ⟨c, c1, c2⟩ := app_grow (type := type) hsl hes hby hu hk hlen hc hsn ho d2 z1
      refine ⟨c, Builtin.zeroCells zv.cells (c - (len + k)), c1, ?_, ?_⟩
      · rw [zeroCells_size, zs, List.length_append, hol, hnl, ← Nat.add_mul, ← Nat.add_mul]
        congr 1; omega
      · rw [run_v, hX, c2]
        have : (concL σ (old ++ new)).toArray = (concL σ old).toArray ++ (concL σ new).toArray := by simp [concL_eq]
        rw [this]; rfl
    unfold appTo at h
    split at h
    · -- nil
      rw [beq_eq] at h
      split at h
      · rename_i hk0
        simp at hk0; subst hk0
        cases h
        refine ⟨σ, w, ?_, r, trivial, .refl _ _ _⟩
        rw [fit (base := none) (len := 0) (cap := 0) rfl (Nat.le_refl _) (.inl ⟨rfl, rfl⟩)]; rfl
      · rename_i hk0
        simp at hk0
        split at h
        · rename_i hc
          simp only [Bool.and_eq_true] at hc
          cases h
          obtain ⟨c, rest, c1, c2, c3⟩ := grow (base := none) (len := 0) (cap := 0) (old := []) rfl (by omega) (by simpa using hc.1) (by simp [Builtin.firstCells, concL]) trivial (by simp)
          simp only [Nat.zero_add, List.nil_append] at c1 c2 c3
          rw [c3]
          exact fresh_sound r hnew hnl h1 c1 c2 rfl
        · cases h
    · -- a known capacity
      rename_i a j off len c
      split at h
      · cases h
      · rename_i hc
        simp only [Bool.and_eq_true] at hc
        simp only [In] at hx
        rw [ble_eq] at h
        split at h
        · rename_i hle
          simp at hle
          split at h
          · rename_i s' hs'
            cases h
            obtain ⟨w', q1, q2, q3⟩ := r.wrN (k := 0) (i₀ := off + len * es) hx.1 (by omega) hnew hs'
            refine ⟨σ, w', ?_, q2, by simp only [In]; exact ⟨hx.1, hx.2.1, hle⟩, q3⟩
            rw [fit (base := some (σ.adr a j off)) (len := len) (cap := c) rfl hle (.inr ⟨_, rfl, by rw [adr_add hx.2.1]; exact q1⟩)]
            simp [conc, Sg.cap]
          · cases h
        · rename_i hle
          simp at hle
          split at h
          · rename_i old hold
            cases h
            obtain ⟨q1, q2, q3⟩ := r.drew.rdN hx.1 hx.2.1 hold
            obtain ⟨c', rest, c1, c2, c3⟩ := grow (base := some (σ.adr a j off)) (len := len) (cap := c) (old := old) rfl (by omega) hc.1 (by simp only [Builtin.firstCells]; exact q1) q2 q3
            rw [c3]
            exact fresh_sound r ((InL_iff σ _).2 fun v hv => (List.mem_append.1 hv).elim ((InL_iff σ _).1 q2 v) ((InL_iff σ _).1 hnew v)) (by rw [List.length_append, q3, hnl, Nat.add_mul]) h1 c1 c2 rfl
          · cases h
    · -- a capacity that is what is left
      rename_i a j off len es'
      have hx' := hx
      simp only [In] at hx
      obtain ⟨hj, hsh, hen, hes1⟩ := hx
      have hcapd : ∀ q, q ≤ ((σ.vi a j).en - off) / es' ↔ q * es' ≤ (σ.vi a j).en - off := fun q => Nat.le_div_iff_mul_le (by omega)
      have hX : conc σ (.sl a j off len (.rest es')) = .slice (some (σ.adr a j off)) len (((σ.vi a j).en - off) / es') := rfl
      rw [beq_eq] at h
      split at h
      · rename_i hk0
        simp at hk0; subst hk0
        obtain rfl : new = [] := List.eq_nil_of_length_eq_zero (by simpa using hnl)
        cases h
        refine ⟨σ, w, ?_, r, hx', .refl _ _ _⟩
        rw [fit hX (by rw [Nat.add_zero, hcapd]; omega) (w' := w) (.inr ⟨_, rfl, by simp [concL, storeCells]⟩)]
        rfl
      · rename_i hk0
        simp at hk0
        split at h
        · cases h
        · rename_i hc
          simp only [Bool.and_eq_true, beq_eq, decide_eq_true_eq] at hc
          obtain ⟨hee, hsn, _⟩ := hc
          subst hee
          split at h
          · cases h
          · rename_i A hA
            split at h
            · cases h
            · rename_i hc
              simp only [Bool.and_eq_true, Bool.or_eq_true, beq_eq, ble_eq, decide_eq_true_eq] at hc
              obtain ⟨hold, hlo, hn⟩ := hc
              cases h
              obtain ⟨A₀, cs, E', fz, a1, a2, a3, a4, a5, a6⟩ := r.at hj
              rw [hA] at a1; cases a1
              have hrd : ∀ i m v, off ≤ i → i < off + len * es → A.get i = some (m, v) → A.rd j i = some v := by
                intro i m v h1 h2 h3
                rcases hold with h4 | h4
                · obtain ⟨m', v', q1, q2⟩ := a2.full i (by omega) (by omega)
                  rw [h3] at q1; cases q1
                  simp [Arr.rd, h3, ble_eq, h4, q2]
                · obtain ⟨u, hu⟩ := oldOk_spec h4 (i - off) (by omega)
                  rw [show off + (i - off) = i from by omega] at hu
                  simp only [Arr.rd, h3] at hu ⊢
                  split at hu
                  · rename_i hb; simp [hb]
                  · cases hu
              have hlen : (σ.ar a).length = A.ver + 1 := a2.len
              have hmul : (len + k) * es = len * es + k * es := Nat.add_mul ..
              by_cases hle : len + k ≤ ((σ.vi a j).en - off) / es
              · have hle' := (hcapd _).1 hle
                obtain ⟨w', cs', b1, b2, b3, b4, b5, b6, b7, b8, b9⟩ := storeRow_run (P := P) (b := (σ.vi a j).blk) (o₀ := off + len * es - (σ.vi a j).sh) (concL σ new) 0 w cs a3 a5 (by rw [concL_length, hnl]; omega) (leaf_cells r hlf)
                have hB := r.bump (a := a) (j := j) (off := off) (N := off + len * es) (new := new) hj hA hlo (by omega) hn hnew (vi := σ.vi a j) (w' := w') (cs := cs') (E' := E') (fz := fz) b2 (by rw [b3]; exact a4) (by rw [b3]; exact a5) ?_ ?_ (.inr ⟨rfl, ?_⟩) (fun c _ hc => b5 c hc) (by omega) b7 b8 b9
                · obtain ⟨k1, k2, k3⟩ := hB
                  have hvi : (σ.addA a (σ.vi a j)).vi a (A.ver + 1) = σ.vi a j := by
                    have e : ((σ.addA a (σ.vi a j)).ar a)[A.ver + 1]? = some (σ.vi a j) := by rw [k3, ← hlen]; simp
                    show (((σ.addA a (σ.vi a j)).ar a)[A.ver + 1]?).getD ⟨0, 0, 0⟩ = σ.vi a j
                    rw [e]; rfl
                  refine ⟨_, w', ?_, k1, ?_, k2⟩
                  · rw [fit hX hle (.inr ⟨_, rfl, by rw [adr_add hsh]; exact b1⟩)]
                    simp only [conc, Sg.adr, Sg.cap, hvi]
                  · simp only [In, hvi, k3]
                    refine ⟨by simp [hlen], hsh, by omega, h1⟩
                · intro i m v h1 h2 h3
                  obtain ⟨q1, q2⟩ := a6 i v (hrd i m v h1 h2 h3)
                  exact ⟨q1, by rw [b4, if_neg (by omega)]; exact q2⟩
                · intro i v hv
                  have hlt : i < new.length := by
                    rcases Nat.lt_or_ge i new.length with h | h
                    · exact h
                    · rw [List.getElem?_eq_none h] at hv; cases hv
                  refine ⟨by omega, ?_⟩
                  rw [b4, if_pos (by rw [concL_length]; omega), show off + len * es + i - (σ.vi a j).sh - (off + len * es - (σ.vi a j).sh + 0) = i from by omega, concL_eq, List.getElem?_map, hv]
                  rfl
                · intro cs₀ E₀ fz₀ h0
                  rw [a3] at h0; cases h0
                  exact ⟨b3.symm, fun i h1 h2 => by rw [b4, if_neg (by omega)]⟩
              · obtain ⟨old, hold'⟩ := rdN_ex (A := A) (j := j) (i := off) (n := len * es) (fun q hq => by
                  obtain ⟨m, v, q1, _⟩ := a2.full (off + q) (by omega) (by omega)
                  exact ⟨v, hrd _ m v (by omega) (by omega) q1⟩)
                have hold2 : s.rdN a j off (len * es) = some old := by simp only [AS.rdN, hA]; exact hold'
                obtain ⟨q1, q2, q3⟩ := r.drew.rdN hj hsh hold2
                obtain ⟨_, q4⟩ := Ab.rdN_spec hold'
                obtain ⟨c, rest, c1, c2, c3⟩ := grow hX hle hsn (by simp only [Builtin.firstCells]; exact q1) q2 q3
                have hsz : ((concL σ (old ++ new)).toArray ++ rest).size = c * es := by simp [concL_length]; simpa using c2
                have hck : (len + k) * es ≤ c * es := Nat.mul_le_mul_right _ c1
                have hB := r.drew.bump (a := a) (j := j) (off := off) (N := off + len * es) (new := new) hj hA hlo (by omega) hn hnew (vi := ⟨w.heap.size, off, off + c * es⟩)
                  (w' := w.drew.alloc (.cells ((concL σ (old ++ new)).toArray ++ rest) elem)) (cs := (concL σ (old ++ new)).toArray ++ rest) (E' := elem) (fz := (0, 0)) (heap_alloc_new w.drew _) (by rw [hsz]) (.inl rfl) ?_ ?_ (.inl rfl)
                  (fun b hb _ => heap_alloc w.drew _ hb) (by simp [World.alloc]) rfl rfl rfl
                · obtain ⟨k1, k2, k3⟩ := hB
                  have hvi : (σ.addA a ⟨w.heap.size, off, off + c * es⟩).vi a (A.ver + 1) = ⟨w.heap.size, off, off + c * es⟩ := by simp [Sg.vi, k3, ← hlen]
                  refine ⟨_, _, ?_, k1, ?_, (Ext.drew σ s w).trans k2⟩
                  · rw [c3]
                    simp only [conc, Sg.adr, Sg.cap, hvi, Nat.sub_self, Nat.add_sub_cancel_left]
                    rw [Nat.mul_div_cancel _ (by omega)]
                  · simp only [In, hvi, k3]
                    refine ⟨by simp [hlen], Nat.le_refl _, by omega, h1⟩
                · intro i m v h1 h2 h3
                  refine ⟨h1, ?_⟩
                  have h4 := hrd i m v h1 h2 h3
                  have h5 := q4 (i - off) (by omega)
                  rw [show off + (i - off) = i from by omega, h4] at h5
                  have hlt : i - off < (old ++ new).length := by rw [List.length_append, q3]; omega
                  simp only
                  rw [Array.getElem?_append_left (by simpa [concL_length] using hlt)]
                  rw [List.getElem?_toArray, concL_eq, List.getElem?_map, List.getElem?_append_left (by omega), ← h5]
                  rfl
                · intro i v hv
                  have hlt : i < new.length := by
                    rcases Nat.lt_or_ge i new.length with h | h
                    · exact h
                    · rw [List.getElem?_eq_none h] at hv; cases hv
                  refine ⟨by simp only; omega, ?_⟩
                  simp only
                  rw [Array.getElem?_append_left (by simp [concL_length, q3]; omega)]
                  rw [List.getElem?_toArray, concL_eq, List.getElem?_map, List.getElem?_append_right (by omega), q3, show off + len * es + i - off - len * es = i from by omega, hv]
                  rfl
    · cases h
  · cases h

end
end Go.Ab
end

noncomputable section
namespace Go.Ab
section
variable {P : Program} {E : Env} {σ : Sg} {s s₁ t : AS} {w : World} {T : Tr AV} {ρ : Operand → Value}

theorem bind_some {α β : Type} {o : Option α} {f : α → Option β} {y : β} (h : (o >>= f) = some y) : ∃ x, o = some x ∧ f x = some y := Option.bind_eq_some_iff.1 h

theorem REv.at (ev : REv σ T ρ) {x : Operand} {x' : EO} (hx : cEO x = some x') {a : AV} (h : x'.ev T = a) : ρ x = conc σ a ∧ In σ a := h ▸ ev x x' hx

theorem natOf_at (ev : REv σ T ρ) {x : Operand} {x' : EO} (hx : cEO x = some x') {n : Nat} (h : natOf (x'.ev T) = some n) : ∃ k, ρ x = .int k (n : Int) := by
  obtain ⟨k, hk⟩ := natOf_conc (σ := σ) h
  exact ⟨k, by rw [(ev _ _ hx).1, hk]⟩

theorem optEO_map (ev : REv σ T ρ) {x : Option Operand} {x' : Option EO} (h : optEO x = some x') : x.map ρ = (optEv T x').map (conc σ) := by
  cases x with
  | none => simp [optEO] at h; subst h; rfl
  | some x =>
    obtain ⟨y, hy, rfl⟩ := map_some h
    simp [optEv, (ev _ _ hy).1]

/-- What an operation comes to: memory made; or all else. -/
def OpFact (P : Program) (σ : Sg) (t s s₁ : AS) (w : World) (e : EOp) (v : AV) (res : Result Next) : Prop :=
  (clsOf e = .alloc ∧ AllocRes P σ w s v s₁ res) ∨ (clsOf e ≠ .alloc ∧ (t = s → Res P σ s w res v s₁))

theorem OpFact.val {e : EOp} {v : AV} {res : Result Next} (r : Rel P σ t w) (hc : clsOf e ≠ .alloc) (hs : s₁ = s) (h : t = s → Rel P σ s w → res = .ok (.value (conc σ v)) w ∧ In σ v) : OpFact P σ t s s₁ w e v res := by
  refine .inr ⟨hc, fun hts => ?_⟩
  subst hts; subst hs
  obtain ⟨h1, h2⟩ := h rfl r
  exact Res.of r h2 h1

theorem OpFact.res {e : EOp} {v : AV} {res : Result Next} (r : Rel P σ t w) (hc : clsOf e ≠ .alloc) (h : Rel P σ s w → Res P σ s w res v s₁) : OpFact P σ t s s₁ w e v res := by
  refine .inr ⟨hc, fun hts => ?_⟩
  subst hts
  exact h r

theorem run_places : ∀ (l : List Field) (w : World), l.all (fun f => (tsize P.toTables f.type).isSome) = true → (l.mapM (fun f => (do pure (f.offset, ← sizeOf f.type) : Sem (Nat × Nat)))).run P w = .ok (l.map fun f => (f.offset, (tsize P.toTables f.type).getD 0)) w := by
  intro l
  induction l with
  | nil => intro w _; rfl
  | cons f l ih =>
    intro w h
    simp only [List.all_cons, Bool.and_eq_true] at h
    obtain ⟨n, hn⟩ := isSome_get h.1
    simp only [List.mapM_cons, Sem.run_bind, run_size hn, Result.andThen_ok, Sem.run_pure, ih w h.2, List.map_cons, hn, Option.getD_some]

theorem run_placesA (w : World) {fs : Array Field} (h : fs.toList.all (fun f => (tsize P.toTables f.type).isSome) = true) :
    (fs.mapM (fun f => (do pure (f.offset, ← sizeOf f.type) : Sem (Nat × Nat)))).run P w = .ok (fs.toList.map fun f => (f.offset, (tsize P.toTables f.type).getD 0)).toArray w := by
  rw [Array.mapM_eq_mapM_toList]
  have : ∀ {α β : Type} (g : α → β) (x : Sem α) (a : α), x.run P w = .ok a w → (g <$> x).run P w = .ok (g a) w := by
    intro α β g x a h
    have e : (g <$> x) = (do pure (g (← x))) := (bind_pure_comp g x).symm
    rw [e]; simp [h]
  exact this _ _ _ (run_places fs.toList w h)

theorem places_eq {fs : Array Field} (h : fs.toList.all (fun f => (tsize P.toTables f.type).isSome) = true) (i : Nat) : (((fs.toList.map fun f => (f.offset, (tsize P.toTables f.type).getD 0)).toArray)[i]?) = fieldPlaceOf P fs i := by
  simp only [fieldPlaceOf, List.getElem?_toArray, List.getElem?_map, Array.getElem?_toList]
  cases hf : fs[i]? with
  | none => rfl
  | some f =>
    have hm : f ∈ fs.toList := by
      rw [← Array.getElem?_toList] at hf
      exact List.mem_of_getElem? hf
    obtain ⟨n, hn⟩ := isSome_get (List.all_eq_true.1 h f hm)
    simp [hn]

theorem sim_buildS (r : Rel P σ s w) (ev : REv σ T ρ) {t : TypeId} {fs : Array Field} {zs l : List AV} {parts : Array (Nat × Operand)} {ps : List (Nat × Nat × EO)} (ht : P.underlying t = some (.struct fs)) (hz : tzeros P.toTables t = some zs)
    (ha : fs.toList.all (fun f => (tsize P.toTables f.type).isSome) = true) (hp : cPlaces P (fieldPlaceOf P fs) parts.toList = some ps) (h : fillP T zs ps = some l) :
    (Instr.build t (parts.map fun (i, x) => (i, ρ x))).run P w = .ok (.agg (concL σ l).toArray) w ∧ InL σ l := by
  obtain ⟨z, z1, z2, z3⟩ := tzeros_some (w := w) r hz
  obtain ⟨f1, f2⟩ := fill_run r ev hp z3 h
  refine ⟨?_, f2⟩
  have f1' : Instr.fill (fun i => ((fs.toList.map fun f => (f.offset, (tsize P.toTables f.type).getD 0)).toArray)[i]?) z.cells (List.map (fun x => (x.1, ρ x.2)) parts.toList) = some (concL σ l).toArray := by
    rw [z2, ← f1]
    congr 1
    funext i; exact places_eq ha i
  simp only [Instr.build, Sem.run_bind, z1, run_und ht, Result.andThen_ok, run_placesA w ha, Array.toList_map]
  rw [f1']; rfl

theorem sim_buildA (r : Rel P σ s w) (ev : REv σ T ρ) {t e : TypeId} {m n : Nat} {zs l : List AV} {parts : Array (Nat × Operand)} {ps : List (Nat × Nat × EO)} (ht : P.underlying t = some (.array m e)) (hz : tzeros P.toTables t = some zs)
    (hn : tsize P.toTables e = some n) (hp : cPlaces P (fun i => some (i * n, n)) parts.toList = some ps) (h : fillP T zs ps = some l) :
    (Instr.build t (parts.map fun (i, x) => (i, ρ x))).run P w = .ok (.agg (concL σ l).toArray) w ∧ InL σ l := by
  obtain ⟨z, z1, z2, z3⟩ := tzeros_some (w := w) r hz
  obtain ⟨f1, f2⟩ := fill_run r ev hp z3 h
  refine ⟨?_, f2⟩
  have f1' : Instr.fill (fun i => some (i * n, n)) z.cells (List.map (fun x => (x.1, ρ x.2)) parts.toList) = some (concL σ l).toArray := by
    rw [z2]; exact f1
  simp [Instr.build, z1, run_und ht, run_size hn, f1']


theorem asBool_run (b : Bool) : (asBool (.bool b)).run P w = .ok b w := by simp [asBool]

theorem arr_map (a : Array Operand) : (a.map ρ).toList = a.toList.map ρ := by simp

theorem pair_at {a : Array TypeId} {x y : TypeId} (h0 : a[0]? = some x) (h1 : a[1]? = some y) : ∀ (type : TypeId) (args : Array Value), Builtin.append_ a type args = Builtin.append_ #[x, y] type args := by
  intro type args
  simp only [Builtin.append_, h0, h1, List.getElem?_toArray, List.getElem?_cons_zero, List.getElem?_cons_succ]

theorem builtin_fact (he : EOk E σ) (r : Rel P σ t w) (ev : REv σ T ρ) {c : Call} {type : TypeId} {e : EOp} {v : AV} {cl : Oracle} (hc : cCall P c = some e) (h : evOp E cl e T s = some (v, s₁)) :
    OpFact P σ t s s₁ w e v ((do let d ← resolve ρ c type; invoke d.target d.args : Sem Next).run P w) := by
  unfold cCall at hc
  split at hc
  · cases hc
  · cases hc
  · rename_i b hb
    obtain ⟨cs, hrun⟩ : ∃ cs, (do let d ← resolve ρ c type; invoke d.target d.args : Sem Next).run P w = (builtin b c.argTypes type cs (c.args.map ρ)).run P w :=
      ⟨_, by simp only [resolve, hb, pure_bind, invoke]; rfl⟩
    rw [hrun]
    have hat : ∀ {u : TypeDesc} (i : Nat), (c.argTypes[i]?).bind P.underlying = some u → ∃ t', c.argTypes[i]? = some t' ∧ P.underlying t' = some u := by
      intro u i h
      obtain ⟨t', h1, h2⟩ := bind_some h
      exact ⟨t', h1, h2⟩
    have hargl : ∀ {l : List EO}, cEOs c.args.toList = some l → c.args.map ρ = (concL σ (evs T l)).toArray ∧ InL σ (evs T l) := by
      intro l hl
      obtain ⟨q1, q2⟩ := cEOs_conc ev hl
      exact ⟨by rw [← q1]; apply Array.ext'; simp, q2⟩
    split at hc
    · -- len
      rename_i x hl
      obtain ⟨hl1, hl2⟩ := hargl hl
      simp only [evs, InL, and_true] at hl2
      have hargs : (c.args.map ρ)[0]? = some (conc σ (x.ev T)) := by rw [hl1]; rfl
      have lenV : ∀ {k : Nat} {u : TypeDesc}, (c.argTypes[0]?).bind P.underlying = some u → ((u = .string ∧ k = 0) ∨ (∃ e, u = .slice e ∧ k = 1) ∨ (∃ k' e, u = .map k' e ∧ k = 2)) → e = .len k x → OpFact P σ t s s₁ w e v ((builtin .len c.argTypes type cs (c.args.map ρ)).run P w) := by
        intro k u hu hk hee
        subst hee
        obtain ⟨t', h1, h2⟩ := hat 0 hu
        simp only [evOp] at h
        split at h
        · rename_i hi
          split at h
          · rename_i n hn
            cases h
            refine .val r (by simp [clsOf]) rfl fun _ r => ⟨?_, trivial⟩
            have go : (Builtin.len_ c.argTypes type (c.args.map ρ)).run P w = .ok (conc σ (intN n)) w := by
              simp only [Builtin.len_, h1, hargs, Sem.run_bind, run_und h2, Result.andThen_ok]
              generalize x.ev T = a at hn hi hl2
              rcases hk with ⟨rfl, rfl⟩ | ⟨e', rfl, rfl⟩ | ⟨k', e', rfl, rfl⟩
              · cases a <;> first | (simp [lenIs] at hi; done) | (simp [lenAV] at hn; subst hn; simp [conc, intN, goInt])
              · cases a <;> first | (simp [lenIs] at hi; done) | (simp [lenAV] at hn; subst hn; simp [conc, intN, goInt])
              · cases a with
                | nilm => simp [lenAV] at hn; subst hn; simp [conc, intN, goInt]
                | mp m =>
                  simp only [In] at hl2
                  obtain ⟨b, hb⟩ := isSome_get hl2
                  obtain ⟨M, m1, m2, _⟩ := r.map m b hb
                  simp only [lenAV, m1] at hn
                  cases hn
                  simp [conc, hb, run_getMap m2, intN, goInt]
                | _ => simp [lenIs] at hi
            simp only [builtin, Sem.run_bind, go, Result.andThen_ok, Sem.run_pure]
          · cases h
        · cases h
      split at hc
      · rename_i hu; cases hc; exact lenV hu (.inl ⟨rfl, rfl⟩) rfl
      · rename_i hu; cases hc; exact lenV hu (.inr (.inl ⟨_, rfl, rfl⟩)) rfl
      · rename_i hu; cases hc; exact lenV hu (.inr (.inr ⟨_, _, rfl, rfl⟩)) rfl
      · rename_i hu; cases hc
        obtain ⟨t', h1, h2⟩ := hat 0 hu
        simp only [evOp, EO.ev] at h; cases h
        exact .val r (by simp [clsOf]) rfl fun _ _ => ⟨by simp [builtin, Builtin.len_, h1, hargs, run_und h2, goInt, conc, intN], trivial⟩
      · rename_i hu
        split at hc
        · rename_i hu2
          cases hc
          obtain ⟨t', h1, h2⟩ := hat 0 hu
          simp only [evOp, EO.ev] at h; cases h
          exact .val r (by simp [clsOf]) rfl fun _ _ => ⟨by simp [builtin, Builtin.len_, h1, hargs, run_und h2, run_und hu2, goInt, conc, intN], trivial⟩
        · cases hc
      · cases hc
    · -- cap
      rename_i x hl
      obtain ⟨hl1, hl2⟩ := hargl hl
      have hargs : (c.args.map ρ)[0]? = some (conc σ (x.ev T)) := by rw [hl1]; rfl
      split at hc
      · rename_i hu
        cases hc
        obtain ⟨t', h1, h2⟩ := hat 0 hu
        simp only [evOp] at h
        split at h
        · rename_i heq; cases h
          exact .val r (by simp [clsOf]) rfl fun _ _ => ⟨by simp [builtin, Builtin.cap_, h1, hargs, run_und h2, heq, goInt, conc, intN], trivial⟩
        · rename_i heq; cases h
          exact .val r (by simp [clsOf]) rfl fun _ _ => ⟨by simp [builtin, Builtin.cap_, h1, hargs, run_und h2, heq, goInt, conc, intN, Sg.cap], trivial⟩
        · cases h
      · rename_i hu; cases hc
        obtain ⟨t', h1, h2⟩ := hat 0 hu
        simp only [evOp, EO.ev] at h; cases h
        exact .val r (by simp [clsOf]) rfl fun _ _ => ⟨by simp [builtin, Builtin.cap_, h1, hargs, run_und h2, goInt, conc, intN], trivial⟩
      · cases hc
    · -- append
      rename_i x y hl
      obtain ⟨hl1, hl2⟩ := hargl hl
      simp only [evs, InL, and_true] at hl2
      have hargs : c.args.map ρ = #[conc σ (x.ev T), conc σ (y.ev T)] := by rw [hl1]; rfl
      split at hc
      · rename_i e' u hu0 hu1
        split at hc
        · rename_i es bytes z hes hby hz
          split at hc
          · rename_i hcond
            obtain ⟨t0, a0, b0⟩ := hat 0 hu0
            obtain ⟨t1, a1, b1⟩ := hat 1 hu1
            have main : (∀ k, u ≠ .int k) → e = .app es bytes x y → OpFact P σ t s s₁ w e v ((builtin .append c.argTypes type cs (c.args.map ρ)).run P w) := by
              intro hk hee
              subst hee
              simp only [evOp] at h
              split at h
              · cases h
              · rename_i k hk'
                split at h
                · cases h
                · rename_i new hnew
                  refine .res r (by simp [clsOf]) fun r => ?_
                  have hne : (∀ m, y.ev T ≠ .mp m) ∧ y.ev T ≠ .nilm := by
                    constructor
                    · intro m hm; rw [hm] at hnew; simp [srcCells] at hnew
                    · intro hm; rw [hm] at hnew; simp [srcCells] at hnew
                  have hz0 : y.ev T = .nils ∨ (∃ a j o l e, y.ev T = .tail a j o l e) → k = 0 := by
                    rintro (hm | ⟨_, _, _, _, _, hm⟩) <;> (rw [hm] at hk'; simp [lenAV] at hk'; exact hk'.symm)
                  obtain ⟨σ', w', q1, q2, q3, q4⟩ := sim_app (type := type) r b0 hes hby hz hcond.1 hcond.2 b1 hk hl2.1 hl2.2 (lenOf_run hk' hne.1 hne.2) (fun w' r' => (src_run r' hl2.2 hnew hz0).1) (src_run r hl2.2 hnew hz0).2 h
                  refine ⟨σ', w', .inl ?_, q2, q3, q4⟩
                  rw [← q1, hargs]
                  simp only [builtin, pair_at a0 a1]
            split at hc
            · cases hc
            · cases hc; exact main (by intro k h; cases h) rfl
            · cases hc; exact main (by intro k h; cases h) rfl
            · cases hc
          · cases hc
        · cases hc
      · cases hc
    · -- max
      rename_i xs hl
      cases hc
      obtain ⟨hl1, hl2⟩ := hargl hl
      simp only [evOp] at h
      split at h
      · rename_i y l heq
        obtain ⟨h3, rfl⟩ := some2_some h
        rw [heq] at hl1 hl2
        simp only [InL] at hl2
        exact .val r (by simp [clsOf]) rfl fun _ _ => by
          obtain ⟨q1, q2⟩ := sim_fold (P := P) (w := w) (f := mxAV E) (g := Builtin.max2) (fun a b c => sim_mx he a b c) h3 hl2.1 hl2.2
          refine ⟨?_, q2⟩
          have : (Builtin.max_ c.argTypes type (c.args.map ρ)).run P w = .ok (conc σ v) w := by
            rw [hl1]; simp only [Builtin.max_, concL]; exact q1
          simp only [builtin, Sem.run_bind, this, Result.andThen_ok, Sem.run_pure]
      · cases h
    · -- min
      rename_i xs hl
      cases hc
      obtain ⟨hl1, hl2⟩ := hargl hl
      simp only [evOp] at h
      split at h
      · rename_i y l heq
        obtain ⟨h3, rfl⟩ := some2_some h
        rw [heq] at hl1 hl2
        simp only [InL] at hl2
        exact .val r (by simp [clsOf]) rfl fun _ _ => by
          obtain ⟨q1, q2⟩ := sim_fold (P := P) (w := w) (f := mnAV E) (g := Builtin.min2) (fun a b c => sim_mn he a b c) h3 hl2.1 hl2.2
          refine ⟨?_, q2⟩
          have : (Builtin.min_ c.argTypes type (c.args.map ρ)).run P w = .ok (conc σ v) w := by
            rw [hl1]; simp only [Builtin.min_, concL]; exact q1
          simp only [builtin, Sem.run_bind, this, Result.andThen_ok, Sem.run_pure]
      · cases h
    · cases hc

theorem op_fact (he : EOk E σ) (r : Rel P σ t w) (ev : REv σ T ρ) {o : Oper} {e : EOp} {v : AV} {cl : Oracle} (hc : cOp P o.op = some e) (h : evOp E cl e T s = some (v, s₁)) :
    OpFact P σ t s s₁ w e v ((execOp ρ o).run P w) := by
  unfold execOp
  generalize o.op = op at hc ⊢
  generalize o.type = type
  cases op with
  | move x =>
    obtain ⟨x', hx, rfl⟩ := map_some hc
    simp only [evOp] at h; cases h
    exact .val r (by simp [clsOf]) rfl fun _ _ => by obtain ⟨h1, h2⟩ := ev _ _ hx; exact ⟨by simp [h1], h2⟩
  | assign x =>
    obtain ⟨x', hx, rfl⟩ := map_some hc
    simp only [evOp] at h; cases h
    exact .val r (by simp [clsOf]) rfl fun _ _ => by obtain ⟨h1, h2⟩ := ev _ _ hx; exact ⟨by simp [h1], h2⟩
  | pick c a b =>
    obtain ⟨c', hc', hc⟩ := bind_some hc
    obtain ⟨a', ha', hc⟩ := bind_some hc
    obtain ⟨b', hb', hc⟩ := bind_some hc
    cases hc
    obtain ⟨ha1, ha2⟩ := ev _ _ ha'
    obtain ⟨hb1, hb2⟩ := ev _ _ hb'
    simp only [evOp] at h
    split at h
    · rename_i heq
      cases h
      obtain ⟨h1, _⟩ := ev.at hc' heq
      exact .val r (by simp [clsOf]) rfl fun _ _ => ⟨by simp [h1, conc, asBool, ha1], ha2⟩
    · rename_i heq
      cases h
      obtain ⟨h1, _⟩ := ev.at hc' heq
      exact .val r (by simp [clsOf]) rfl fun _ _ => ⟨by simp [h1, conc, asBool, hb1], hb2⟩
    · cases h
  | alloc e' =>
    obtain ⟨zs, hz, rfl⟩ := map_some hc
    exact .inl ⟨rfl, al_alloc r hz h⟩
  | box e' x =>
    obtain ⟨x', hx, rfl⟩ := map_some hc
    exact .inl ⟨rfl, al_box r ev hx h⟩
  | build ty parts =>
    simp only [cOp] at hc
    split at hc
    · rename_i fs zs hu hz
      split at hc
      · rename_i ha
        obtain ⟨ps, hp, rfl⟩ := map_some hc
        simp only [evOp] at h
        split at h
        · rename_i l hl
          cases h
          exact .val r (by simp [clsOf]) rfl fun _ r => by
            obtain ⟨q1, q2⟩ := sim_buildS r ev hu hz ha hp hl
            exact ⟨by rw [run_v, q1]; rfl, q2⟩
        · cases h
      · cases hc
    · rename_i m e' zs hu hz
      split at hc
      · rename_i n hn
        obtain ⟨ps, hp, rfl⟩ := map_some hc
        simp only [evOp] at h
        split at h
        · rename_i l hl
          cases h
          exact .val r (by simp [clsOf]) rfl fun _ r => by
            obtain ⟨q1, q2⟩ := sim_buildA r ev hu hz hn hp hl
            exact ⟨by rw [run_v, q1]; rfl, q2⟩
        · cases h
      · cases hc
    · cases hc
  | buildSlice ty len parts =>
    simp only [cOp] at hc
    split at hc
    · rename_i e' hu
      split at hc
      · rename_i n z hn hz
        split at hc
        · rename_i hcond
          obtain ⟨ps, hp, rfl⟩ := map_some hc
          exact .inl ⟨rfl, al_buildSl r ev hu hn hz hcond.1 hcond.2.1 hcond.2.2 hp h⟩
        · cases hc
      · cases hc
    · cases hc
  | load ty a =>
    simp only [cOp] at hc
    split at hc
    · rename_i n hg hn
      obtain ⟨a', ha, rfl⟩ := map_some hc
      simp only [evOp] at h
      split at h
      · rename_i aa j o heq
        split at h
        · rename_i l hl
          cases h
          obtain ⟨h1, h2⟩ := ev.at ha heq
          exact .val r (by simp [clsOf]) rfl fun _ r => by
            obtain ⟨q1, q2⟩ := sim_ldn r h2 hg hn hl
            exact ⟨by rw [run_v, h1, q1]; rfl, q2⟩
        · cases h
      · cases h
    · rename_i hg
      obtain ⟨a', ha, rfl⟩ := map_some hc
      simp only [evOp] at h
      split at h
      · rename_i aa j o heq
        obtain ⟨hl, rfl⟩ := some2_some h
        obtain ⟨h1, h2⟩ := ev.at ha heq
        exact .val r (by simp [clsOf]) rfl fun _ r => by
          obtain ⟨q1, q2⟩ := sim_ld1 r h2 hg hl
          exact ⟨by rw [run_v, h1, q1]; rfl, q2⟩
      · cases h
    · cases hc
  | store ty a x =>
    simp only [cOp] at hc
    split at hc
    · rename_i n hn
      obtain ⟨a', ha, hc⟩ := bind_some hc
      obtain ⟨x', hx, hc⟩ := bind_some hc
      cases hc
      simp only [evOp] at h
      split at h
      · rename_i aa j o heq
        split at h
        · rename_i hl
          split at h
          · rename_i s' hs
            cases h
            obtain ⟨h1, h2⟩ := ev.at ha heq
            obtain ⟨h3, h4⟩ := ev _ _ hx
            refine .res r (by simp [clsOf]) fun r => ?_
            rw [beq_eq] at hl
            obtain ⟨w', q1, q2, q3⟩ := sim_st r h2 h4 hn (by simpa using hl) hs
            exact ⟨σ, w', .inr ⟨rfl, by rw [run_u, h1, h3, q1]; rfl⟩, q2, trivial, q3⟩
          · cases h
        · cases h
      · cases h
    · cases hc
  | nilCheck x =>
    obtain ⟨x', hx, rfl⟩ := map_some hc
    simp only [evOp] at h
    split at h
    · rename_i heq; cases h
      obtain ⟨h1, h2⟩ := ev.at hx heq
      exact .val r (by simp [clsOf]) rfl fun _ _ => ⟨by simp [h1, conc], h2⟩
    · rename_i heq; cases h
      obtain ⟨h1, h2⟩ := ev.at hx heq
      exact .val r (by simp [clsOf]) rfl fun _ _ => ⟨by simp [h1, conc], h2⟩
    · rename_i heq; cases h
      obtain ⟨h1, h2⟩ := ev.at hx heq
      exact .val r (by simp [clsOf]) rfl fun _ _ => ⟨by simp [h1, conc], h2⟩
    · cases h
  | binOp op ty x y m =>
    simp only [cOp] at hc
    obtain ⟨x', hx, hc⟩ := bind_some hc
    obtain ⟨y', hy, hc⟩ := bind_some hc
    obtain ⟨hx1, hx2⟩ := ev _ _ hx
    obtain ⟨hy1, hy2⟩ := ev _ _ hy
    have eqs : ∀ (n : Bool) (k : EqK), op = eqOp n → eqKind P ty = some k → e = .eq n k x' y' → OpFact P σ t s s₁ w e v ((do pure (Next.value (← (do eqGuard op ty x y (ρ x) (ρ y); binOp op ty (ρ x) (ρ y)))) : Sem Next).run P w) := by
      intro n k ho hk hee
      subst hee; subst ho
      simp only [evOp] at h
      obtain ⟨h1, rfl⟩ := some2_some h
      obtain ⟨b, h2, rfl⟩ := xorb_some h1
      exact .val r (by simp [clsOf]) rfl fun _ r => ⟨by rw [run_v, hx1, hy1, sim_eq he hk hx2 hy2 h2 n x y]; rfl, trivial⟩
    split at hc
    · obtain ⟨k, hk, hee⟩ := map_some hc
      exact eqs false k rfl hk hee.symm
    · obtain ⟨k, hk, hee⟩ := map_some hc
      exact eqs true k rfl hk hee.symm
    · rename_i hn1 hn2
      cases hc
      simp only [evOp] at h
      obtain ⟨h1, rfl⟩ := some2_some h
      exact .val r (by simp [clsOf]) rfl fun _ r => by
        obtain ⟨q1, q2⟩ := sim_bin (P := P) (w := w) he h1 ty
        refine ⟨?_, q2⟩
        rw [run_v, Sem.run_bind, guard_run hn1 hn2, Result.andThen_ok, hx1, hy1, q1]; rfl
  | unOp op ty x =>
    obtain ⟨x', hx, rfl⟩ := map_some hc
    simp only [evOp] at h
    split at h
    · rename_i heq; cases h
      obtain ⟨h1, h2⟩ := ev.at hx heq
      exact .val r (by simp [clsOf]) rfl fun _ _ => ⟨by simp [h1, conc, Op.unary], trivial⟩
    · rename_i heq
      obtain ⟨h3, rfl⟩ := some2_some h
      simp only [intBin] at h3; cases h3
      obtain ⟨h1, h2⟩ := ev.at hx heq
      exact .val r (by simp [clsOf]) rfl fun _ _ => ⟨by rw [run_v, h1]; simp only [conc]; rw [sim_un]; rfl, trivial⟩
    · rename_i heq
      obtain ⟨h3, rfl⟩ := some2_some h
      simp only [intBin] at h3; cases h3
      obtain ⟨h1, h2⟩ := ev.at hx heq
      exact .val r (by simp [clsOf]) rfl fun _ _ => ⟨by rw [run_v, h1]; simp [conc, Op.unary, Op.intBits], trivial⟩
    · cases h
  | convert a d x =>
    simp only [cOp] at hc
    split at hc
    · rename_i u k hu hd
      obtain ⟨x', hx, rfl⟩ := map_some hc
      simp only [evOp] at h
      split at h
      · rename_i heq; cases h
        obtain ⟨h1, h2⟩ := ev.at hx heq
        exact .val r (by simp [clsOf]) rfl fun _ _ => ⟨by rw [run_v, h1]; simp only [conc]; rw [sim_cvInt hu hd]; rfl, trivial⟩
      · rename_i i o heq
        obtain ⟨h1, h2⟩ := ev.at hx heq
        split at h
        · rename_i hk
          have := isI64_eq hk
          subst this
          split at h
          · rename_i hok; cases h
            exact .val r (by simp [clsOf]) rfl fun _ _ => ⟨by rw [run_v, h1]; simp only [conc]; rw [sim_cvInt hu hd, i64ok_spec he hok]; rfl, trivial⟩
          · cases h
        · split at h
          · rename_i hk
            have := isU64_eq hk
            subst this
            split at h
            · rename_i ho
              simp at ho; subst ho
              cases h
              exact .val r (by simp [clsOf]) rfl fun _ _ => ⟨by rw [run_v, h1]; simp only [conc]; rw [sim_cvInt hu hd, Int.add_zero]; rfl, trivial⟩
            · cases h
          · cases h
      · cases h
    · rename_i hu hd
      obtain ⟨x', hx, rfl⟩ := map_some hc
      simp only [evOp] at h
      split at h
      · rename_i heq; cases h
        obtain ⟨h1, h2⟩ := ev.at hx heq
        exact .val r (by simp [clsOf]) rfl fun _ _ => ⟨by rw [run_v, h1]; simp only [conc]; rw [sim_cvStr hu hd]; rfl, trivial⟩
      · cases h
    · rename_i e' hu hd
      split at hc
      · rename_i he'
        obtain ⟨x', hx, rfl⟩ := map_some hc
        exact .inl ⟨rfl, al_cvSB r ev hu hd he' hx h⟩
      · cases hc
    · rename_i e' hu hd
      split at hc
      · rename_i he'
        obtain ⟨x', hx, rfl⟩ := map_some hc
        simp only [evOp] at h
        split at h
        · rename_i heq; cases h
          obtain ⟨h1, h2⟩ := ev.at hx heq
          exact .val r (by simp [clsOf]) rfl fun _ _ => ⟨by rw [run_v, h1, sim_cvBS hu hd he' (x := conc σ .nils) (ns := []) (.inl ⟨rfl, rfl⟩)]; rfl, trivial⟩
        · rename_i heq; cases h
          obtain ⟨h1, h2⟩ := ev.at hx heq
          exact .val r (by simp [clsOf]) rfl fun _ _ => ⟨by rw [run_v, h1, sim_cvBS hu hd he' (x := conc σ (.tail _ _ _ _ _)) (ns := []) (.inr ⟨_, _, _, rfl, by simp [loadCells, loadCellsFrom]⟩)]; rfl, trivial⟩
        · rename_i a j off len cp heq
          obtain ⟨h1, h2⟩ := ev.at hx heq
          have hin : j < (σ.ar a).length ∧ (σ.vi a j).sh ≤ off := by
            cases cp <;> (simp only [In] at h2; exact ⟨h2.1, h2.2.1⟩)
          rw [beq_eq] at h
          split at h
          · rename_i h0
            simp at h0; subst h0
            cases h
            exact .val r (by simp [clsOf]) rfl fun _ _ => ⟨by rw [run_v, h1, sim_cvBS hu hd he' (x := conc σ (.sl _ _ _ _ _)) (ns := []) (.inr ⟨_, _, _, rfl, by simp [loadCells, loadCellsFrom]⟩)]; rfl, trivial⟩
          · split at h
            · rename_i l hl
              split at h
              · rename_i b hb
                cases h
                refine .val r (by simp [clsOf]) rfl fun _ r => ⟨?_, trivial⟩
                obtain ⟨ns, n1, n2⟩ := bytesOfL_conc (σ := σ) hb
                obtain ⟨l1, _, _⟩ := r.rdN hin.1 hin.2 hl
                rw [run_v, h1, sim_cvBS hu hd he' (x := conc σ (.sl _ _ _ _ _)) (ns := ns) (.inr ⟨_, _, _, rfl, by rw [← n1]; exact l1⟩), ← n2]; rfl
              · cases h
            · cases h
        · cases h
      · cases hc
    · cases hc
  | makeInterface ty x =>
    simp only [cOp] at hc
    split at hc
    · cases hc
    · rename_i u hu hni
      obtain ⟨x', hx, rfl⟩ := map_some hc
      simp only [evOp] at h; cases h
      obtain ⟨h1, h2⟩ := ev _ _ hx
      refine .val r (by simp [clsOf]) rfl fun _ _ => ⟨?_, h2⟩
      rw [run_v]
      have : (Instr.makeInterface ty (ρ x)).run P w = .ok (.iface ty (ρ x)) w := by
        simp only [Instr.makeInterface, Sem.run_bind, run_und hni, Result.andThen_ok]
        cases u <;> first | rfl | exact absurd rfl (hu _)
      rw [this, h1]; rfl
    · cases hc
  | makeFunc f a b =>
    cases f with
    | func f =>
      simp only [cOp] at hc
      obtain ⟨a', ha, hc⟩ := bind_some hc
      obtain ⟨b', hb, hc⟩ := bind_some hc
      cases hc
      simp only [evOp] at h; cases h
      obtain ⟨a1, a2⟩ := cEOs_conc ev ha
      obtain ⟨b1, b2⟩ := cEOs_conc ev hb
      refine .val r (by simp [clsOf]) rfl fun _ _ => ⟨?_, a2, b2⟩
      have e1 : a.map ρ = (concL σ (evs T a')).toArray := by rw [← a1]; apply Array.ext'; simp
      have e2 : b.map ρ = (concL σ (evs T b')).toArray := by rw [← b1]; apply Array.ext'; simp
      simp [Instr.makeFunc, e1, e2, conc]
    | _ => cases hc
  | makeMap ty m =>
    cases m with
    | none =>
      cases hc
      exact .inl ⟨rfl, al_mkMap h⟩
    | some _ => cases hc
  | makeSlice ty l c =>
    simp only [cOp] at hc
    split at hc
    · rename_i e' hu
      split at hc
      · rename_i es bytes z hn hb hz
        split at hc
        · rename_i hcond
          obtain ⟨l', hl, hc⟩ := bind_some hc
          obtain ⟨c', hc', hc⟩ := bind_some hc
          cases hc
          exact .inl ⟨rfl, al_mkSl r ev hu hn hb hz hcond.1 hcond.2 hl hc' h⟩
        · cases hc
      · cases hc
    · cases hc
  | slice ty x lo hi mx =>
    simp only [cOp] at hc
    obtain ⟨x', hx, hc⟩ := bind_some hc
    obtain ⟨lo', hlo, hc⟩ := bind_some hc
    obtain ⟨hi', hhi, hc⟩ := bind_some hc
    obtain ⟨mx', hmx, hc⟩ := bind_some hc
    show OpFact P σ t s s₁ w e v ((do pure (Next.value (← Instr.sliceAt ty (ρ x) (lo.map ρ) (hi.map ρ) (mx.map ρ))) : Sem Next).run P w)
    rw [optEO_map ev hlo, optEO_map ev hhi, optEO_map ev hmx]
    split at hc
    · rename_i hu
      split at hc
      · cases hc
        simp only [evOp] at h
        split at h
        · rename_i b heq
          obtain ⟨h1, h2⟩ := ev.at hx heq
          split at h
          · cases h
          · rename_i hh hhe
            split at h
            · cases h
            · rename_i ll hle
              split at h
              · rename_i hb
                simp only [Bool.and_eq_true, ble_eq, decide_eq_true_eq] at hb
                cases h
                exact .val r (by simp [clsOf]) rfl fun _ _ => ⟨by
                  have e0 : (optEv T none).map (conc σ) = none := rfl
                  rw [run_v, h1, e0]
                  have := sim_slStr (P := P) (σ := σ) (w := w) hu hhe hle hb.1 hb.2
                  simp only [conc]
                  rw [this]; rfl, trivial⟩
              · cases h
        · cases h
      · cases hc
    · rename_i e' hu
      obtain ⟨n, hn, hc⟩ := bind_some hc
      split at hc
      · rename_i hn1
        cases hc
        simp only [evOp] at h
        obtain ⟨h3, rfl⟩ := some2_some h
        obtain ⟨h1, h2⟩ := ev _ _ hx
        exact .val r (by simp [clsOf]) rfl fun _ _ => by
          obtain ⟨q1, q2⟩ := sim_slSl (w := w) hu hn hn1 h2 h3
          exact ⟨by rw [run_v, h1, q1]; rfl, q2⟩
      · cases hc
    · rename_i n e' hu
      obtain ⟨m, hm, hc⟩ := bind_some hc
      split at hc
      · cases hc
        simp only [evOp] at h
        split at h
        · rename_i a j o heq
          obtain ⟨h3, rfl⟩ := some2_some h
          obtain ⟨h1, h2⟩ := ev.at hx heq
          exact .val r (by simp [clsOf]) rfl fun _ _ => by
            obtain ⟨q1, q2⟩ := sim_slArr (w := w) (.inl hu) hm h2 h3
            exact ⟨by rw [run_v, h1, q1]; rfl, q2⟩
        · cases h
      · cases hc
    · rename_i arr hu
      split at hc
      · rename_i n e' hu2
        obtain ⟨m, hm, hc⟩ := bind_some hc
        split at hc
        · cases hc
          simp only [evOp] at h
          split at h
          · rename_i a j o heq
            obtain ⟨h3, rfl⟩ := some2_some h
            obtain ⟨h1, h2⟩ := ev.at hx heq
            exact .val r (by simp [clsOf]) rfl fun _ _ => by
              obtain ⟨q1, q2⟩ := sim_slArr (w := w) (.inr ⟨arr, hu, hu2⟩) hm h2 h3
              exact ⟨by rw [run_v, h1, q1]; rfl, q2⟩
          · cases h
        · cases hc
      · cases hc
    · cases hc
  | fieldAddr ty x i =>
    simp only [cOp] at hc
    split at hc
    · rename_i fs hu
      split at hc
      · rename_i f hf
        split at hc
        · cases hc
        · rename_i n hn0 hn
          obtain ⟨x', hx, rfl⟩ := map_some hc
          simp only [evOp] at h
          split at h
          · rename_i a j o heq; cases h
            obtain ⟨h1, h2⟩ := ev.at hx heq
            obtain ⟨m, rfl⟩ : ∃ m, n = m + 1 := by
              cases n with
              | zero => exact absurd rfl hn0
              | succ m => exact ⟨m, rfl⟩
            exact .val r (by simp [clsOf]) rfl fun _ _ => by
              obtain ⟨q1, q2⟩ := sim_fldA (w := w) hu hf hn h2
              exact ⟨by rw [run_v, h1, q1]; rfl, q2⟩
          · cases h
        · cases hc
      · cases hc
    · cases hc
  | field ty x i =>
    simp only [cOp] at hc
    split at hc
    · rename_i fs hu
      split at hc
      · rename_i f hf
        split at hc
        · rename_i g n hg hn
          obtain ⟨x', hx, rfl⟩ := map_some hc
          simp only [evOp] at h
          split at h
          · rename_i l heq
            obtain ⟨h3, rfl⟩ := some2_some h
            obtain ⟨h1, h2⟩ := ev.at hx heq
            exact .val r (by simp [clsOf]) rfl fun _ _ => by
              obtain ⟨q1, q2⟩ := part_run (w := w) hg hn h2 h3
              exact ⟨by rw [run_v, h1]; simp [Instr.field, run_und hu, hf, conc, asAgg, q1], q2⟩
          · cases h
        · cases hc
      · cases hc
    · cases hc
  | indexAddr ty x i =>
    simp only [cOp] at hc
    split at hc
    · rename_i e' hu
      obtain ⟨n, hn, hc⟩ := bind_some hc
      obtain ⟨x', hx, hc⟩ := bind_some hc
      obtain ⟨i', hi, hc⟩ := bind_some hc
      cases hc
      simp only [evOp] at h
      split at h
      · rename_i a j o len cp heq
        obtain ⟨h1, h2⟩ := ev.at hx heq
        split at h
        · rename_i k hk
          obtain ⟨kd, h3⟩ := natOf_at ev hi hk
          split at h
          · rename_i hb
            simp only [ltb_eq, decide_eq_true_eq] at hb
            cases h
            exact .val r (by simp [clsOf]) rfl fun _ _ => by
              obtain ⟨q1, q2⟩ := sim_ixA (w := w) hu hn h2 (k := kd) hb
              exact ⟨by rw [run_v, h1, h3, q1]; rfl, q2⟩
          · cases h
        · cases h
      · cases h
    · rename_i m e' hu
      obtain ⟨n, hn, hc⟩ := bind_some hc
      obtain ⟨x', hx, hc⟩ := bind_some hc
      obtain ⟨i', hi, hc⟩ := bind_some hc
      cases hc
      simp only [evOp] at h
      split at h
      · rename_i a j o heq
        obtain ⟨h1, h2⟩ := ev.at hx heq
        split at h
        · rename_i k hk
          obtain ⟨kd, h3⟩ := natOf_at ev hi hk
          split at h
          · rename_i hb
            simp only [ltb_eq, decide_eq_true_eq] at hb
            cases h
            exact .val r (by simp [clsOf]) rfl fun _ _ => by
              obtain ⟨q1, q2⟩ := sim_ixAA (w := w) hu hn h2 (k := kd) hb
              exact ⟨by rw [run_v, h1, h3, q1]; rfl, q2⟩
          · cases h
        · cases h
      · cases h
    · cases hc
  | index ty x i =>
    simp only [cOp] at hc
    split at hc
    · rename_i hu
      obtain ⟨x', hx, hc⟩ := bind_some hc
      obtain ⟨i', hi, hc⟩ := bind_some hc
      cases hc
      simp only [evOp] at h
      split at h
      · rename_i b heq
        obtain ⟨h1, h2⟩ := ev.at hx heq
        split at h
        · rename_i k hk
          obtain ⟨kd, h3⟩ := natOf_at ev hi hk
          split at h
          · rename_i c hcc
            cases h
            exact .val r (by simp [clsOf]) rfl fun _ _ => ⟨by rw [run_v, h1, h3]; simp [Instr.index, asIntOf, run_und hu, conc, hcc], trivial⟩
          · cases h
        · cases h
      · cases h
    · rename_i len e' hu
      split at hc
      · rename_i g n hg hn
        obtain ⟨x', hx, hc⟩ := bind_some hc
        obtain ⟨i', hi, hc⟩ := bind_some hc
        cases hc
        simp only [evOp] at h
        split at h
        · rename_i l heq
          obtain ⟨h1, h2⟩ := ev.at hx heq
          split at h
          · rename_i k hk
            obtain ⟨kd, h3⟩ := natOf_at ev hi hk
            split at h
            · rename_i hb
              simp only [ltb_eq, decide_eq_true_eq] at hb
              obtain ⟨h4, rfl⟩ := some2_some h
              exact .val r (by simp [clsOf]) rfl fun _ _ => by
                obtain ⟨q1, q2⟩ := part_run (w := w) hg hn h2 h4
                refine ⟨?_, q2⟩
                have hr : (0 : Int) ≤ (k : Int) ∧ (k : Int) < (len : Int) := by omega
                rw [run_v, h1, h3]
                simp only [Instr.index, asIntOf, Sem.run_bind, Sem.run_pure, Result.andThen_ok, run_und hu, conc]
                rw [if_pos hr]
                simp [run_size hn, q1]
            · cases h
          · cases h
        · cases h
      · cases hc
    · cases hc
  | lookup ty x i ok =>
    simp only [cOp] at hc
    split at hc
    · rename_i k' e' hu
      split at hc
      · rename_i q z hq hz
        obtain ⟨x', hx, hc⟩ := bind_some hc
        obtain ⟨i', hi, hc⟩ := bind_some hc
        cases hc
        obtain ⟨hx1, hx2⟩ := ev _ _ hx
        obtain ⟨hi1, hi2⟩ := ev _ _ hi
        simp only [evOp] at h
        split at h
        · rename_i p u bn hp
          cases h
          exact .val r (by simp [clsOf]) rfl fun _ r => by
            obtain ⟨q1, q2⟩ := sim_look r he hu hq hz (ok := ok) hx2 hi2 hp _ rfl
            exact ⟨by rw [run_v, hx1, hi1, q1]; rfl, q2⟩
        · rename_i hp
          cases h
          exact .val r (by simp [clsOf]) rfl fun _ r => by
            obtain ⟨q1, q2⟩ := sim_look r he hu hq hz (ok := ok) hx2 hi2 hp _ rfl
            exact ⟨by rw [run_v, hx1, hi1, q1]; rfl, q2⟩
        · cases h
      · cases hc
    · cases hc
  | mapUpdate ty m k x =>
    simp only [cOp] at hc
    split at hc
    · rename_i kt e' hu
      obtain ⟨q, hq, hc⟩ := bind_some hc
      obtain ⟨m', hm, hc⟩ := bind_some hc
      obtain ⟨k', hk, hc⟩ := bind_some hc
      obtain ⟨x', hx, hc⟩ := bind_some hc
      cases hc
      simp only [evOp] at h
      split at h
      · rename_i b heq
        obtain ⟨h1, h2⟩ := ev.at hm heq
        obtain ⟨h3, h4⟩ := ev _ _ hk
        obtain ⟨h5, h6⟩ := ev _ _ hx
        split at h
        · rename_i M hM
          split at h
          · rename_i p u bn hp
            cases h
            refine .res r (by simp [clsOf]) fun r => ?_
            obtain ⟨w', q1, q2, q3⟩ := run_mset r he hu hq h2 h4 h6 hM hp rfl
            exact ⟨σ, w', .inr ⟨rfl, by rw [run_u, h1, h3, h5, q1]; rfl⟩, q2, trivial, q3⟩
          · rename_i hp
            cases h
            refine .res r (by simp [clsOf]) fun r => ?_
            obtain ⟨w', q1, q2, q3⟩ := run_mset r he hu hq h2 h4 h6 hM hp rfl
            exact ⟨σ, w', .inr ⟨rfl, by rw [run_u, h1, h3, h5, q1]; rfl⟩, q2, trivial, q3⟩
          · cases h
        · cases h
      · cases h
    · cases hc
  | insert ty m k x =>
    simp only [cOp] at hc
    split at hc
    · rename_i kt e' hu
      obtain ⟨q, hq, hc⟩ := bind_some hc
      obtain ⟨m', hm, hc⟩ := bind_some hc
      obtain ⟨k', hk, hc⟩ := bind_some hc
      obtain ⟨x', hx, hc⟩ := bind_some hc
      cases hc
      simp only [evOp] at h
      split at h
      · rename_i b heq
        obtain ⟨h1, h2⟩ := ev.at hm heq
        obtain ⟨h3, h4⟩ := ev _ _ hk
        obtain ⟨h5, h6⟩ := ev _ _ hx
        split at h
        · rename_i M hM
          split at h
          · rename_i p u bn hp
            cases h
            refine .res r (by simp [clsOf]) fun r => ?_
            obtain ⟨w', q1, q2, q3⟩ := run_mset r he hu hq h2 h4 h6 hM hp rfl
            exact ⟨σ, w', .inr ⟨rfl, by rw [run_u, h1, h3, h5, q1]; rfl⟩, q2, trivial, q3⟩
          · rename_i hp
            cases h
            refine .res r (by simp [clsOf]) fun r => ?_
            obtain ⟨w', q1, q2, q3⟩ := run_mset r he hu hq h2 h4 h6 hM hp rfl
            exact ⟨σ, w', .inr ⟨rfl, by rw [run_u, h1, h3, h5, q1]; rfl⟩, q2, trivial, q3⟩
          · cases h
        · cases h
      · cases h
    · cases hc
  | mapEntry ty m k =>
    simp only [cOp] at hc
    split at hc
    · rename_i kt e' hu
      obtain ⟨q, hq, hc⟩ := bind_some hc
      obtain ⟨z, hz, hc⟩ := bind_some hc
      obtain ⟨m', hm, hc⟩ := bind_some hc
      obtain ⟨k', hk, hc⟩ := bind_some hc
      cases hc
      simp only [evOp] at h
      split at h
      · rename_i b heq
        obtain ⟨h1, h2⟩ := ev.at hm heq
        obtain ⟨h3, h4⟩ := ev _ _ hk
        split at h
        · rename_i M hM
          split at h
          · rename_i p u bn hp
            cases h
            refine .res r (by simp [clsOf]) fun r => ?_
            obtain ⟨w', q1, q4, q2, q3⟩ := run_ment r he hu hq hz h2 h4 hM hp rfl rfl
            exact ⟨σ, w', .inl (by rw [run_v, h1, h3, q1]; rfl), q2, q4, q3⟩
          · rename_i hp
            cases h
            refine .res r (by simp [clsOf]) fun r => ?_
            obtain ⟨w', q1, q4, q2, q3⟩ := run_ment r he hu hq hz h2 h4 hM hp rfl rfl
            exact ⟨σ, w', .inl (by rw [run_v, h1, h3, q1]; rfl), q2, q4, q3⟩
          · cases h
        · cases h
      · cases h
    · cases hc
  | entryStore ty m b x =>
    simp only [cOp] at hc
    obtain ⟨m', hm, hc⟩ := bind_some hc
    obtain ⟨b', hb, hc⟩ := bind_some hc
    obtain ⟨x', hx, hc⟩ := bind_some hc
    cases hc
    simp only [evOp] at h
    split at h
    · rename_i q heq
      obtain ⟨h1, h2⟩ := ev.at hm heq
      obtain ⟨h3, h4⟩ := ev _ _ hb
      obtain ⟨h5, h6⟩ := ev _ _ hx
      split at h
      · rename_i M hM
        split at h
        · rename_i k hk
          split at h
          · rename_i l hl
            cases h
            refine .res r (by simp [clsOf]) fun r => ?_
            obtain ⟨w', q1, q2, q3⟩ := run_mest (t := ty) r h2 hk h6 hM hl
            exact ⟨σ, w', .inr ⟨rfl, by rw [run_u, h1, h3, h5, q1]; rfl⟩, q2, trivial, q3⟩
          · cases h
        · cases h
      · cases h
    · cases h
  | extract x i =>
    obtain ⟨x', hx, rfl⟩ := map_some hc
    simp only [evOp] at h
    split at h
    · rename_i l heq
      obtain ⟨h3, rfl⟩ := some2_some h
      obtain ⟨h1, h2⟩ := ev.at hx heq
      exact .val r (by simp [clsOf]) rfl fun _ _ => by
        obtain ⟨q1, q2⟩ := sim_ext (P := P) (w := w) rfl h2 h3
        exact ⟨by rw [run_v, h1, q1]; rfl, q2⟩
    · cases h
  | call c => exact builtin_fact he r ev hc h
  | _ => cases hc

theorem alloc_fact {o : Oper} {e : EOp} {v : AV} {cl : Oracle} (he : EOk E σ) (r : Rel P σ t w) (ev : REv σ T ρ) (hc : cOp P o.op = some e) (hn : clsOf e = .alloc) (h : evOp E cl e T s = some (v, s₁)) :
    AllocRes P σ w s v s₁ ((execOp ρ o).run P w) := by
  rcases op_fact he r ev hc h with ⟨_, k⟩ | ⟨k, _⟩
  · exact k
  · exact absurd hn k

theorem evOp_sound {o : Oper} {e : EOp} {v : AV} {cl : Oracle} (he : EOk E σ) (r : Rel P σ s w) (ev : REv σ T ρ) (hc : cOp P o.op = some e) (h : evOp E cl e T s = some (v, s₁)) :
    Res P σ s w ((execOp ρ o).run P w) v s₁ := by
  rcases op_fact he r ev hc h with ⟨ha, k⟩ | ⟨_, k⟩
  · have hm := evOp_alloc ha h
    have mm := hm.more
    have r' : Rel P σ s₁ w := r.more mm (hm.wf r.wf)
    obtain ⟨σ', w', q1, q2, q3, q4, _, _⟩ := k.late (B := s.na) (Bm := s.nm) r' (Nat.le_refl _) (Nat.le_refl _) (Nat.le_refl _) (Nat.le_refl _)
      (fun a h1 _ => ⟨r.na a h1, rfl⟩) (fun m h1 _ => ⟨r.nm m h1, rfl⟩)
    refine ⟨σ', w', .inl q1, q2, q3, ?_⟩
    exact ⟨q4.le, q4.img, q4.fr, q4.size, q4.os, q4.tape, q4.output, Nat.le_trans mm.na q4.na, Nat.le_trans mm.nm q4.nm, Nat.le_trans mm.nl q4.nl,
      fun a ha h0 => by obtain ⟨x1, x2⟩ := q4.fa a ha h0; exact ⟨by rw [x1, mm.arr a ha], x2⟩, fun a ha h0 => by obtain ⟨x1, x2⟩ := q4.fm a ha h0; exact ⟨by rw [x1, mm.map a ha], x2⟩⟩
  · exact k rfl

end
end Go.Ab
end
