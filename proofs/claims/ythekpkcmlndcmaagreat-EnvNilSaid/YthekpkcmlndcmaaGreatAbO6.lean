/- Soundness of the abstract evaluator: changes of maps. -/
import Derived.Test.YthekpkcmlndcmaaGreatAbO5
noncomputable section
namespace Go.Ab
section
variable {P : Program} {E : Env} {σ : Sg} {s : AS} {w : World}

theorem push_conc (es : List (AV × AV × Nat)) (e : AV × AV × Nat) : (es.map (centry σ)).toArray.push (centry σ e) = ((es ++ [e]).map (centry σ)).toArray := by simp

theorem In_push {es : List (AV × AV × Nat)} {e : AV × AV × Nat} (h : ∀ x ∈ es, In σ x.1 ∧ In σ x.2.1) (he : In σ e.1 ∧ In σ e.2.1) : ∀ x ∈ es ++ [e], In σ x.1 ∧ In σ x.2.1 := by
  intro x hx
  rcases List.mem_append.1 hx with hx | hx
  · exact h x hx
  · simp at hx; subst hx; exact he

theorem run_mset (r : Rel P σ s w) (he : EOk E σ) {t kt e : TypeId} {k : EqK} (ht : P.underlying t = some (.map kt e)) (hk : mapKind P kt = some k) {m : Nat} {i v : AV} (hm : In σ (.mp m)) (hi : In σ i) (hv : In σ v) {M : AMap} (hM : s.maps.get m = some M)
    {p : Option (Nat × AV × Nat)} (h : lookM E k i M.es 0 = some p) {M' : AMap} (hM' : M' = match p with | some (q, _, _) => ⟨setM M.es q i v, M.clock⟩ | none => ⟨M.es ++ [(i, v, M.clock)], M.clock + 1⟩) :
    ∃ w', (Instr.mapUpdate t (conc σ (.mp m)) (conc σ i) (conc σ v)).run P w = .ok () w' ∧ Rel P σ { s with maps := s.maps.set m M' } w' ∧ Ext σ s w σ { s with maps := s.maps.set m M' } w' := by
  obtain ⟨q, d, rfl, hd, hq⟩ := mapKind_leaf hk
  simp only [In] at hm
  obtain ⟨b, hb⟩ := isSome_get hm
  obtain ⟨M₁, h1, h2, h3⟩ := r.map m b hb
  rw [hM] at h1; cases h1
  obtain ⟨k1, k2⟩ := find_spec (P := P) he hd hq w h
  have hin : ∀ e ∈ M'.es, In σ e.1 ∧ In σ e.2.1 := by
    subst hM'
    cases p with
    | none => exact In_push h3 ⟨hi, hv⟩
    | some p =>
      obtain ⟨p, u, bn⟩ := p
      obtain ⟨_, a, m2, _⟩ := k2 p u bn rfl
      rw [Nat.sub_zero] at m2
      simp only
      rw [setM_eq _ _ _ _ m2]
      exact In_set h3 ⟨hi, hv⟩
  refine ⟨setMap w b σ M', ?_, r.setMap hb M' hin⟩
  simp only [conc, hb, Option.getD_some, Instr.mapUpdate, Sem.run_bind, run_und ht, Result.andThen_ok, run_getMap h2, check_leaf hq, run_find hd k1]
  subst hM'
  cases p with
  | none =>
    simp only [Option.map_none, run_setMap _ h2, Ab.setMap]
    rw [← push_conc]; rfl
  | some p =>
    obtain ⟨p, u, bn⟩ := p
    obtain ⟨_, a, m2, m3⟩ := k2 p u bn rfl
    simp only [Nat.sub_zero] at m2
    have hold : (((((M.es.map (centry σ)).toArray)[p]?).map (·.key)).getD (conc σ i)) = conc σ a := by simp [m2, centry]
    simp only [Option.map_some, Sem.run_bind, hold, stays_leaf m3, Result.andThen_ok, run_setMap _ h2, Ab.setMap]
    rw [← modify_conc m2 (fun e => { e with key := conc σ i, val := conc σ v }) rfl]

theorem run_ment (r : Rel P σ s w) (he : EOk E σ) {t kt e : TypeId} {k : EqK} {z : AV} (ht : P.underlying t = some (.map kt e)) (hk : mapKind P kt = some k) (hz : tzero P.toTables e = some z) {m : Nat} {i : AV} (hm : In σ (.mp m)) (hi : In σ i) {M : AMap} (hM : s.maps.get m = some M)
    {p : Option (Nat × AV × Nat)} (h : lookM E k i M.es 0 = some p) {M' : AMap} (hM' : M' = match p with | some (q, v, _) => ⟨setM M.es q i v, M.clock⟩ | none => ⟨M.es ++ [(i, z, M.clock)], M.clock + 1⟩)
    {x : AV} (hx : x = match p with | some (_, v, b) => .tup [v, intN b] | none => .tup [z, intN M.clock]) :
    ∃ w', (Instr.mapEntry t (conc σ (.mp m)) (conc σ i)).run P w = .ok (conc σ x) w' ∧ In σ x ∧ Rel P σ { s with maps := s.maps.set m M' } w' ∧ Ext σ s w σ { s with maps := s.maps.set m M' } w' := by
  obtain ⟨q, d, rfl, hd, hq⟩ := mapKind_leaf hk
  obtain ⟨z', hz1, hz2⟩ := tzero_some (w := w) hz
  obtain ⟨hz3, hz4⟩ := ofV_conc (σ := σ) hz2
  simp only [In] at hm
  obtain ⟨b, hb⟩ := isSome_get hm
  obtain ⟨M₁, h1, h2, h3⟩ := r.map m b hb
  rw [hM] at h1; cases h1
  obtain ⟨k1, k2⟩ := find_spec (P := P) he hd hq w h
  have hin : ∀ e ∈ M'.es, In σ e.1 ∧ In σ e.2.1 := by
    subst hM'
    cases p with
    | none => exact In_push h3 ⟨hi, hz4⟩
    | some p =>
      obtain ⟨p, u, bn⟩ := p
      obtain ⟨_, a, m2, _⟩ := k2 p u bn rfl
      rw [Nat.sub_zero] at m2
      simp only
      rw [setM_eq _ _ _ _ m2]
      exact In_set h3 ⟨hi, (h3 _ (List.mem_of_getElem? m2)).2⟩
  have hinx : In σ x := by
    subst hx
    cases p with
    | none => simp [In, InL, hz4, intN]
    | some p =>
      obtain ⟨p, u, bn⟩ := p
      obtain ⟨_, a, m2, _⟩ := k2 p u bn rfl
      simp [In, InL, intN, (h3 _ (List.mem_of_getElem? m2)).2]
  refine ⟨setMap w b σ M', ?_, hinx, r.setMap hb M' hin⟩
  simp only [conc, hb, Option.getD_some, Instr.mapEntry, Sem.run_bind, run_und ht, Result.andThen_ok, run_getMap h2, check_leaf hq, run_find hd k1]
  subst hM'
  subst hx
  cases p with
  | none =>
    simp only [Option.map_none, Sem.run_bind, hz1, Result.andThen_ok, run_setMap _ h2, Ab.setMap, Sem.run_pure]
    rw [← push_conc]; simp [conc, concL, intN, centry, hz3, goInt]
  | some p =>
    obtain ⟨p, u, bn⟩ := p
    obtain ⟨_, a, m2, m3⟩ := k2 p u bn rfl
    simp only [Nat.sub_zero] at m2
    have hold : (((((M.es.map (centry σ)).toArray)[p]?).map (·.key)).getD (conc σ i)) = conc σ a := by simp [m2, centry]
    have hborn : ((((M.es.map (centry σ)).toArray)[p]?).map (·.born)).getD 0 = bn := by simp [m2, centry]
    simp only [Option.map_some, Sem.run_bind, hold, stays_leaf m3, Result.andThen_ok, run_setMap _ h2, Ab.setMap, Sem.run_pure, hborn]
    rw [← modify_conc m2 (fun e => { e with key := conc σ i }) rfl]
    simp [conc, concL, intN, goInt, m2, centry]

theorem setBorn_spec : ∀ {es l : List (AV × AV × Nat)} {b : Nat} {v : AV}, setBorn es b v = some l → ∃ p a u, es[p]? = some (a, u, b) ∧ l = es.set p (a, v, b) ∧ es.findIdx? (fun e => e.2.2 == b) = some p := by
  intro es
  induction es with
  | nil => intro l b v h; simp [setBorn] at h
  | cons e es ih =>
    intro l b v h
    obtain ⟨a, u, b'⟩ := e
    simp only [setBorn, beq_eq] at h
    split at h
    · rename_i hb
      simp at hb; subst hb
      cases h
      exact ⟨0, a, u, by simp, by simp, by simp [List.findIdx?_cons]⟩
    · rename_i hb
      simp at hb
      split at h
      · rename_i l' hl
        cases h
        obtain ⟨p, a', u', h1, h2, h3⟩ := ih hl
        exact ⟨p + 1, a', u', by simpa using h1, by simp [h2], by simp [List.findIdx?_cons, hb, h3]⟩
      · cases h

theorem run_mest (r : Rel P σ s w) {t : TypeId} {m : Nat} {x v : AV} {b : Nat} (hm : In σ (.mp m)) (hx : natOf x = some b) (hv : In σ v) {M : AMap} (hM : s.maps.get m = some M) {l : List (AV × AV × Nat)} (h : setBorn M.es b v = some l) :
    ∃ w', (Instr.entryStore t (conc σ (.mp m)) (conc σ x) (conc σ v)).run P w = .ok () w' ∧ Rel P σ { s with maps := s.maps.set m ⟨l, M.clock⟩ } w' ∧ Ext σ s w σ { s with maps := s.maps.set m ⟨l, M.clock⟩ } w' := by
  simp only [In] at hm
  obtain ⟨c, hb⟩ := isSome_get hm
  obtain ⟨M₁, h1, h2, h3⟩ := r.map m c hb
  rw [hM] at h1; cases h1
  obtain ⟨p, a, u, k1, k2, k3⟩ := setBorn_spec h
  refine ⟨setMap w c σ ⟨l, M.clock⟩, ?_, r.setMap hb _ ?_⟩
  · have hf : (M.es.map (centry σ)).toArray.findIdx? (fun e => (e.born : Int) == (b : Int)) = some p := by
      rw [List.findIdx?_toArray, List.findIdx?_map]
      rw [← k3]
      congr 1
      funext e
      simp only [Function.comp, centry]
      by_cases h : e.2.2 = b
      · simp [h]
      · have h' : ¬ ((e.2.2 : Int) = (b : Int)) := by omega
        rw [beq_eq_false_iff_ne.2 h, beq_eq_false_iff_ne.2 h']
    simp only [conc, hb, Option.getD_some, Instr.entryStore, Sem.run_bind, run_getMap h2, Result.andThen_ok, run_asInt hx, hf, run_setMap _ h2, Ab.setMap]
    rw [← setM_eq _ _ _ _ k1] at k2
    rw [modify_conc (x := a) (v := v) k1 _ rfl, k2]
  · rw [k2]
    exact In_set h3 ⟨(h3 _ (List.mem_of_getElem? k1)).1, hv⟩

end
end Go.Ab
