/- Soundness of the abstract evaluator, part 3: reading and writing cells. -/
import Derived.Test.YthekpkcmlndcmaaGreatAbS2
noncomputable section
namespace Go.Ab

theorem Sg.vi_get {σ : Sg} {a j : Nat} (h : j < (σ.ar a).length) : (σ.ar a)[j]? = some (σ.vi a j) := by
  simp [Sg.vi, List.getElem?_eq_getElem h]
theorem Sg.vi_mem {σ : Sg} {a j : Nat} (h : j < (σ.ar a).length) : σ.vi a j ∈ σ.ar a := List.mem_of_getElem? (Sg.vi_get h)

theorem Rel.at {P : Program} {σ : Sg} {s : AS} {w : World} (r : Rel P σ s w) {a j : Nat} (h : j < (σ.ar a).length) :
    ∃ A cs E fz, s.arrs.get a = some A ∧ RArr σ w A (σ.ar a) ∧ w.heap[(σ.vi a j).blk]? = some (.cells cs E fz) ∧ (σ.vi a j).en = (σ.vi a j).sh + cs.size ∧ fine fz cs.size ∧
      ∀ i v, A.rd j i = some v → (σ.vi a j).sh ≤ i ∧ cs[i - (σ.vi a j).sh]? = some (conc σ v) := by
  obtain ⟨A, h1, h2⟩ := r.arr a (List.ne_nil_of_mem (Sg.vi_mem h))
  obtain ⟨cs, E, fz, h3, h4, h5, h6⟩ := h2.blk j _ (Sg.vi_get h)
  exact ⟨A, cs, E, fz, h1, h2, h3, h4, h5, h6⟩

theorem Rel.rd {P : Program} {σ : Sg} {s : AS} {w : World} (r : Rel P σ s w) {a j i : Nat} {v : AV} (h : j < (σ.ar a).length) (hr : s.rd a j i = some v) :
    (σ.vi a j).sh ≤ i ∧ w.cell? (σ.adr a j i) = some (conc σ v) ∧ w.frozen? (σ.adr a j i) = false ∧ In σ v := by
  obtain ⟨A, cs, E, fz, h1, h2, h3, h4, h5, h6⟩ := r.at h
  simp only [AS.rd, h1] at hr
  obtain ⟨h7, h8⟩ := h6 i v hr
  refine ⟨h7, ?_, ?_, h2.inn j i v hr⟩
  · simp only [World.cell?, Sg.adr, h3]; simpa using h8
  · simp only [World.frozen?, Sg.adr, h3]
    have : i - (σ.vi a j).sh < cs.size := by
      rcases Nat.lt_or_ge (i - (σ.vi a j).sh) cs.size with h | h
      · exact h
      · rw [Array.getElem?_eq_none h] at h8; cases h8
    rcases h5 with rfl | h5
    · simp
    · have h9 : ¬ fz.1 ≤ i - (σ.vi a j).sh := by omega
      simp [h9]

theorem adr_add {σ : Sg} {a j o : Nat} (h : (σ.vi a j).sh ≤ o) (n : Nat) : (σ.adr a j o).add n = σ.adr a j (o + n) := by
  simp only [Addr.add, Sg.adr]
  split
  · rename_i h; subst h; rfl
  · congr 1; omega

theorem run_load_some {P : Program} {w : World} {a : Addr} {v : Value} (h : w.cell? a = some v) : (load a).run P w = .ok v w := by
  rw [run_load, h]

theorem rdN_spec {A : Arr} {j i n : Nat} {l : List AV} (h : rdN A j i n = some l) : l.length = n ∧ ∀ k, k < n → A.rd j (i + k) = l[k]? := by
  induction n generalizing i l with
  | zero => simp [rdN] at h; subst h; simp
  | succ n ih =>
    simp only [rdN] at h
    split at h
    · rename_i v hv
      split at h
      · rename_i m hm
        simp at h; subst h
        obtain ⟨h1, h2⟩ := ih hm
        refine ⟨by simp [h1], fun k hk => ?_⟩
        cases k with
        | zero => simpa using hv
        | succ k => rw [show i + (k + 1) = i + 1 + k from by omega, h2 k (by omega)]; simp
      · cases h
    · cases h

theorem AS.rdN_spec {s : AS} {a j i n : Nat} {l : List AV} (h : s.rdN a j i n = some l) : l.length = n ∧ ∀ k, k < n → s.rd a j (i + k) = l[k]? := by
  simp only [AS.rdN] at h
  split at h
  · rename_i A hA
    obtain ⟨h1, h2⟩ := Ab.rdN_spec h
    exact ⟨h1, fun k hk => by simp only [AS.rd, hA]; exact h2 k hk⟩
  · cases h

theorem loadCellsFrom_run {P : Program} {w : World} {a : Addr} (n : Nat) : ∀ (i : Nat) (acc : Array Value) (l : List Value), l.length = n → (∀ k, k < n → w.cell? (a.add (i + k)) = l[k]?) →
    (loadCellsFrom a i n acc).run P w = .ok (acc ++ l.toArray) w := by
  induction n with
  | zero => intro i acc l hl _; obtain rfl : l = [] := List.eq_nil_of_length_eq_zero hl; simp [loadCellsFrom]
  | succ n ih =>
    intro i acc l hl h
    cases l with
    | nil => simp at hl
    | cons v l =>
      have h0 := h 0 (by omega)
      simp only [Nat.add_zero, List.getElem?_cons_zero] at h0
      simp only [loadCellsFrom, Sem.run_bind, run_load_some h0, Result.andThen_ok]
      rw [ih (i + 1) (acc.push v) l (by simpa using hl) (fun k hk => by rw [show i + 1 + k = i + (k + 1) from by omega, h (k + 1) (by omega)]; simp)]
      simp

theorem Rel.rdN {P : Program} {σ : Sg} {s : AS} {w : World} (r : Rel P σ s w) {a j i n : Nat} {l : List AV} (h : j < (σ.ar a).length) (hi : (σ.vi a j).sh ≤ i) (hr : s.rdN a j i n = some l) :
    (loadCells (σ.adr a j i) n).run P w = .ok (concL σ l).toArray w ∧ InL σ l ∧ l.length = n := by
  obtain ⟨h1, h2⟩ := AS.rdN_spec hr
  refine ⟨?_, ?_, h1⟩
  · simp only [loadCells]
    rw [loadCellsFrom_run n 0 #[] (concL σ l) (by simp [concL_eq, h1])]
    · simp
    · intro k hk
      rw [adr_add hi, concL_eq, List.getElem?_map]
      have h3 := h2 k hk
      have h4 : k < l.length := by omega
      rw [List.getElem?_eq_getElem h4] at h3 ⊢
      rw [Nat.zero_add, (r.rd h h3).2.1]; rfl
  · rw [InL_iff]
    intro v hv
    obtain ⟨k, hk⟩ := List.getElem?_of_mem hv
    have h4 : k < l.length := by
      rcases Nat.lt_or_ge k l.length with h | h
      · exact h
      · rw [List.getElem?_eq_none h] at hk; cases hk
    have h3 := h2 k (by omega)
    rw [hk] at h3
    exact (r.rd h h3).2.2.2

theorem oneCell_conc {P : Program} {σ : Sg} {s : AS} {w : World} (r : Rel P σ s w) {v : AV} (h : leaf v = true) : (conc σ v).oneCell' = true := by
  cases v <;> first | rfl | (simp [leaf] at h; done) | (simp only [conc]; exact r.opq _)

theorem wr_rd {A A' : Arr} {j i : Nat} {v : AV} (h : A.wr j i v = some A') :
    j = A.ver ∧ leaf v = true ∧ i < A.n ∧ A.lo ≤ i ∧ A'.ver = A.ver ∧ A'.n = A.n ∧ A'.lo = A.lo ∧
    (∀ i', i' ≠ i → A'.get i' = A.get i') ∧ A'.get i = some (j, v) := by
  simp only [Arr.wr, beq_eq, ltb_eq, ble_eq] at h
  split at h
  · rename_i hc
    simp at hc h
    subst h
    refine ⟨hc.1, hc.2.1, hc.2.2.1, hc.2.2.2, rfl, rfl, rfl, fun i' hi' => ?_, ?_⟩
    · simp [Arr.get, Tr.get_set_ne _ _ hi']
    · simp [Arr.get, ltb_eq, ble_eq, hc.2.2]
  · cases h

theorem heap_setCell_ne (w : World) (a : Addr) (u : Value) {k : Nat} (h : k ≠ a.block) : (w.setCell a u).heap[k]? = w.heap[k]? := by
  simp only [World.setCell, Array.getElem?_modify]
  rw [if_neg (by omega)]
theorem heap_setCell_eq (w : World) (b o : Nat) (u : Value) {cs : Array Value} {E : TypeId} {fz : Nat × Nat} (h : w.heap[b]? = some (.cells cs E fz)) :
    (w.setCell ⟨b, o, none⟩ u).heap[b]? = some (.cells (cs.setIfInBounds o u) E fz) := by
  simp [World.setCell, Array.getElem?_modify, h]

/-- One cell written. -/
theorem Rel.wr {P : Program} {σ : Sg} {s : AS} {w : World} (r : Rel P σ s w) {a j i : Nat} {v : AV} {A A' : Arr} (h : j < (σ.ar a).length) (hA : s.arrs.get a = some A)
    (hv : In σ v) (hw : A.wr j i v = some A') :
    (store (σ.adr a j i) (conc σ v)).run P w = .ok () (w.setCell (σ.adr a j i) (conc σ v)) ∧ (σ.vi a j).sh ≤ i ∧
    Rel P σ { s with arrs := s.arrs.set a A' } (w.setCell (σ.adr a j i) (conc σ v)) ∧
    Ext σ s w σ { s with arrs := s.arrs.set a A' } (w.setCell (σ.adr a j i) (conc σ v)) := by
  obtain ⟨A₀, cs, E, fz, h1, h2, h3, h4, h5, h6⟩ := r.at h
  rw [hA] at h1; cases h1
  obtain ⟨hj, hl, hn, hlo, hver, hn', hlo', hget, hnew⟩ := wr_rd hw
  obtain ⟨m, v₀, hg, hm⟩ := h2.full i hlo hn
  have hrd : A.rd j i = some v₀ := by simp [Arr.rd, hg, ble_eq, hj, hm]
  have hrd' : s.rd a j i = some v₀ := by simp [AS.rd, hA, hrd]
  obtain ⟨hsh, hcell, hfz, _⟩ := r.rd h hrd'
  have hne : σ.ar a ≠ [] := List.ne_nil_of_mem (Sg.vi_mem h)
  have hin : i - (σ.vi a j).sh < cs.size := by
    have := (h6 i v₀ hrd).2
    rcases Nat.lt_or_ge (i - (σ.vi a j).sh) cs.size with h | h
    · exact h
    · rw [Array.getElem?_eq_none h] at this; cases this
  have hrdA : ∀ j' i' v', A'.rd j' i' = some v' → (i' ≠ i ∧ A.rd j' i' = some v') ∨ (i' = i ∧ j ≤ j' ∧ v' = v) := by
    intro j' i' v' hh
    by_cases hi : i' = i
    · subst hi
      simp only [Arr.rd, hnew, ble_eq] at hh
      split at hh
      · rename_i hb; simp at hb hh; exact .inr ⟨rfl, hb, hh.symm⟩
      · cases hh
    · simp only [Arr.rd, hget i' hi] at hh
      exact .inl ⟨hi, by simpa only [Arr.rd] using hh⟩
  have hblock : ∀ k, k ≠ (σ.vi a j).blk → (w.setCell (σ.adr a j i) (conc σ v)).heap[k]? = w.heap[k]? := fun k hk => heap_setCell_ne w _ _ hk
  refine ⟨?_, hsh, ?_, ?_⟩
  · rw [run_store P w _ _ _ (oneCell_conc r hl), hcell]; simp [hfz]
  · constructor
    · intro a'
      by_cases ha : a' = a
      · subst ha
        intro _
        refine ⟨A', by simp, ?_⟩
        refine ⟨by rw [h2.len, hver], ?_, h2.shs, ?_, ?_⟩
        · intro i' hi1 hi2
          by_cases hi : i' = i
          · subst hi; exact ⟨j, v, hnew, by omega⟩
          · rw [hget i' hi]; rw [hver]; exact h2.full i' (by omega) (by omega)
        · intro j' i' v' hh
          rcases hrdA j' i' v' hh with ⟨_, h'⟩ | ⟨_, _, rfl⟩
          · exact h2.inn j' i' v' h'
          · exact hv
        · intro j' vi' hj'
          obtain ⟨cs', E', fz', k1, k2, k3, k4⟩ := h2.blk j' vi' hj'
          by_cases hb : vi'.blk = (σ.vi a' j).blk
          · have hs' : vi'.sh = (σ.vi a' j).sh := h2.shs _ _ (List.mem_of_getElem? hj') (Sg.vi_mem h) hb
            rw [hb, h3] at k1
            simp only [Option.some.injEq, Obj.cells.injEq] at k1
            obtain ⟨rfl, rfl, rfl⟩ := k1
            refine ⟨cs.setIfInBounds (i - (σ.vi a' j).sh) (conc σ v), E, fz, ?_, by simpa using k2, by simpa using k3, ?_⟩
            · rw [hb]; exact heap_setCell_eq w _ _ _ h3
            · intro i' v' hh
              rcases hrdA j' i' v' hh with ⟨hi, h'⟩ | ⟨rfl, _, rfl⟩
              · obtain ⟨k5, k6⟩ := k4 i' v' h'
                refine ⟨k5, ?_⟩
                rw [Array.getElem?_setIfInBounds_ne (by omega)]; exact k6
              · refine ⟨by omega, ?_⟩
                rw [hs', Array.getElem?_setIfInBounds_self]; simp [hin]
          · refine ⟨cs', E', fz', by rw [hblock _ hb]; exact k1, k2, k3, ?_⟩
            intro i' v' hh
            rcases hrdA j' i' v' hh with ⟨_, h'⟩ | ⟨rfl, hle, rfl⟩
            · exact k4 i' v' h'
            · exfalso
              have hlen := h2.len
              have : j' < (σ.ar a').length := by
                rcases Nat.lt_or_ge j' (σ.ar a').length with h | h
                · exact h
                · rw [List.getElem?_eq_none h] at hj'; cases hj'
              have hjj : j' = j := by omega
              subst hjj
              rw [Sg.vi_get h] at hj'
              exact hb (by cases hj'; rfl)
      · refine (r.arr a').mono (.refl σ) rfl (by simp [Tr.get_set_ne _ _ ha]) fun vi hvi => hblock _ fun hb => ha (r.inj a' a vi _ hvi (Sg.vi_mem h) hb)
    · exact r.inj
    · intro m
      refine (r.map m).mono (.refl σ) rfl rfl fun b hb => hblock _ ?_
      rintro rfl
      obtain ⟨M, _, hM, _⟩ := r.map m _ hb
      rw [h3] at hM; cases hM
    · exact r.minj
    · intro l
      refine (r.lop l).mono (.refl σ) rfl rfl fun b hb => hblock _ ?_
      rintro rfl
      obtain ⟨L, _, hL⟩ := r.lop l _ hb
      obtain ⟨N, fn, tmps, asn, body, d, hL1, _⟩ := hL.ex
      rw [h3] at hL1; cases hL1
    · exact r.linj
    · exact r.na
    · exact r.nm
    · exact r.nl
    · exact r.opq
    · refine ⟨fun x hx => ?_, r.wf.map⟩
      have hne : x ≠ a := by
        rintro rfl
        have := r.wf.arr x hx
        rw [hA] at this; cases this
      simp only; rw [Tr.get_set_ne _ _ hne]; exact r.wf.arr x hx
  · refine ⟨.refl σ, fun _ h => .inl h, fun b _ hb => hblock b fun e => hb (.inl ⟨a, _, Sg.vi_mem h, e.symm⟩), by simp, rfl, rfl, rfl, Nat.le_refl _, Nat.le_refl _, Nat.le_refl _, ?_, fun _ _ h => ⟨rfl, h⟩⟩
    intro a' _ ha'
    refine ⟨Tr.get_set_ne _ _ fun e => hne (e ▸ ha'), ha'⟩


theorem Tr.set_sing {α : Type} (f k : Nat) (x y : α) (h : k ≤ f) : (Tr.sing f k x).set k y = Tr.sing f k y := by
  induction f generalizing k with
  | zero =>
    obtain rfl : k = 0 := by omega
    simp [Tr.sing_zero, Tr.sing_succ, Tr.set_nil, Tr.set_node, beq_eq]
  | succ f ih =>
    simp only [Tr.sing_zero, Tr.sing_succ, beq_eq]
    by_cases h0 : k = 0
    · subst h0; simp [Tr.set_nil, Tr.set_node, beq_eq]
    · simp only [h0, decide_false]
      by_cases h2 : k % 2 = 1
      · simp only [h2, decide_true, Tr.set_nil, Tr.set_node, beq_eq, h0, decide_false, ih (k / 2) (by omega)]
      · simp only [h2, decide_false, Tr.set_nil, Tr.set_node, beq_eq, h0, ih (k / 2 - 1) (by omega)]

theorem Tr.set_set {α : Type} (t : Tr α) (k : Nat) (x y : α) : (t.set k x).set k y = t.set k y := by
  induction t generalizing k with
  | e => exact Tr.set_sing k k x y (Nat.le_refl _)
  | n l v r ihl ihr =>
    simp only [Tr.set_nil, Tr.set_node, beq_eq]
    by_cases h0 : k = 0
    · subst h0; simp [Tr.set_nil, Tr.set_node, beq_eq]
    · simp only [h0, decide_false]
      by_cases h2 : k % 2 = 1
      · simp only [h2, decide_true, Tr.set_nil, Tr.set_node, beq_eq, h0, decide_false, ihl]
      · simp only [h2, decide_false, Tr.set_nil, Tr.set_node, beq_eq, h0, ihr]

theorem Tr.set_get {α : Type} {t : Tr α} {k : Nat} {x : α} (h : t.get k = some x) : t.set k x = t := by
  induction t generalizing k with
  | e => simp at h
  | n l v r ihl ihr =>
    simp only [Tr.get_nil, Tr.get_node, beq_eq] at h
    simp only [Tr.set_nil, Tr.set_node, beq_eq]
    by_cases h0 : k = 0
    · simp only [h0, decide_true] at h ⊢; rw [h]
    · simp only [h0, decide_false] at h ⊢
      by_cases h2 : k % 2 = 1
      · simp only [h2, decide_true] at h ⊢; rw [ihl h]
      · simp only [h2, decide_false] at h ⊢; rw [ihr h]

theorem wrN_hit {A A' : Arr} {j i : Nat} {l : List AV} (h : wrN A j i l = some A') : (l = [] ∧ A' = A) ∨ ∃ v l' A₁, l = v :: l' ∧ A.wr j i v = some A₁ ∧ wrN A₁ j (i + 1) l' = some A' := by
  cases l with
  | nil => simp [wrN] at h; exact .inl ⟨rfl, h.symm⟩
  | cons v l =>
    simp only [wrN] at h
    split at h
    · rename_i A₁ hA; exact .inr ⟨v, l, A₁, rfl, hA, h⟩
    · cases h

/-- A row of cells written, one behind the other. -/
theorem Rel.wrN {P : Program} {σ : Sg} {l : List AV} : ∀ {s s' : AS} {w : World} {a j i₀ k : Nat}, Rel P σ s w → j < (σ.ar a).length → (σ.vi a j).sh ≤ i₀ → InL σ l → s.wrN a j (i₀ + k) l = some s' →
    ∃ w', (storeCells (σ.adr a j i₀) (concL σ l) k).run P w = .ok () w' ∧ Rel P σ s' w' ∧ Ext σ s w σ s' w' := by
  induction l with
  | nil =>
    intro s s' w a j i₀ k r _ _ _ h
    simp only [AS.wrN, Ab.wrN] at h
    split at h
    · rename_i A hA
      simp at h; subst h
      refine ⟨w, by simp [concL, storeCells], ?_, ?_⟩
      · rw [Tr.set_get hA]; exact r
      · rw [Tr.set_get hA]; exact .refl _ _ _
    · cases h
  | cons v l ih =>
    intro s s' w a j i₀ k r hj hi hin h
    simp only [InL] at hin
    simp only [AS.wrN] at h
    split at h
    · rename_i A hA
      split at h
      · rename_i A' hA'
        simp at h; subst h
        rcases wrN_hit hA' with ⟨h0, _⟩ | ⟨v', l', A₁, h0, h1, h2⟩
        · cases h0
        · cases h0
          obtain ⟨k1, _, k2, k3⟩ := r.wr hj hA hin.1 h1
          have h3 : ({ s with arrs := s.arrs.set a A₁ } : AS).wrN a j (i₀ + (k + 1)) l = some { s with arrs := s.arrs.set a A' } := by
            simp only [AS.wrN, Tr.get_set_same]
            rw [show i₀ + (k + 1) = i₀ + k + 1 from by omega, h2]
            simp only [Tr.set_set]
          obtain ⟨w', k4, k5, k6⟩ := ih k2 hj hi hin.2 h3
          refine ⟨w', ?_, k5, k3.trans k6⟩
          simp only [concL, storeCells, Sem.run_bind, adr_add hi, k1, Result.andThen_ok]
          exact k4
      · cases h
    · cases h

end Go.Ab
