/- Soundness of the abstract evaluator: the blocks of range-over-function loops. -/
import Derived.Test.YthekpkcmlndcmaaGreatAbD9
noncomputable section
namespace Go.Ab

def Sg.addL (σ : Sg) (l b : Nat) : Sg := { σ with lp := fun x => if x = l then some b else σ.lp x }
theorem Sg.le_addL (σ : Sg) (l b : Nat) (h : σ.lp l = none) : σ.le (σ.addL l b) where
  ar _ := List.prefix_refl _
  mp _ _ h := h
  lp x r hr := by
    simp only [Sg.addL]
    split
    · rename_i e; subst e; rw [h] at hr; cases hr
    · exact hr
  opq := rfl
  sym := rfl

/-- A new loop. -/
theorem Rel.newL {P : Program} {σ : Sg} {s : AS} {w : World} (r : Rel P σ s w) {L : ALoop} {N fn : Nat} {tmps : Array Value} {asn body : Code} {d : Nat} (hp : L.pend = .normal) (rt : RTmp σ N L.tmps tmps)
    (h1 : L.asn = cCode P asn) (h2 : L.body = cCode P body) (h3 : dstC N L.asn = true) (h4 : dstC N L.body = true) (h5 : L.ps.all (ltb · N) = true) :
    Rel P (σ.addL s.nl w.heap.size) { s with loops := s.loops.set s.nl L, nl := s.nl + 1 } (w.alloc (.loop { state := L.state, pending := none, fn, tmps, params := L.ps.toArray, assign := asn, body, defers := d })) ∧
    Ext σ s w (σ.addL s.nl w.heap.size) { s with loops := s.loops.set s.nl L, nl := s.nl + 1 } (w.alloc (.loop { state := L.state, pending := none, fn, tmps, params := L.ps.toArray, assign := asn, body, defers := d })) ∧
    (σ.addL s.nl w.heap.size).lp s.nl = some w.heap.size := by
  have h0 : σ.lp s.nl = none := r.nl _ (Nat.le_refl _)
  have hle := σ.le_addL s.nl w.heap.size h0
  have hsame : (σ.addL s.nl w.heap.size).lp s.nl = some w.heap.size := by simp [Sg.addL]
  have hne : ∀ x, x ≠ s.nl → (σ.addL s.nl w.heap.size).lp x = σ.lp x := fun x hx => by simp [Sg.addL, hx]
  refine ⟨?_, ?_, hsame⟩
  · constructor
    · exact fun x => (r.arr x).mono hle rfl rfl fun vi hv => heap_alloc w _ (r.blk_lt (.inl ⟨x, vi, hv, rfl⟩))
    · exact r.inj
    · exact fun x => (r.map x).mono hle rfl rfl fun b hb => heap_alloc w _ (r.blk_lt (.inr (.inl ⟨x, hb⟩)))
    · exact r.minj
    · intro x
      by_cases hx : x = s.nl
      · subst hx
        intro b hb
        rw [hsame] at hb; cases hb
        refine ⟨L, by simp, ⟨N, fn, tmps, asn, body, d, ?_, rt.le hle, h1, h2, h3, h4, h5⟩⟩
        rw [heap_alloc_new, hp]; rfl
      · exact (r.lop x).mono hle (hne x hx) (by simp [Tr.get_set_ne _ _ hx]) fun b hb => heap_alloc w _ (r.blk_lt (.inr (.inr ⟨x, hb⟩)))
    · intro x x' b h h'
      by_cases hx : x = s.nl <;> by_cases hx' : x' = s.nl
      · omega
      · subst hx; rw [hsame] at h; cases h
        rw [hne x' hx'] at h'
        have := r.blk_lt (.inr (.inr ⟨x', h'⟩)); omega
      · subst hx'; rw [hsame] at h'; cases h'
        rw [hne x hx] at h
        have := r.blk_lt (.inr (.inr ⟨x, h⟩)); omega
      · rw [hne x hx] at h; rw [hne x' hx'] at h'; exact r.linj x x' b h h'
    · exact r.na
    · exact r.nm
    · intro x hx; simp only at hx; rw [hne x (by omega)]; exact r.nl x (by omega)
    · exact r.opq
    · exact ⟨r.wf.arr, r.wf.map⟩
  · refine ⟨hle, ?_, fun b hb _ => heap_alloc w _ hb, by simp, rfl, rfl, rfl, Nat.le_refl _, Nat.le_refl _, Nat.le_succ _, fun _ _ h => ⟨rfl, h⟩, fun _ _ h => ⟨rfl, h⟩⟩
    rintro b (⟨x, vi, hv, rfl⟩ | h | ⟨x, h⟩)
    · exact .inl (.inl ⟨x, vi, hv, rfl⟩)
    · exact .inl (.inr (.inl h))
    · by_cases hx : x = s.nl
      · subst hx; rw [hsame] at h; cases h; exact .inr (Nat.le_refl _)
      · rw [hne x hx] at h; exact .inl (.inr (.inr ⟨x, h⟩))

def setBlk (w : World) (b : Nat) (o : Obj) : World := { w with heap := w.heap.setIfInBounds b o }

/-- A loop's state turned. -/
theorem Rel.setL {P : Program} {σ : Sg} {s : AS} {w : World} (r : Rel P σ s w) {l b : Nat} {L : ALoop} (hl : σ.lp l = some b) (hL : s.loops.get l = some L) :
    ∃ N fn tmps asn body d, w.heap[b]? = some (.loop { state := L.state, pending := cEx L.pend, fn, tmps, params := L.ps.toArray, assign := asn, body, defers := d }) ∧
      RTmp σ N L.tmps tmps ∧ L.asn = cCode P asn ∧ L.body = cCode P body ∧ dstC N L.asn = true ∧ dstC N L.body = true ∧ L.ps.all (ltb · N) = true ∧
      ∀ (st : LoopState) (pend : Ex),
        Rel P σ { s with loops := s.loops.set l { L with state := st, pend := pend } } (setBlk w b (.loop { state := st, pending := cEx pend, fn, tmps, params := L.ps.toArray, assign := asn, body, defers := d })) ∧
        Ext σ s w σ { s with loops := s.loops.set l { L with state := st, pend := pend } } (setBlk w b (.loop { state := st, pending := cEx pend, fn, tmps, params := L.ps.toArray, assign := asn, body, defers := d })) := by
  obtain ⟨L', h1, h2⟩ := r.lop l b hl
  rw [hL] at h1; cases h1
  obtain ⟨N, fn, tmps, asn, body, d, k1, k2, k3, k4, k5, k6, k7⟩ := h2.ex
  refine ⟨N, fn, tmps, asn, body, d, k1, k2, k3, k4, k5, k6, k7, fun st pend => ?_⟩
  have hlt : b < w.heap.size := r.blk_lt (.inr (.inr ⟨l, hl⟩))
  have hblock : ∀ (o : Obj) (k : Nat), k ≠ b → (setBlk w b o).heap[k]? = w.heap[k]? := fun o k hk => by
    simp only [setBlk]; rw [Array.getElem?_setIfInBounds_ne (fun h => hk h.symm)]
  refine ⟨?_, ?_⟩
  · constructor
    · intro x
      refine (r.arr x).mono (.refl σ) rfl rfl fun vi hv => hblock _ _ ?_
      rintro rfl
      obtain ⟨A, _, hA⟩ := r.arr x (List.ne_nil_of_mem hv)
      obtain ⟨j, hj⟩ := List.getElem?_of_mem hv
      obtain ⟨cs, E, fz, hc, _⟩ := hA.blk j vi hj
      rw [k1] at hc; cases hc
    · exact r.inj
    · intro m
      refine (r.map m).mono (.refl σ) rfl rfl fun q hq => hblock _ _ ?_
      rintro rfl
      obtain ⟨M, _, hM, _⟩ := r.map m _ hq
      rw [k1] at hM; cases hM
    · exact r.minj
    · intro x
      by_cases hx : x = l
      · subst hx
        intro q hq
        rw [hl] at hq; cases hq
        refine ⟨{ L with state := st, pend := pend }, by simp, ⟨N, fn, tmps, asn, body, d, ?_, k2, k3, k4, k5, k6, k7⟩⟩
        simp only [setBlk]
        rw [Array.getElem?_setIfInBounds_self]; simp [hlt]
      · refine (r.lop x).mono (.refl σ) rfl (by simp [Tr.get_set_ne _ _ hx]) fun q hq => hblock _ _ ?_
        rintro rfl
        exact hx (r.linj x l _ hq hl)
    · exact r.linj
    · exact r.na
    · exact r.nm
    · exact r.nl
    · exact r.opq
    · exact ⟨r.wf.arr, r.wf.map⟩
  · exact ⟨.refl σ, fun _ h => .inl h, fun q _ hq => hblock _ _ (fun e => hq (.inr (.inr ⟨l, e ▸ hl⟩))), by simp [setBlk], rfl, rfl, rfl, Nat.le_refl _, Nat.le_refl _, Nat.le_refl _, fun _ _ h => ⟨rfl, h⟩, fun _ _ h => ⟨rfl, h⟩⟩

theorem run_getLoop {P : Program} {w : World} {b : Nat} {L : Loop} (h : w.heap[b]? = some (.loop L)) : (Instr.getLoop b).run P w = .ok L w := by
  simp [Instr.getLoop, getObj, Sem.run, h]
theorem run_setObj {P : Program} {w : World} {b : Nat} {L : Loop} {o : Obj} (h : w.heap[b]? = some (.loop L)) : (setObj b o).run P w = .ok () (setBlk w b o) := by
  simp [setObj, Sem.run, h, setBlk]

end Go.Ab
