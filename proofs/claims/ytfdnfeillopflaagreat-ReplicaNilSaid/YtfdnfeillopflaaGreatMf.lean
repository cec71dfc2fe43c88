/- Soundness of the abstract evaluator: the blocks of range-over-function loops. -/
import Derived.Test.YtfdnfeillopflaaGreatMe
noncomputable section
namespace Go.Ab

def Sg.addL (σ : Sg) (l b : Nat) : Sg := { σ with lp := fun x => if x = l then some b else σ.lp x }
theorem Sg.le_addL (σ : Sg) (l b : Nat) (h : σ.lp l = none) : σ.le (σ.addL l b) where
  ar _ := List.prefix_refl _
  mp _ _ h := h
  lp x r hr := by
    simp only [Sg.addL]
    split
    · rename_i e; subst e; rw [h] at hr; cases hr
    · exact hr
  opq := rfl
  sym := rfl

/-- A new loop. -/
theorem Rel.newL {P : Program} {σ : Sg} {s : AS} {w : World} (r : Rel P σ s w) {L : ALoop} {N fn : Nat} {tmps : Array Value} {asn body : Code} {d : Nat} (hp : L.pend = .normal) (rt : RTmp σ N L.tmps tmps)
    (h1 : L.asn = cCode P asn) (h2 : L.body = cCode P body) (h3 : dstC N L.asn = true) (h4 : dstC N L.body = true) (h5 : L.ps.all (ltb · N) = true) :
    Rel P (σ.addL s.nl w.heap.size) { s with loops := s.loops.set s.nl L, nl := s.nl + 1 } (w.alloc (.loop { state := L.state, pending := none, fn, tmps, params := L.ps.toArray, assign := asn, body, defers := d })) ∧
    Ext σ s w (σ.addL s.nl w.heap.size) { s with loops := s.loops.set s.nl L, nl := s.nl + 1 } (w.alloc (.loop { state := L.state, pending := none, fn, tmps, params := L.ps.toArray, assign := asn, body, defers := d })) ∧
    (σ.addL s.nl w.heap.size).lp s.nl = some w.heap.size := by
  have h0 : σ.lp s.nl = none := r.nl _ (Nat.le_refl _)
  have hle := σ.le_addL s.nl w.heap.size h0
  have hsame : (σ.addL s.nl w.heap.size).lp s.nl = some w.heap.size := by simp [Sg.addL]
  have hne : ∀ x, x ≠ s.nl → (σ.addL s.nl w.heap.size).lp x = σ.lp x := fun x hx => by simp [Sg.addL, hx]
  refine ⟨?_, ?_, hsame⟩
  · constructor
    · exact fun x => (r.arr x).mono hle rfl rfl fun vi hv => heap_alloc w _ (r.blk_lt (.inl ⟨x, vi, hv, rfl⟩))
    · exact r.inj
    · exact fun x => (r.map x).mono hle rfl rfl fun b hb => heap_alloc w _ (r.blk_lt (.inr (.inl ⟨x, hb⟩)))
    · exact r.minj
    · intro x
      by_cases hx : x = s.nl
      · subst hx
        intro b hb
        rw [hsame] at hb; cases hb
        refine ⟨L, by simp, ⟨N, fn, tmps, asn, body, d, ?_, rt.le hle, h1, h2, h3, h4, h5⟩⟩
        rw [heap_alloc_new, hp]; rfl
      · exact (r.lop x).mono hle (hne x hx) (by simp [Tr.get_set_ne _ _ hx]) fun b hb => heap_alloc w _ (r.blk_lt (.inr (.inr ⟨x, hb⟩)))
    · intro x x' b h h'
      by_cases hx : x = s.nl <;> by_cases hx' : x' = s.nl
      · omega
      · subst hx; rw [hsame] at h; cases h
        rw [hne x' hx'] at h'
        have := r.blk_lt (.inr (.inr ⟨x', h'⟩)); omega
      · subst hx'; rw [hsame] at h'; cases h'
        rw [hne x hx] at h
        have := r.blk_lt (.inr (.inr ⟨x, h⟩)); omega
      · rw [hne x hx] at h; rw [hne x' hx'] at h'; exact r.linj x x' b h h'
    · exact r.na
    · exact r.nm
    · intro x hx; simp only at hx; rw [hne x (by omega)]; exact r.nl x (by omega)
    · exact r.opq
    · exact ⟨r.wf.arr, r.wf.map⟩
  · refine ⟨hle, ?_, fun b hb _ => heap_alloc w _ hb, by simp, rfl, rfl, rfl, Nat.le_refl _, Nat.le_refl _, Nat.le_succ _, fun _ _ h => ⟨rfl, h⟩, fun _ _ h => ⟨rfl, h⟩⟩
    rintro b (⟨x, vi, hv, rfl⟩ | h | ⟨x, h⟩)
    · exact .inl (.inl ⟨x, vi, hv, rfl⟩)
    · exact .inl (.inr (.inl h))
    · by_cases hx : x = s.nl
      · subst hx; rw [hsame] at h; cases h; exact .inr (Nat.le_refl _)
      · rw [hne x hx] at h; exact .inl (.inr (.inr ⟨x, h⟩))

def setBlk (w : World) (b : Nat) (o : Obj) : World := { w with heap := w.heap.setIfInBounds b o }

/-- A loop's state turned. -/
theorem Rel.setL {P : Program} {σ : Sg} {s : AS} {w : World} (r : Rel P σ s w) {l b : Nat} {L : ALoop} (hl : σ.lp l = some b) (hL : s.loops.get l = some L) :
    ∃ N fn tmps asn body d, w.heap[b]? = some (.loop { state := L.state, pending := cEx L.pend, fn, tmps, params := L.ps.toArray, assign := asn, body, defers := d }) ∧
      RTmp σ N L.tmps tmps ∧ L.asn = cCode P asn ∧ L.body = cCode P body ∧ dstC N L.asn = true ∧ dstC N L.body = true ∧ L.ps.all (ltb · N) = true ∧
      ∀ (st : LoopState) (pend : Ex),
        Rel P σ { s with loops := s.loops.set l { L with state := st, pend := pend } } (setBlk w b (.loop { state := st, pending := cEx pend, fn, tmps, params := L.ps.toArray, assign := asn, body, defers := d })) ∧
        Ext σ s w σ { s with loops := s.loops.set l { L with state := st, pend := pend } } (setBlk w b (.loop { state := st, pending := cEx pend, fn, tmps, params := L.ps.toArray, assign := asn, body, defers := d })) := by
  obtain ⟨L', h1, h2⟩ := r.lop l b hl
  rw [hL] at h1; cases h1
  obtain ⟨N, fn, tmps, asn, body, d, k1, k2, k3, k4, k5, k6, k7⟩ := h2.ex
  refine ⟨N, fn, tmps, asn, body, d, k1, k2, k3, k4, k5, k6, k7, fun st pend => ?_⟩
  have hlt : b < w.heap.size := r.blk_lt (.inr (.inr ⟨l, hl⟩))
  have hblock : ∀ (o : Obj) (k : Nat), k ≠ b → (setBlk w b o).heap[k]? = w.heap[k]? := fun o k hk => by
    simp only [setBlk]; rw [Array.getElem?_setIfInBounds_ne (fun h => hk h.symm)]
  refine ⟨?_, ?_⟩
  · constructor
    · intro x
      refine (r.arr x).mono (.refl σ) rfl rfl fun vi hv => hblock _ _ ?_
      rintro rfl
      obtain ⟨A, _, hA⟩ := r.arr x (List.ne_nil_of_mem hv)
      obtain ⟨j, hj⟩ := List.getElem?_of_mem hv
      obtain ⟨cs, E, fz, hc, _⟩ := hA.blk j vi hj
      rw [k1] at hc; cases hc
    · exact r.inj
    · intro m
      refine (r.map m).mono (.refl σ) rfl rfl fun q hq => hblock _ _ ?_
      rintro rfl
      obtain ⟨M, _, hM, _⟩ := r.map m _ hq
      rw [k1] at hM; cases hM
    · exact r.minj
    · intro x
      by_cases hx : x = l
      · subst hx
        intro q hq
        rw [hl] at hq; cases hq
        refine ⟨{ L with state := st, pend := pend }, by simp, ⟨N, fn, tmps, asn, body, d, ?_, k2, k3, k4, k5, k6, k7⟩⟩
        simp only [setBlk]
        rw [Array.getElem?_setIfInBounds_self]; simp [hlt]
      · refine (r.lop x).mono (.refl σ) rfl (by simp [Tr.get_set_ne _ _ hx]) fun q hq => hblock _ _ ?_
        rintro rfl
        exact hx (r.linj x l _ hq hl)
    · exact r.linj
    · exact r.na
    · exact r.nm
    · exact r.nl
    · exact r.opq
    · exact ⟨r.wf.arr, r.wf.map⟩
  · exact ⟨.refl σ, fun _ h => .inl h, fun q _ hq => hblock _ _ (fun e => hq (.inr (.inr ⟨l, e ▸ hl⟩))), by simp [setBlk], rfl, rfl, rfl, Nat.le_refl _, Nat.le_refl _, Nat.le_refl _, fun _ _ h => ⟨rfl, h⟩, fun _ _ h => ⟨rfl, h⟩⟩

theorem run_getLoop {P : Program} {w : World} {b : Nat} {L : Loop} (h : w.heap[b]? = some (.loop L)) : (Instr.getLoop b).run P w = .ok L w := by
  simp [Instr.getLoop, getObj, Sem.run, h]
theorem run_setObj {P : Program} {w : World} {b : Nat} {L : Loop} {o : Obj} (h : w.heap[b]? = some (.loop L)) : (setObj b o).run P w = .ok () (setBlk w b o) := by
  simp [setObj, Sem.run, h, setBlk]

end Go.Ab
end

noncomputable section
namespace Go.Ab

/-- Where code arrives. -/
def Arr1 (k : List Item) : Ex → List Item → Prop
  | .normal, t => t = k
  | .exit id, t => ∃ k₂, t = .code (.exit id) :: k₂ ∧ exitTo id k₂ = exitTo id k
  | .ret, t => ∃ k₂, t = .code .ret :: k₂

/-- What is deferred: blocks of loops, with nothing in them, the younger ones first. -/
def DOk (B : Nat) (σ : Sg) (w : World) (ds : List Deferred) : Prop :=
  (∀ d, d ∈ ds → ∃ r, d = { target := .collected r, args := #[] } ∧ w.heap[r]? = some (.deferred (some [])) ∧ ¬ img σ r ∧ B ≤ r) ∧
  ds.Pairwise (fun d e => ∀ r q, d.target = .collected r → e.target = .collected q → q < r)

theorem DOk.nil (B : Nat) (σ : Sg) (w : World) : DOk B σ w [] := ⟨by intro d hd; simp at hd, List.Pairwise.nil⟩

theorem lt_of_heap {w : World} {r : Nat} {o : Obj} (h : w.heap[r]? = some o) : r < w.heap.size := by
  rcases Nat.lt_or_ge r w.heap.size with h' | h'
  · exact h'
  · rw [Array.getElem?_eq_none h'] at h; cases h

theorem DOk.ext {B : Nat} {σ σ' : Sg} {s s' : AS} {w w' : World} {ds : List Deferred} (h : DOk B σ w ds) (x : Ext σ s w σ' s' w') : DOk B σ' w' ds := by
  refine ⟨fun d hd => ?_, h.2⟩
  obtain ⟨r, h1, h2, h3, h4⟩ := h.1 d hd
  have hlt := lt_of_heap h2
  refine ⟨r, h1, by rw [x.fr r hlt h3]; exact h2, fun hi => ?_, h4⟩
  rcases x.img r hi with h | h
  · exact h3 h
  · omega

theorem DOk.join {B : Nat} {σ₁ σ₂ : Sg} {s₁ s₂ : AS} {w₁ w₂ : World} {a b : List Deferred} (h : DOk w₁.heap.size σ₂ w₂ a) (k : DOk B σ₁ w₁ b) (x : Ext σ₁ s₁ w₁ σ₂ s₂ w₂) (hB : B ≤ w₁.heap.size) : DOk B σ₂ w₂ (a ++ b) := by
  refine ⟨fun d hd => ?_, ?_⟩
  · rcases List.mem_append.1 hd with hd | hd
    · obtain ⟨r, h1, h2, h3, h4⟩ := h.1 d hd
      exact ⟨r, h1, h2, h3, by omega⟩
    · exact (k.ext x).1 d hd
  · rw [List.pairwise_append]
    refine ⟨h.2, k.2, fun d hd e he r q hr hq => ?_⟩
    obtain ⟨r', h1, _, _, h4⟩ := h.1 d hd
    obtain ⟨q', k1, k2, _, _⟩ := k.1 e he
    have := lt_of_heap k2
    subst h1 k1
    cases hr; cases hq
    omega

def CodeSim (P : Program) (c : Code) (fn : FuncId) (ro : Option Nat) (tmps : Array Value) (w : World) (x : Ex) (tmps' : Array Value) (ds : List Deferred) (w' : World) : Prop :=
  ∀ (b : Frame) (k : List Item) (cs : List Frame), b.mode = .run → b.tmps = tmps → b.roundOf = ro → b.fn = fn →
    ∃ t, Arr1 k x t ∧ Steps P (lone { b with todo := .code c :: k } cs w) (lone { b with tmps := tmps', todo := t, defers := ds ++ b.defers } cs w')

/-- What a frame in a round needs: its loop is there. -/
def ROk (σ : Sg) (ro : Option Nat) : Prop := ∀ q, ro = some q → ∃ l, σ.lp l = some q
theorem ROk.le {σ τ : Sg} {ro : Option Nat} (h : ROk σ ro) (k : σ.le τ) : ROk τ ro := fun q hq => let ⟨l, hl⟩ := h q hq; ⟨l, k.lp l q hl⟩

section
variable {P : Program} {b : Frame} {k : List Item} {cs : List Frame} {w : World}

theorem mk_rangeFunc (hb : b.mode = .run) {f : Operand} {params : Array Tmp} {asn body : Code} {l : Nat} {mark : List Deferred} {w₁ : World}
    (he : (Instr.enterLoop b.fn b.tmps params asn body b.roundOf).run P w = .ok (l, mark) w₁) :
    (stepG P true { frame := { b with todo := .code (.rangeFunc f params asn body) :: k }, callers := cs, status := .running, dying := none } w).bare =
      (stepG.apply P true { b with todo := .inRangeFunc l :: k, defers := mark ++ b.defers } cs none (do let d ← Deferred.ofValue (b.eval f) #[.func (.yield l) #[] #[]]; invoke d.target d.args) w₁).bare := by
  have h' : ∀ fr : Frame, fr.tmps = b.tmps → fr.eval f = b.eval f := by
    intro fr hf; cases f <;> simp [Frame.eval, hf]
  simp [stepG, stepG.exec, hb, he, resolve, h']
  rfl

theorem mk_endRangeFunc (hb : b.mode = .run) {l : Nat} {j : Option Code} {w₁ : World} (he : (Instr.endLoop l).run P w = .ok j w₁) :
    step P (lone { b with todo := .endRangeFunc l :: k } cs w) = .next (lone { b with todo := (j.map Item.code).toList ++ k } cs w₁) :=
  step_lone_go (by simp [stepG, stepG.exec, hb, he])

end

theorem Arr1.under {k : List Item} {x : Ex} {t : List Item} {y : Item} (h : Arr1 (y :: k) x t) (hn : x = .normal → False) (hp : ∀ id, exitTo id (y :: k) = exitTo id k) : Arr1 k x t := by
  cases x with
  | normal => exact (hn rfl).elim
  | exit id => obtain ⟨k₂, h1, h2⟩ := h; exact ⟨k₂, h1, h2.trans (hp id)⟩
  | ret => exact h

theorem CodeSim.seq {P : Program} {x y : Code} {fn : FuncId} {ro : Option Nat} {t₀ t₁ t₂ : Array Value} {w₀ w₁ w₂ : World} {e : Ex} {ds ds' : List Deferred} (h : CodeSim P x fn ro t₀ w₀ .normal t₁ ds w₁) (k : CodeSim P y fn ro t₁ w₁ e t₂ ds' w₂) :
    CodeSim P (.seq x y) fn ro t₀ w₀ e t₂ (ds' ++ ds) w₂ := by
  intro b q cs hb ht hr hf
  obtain ⟨t, h1, h2⟩ := h b (.code y :: q) cs hb ht hr hf
  subst h1
  obtain ⟨t', h3, h4⟩ := k { b with tmps := t₁, defers := ds ++ b.defers } q cs hb rfl hr hf
  refine ⟨t', h3, .head (mk_seq hb) (h2.trans ?_)⟩
  simp only [List.append_assoc]
  exact h4

theorem CodeSim.seq_out {P : Program} {x y : Code} {fn : FuncId} {ro : Option Nat} {t₀ t₁ : Array Value} {w₀ w₁ : World} {e : Ex} {ds : List Deferred} (h : CodeSim P x fn ro t₀ w₀ e t₁ ds w₁) (he : e = .normal → False) :
    CodeSim P (.seq x y) fn ro t₀ w₀ e t₁ ds w₁ := by
  intro b q cs hb ht hr hf
  obtain ⟨t, h1, h2⟩ := h b (.code y :: q) cs hb ht hr hf
  exact ⟨t, h1.under he (fun _ => rfl), .head (mk_seq hb) h2⟩

/-- What code comes to. -/
def CRes (P : Program) (c : Code) (fn : FuncId) (ro : Option Nat) (N : Nat) (σ : Sg) (s : AS) (w : World) (tmps : Array Value) (x : Ex) (T' : Tr AV) (s' : AS) : Prop :=
  ∃ σ' w' tmps' ds, Rel P σ' s' w' ∧ RTmp σ' N T' tmps' ∧ Ext σ s w σ' s' w' ∧ DOk w.heap.size σ' w' ds ∧ CodeSim P c fn ro tmps w x tmps' ds w'

theorem RegSim.region {P : Program} {ops : Array Oper} {id : Nat} {tmps tmps' : Array Value} {w w' : World} (h : RegSim P ops (List.range ops.size) tmps w tmps' w') (fn : FuncId) (ro : Option Nat) :
    CodeSim P (.region id ops false) fn ro tmps w .normal tmps' [] w' := by
  intro b k cs hb ht _ _
  refine ⟨k, rfl, .head (mk_region hb) ((h b k cs hb ht).trans (.one ?_))⟩
  exact mk_region_end (b := { b with tmps := tmps' }) hb

theorem RegSim.region_draw {P : Program} {ops : Array Oper} {id : Nat} {tmps tmps' : Array Value} {w w' : World} {fn : FuncId}
    (h : RegSim P ops (Region.schedule (P.follows .mixedOrders) ops (w.tape w.drawn (.order fn id))) tmps w.drew tmps' w') (ro : Option Nat) :
    CodeSim P (.region id ops true) fn ro tmps w .normal tmps' [] w' := by
  intro b k cs hb ht _ hf
  subst hf
  refine ⟨k, rfl, .head (mk_region_draw hb) ((h b k cs hb ht).trans (.one ?_))⟩
  exact mk_region_end (b := { b with tmps := tmps' }) hb

/-- A loop's rounds. -/
theorem rounds_sound {P : Program} {E : Env} {c : Code} {fn : FuncId} {ro : Option Nat} {N : Nat} {f : Tr AV → AS → Option (Ex × Tr AV × AS)}
    (hf : ∀ {σ : Sg} {s s' : AS} {w : World} {T T' : Tr AV} {tmps : Array Value} {x : Ex}, f T s = some (x, T', s') → EOk E σ → Rel P σ s w → RTmp σ N T tmps → ROk σ ro → CRes P c fn ro N σ s w tmps x T' s') :
    ∀ (n : Nat) {σ : Sg} {s s' : AS} {w : World} {T T' : Tr AV} {tmps : Array Value} {x : Ex}, rounds f n T s = some (x, T', s') → EOk E σ → Rel P σ s w → RTmp σ N T tmps → ROk σ ro →
      (x = .normal → False) ∧ ∃ σ' w' tmps' ds, Rel P σ' s' w' ∧ RTmp σ' N T' tmps' ∧ Ext σ s w σ' s' w' ∧ DOk w.heap.size σ' w' ds ∧
        ∀ (b : Frame) (k : List Item) (cs : List Frame), b.mode = .run → b.tmps = tmps → b.roundOf = ro → b.fn = fn →
          ∃ t, Arr1 k x t ∧ Steps P (lone { b with todo := .code c :: .inLoop c :: k } cs w) (lone { b with tmps := tmps', todo := t, defers := ds ++ b.defers } cs w') := by
  intro n
  induction n with
  | zero => intro σ s s' w T T' tmps x h; simp [rounds] at h
  | succ n ih =>
    intro σ s s' w T T' tmps x h he r rt hro
    simp only [rounds] at h
    split at h
    · rename_i T₁ s₁ h1
      obtain ⟨σ₁, w₁, t₁, ds₁, k1, k2, k3, k4, k5⟩ := hf h1 he r rt hro
      obtain ⟨hx, σ₂, w₂, t₂, ds₂, m1, m2, m3, m4, m5⟩ := ih h (he.le k3.le) k1 k2 (hro.le k3.le)
      refine ⟨hx, σ₂, w₂, t₂, ds₂ ++ ds₁, m1, m2, k3.trans m3, m4.join k4 m3 k3.size, ?_⟩
      intro b k cs hb ht hr hfn
      obtain ⟨t, e1, e2⟩ := k5 b (.inLoop c :: k) cs hb ht hr hfn
      subst e1
      obtain ⟨t', e3, e4⟩ := m5 { b with tmps := t₁, defers := ds₁ ++ b.defers } k cs hb rfl hr hfn
      refine ⟨t', e3, e2.trans (.head (mk_inLoop (b := { b with tmps := t₁, defers := ds₁ ++ b.defers }) hb) ?_)⟩
      simp only [List.append_assoc]
      exact e4
    · rename_i hno
      have hx : x = .normal → False := fun e => hno T' s' (by rw [h, e])
      obtain ⟨σ₁, w₁, t₁, ds₁, k1, k2, k3, k4, k5⟩ := hf h he r rt hro
      refine ⟨hx, σ₁, w₁, t₁, ds₁, k1, k2, k3, k4, ?_⟩
      intro b k cs hb ht hr hfn
      obtain ⟨t, e1, e2⟩ := k5 b (.inLoop c :: k) cs hb ht hr hfn
      exact ⟨t, e1.under hx (fun _ => rfl), e2⟩

theorem cRegion_text {P : Program} {ops : Array Oper} : cRegion P ops false = .reg (ops.toList.map fun o => EStep.one (cOper P ops o) []) := by
  simp [cRegion]

theorem code_sound {P : Program} {E : Env} {cl : Oracle} (hcl : ClOk P E cl) (hmix : P.follows .mixedOrders = true) (lf : Nat) (fn : FuncId) (ro : Option Nat) (N : Nat) :
    ∀ (c : Code) {σ : Sg} {s s' : AS} {w : World} {T T' : Tr AV} {tmps : Array Value} {x : Ex}, evCode E cl lf (cCode P c) T s = some (x, T', s') → dstC N (cCode P c) = true → EOk E σ → Rel P σ s w → RTmp σ N T tmps → ROk σ ro →
      CRes P c fn ro N σ s w tmps x T' s' := by
  intro c
  induction c with
  | skip =>
    intro σ s s' w T T' tmps x h _ _ r rt _
    simp only [cCode, evCode] at h; cases h
    refine ⟨σ, w, tmps, [], r, rt, .refl _ _ _, DOk.nil _ _ _, ?_⟩
    intro b k cs hb ht _ _
    subst ht
    exact ⟨k, rfl, .one (mk_skip hb)⟩
  | region id ops draw =>
    intro σ s s' w T T' tmps x h hd he r rt _
    simp only [cCode] at h hd
    cases draw with
    | false =>
      rw [cRegion_text] at h hd
      simp only [evCode] at h
      split at h
      · rename_i T₁ s₁ hs
        cases h
        obtain ⟨σ', w', t', k1, k2, k3, k4⟩ := text_sound hcl ops.toList 0 (by intro k; simp) hd he r rt hs
        refine ⟨σ', w', t', [], k1, k2, k3, DOk.nil _ _ _, RegSim.region ?_ fn ro⟩
        rw [List.range_eq_range', ← Array.length_toList]; exact k4
      · cases h
    | true =>
      cases hreg : cRegion P ops true with
      | reg st =>
        rw [hreg] at h hd
        simp only [evCode] at h
        split at h
        · rename_i T₁ s₁ hs
          cases h
          obtain ⟨σ', w', t', k1, k2, k3, k4⟩ := draw_sound hcl hreg hd he r.drew rt hs (w.tape w.drawn (.order fn id))
          exact ⟨σ', w', t', [], k1, k2, (Ext.drew σ s w).trans k3, DOk.nil _ _ _, RegSim.region_draw (by rw [hmix]; exact k4) ro⟩
        · cases h
      | _ => exfalso; unfold cRegion at hreg; simp only [if_true] at hreg; (repeat' split at hreg) <;> first | (cases hreg; done) | (rw [hreg] at h; simp [evCode] at h; done) | (subst hreg; done) | skip
             all_goals (first | (simp at hreg; done) | (rw [show cRegion P ops true = ECode.bad from by simp [cRegion, *]] at h; simp [evCode] at h))
  | seq a b iha ihb =>
    intro σ s s' w T T' tmps x h hd he r rt hro
    simp only [cCode, dstC, Bool.and_eq_true] at hd
    simp only [cCode, evCode] at h
    split at h
    · rename_i T₁ s₁ h1
      obtain ⟨σ₁, w₁, t₁, ds₁, k1, k2, k3, k4, k5⟩ := iha h1 hd.1 he r rt hro
      obtain ⟨σ₂, w₂, t₂, ds₂, m1, m2, m3, m4, m5⟩ := ihb h hd.2 (he.le k3.le) k1 k2 (hro.le k3.le)
      exact ⟨σ₂, w₂, t₂, ds₂ ++ ds₁, m1, m2, k3.trans m3, m4.join k4 m3 k3.size, k5.seq m5⟩
    · rename_i hno
      obtain ⟨σ₁, w₁, t₁, ds₁, k1, k2, k3, k4, k5⟩ := iha h hd.1 he r rt hro
      exact ⟨σ₁, w₁, t₁, ds₁, k1, k2, k3, k4, k5.seq_out (fun e => hno T' s' (by rw [h, e]))⟩
  | cond c a b iha ihb =>
    intro σ s s' w T T' tmps x h hd he r rt hro
    simp only [cCode] at h hd
    split at h
    · rename_i c' hc'
      rw [hc'] at hd
      simp only [dstC, Bool.and_eq_true] at hd
      simp only [evCode] at h
      have hev : ∀ fr : Frame, fr.tmps = tmps → fr.eval c = conc σ (c'.ev T) := fun fr hfr => ((RTmp.frame (N := N) (hfr ▸ rt)) _ _ hc').1
      split at h
      · rename_i hv
        obtain ⟨σ₁, w₁, t₁, ds₁, k1, k2, k3, k4, k5⟩ := iha h hd.1 he r rt hro
        refine ⟨σ₁, w₁, t₁, ds₁, k1, k2, k3, k4, ?_⟩
        intro b' k cs hb ht hr hf
        obtain ⟨t, e1, e2⟩ := k5 b' k cs hb ht hr hf
        exact ⟨t, e1, .head (mk_cond hb (t := true) (by rw [hev b' ht, hv]; rfl)) e2⟩
      · rename_i hv
        obtain ⟨σ₁, w₁, t₁, ds₁, k1, k2, k3, k4, k5⟩ := ihb h hd.2 he r rt hro
        refine ⟨σ₁, w₁, t₁, ds₁, k1, k2, k3, k4, ?_⟩
        intro b' k cs hb ht hr hf
        obtain ⟨t, e1, e2⟩ := k5 b' k cs hb ht hr hf
        exact ⟨t, e1, .head (mk_cond hb (t := false) (by rw [hev b' ht, hv]; rfl)) e2⟩
      · cases h
    · simp [evCode] at h
  | block id a iha =>
    intro σ s s' w T T' tmps x h hd he r rt hro
    simp only [cCode, dstC] at hd
    simp only [cCode, evCode] at h
    split at h
    · rename_i e T₁ s₁ h1
      cases h
      obtain ⟨σ₁, w₁, t₁, ds₁, k1, k2, k3, k4, k5⟩ := iha h1 hd he r rt hro
      refine ⟨σ₁, w₁, t₁, ds₁, k1, k2, k3, k4, ?_⟩
      intro b k cs hb ht hr hf
      obtain ⟨t, e1, e2⟩ := k5 b (.inBlock id :: k) cs hb ht hr hf
      have hb' : ({ b with tmps := t₁, defers := ds₁ ++ b.defers } : Frame).mode = .run := hb
      cases e with
      | normal =>
        subst e1
        exact ⟨k, rfl, .head (mk_block hb) (e2.trans (.one (mk_inBlock (b := { b with tmps := t₁, defers := ds₁ ++ b.defers }) hb')))⟩
      | ret => exact ⟨t, e1, .head (mk_block hb) e2⟩
      | exit id' =>
        obtain ⟨k₂, f1, f2⟩ := e1
        subst f1
        simp only [blockEx, beq_eq]
        by_cases hid : id' = id
        · simp only [hid, decide_true]
          refine ⟨k, rfl, .head (mk_block hb) (e2.trans (.one (mk_exit (b := { b with tmps := t₁, defers := ds₁ ++ b.defers }) hb' ?_)))⟩
          rw [f2]; simp [exitTo, hid]
        · simp only [hid, decide_false]
          refine ⟨_, ⟨k₂, rfl, ?_⟩, .head (mk_block hb) e2⟩
          rw [f2]
          have : (id == id') = false := by simp; exact fun e => hid e.symm
          simp [exitTo, this]
    · cases h
  | loop a iha =>
    intro σ s s' w T T' tmps x h hd he r rt hro
    simp only [cCode, dstC] at hd
    simp only [cCode, evCode] at h
    obtain ⟨_, σ₁, w₁, t₁, ds₁, k1, k2, k3, k4, k5⟩ := rounds_sound (P := P) (E := E) (c := a) (fn := fn) (ro := ro) (N := N) (fun hh he' r' rt' hro' => iha hh hd he' r' rt' hro') lf h he r rt hro
    refine ⟨σ₁, w₁, t₁, ds₁, k1, k2, k3, k4, ?_⟩
    intro b k cs hb ht hr hf
    obtain ⟨t, e1, e2⟩ := k5 b k cs hb ht hr hf
    exact ⟨t, e1, .head (mk_loop hb) e2⟩
  | rangeFunc f params asn body iha ihb =>
    intro σ s s' w T T' tmps x h hd he r rt hro
    simp only [cCode] at h hd
    split at h
    · rename_i f' hf'
      rw [hf'] at hd
      simp only [dstC, Bool.and_eq_true] at hd
      simp only [evCode] at h
      split at h
      · rename_i v s₁ hcall
        split at h
        · rename_i L hL
          have hfin : L.state ≠ .busy ∧ x = L.pend ∧ T' = T ∧ s' = { s₁ with loops := s₁.loops.set s.nl { L with state := .exhausted } } := by
            split at h
            · cases h
            · rename_i hb; cases h; exact ⟨fun e => hb e, rfl, rfl, rfl⟩
          obtain ⟨hbusy, rfl, rfl, rfl⟩ := hfin
          -- the loop's block
          obtain ⟨w₀, d, mark, r₀, x₀, hent, hmark⟩ : ∃ w₀ d mark, Rel P σ s w₀ ∧ Ext σ s w σ s w₀ ∧
              (∀ b : Frame, b.tmps = tmps → b.roundOf = ro → b.fn = fn → (Instr.enterLoop b.fn b.tmps params asn body b.roundOf).run P w =
                .ok (w₀.heap.size, mark) (w₀.alloc (.loop { state := .ready, pending := none, fn, tmps, params, assign := asn, body, defers := d }))) ∧ DOk w.heap.size σ w₀ mark := by
            cases ro with
            | none =>
              refine ⟨w.alloc (.deferred (some [])), w.heap.size, [{ target := .collected w.heap.size, args := #[] }], r.garbage _, .garbage _ _ _ _, ?_, ?_⟩
              · intro b ht hr hf
                subst ht hf
                rw [hr]
                simp [Instr.enterLoop]
              · refine ⟨fun q hq => ?_, List.pairwise_singleton _ _⟩
                simp at hq
                refine ⟨w.heap.size, hq, heap_alloc_new w _, fun hi => ?_, Nat.le_refl _⟩
                have := r.blk_lt hi; omega
            | some q =>
              obtain ⟨l₀, hl₀⟩ := hro q rfl
              obtain ⟨L₀, _, hL₀⟩ := r.lop l₀ q hl₀
              obtain ⟨N₀, fn₀, tm₀, asn₀, body₀, d₀, hq, _⟩ := hL₀.ex
              refine ⟨w, d₀, [], r, .refl _ _ _, ?_, DOk.nil _ _ _⟩
              intro b ht hr hf
              subst ht hf
              rw [hr]
              simp [Instr.enterLoop, run_getLoop hq]
          obtain ⟨r₁, x₁, hlp⟩ := r₀.newL (L := ⟨.ready, .normal, T', params.toList, cCode P asn, cCode P body⟩) (N := N) (fn := fn) (tmps := tmps) (asn := asn) (body := body) (d := d) rfl rt rfl rfl hd.2.1 hd.2.2 hd.1
          simp only at r₁ x₁
          have he₁ := he.le x₁.le
          have ev₁ : ∀ fr : Frame, fr.tmps = tmps → fr.eval f = conc (σ.addL s.nl w₀.heap.size) (f'.ev T') ∧ In (σ.addL s.nl w₀.heap.size) (f'.ev T') := fun fr hfr =>
            (RTmp.frame (N := N) (hfr ▸ rt.le x₁.le)) _ _ hf'
          have hin : In (σ.addL s.nl w₀.heap.size) (f'.ev T') := (ev₁ { (default : Frame) with tmps := tmps } rfl).2
          obtain ⟨σ₂, w₂, k1, k2, k3, k4⟩ := hcl _ _ _ _ _ _ _ hcall r₁ he₁ hin ⟨by simp [In, hlp], trivial⟩
          have hlp₂ := k3.le.lp _ _ hlp
          obtain ⟨N', fn', tm', asn', body', d', m1, _, _, _, _, _, _, m2⟩ := k1.setL hlp₂ hL
          obtain ⟨m3, m4⟩ := m2 .exhausted L.pend
          have mk₁ : DOk w.heap.size (σ.addL s.nl w₀.heap.size) _ mark := hmark.ext x₁
          refine ⟨σ₂, _, tmps, mark, m3, rt.le ((x₁.le.trans k3.le)), (x₀.trans x₁).trans (k3.trans m4), (mk₁.ext k3).ext m4, ?_⟩
          intro b k cs hb ht hr hf
          obtain ⟨fr₁, cs₁, wq, q1, q2⟩ := k4 { b with todo := .inRangeFunc w₀.heap.size :: k, defers := mark ++ b.defers } cs hb (by intro a c d e h; cases h)
          have hlast : (Instr.endLoop w₀.heap.size).run P w₂ = .ok (cEx L.pend) (setBlk w₂ w₀.heap.size (.loop { state := .exhausted, pending := cEx L.pend, fn := fn', tmps := tm', params := L.ps.toArray, assign := asn', body := body', defers := d' })) := by
            have hb' : (L.state == LoopState.busy) = false := by
              cases hs : L.state <;> first | rfl | exact absurd hs hbusy
            simp only [Instr.endLoop, Sem.run_bind, run_getLoop m1, Result.andThen_ok, hb', Bool.false_eq_true, if_false, Sem.run_pure, run_setObj m1]
          have hstep : step P (lone { b with todo := .code (.rangeFunc f params asn body) :: k } cs w) = .next (lone fr₁ cs₁ wq) := by
            refine step_lone_go ?_
            rw [mk_rangeFunc hb (hent b ht hr hf), ← q1, (ev₁ b ht).1]
            simp [concL, conc, hlp]
          have hsteps : Steps P (lone { b with todo := .code (.rangeFunc f params asn body) :: k } cs w)
              (lone { b with todo := ((cEx L.pend).map Item.code).toList ++ k, defers := mark ++ b.defers } cs (setBlk w₂ w₀.heap.size (.loop { state := .exhausted, pending := cEx L.pend, fn := fn', tmps := tm', params := L.ps.toArray, assign := asn', body := body', defers := d' }))) :=
            .head hstep (q2.trans (.one (mk_endRangeFunc (b := { b with defers := mark ++ b.defers }) hb hlast)))
          subst ht
          refine ⟨((cEx L.pend).map Item.code).toList ++ k, ?_, hsteps⟩
          cases L.pend with
          | normal => rfl
          | exit id => exact ⟨k, rfl, rfl⟩
          | ret => exact ⟨k, rfl⟩
        · cases h
      · cases h
    · simp [evCode] at h
  | exit id =>
    intro σ s s' w T T' tmps x h _ _ r rt _
    simp only [cCode, evCode] at h; cases h
    refine ⟨σ, w, tmps, [], r, rt, .refl _ _ _, DOk.nil _ _ _, ?_⟩
    intro b k cs hb ht _ _
    subst ht
    exact ⟨_, ⟨k, rfl, rfl⟩, .refl _ _⟩
  | ret =>
    intro σ s s' w T T' tmps x h _ _ r rt _
    simp only [cCode, evCode] at h; cases h
    refine ⟨σ, w, tmps, [], r, rt, .refl _ _ _, DOk.nil _ _ _, ?_⟩
    intro b k cs hb ht _ _
    subst ht
    exact ⟨_, ⟨k, rfl⟩, .refl _ _⟩
  | scope a _ => intro σ s s' w T T' tmps x h; simp [cCode, evCode] at h
  | label l => intro σ s s' w T T' tmps x h; simp [cCode, evCode] at h
  | goto l => intro σ s s' w T T' tmps x h; simp [cCode, evCode] at h
  | refuse y => intro σ s s' w T T' tmps x h; simp [cCode, evCode] at h

end Go.Ab
end

noncomputable section
namespace Go.Ab

/-! ### The results of a function -/
theorem run_asAddr {P : Program} {w : World} {a : Addr} : (asAddr (.pointer (some a))).run P w = .ok a w := rfl

def resSem (tmps : Array Value) : ResultVar → Sem Value
  | .tmp t => pure (tmps.getD t Go.undef)
  | .cell a t => do loadVar t (← asAddr (tmps.getD a Go.undef))

theorem results_eq (fn : Func) (tmps : Array Value) : Go.results fn tmps = (do
    let vs ← fn.results.mapM (resSem tmps)
    pure (if h : vs.size = 1 then vs[0] else .tuple vs)) := by
  unfold Go.results
  congr 2

theorem evRes_run {P : Program} {σ : Sg} {N : Nat} {s : AS} {w : World} {T : Tr AV} {tmps : Array Value} (r : Rel P σ s w) (rt : RTmp σ N T tmps) {x : ResultVar} {e : ERes} {v : AV} (hx : cRes P x = some e) (h : evRes T s e = some v) :
    (resSem tmps x).run P w = .ok (conc σ v) w ∧ In σ v := by
  cases x with
  | tmp t =>
    simp only [cRes] at hx; cases hx
    simp only [evRes] at h; cases h
    exact ⟨by simp only [resSem]; rw [(rt.2 t).2]; rfl, (rt.2 t).1⟩
  | cell a t =>
    simp only [cRes] at hx
    split at hx
    · rename_i g n hg hn
      cases hx
      simp only [evRes] at h
      obtain ⟨h1, h2⟩ := rt.2 a
      generalize (EO.t a).ev T = p at h h1 h2
      cases p <;> simp only at h <;> try (cases h; done)
      rename_i b j o
      simp only [resSem]
      rw [h2]
      cases g with
      | true =>
        simp only at h
        split at h
        · rename_i l hl
          cases h
          obtain ⟨k1, k2⟩ := sim_ldn (t := t) r h1 hg hn hl
          simp only [Instr.loadAt, conc, Instr.sureAddr, Sem.run_bind, Sem.run_pure, Result.andThen_ok] at k1
          exact ⟨by simp only [conc, Sem.run_bind, run_asAddr, Result.andThen_ok]; exact k1, k2⟩
        · cases h
      | false =>
        simp only at h
        obtain ⟨k1, k2⟩ := sim_ld1 (t := t) r h1 hg h
        simp only [Instr.loadAt, conc, Instr.sureAddr, Sem.run_bind, Sem.run_pure, Result.andThen_ok] at k1
        exact ⟨by simp only [conc, Sem.run_bind, run_asAddr, Result.andThen_ok]; exact k1, k2⟩
    · cases hx

theorem evResL_run {P : Program} {σ : Sg} {N : Nat} {s : AS} {w : World} {T : Tr AV} {tmps : Array Value} (r : Rel P σ s w) (rt : RTmp σ N T tmps) : ∀ {l : List ResultVar} {es : List ERes} {vs : List AV}, cResL P l = some es → evResL T s es = some vs →
    (l.mapM (resSem tmps)).run P w = .ok (concL σ vs) w ∧ InL σ vs ∧ vs.length = l.length
  | [], es, vs, h1, h2 => by
    simp only [cResL] at h1; cases h1
    simp only [evResL] at h2; cases h2
    exact ⟨rfl, trivial, rfl⟩
  | x :: l, es, vs, h1, h2 => by
    simp only [cResL] at h1
    split at h1
    · rename_i e es' he hes
      cases h1
      simp only [evResL] at h2
      split at h2
      · rename_i v hv
        split at h2
        · rename_i vs' hvs
          cases h2
          obtain ⟨k1, k2⟩ := evRes_run r rt he hv
          obtain ⟨m1, m2, m3⟩ := evResL_run r rt hes hvs
          refine ⟨?_, ⟨k2, m2⟩, by simp [m3]⟩
          rw [List.mapM_cons]
          simp only [Sem.run_bind]
          rw [k1]
          simp only [Result.andThen_ok, Sem.run_bind]
          rw [m1]
          rfl
        · cases h2
      · cases h2
    · cases h1

theorem results_run {P : Program} {σ : Sg} {N : Nat} {s : AS} {w : World} {T : Tr AV} {tmps : Array Value} (r : Rel P σ s w) (rt : RTmp σ N T tmps) {fn : Func} {es : List ERes} {v : AV} (h1 : cResL P fn.results.toList = some es) (h2 : results T s es = some v) :
    (Go.results fn tmps).run P w = .ok (conc σ v) w ∧ In σ v := by
  have key : ∀ vs, evResL T s es = some vs → (fn.results.mapM (resSem tmps)).run P w = .ok (concL σ vs).toArray w ∧ InL σ vs := by
    intro vs hvs
    obtain ⟨k1, k2, _⟩ := evResL_run r rt h1 hvs
    refine ⟨?_, k2⟩
    rw [Array.mapM_eq_mapM_toList]
    simp only [Sem.run_map]
    rw [k1]
    rfl
  unfold Ab.results at h2
  rw [results_eq]
  split at h2
  · rename_i v' hv
    cases h2
    obtain ⟨k1, k2⟩ := key _ hv
    refine ⟨?_, k2.1⟩
    simp only [Sem.run_bind]
    rw [k1]
    simp [concL]
  · rename_i vs hno hvs
    cases h2
    obtain ⟨k1, k2⟩ := key _ hvs
    refine ⟨?_, by simpa [In] using k2⟩
    simp only [Sem.run_bind]
    rw [k1]
    have hlen : ¬ vs.length = 1 := by
      intro h
      match vs, h with
      | [x], _ => exact hno x rfl
    simp [concL_length, hlen, conc]
  · cases h2

/-! ### Leaving -/
theorem unwind_collected {P : Program} {fr : Frame} {cs : List Frame} {w : World} {r : Nat} {ds : List Deferred} (hm : fr.mode = .returning) (hd : fr.defers = { target := .collected r, args := #[] } :: ds)
    (hr : w.heap[r]? = some (.deferred (some []))) :
    step P (lone fr cs w) = .next (lone { fr with defers := ds } cs (setBlk w r (.deferred none))) := by
  refine step_lone_go ?_
  simp [stepG, unwind, hm, hd, Instr.takeDeferred, getObj, setObj, Sem.run, hr, setBlk]

theorem unwind_all {P : Program} {σ : Sg} {s : AS} {B : Nat} : ∀ (ds : List Deferred) {w : World}, DOk B σ w ds → Rel P σ s w →
    ∃ w', (∀ (fr : Frame) (cs : List Frame), fr.mode = .returning → fr.defers = ds → Steps P (lone fr cs w) (lone { fr with defers := [] } cs w')) ∧ Rel P σ s w' ∧
      (∀ b, (b < B ∨ img σ b) → w'.heap[b]? = w.heap[b]?) ∧ w'.heap.size = w.heap.size ∧ w'.os = w.os ∧ w'.tape = w.tape ∧ w'.output = w.output := by
  intro ds
  induction ds with
  | nil =>
    intro w _ r
    refine ⟨w, fun fr cs _ hd => ?_, r, fun _ _ => rfl, rfl, rfl, rfl, rfl⟩
    have : ({ fr with defers := [] } : Frame) = fr := by cases fr; simp at hd; simp [hd]
    rw [this]; exact .refl _ _
  | cons d ds ih =>
    intro w h r
    obtain ⟨q, h1, h2, h3, h4⟩ := h.1 d (List.mem_cons_self ..)
    subst h1
    have hb : ∀ k, k ≠ q → (setBlk w q (.deferred none)).heap[k]? = w.heap[k]? := fun k hk => by
      simp only [setBlk]; rw [Array.getElem?_setIfInBounds_ne (fun h => hk h.symm)]
    have r' : Rel P σ s (setBlk w q (.deferred none)) := r.world fun b hbi => hb b (fun e => h3 (e ▸ hbi))
    have hp := List.pairwise_cons.1 h.2
    have h' : DOk B σ (setBlk w q (.deferred none)) ds := by
      refine ⟨fun e he => ?_, hp.2⟩
      obtain ⟨p, k1, k2, k3, k4⟩ := h.1 e (List.mem_cons_of_mem _ he)
      have hlt := hp.1 e he q p rfl (by rw [k1])
      exact ⟨p, k1, by rw [hb p (by omega)]; exact k2, k3, k4⟩
    obtain ⟨w', m1, m2, m3, m4, m5, m6, m7⟩ := ih h' r'
    refine ⟨w', fun fr cs hm hd => .head (unwind_collected hm hd h2) (m1 { fr with defers := ds } cs hm rfl), m2, fun b hbi => ?_, by rw [m4]; simp [setBlk], m5, m6, m7⟩
    rw [m3 b hbi, hb b]
    rintro rfl
    rcases hbi with hbi | hbi
    · omega
    · exact h3 hbi

end Go.Ab
end

noncomputable section
namespace Go.Ab

theorem args0_ev : ∀ (l : List AV) (T : Tr AV) (i t : Nat), (EO.t t).ev (args0 T i l) = if i ≤ t ∧ t < i + l.length then (l[t - i]?).getD .undef else (EO.t t).ev T
  | [], T, i, t => by simp [args0]; omega
  | v :: l, T, i, t => by
    simp only [args0, List.length_cons]
    rw [args0_ev l (T.set i v) (i + 1) t]
    by_cases h1 : i + 1 ≤ t ∧ t < i + 1 + l.length
    · rw [if_pos h1, if_pos (by omega)]
      have : t - i = (t - (i + 1)) + 1 := by omega
      rw [this]; simp
    · rw [if_neg h1]
      by_cases h2 : t = i
      · subst h2; simp [EO.ev]
      · rw [if_neg (by omega)]
        simp only [EO.ev]; rw [Tr.get_set_ne _ _ h2]

theorem args_tmp {σ : Sg} {N : Nat} {args : List AV} (hin : InL σ args) (hn : args.length ≤ N) :
    RTmp σ N (args0 .e 0 args) ((concL σ args).toArray ++ Array.replicate (N - (concL σ args).toArray.size) Go.undef) := by
  refine ⟨by simp [concL_length]; omega, fun t => ?_⟩
  rw [args0_ev]
  by_cases h : t < args.length
  · rw [if_pos (by omega)]
    simp only [Nat.sub_zero, List.getElem?_eq_getElem h, Option.getD_some]
    refine ⟨(InL_iff σ args).1 hin _ (List.getElem_mem h), ?_⟩
    rw [Array.getD_eq_getD_getElem?, Array.getElem?_append_left (by simp [concL_length, h])]
    simp [concL_eq, h]
  · rw [if_neg (by omega)]
    refine ⟨trivial, ?_⟩
    rw [Array.getD_eq_getD_getElem?, Array.getElem?_append_right (by simp [concL_length]; omega)]
    simp only [EO.ev, Tr.get_e, conc]
    rw [Array.getElem?_replicate]
    split <;> rfl

theorem cFunc_some {P : Program} {f : Func} {F : EFunc} (h : cFunc P f = some F) : ∃ b es, f.body = some b ∧ cResL P f.results.toList = some es ∧ F = { ntmps := f.ntmps, body := cCode P b, res := es } ∧ dstC f.ntmps (cCode P b) = true ∧ f.name ≠ "runtime.NumGoroutine" := by
  unfold cFunc at h
  split at h
  · rename_i b r hb hr
    split at h
    · rename_i hc
      cases h
      simp at hc
      exact ⟨b, r, hb, hr, rfl, hc.1, hc.2⟩
    · cases h
  · cases h

/-- A table of functions that are the program's. -/
def TabOk (P : Program) (tab : Tab) : Prop := ∀ k F, tab.get k = some F → ∃ f, P.funcs[k]? = some f ∧ cFunc P f = some F

theorem apply_enter {P : Program} {fr : Frame} {cs : List Frame} {w w' : World} {x : Sem Next} {k : FuncId} {args : Array Value} (hp : plainTop fr) (h : x.run P w = .ok (.enter k args) w') :
    (stepG.apply P true fr cs none x w).bare = .go { frame := Frame.enter P k args .normal, callers := fr :: cs, status := .running, dying := none } w' := by
  simp only [stepG.apply, if_true, Sem.runT_eq, h, GStep.bare_after]
  split
  · rename_i h1; exact absurd h1 (hp _ _ _ _)
  · rfl

theorem apply_round {P : Program} {fr : Frame} {cs : List Frame} {w w' : World} {x : Sem Next} {l : Nat} {k : FuncId} {tmps : Array Value} {a b : Code} (h : x.run P w = .ok (.round l k tmps a b) w') :
    (stepG.apply P true fr cs none x w).bare = .go { frame := Frame.round l k tmps a b .normal, callers := fr :: cs, status := .running, dying := none } w' := by
  simp [stepG.apply, h]

/-- A function that has ended: the way back to its caller. -/
theorem step_back {P : Program} {fr c : Frame} {cs : List Frame} {w : World} {v : Value} {f : Func} (hm : fr.mode = .returning) (hd : fr.defers = []) (hk : fr.kind = .normal) (hf : P.funcs[fr.fn]? = some f)
    (hr : (Go.results f fr.tmps).run P w = .ok v w) : step P (lone fr (c :: cs) w) = .next (lone (c.finish v) cs w) :=
  step_lone_go (by simp [stepG, unwind, doReturn, hm, hd, hk, hf, hr])

theorem to_returning {P : Program} {fr : Frame} {cs : List Frame} {w : World} {x : Ex} {t : List Item} (hb : fr.mode = .run) (hro : fr.roundOf = none) (ht : fr.todo = t) (ha : Arr1 [] x t) (hx : ∀ id, x ≠ .exit id) :
    step P (lone fr cs w) = .next (lone { fr with mode := .returning } cs w) := by
  cases x with
  | normal =>
    simp only [Arr1] at ha; subst ha
    exact step_lone_go (by simp [stepG, stepG.exec, hb, ht, hro])
  | ret =>
    obtain ⟨k₂, rfl⟩ := ha
    exact step_lone_go (by simp [stepG, stepG.exec, hb, ht, hro])
  | exit id => exact absurd rfl (hx id)

theorem func_sound {P : Program} {E : Env} {cl : Oracle} (hcl : ClOk P E cl) (hmix : P.follows .mixedOrders = true) (lf : Nat) {k : FuncId} {f : Func} {F : EFunc} (hf : P.funcs[k]? = some f) (hF : cFunc P f = some F)
    {args : List AV} {s s' : AS} {σ : Sg} {w : World} {v : AV} (h : evFunc E cl lf F args s = some (v, s')) (r : Rel P σ s w) (he : EOk E σ) (hin : InL σ args) :
    ∃ σ' w', Rel P σ' s' w' ∧ In σ' v ∧ Ext σ s w σ' s' w' ∧
      (∀ (c : Frame) (cs : List Frame), Steps P (lone (Frame.enter P k (concL σ args).toArray .normal) (c :: cs) w) (lone (c.finish (conc σ' v)) cs w')) ∧
      (∀ cs, ∃ fr, Steps P (lone (Frame.enter P k (concL σ args).toArray .normal) cs w) (lone fr cs w') ∧ fr.fn = k ∧ fr.leaving P w' (.returned (conc σ' v))) := by
  obtain ⟨b, es, f1, f2, rfl, f3, f4⟩ := cFunc_some hF
  unfold evFunc at h
  simp only at h
  split at h
  · cases h
  · rename_i hlen
    rw [ble_eq] at hlen
    simp only [decide_eq_true_eq] at hlen
    split at h
    · cases h
    · rename_i x T s₁ hno hcode
      split at h
      · rename_i v' hres
        cases h
        have rt := args_tmp hin hlen
        obtain ⟨σ', w', tmps', ds, k1, k2, k3, k4, k5⟩ := code_sound hcl hmix lf k none f.ntmps b hcode f3 he r rt (by intro q hq; cases hq)
        obtain ⟨w'', m1, m2, m3, m4, m5, m6, m7⟩ := unwind_all ds k4 k1
        obtain ⟨q1, q2⟩ := results_run m2 k2 f2 hres
        have hent : Frame.enter P k (concL σ args).toArray .normal = { fn := k, tmps := (concL σ args).toArray ++ Array.replicate (f.ntmps - (concL σ args).toArray.size) Go.undef, todo := [.code b], defers := [], mode := .run, kind := .normal } := by
          simp [Frame.enter, hf, f1]
        have hx : ∀ id, x ≠ .exit id := fun id e => hno id e
        have hx2 : Ext σ s w σ' s' w'' := by
          refine ⟨k3.le, k3.img, fun q hq hn => ?_, by rw [m4]; exact k3.size, by rw [m5, k3.os], by rw [m6, k3.tape], by rw [m7, k3.output], k3.na, k3.nm, k3.nl, k3.fa, k3.fm⟩
          rw [m3 q (.inl hq)]; exact k3.fr q hq hn
        have main : ∀ cs, ∃ fr, Steps P (lone (Frame.enter P k (concL σ args).toArray .normal) cs w) (lone fr cs w'') ∧ fr.fn = k ∧ fr.mode = .returning ∧ fr.defers = [] ∧ fr.kind = .normal ∧ fr.tmps = tmps' := by
          intro cs
          obtain ⟨t, e1, e2⟩ := k5 { fn := k, tmps := (concL σ args).toArray ++ Array.replicate (f.ntmps - (concL σ args).toArray.size) Go.undef, todo := [], defers := [], mode := .run, kind := .normal } [] cs rfl rfl rfl rfl
          have e3 := to_returning (P := P) (cs := cs) (w := w') (fr := { fn := k, tmps := tmps', todo := t, defers := ds ++ [], mode := .run, kind := .normal }) rfl rfl rfl e1 hx
          have e4 := m1 { fn := k, tmps := tmps', todo := t, defers := ds ++ [], mode := .returning, kind := .normal } cs rfl (by simp)
          rw [hent]
          exact ⟨_, e2.trans (.head e3 e4), rfl, rfl, rfl, rfl, rfl⟩
        refine ⟨σ', w'', m2, q2, hx2, ?_, ?_⟩
        · intro c cs
          obtain ⟨fr, g1, g2, g3, g4, g5, g6⟩ := main (c :: cs)
          exact g1.trans (.one (step_back g3 g4 g5 (by rw [g2]; exact hf) (by rw [g6]; exact q1)))
        · intro cs
          obtain ⟨fr, g1, g2, g3, g4, g5, g6⟩ := main cs
          exact ⟨fr, g1, g2, g3, g4, g5, f, by rw [g2]; exact hf, by rw [g6]; exact q1⟩
      · cases h
    · cases h

theorem setPs_spec {σ : Sg} {N : Nat} : ∀ {ps : List Nat} {args : List AV} {T T' : Tr AV} {tmps : Array Value}, setPs T ps args = some T' → RTmp σ N T tmps → InL σ args → ps.all (ltb · N) = true →
    args.length = ps.length ∧ RTmp σ N T' ((ps.zip (concL σ args)).foldl (fun tmps x => tmps.setIfInBounds x.1 x.2) tmps)
  | [], [], T, T', tmps, h, rt, _, _ => by simp [setPs] at h; subst h; exact ⟨rfl, rt⟩
  | [], _ :: _, T, T', tmps, h, _, _, _ => by simp [setPs] at h
  | _ :: _, [], T, T', tmps, h, _, _, _ => by simp [setPs] at h
  | p :: ps, v :: vs, T, T', tmps, h, rt, hin, hp => by
    simp only [setPs] at h
    simp only [List.all_cons, Bool.and_eq_true, ltb_eq, decide_eq_true_eq] at hp
    simp only [InL] at hin
    have rt' : RTmp σ N (T.set p v) (tmps.setIfInBounds p (conc σ v)) := rt.put (d := some p) (by intro x hx; cases hx; exact hp.1) hin.1
    obtain ⟨h1, h2⟩ := setPs_spec h rt' hin.2 (by simpa [ltb_eq] using hp.2)
    exact ⟨by simp [h1], by simpa [concL] using h2⟩

end Go.Ab
end

noncomputable section
namespace Go.Ab

theorem mk_beginRound {P : Program} {b : Frame} {q : Nat} {k : List Item} {cs : List Frame} {w w' : World} (hb : b.mode = .run) (hr : b.roundOf = some q) (h : (Instr.beginRound q).run P w = .ok () w') :
    step P (lone { b with todo := .beginRound :: k } cs w) = .next (lone { b with todo := k } cs w') :=
  step_lone_go (by simp [stepG, stepG.exec, stepG.apply, hb, hr, h, Frame.finish])

theorem mk_leave {P : Program} {b c : Frame} {q : Nat} {x : Ex} {cs : List Frame} {w w' : World} {v : Value} (hb : b.mode = .run) (hr : b.roundOf = some q) (hk : b.kind = .normal) (ha : Arr1 [] x b.todo)
    (h : (Instr.endRound q (cEx x)).run P w = .ok v w') : step P (lone b (c :: cs) w) = .next (lone (c.finish v) cs w') := by
  cases x with
  | normal =>
    simp only [Arr1] at ha
    simp only [cEx] at h
    exact step_lone_go (by simp [stepG, stepG.exec, hb, hr, ha, h, doReturn, hk])
  | ret =>
    obtain ⟨k₂, ha⟩ := ha
    simp only [cEx] at h
    exact step_lone_go (by simp [stepG, stepG.exec, hb, hr, ha, h, doReturn, hk])
  | exit id =>
    obtain ⟨k₂, ha, hx⟩ := ha
    simp only [cEx] at h
    have hx' : exitTo id k₂ = none := by rw [hx]; rfl
    exact step_lone_go (by simp [stepG, stepG.exec, hb, hr, ha, hx', h, doReturn, hk])

theorem round_sound {P : Program} {E : Env} {cl : Oracle} (hcl : ClOk P E cl) (hmix : P.follows .mixedOrders = true) (lf : Nat) {l : Nat} {args : List AV} {s s' : AS} {σ : Sg} {w : World} {v : AV} {q : Nat}
    (h : evRound E cl lf l args s = some (v, s')) (r : Rel P σ s w) (he : EOk E σ) (hin : InL σ args) (hq : σ.lp l = some q) :
    ∃ σ' w', Rel P σ' s' w' ∧ In σ' v ∧ Ext σ s w σ' s' w' ∧ CallSim P (.func (.yield q) #[] #[]) (concL σ args).toArray w (conc σ' v) w' := by
  unfold evRound at h
  split at h
  · cases h
  · rename_i L hL
    obtain ⟨N, fn, tm, asn, body, d, a1, a2, a3, a4, a5, a6, a7, _⟩ := r.setL hq hL
    split at h
    · cases h
    · rename_i T hT
      obtain ⟨b1, b2⟩ := setPs_spec hT a2 hin a7
      split at h
      · rename_i T₁ s₁ hasn
        rw [a3] at hasn
        have hro : ROk σ (some q) := fun q' hq' => ⟨l, by cases hq'; exact hq⟩
        obtain ⟨σ₁, w₁, t₁, ds₁, k1, k2, k3, k4, k5⟩ := code_sound hcl hmix lf fn (some q) N asn hasn (a3 ▸ a5) he r b2 hro
        split at h
        · cases h
        · rename_i L₁ hL₁
          split at h
          · rename_i hst
            have hq₁ := k3.le.lp _ _ hq
            obtain ⟨N₁, fn₁, tm₁, asn₁, body₁, d₁, c1, _, _, _, _, _, _, c2⟩ := k1.setL hq₁ hL₁
            obtain ⟨c3, c4⟩ := c2 .busy L₁.pend
            split at h
            · cases h
            · rename_i x T₂ s₂ hbody
              rw [a4] at hbody
              obtain ⟨σ₂, w₂, t₂, ds₂, e1, e2, e3, e4, e5⟩ := code_sound hcl hmix lf fn (some q) N body hbody (a4 ▸ a6) (he.le (k3.le.trans c4.le)) c3 (k2.le c4.le) (hro.le (k3.le.trans c4.le))
              split at h
              · cases h
              · rename_i L₂ hL₂
                have hq₂ := e3.le.lp _ _ (c4.le.lp _ _ hq₁)
                obtain ⟨N₂, fn₂, tm₂, asn₂, body₂, d₂, f1, _, _, _, _, _, _, f2⟩ := e1.setL hq₂ hL₂
                -- the machine's way
                have way : ∀ {w' : World} {V : Value}, (Instr.endRound q (cEx x)).run P w₂ = .ok V w' → CallSim P (.func (.yield q) #[] #[]) (concL σ args).toArray w V w' := by
                  intro w' V hend fr cs hm hp
                  have hrun : (do let dd ← Deferred.ofValue (.func (.yield q) #[] #[]) (concL σ args).toArray; invoke dd.target dd.args : Sem Next).run P w =
                      .ok (.round q fn ((L.ps.zip (concL σ args)).foldl (fun tmps x => tmps.setIfInBounds x.1 x.2) tm) asn body) w := by
                    simp only [Deferred.ofValue, pure_bind, invoke, Instr.yield, Sem.run_bind, run_getLoop a1, Result.andThen_ok]
                    simp only [Array.empty_append, List.size_toArray, concL_length, b1, ne_eq, not_true_eq_false, if_false, Sem.run_pure]
                    congr 2
                    rw [← Array.foldl_toList]
                    simp
                  refine ⟨_, _, _, apply_round hrun, ?_⟩
                  obtain ⟨t, g1, g2⟩ := k5 { fn := fn, tmps := (L.ps.zip (concL σ args)).foldl (fun tmps x => tmps.setIfInBounds x.1 x.2) tm, todo := [], defers := [], mode := .run, kind := .normal, roundOf := some q } [.beginRound, .code body] (fr :: cs) rfl rfl rfl rfl
                  simp only [Arr1] at g1
                  subst g1
                  have hbeg : (Instr.beginRound q).run P w₁ = .ok () (setBlk w₁ q (.loop { state := .busy, pending := cEx L₁.pend, fn := fn₁, tmps := tm₁, params := L₁.ps.toArray, assign := asn₁, body := body₁, defers := d₁ })) := by
                    simp only [Instr.beginRound, Sem.run_bind, run_getLoop c1, Result.andThen_ok, run_setObj c1, hst, Sem.run_pure]
                  obtain ⟨t', g3, g4⟩ := e5 { fn := fn, tmps := t₁, todo := [], defers := ds₁ ++ [], mode := .run, kind := .normal, roundOf := some q } [] (fr :: cs) rfl rfl rfl rfl
                  refine g2.trans (.head (mk_beginRound (b := { fn := fn, tmps := t₁, todo := [], defers := ds₁ ++ [], mode := .run, kind := .normal, roundOf := some q }) rfl rfl hbeg) (g4.trans (.one ?_)))
                  exact mk_leave (b := { fn := fn, tmps := t₂, todo := t', defers := ds₂ ++ (ds₁ ++ []), mode := .run, kind := .normal, roundOf := some q }) rfl rfl rfl g3 hend
                have hext := (k3.trans c4).trans e3
                cases x with
                | normal =>
                  simp only at h; cases h
                  obtain ⟨m1, m2⟩ := f2 .ready .normal
                  refine ⟨σ₂, _, m1, trivial, hext.trans m2, way ?_⟩
                  simp only [Instr.endRound, Sem.run_bind, run_getLoop f1, Result.andThen_ok, run_setObj f1, Sem.run_pure]
                  rfl
                | exit id =>
                  simp only at h; cases h
                  obtain ⟨m1, m2⟩ := f2 .done (.exit id)
                  refine ⟨σ₂, _, m1, trivial, hext.trans m2, way ?_⟩
                  simp only [Instr.endRound, Sem.run_bind, run_getLoop f1, Result.andThen_ok, run_setObj f1, Sem.run_pure]
                  rfl
                | ret =>
                  simp only at h; cases h
                  obtain ⟨m1, m2⟩ := f2 .done .ret
                  refine ⟨σ₂, _, m1, trivial, hext.trans m2, way ?_⟩
                  simp only [Instr.endRound, Sem.run_bind, run_getLoop f1, Result.andThen_ok, run_setObj f1, Sem.run_pure]
                  rfl
          · cases h
      · cases h

theorem InL_append {σ : Sg} {a b : List AV} (h : InL σ a) (k : InL σ b) : InL σ (a ++ b) := by
  rw [InL_iff] at *
  intro v hv
  rcases List.mem_append.1 hv with hv | hv
  · exact h v hv
  · exact k v hv
theorem concL_append (σ : Sg) (a b : List AV) : concL σ (a ++ b) = concL σ a ++ concL σ b := by simp [concL_eq]

theorem run_callFunc {P : Program} {w : World} {k : FuncId} {f : Func} {args : Array Value} {b : Code} (hf : P.funcs[k]? = some f) (hb : f.body = some b) (hn : f.name ≠ "runtime.NumGoroutine") :
    (callFunc k args).run P w = .ok (.enter k args) w := by

  simp [callFunc, hf, hb, hn]

theorem evCall_ok {P : Program} {E : Env} {tab : Tab} (htab : TabOk P tab) (hmix : P.follows .mixedOrders = true) (lf : Nat) : ∀ n, ClOk P E (evCall E tab lf n) := by
  intro n
  induction n with
  | zero => intro f args s v s' σ w h; simp [evCall] at h
  | succ n ih =>
    intro f args s v s' σ w h r he hf hargs
    simp only [evCall] at h
    split at h
    · rename_i k first cap
      split at h
      · rename_i F hF
        obtain ⟨fn, h1, h2⟩ := htab k F hF
        simp only [In] at hf
        obtain ⟨b, es, f1, _, _, _, f4⟩ := cFunc_some h2
        obtain ⟨σ', w', k1, k2, k3, k4, _⟩ := func_sound ih hmix lf h1 h2 h r he (InL_append (InL_append hf.1 hargs) hf.2)
        refine ⟨σ', w', k1, k2, k3, ?_⟩
        intro fr cs hm hp
        refine ⟨_, _, _, apply_enter (k := k) (args := (concL σ (first ++ args ++ cap)).toArray) (w' := w) hp ?_, k4 fr cs⟩
        simp only [conc, Deferred.ofValue, pure_bind, invoke]
        rw [run_callFunc h1 f1 f4]
        simp [concL_append]
      · cases h
    · rename_i l
      simp only [In] at hf
      obtain ⟨q, hq⟩ := isSome_get hf
      obtain ⟨σ', w', k1, k2, k3, k4⟩ := round_sound ih hmix lf h r he hargs hq
      refine ⟨σ', w', k1, k2, k3, ?_⟩
      simp only [conc, hq, Option.getD_some]
      exact k4
    · cases h

/-- WHAT THE EVALUATOR ANSWERS THE MACHINE ANSWERS, WHATEVER THE TAPE SAYS. -/
theorem calls_of_ev {P : Program} {E : Env} {tab : Tab} (htab : TabOk P tab) (hmix : P.follows .mixedOrders = true) (lf n : Nat) {k : FuncId} {args : List AV} {s s' : AS} {v : AV} {σ : Sg} {w : World}
    (h : evCall E tab lf (n + 1) (.fn k [] []) args s = some (v, s')) (r : Rel P σ s w) (he : EOk E σ) (hin : InL σ args) :
    ∃ σ' w', Rel P σ' s' w' ∧ In σ' v ∧ Ext σ s w σ' s' w' ∧ Calls P k (concL σ args).toArray w (fun e w'' => e = .returned (conc σ' v) ∧ w'' = w') := by
  simp only [evCall] at h
  split at h
  · rename_i F hF
    obtain ⟨fn, h1, h2⟩ := htab k F hF
    obtain ⟨σ', w', k1, k2, k3, _, k5⟩ := func_sound (evCall_ok htab hmix lf n) hmix lf h1 h2 (by simpa using h) r he hin
    refine ⟨σ', w', k1, k2, k3, fun cs => ?_⟩
    obtain ⟨fr, g1, g2, g3⟩ := k5 cs
    exact ⟨.returned (conc σ' v), w', fr, ⟨rfl, rfl⟩, g1, g2, g3⟩
  · cases h

end Go.Ab
end
