/- Soundness of the abstract evaluator: code. -/
import Derived.Test.YthekpkcmlndcmaaGreatAbC1
noncomputable section
namespace Go.Ab

/-- Where code arrives. -/
def Arr1 (k : List Item) : Ex → List Item → Prop
  | .normal, t => t = k
  | .exit id, t => ∃ k₂, t = .code (.exit id) :: k₂ ∧ exitTo id k₂ = exitTo id k
  | .ret, t => ∃ k₂, t = .code .ret :: k₂

/-- What is deferred: blocks of loops, with nothing in them, the younger ones first. -/
def DOk (B : Nat) (σ : Sg) (w : World) (ds : List Deferred) : Prop :=
  (∀ d, d ∈ ds → ∃ r, d = { target := .collected r, args := #[] } ∧ w.heap[r]? = some (.deferred (some [])) ∧ ¬ img σ r ∧ B ≤ r) ∧
  ds.Pairwise (fun d e => ∀ r q, d.target = .collected r → e.target = .collected q → q < r)

theorem DOk.nil (B : Nat) (σ : Sg) (w : World) : DOk B σ w [] := ⟨by intro d hd; simp at hd, List.Pairwise.nil⟩

theorem lt_of_heap {w : World} {r : Nat} {o : Obj} (h : w.heap[r]? = some o) : r < w.heap.size := by
  rcases Nat.lt_or_ge r w.heap.size with h' | h'
  · exact h'
  · rw [Array.getElem?_eq_none h'] at h; cases h

theorem DOk.ext {B : Nat} {σ σ' : Sg} {s s' : AS} {w w' : World} {ds : List Deferred} (h : DOk B σ w ds) (x : Ext σ s w σ' s' w') : DOk B σ' w' ds := by
  refine ⟨fun d hd => ?_, h.2⟩
  obtain ⟨r, h1, h2, h3, h4⟩ := h.1 d hd
  have hlt := lt_of_heap h2
  refine ⟨r, h1, by rw [x.fr r hlt h3]; exact h2, fun hi => ?_, h4⟩
  rcases x.img r hi with h | h
  · exact h3 h
  · omega

theorem DOk.join {B : Nat} {σ₁ σ₂ : Sg} {s₁ s₂ : AS} {w₁ w₂ : World} {a b : List Deferred} (h : DOk w₁.heap.size σ₂ w₂ a) (k : DOk B σ₁ w₁ b) (x : Ext σ₁ s₁ w₁ σ₂ s₂ w₂) (hB : B ≤ w₁.heap.size) : DOk B σ₂ w₂ (a ++ b) := by
  refine ⟨fun d hd => ?_, ?_⟩
  · rcases List.mem_append.1 hd with hd | hd
    · obtain ⟨r, h1, h2, h3, h4⟩ := h.1 d hd
      exact ⟨r, h1, h2, h3, by omega⟩
    · exact (k.ext x).1 d hd
  · rw [List.pairwise_append]
    refine ⟨h.2, k.2, fun d hd e he r q hr hq => ?_⟩
    obtain ⟨r', h1, _, _, h4⟩ := h.1 d hd
    obtain ⟨q', k1, k2, _, _⟩ := k.1 e he
    have := lt_of_heap k2
    subst h1 k1
    cases hr; cases hq
    omega

def CodeSim (P : Program) (c : Code) (fn : FuncId) (ro : Option Nat) (tmps : Array Value) (w : World) (x : Ex) (tmps' : Array Value) (ds : List Deferred) (w' : World) : Prop :=
  ∀ (b : Frame) (k : List Item) (cs : List Frame), b.mode = .run → b.tmps = tmps → b.roundOf = ro → b.fn = fn →
    ∃ t, Arr1 k x t ∧ Steps P (lone { b with todo := .code c :: k } cs w) (lone { b with tmps := tmps', todo := t, defers := ds ++ b.defers } cs w')

/-- What a frame in a round needs: its loop is there. -/
def ROk (σ : Sg) (ro : Option Nat) : Prop := ∀ q, ro = some q → ∃ l, σ.lp l = some q
theorem ROk.le {σ τ : Sg} {ro : Option Nat} (h : ROk σ ro) (k : σ.le τ) : ROk τ ro := fun q hq => let ⟨l, hl⟩ := h q hq; ⟨l, k.lp l q hl⟩

section
variable {P : Program} {b : Frame} {k : List Item} {cs : List Frame} {w : World}

theorem mk_rangeFunc (hb : b.mode = .run) {f : Operand} {params : Array Tmp} {asn body : Code} {l : Nat} {mark : List Deferred} {w₁ : World}
    (he : (Instr.enterLoop b.fn b.tmps params asn body b.roundOf).run P w = .ok (l, mark) w₁) :
    (stepG P true { frame := { b with todo := .code (.rangeFunc f params asn body) :: k }, callers := cs, status := .running, dying := none } w).bare =
      (stepG.apply P true { b with todo := .inRangeFunc l :: k, defers := mark ++ b.defers } cs none (do let d ← Deferred.ofValue (b.eval f) #[.func (.yield l) #[] #[]]; invoke d.target d.args) w₁).bare := by
  have h' : ∀ fr : Frame, fr.tmps = b.tmps → fr.eval f = b.eval f := by
    intro fr hf; cases f <;> simp [Frame.eval, hf]
  simp [stepG, stepG.exec, hb, he, resolve, h']
  rfl

theorem mk_endRangeFunc (hb : b.mode = .run) {l : Nat} {j : Option Code} {w₁ : World} (he : (Instr.endLoop l).run P w = .ok j w₁) :
    step P (lone { b with todo := .endRangeFunc l :: k } cs w) = .next (lone { b with todo := (j.map Item.code).toList ++ k } cs w₁) :=
  step_lone_go (by simp [stepG, stepG.exec, hb, he])

end

theorem Arr1.under {k : List Item} {x : Ex} {t : List Item} {y : Item} (h : Arr1 (y :: k) x t) (hn : x = .normal → False) (hp : ∀ id, exitTo id (y :: k) = exitTo id k) : Arr1 k x t := by
  cases x with
  | normal => exact (hn rfl).elim
  | exit id => obtain ⟨k₂, h1, h2⟩ := h; exact ⟨k₂, h1, h2.trans (hp id)⟩
  | ret => exact h

theorem CodeSim.seq {P : Program} {x y : Code} {fn : FuncId} {ro : Option Nat} {t₀ t₁ t₂ : Array Value} {w₀ w₁ w₂ : World} {e : Ex} {ds ds' : List Deferred} (h : CodeSim P x fn ro t₀ w₀ .normal t₁ ds w₁) (k : CodeSim P y fn ro t₁ w₁ e t₂ ds' w₂) :
    CodeSim P (.seq x y) fn ro t₀ w₀ e t₂ (ds' ++ ds) w₂ := by
  intro b q cs hb ht hr hf
  obtain ⟨t, h1, h2⟩ := h b (.code y :: q) cs hb ht hr hf
  subst h1
  obtain ⟨t', h3, h4⟩ := k { b with tmps := t₁, defers := ds ++ b.defers } q cs hb rfl hr hf
  refine ⟨t', h3, .head (mk_seq hb) (h2.trans ?_)⟩
  simp only [List.append_assoc]
  exact h4

theorem CodeSim.seq_out {P : Program} {x y : Code} {fn : FuncId} {ro : Option Nat} {t₀ t₁ : Array Value} {w₀ w₁ : World} {e : Ex} {ds : List Deferred} (h : CodeSim P x fn ro t₀ w₀ e t₁ ds w₁) (he : e = .normal → False) :
    CodeSim P (.seq x y) fn ro t₀ w₀ e t₁ ds w₁ := by
  intro b q cs hb ht hr hf
  obtain ⟨t, h1, h2⟩ := h b (.code y :: q) cs hb ht hr hf
  exact ⟨t, h1.under he (fun _ => rfl), .head (mk_seq hb) h2⟩

/-- What code comes to. -/
def CRes (P : Program) (c : Code) (fn : FuncId) (ro : Option Nat) (N : Nat) (σ : Sg) (s : AS) (w : World) (tmps : Array Value) (x : Ex) (T' : Tr AV) (s' : AS) : Prop :=
  ∃ σ' w' tmps' ds, Rel P σ' s' w' ∧ RTmp σ' N T' tmps' ∧ Ext σ s w σ' s' w' ∧ DOk w.heap.size σ' w' ds ∧ CodeSim P c fn ro tmps w x tmps' ds w'

theorem RegSim.region {P : Program} {ops : Array Oper} {id : Nat} {tmps tmps' : Array Value} {w w' : World} (h : RegSim P ops (List.range ops.size) tmps w tmps' w') (fn : FuncId) (ro : Option Nat) :
    CodeSim P (.region id ops false) fn ro tmps w .normal tmps' [] w' := by
  intro b k cs hb ht _ _
  refine ⟨k, rfl, .head (mk_region hb) ((h b k cs hb ht).trans (.one ?_))⟩
  exact mk_region_end (b := { b with tmps := tmps' }) hb

theorem RegSim.region_draw {P : Program} {ops : Array Oper} {id : Nat} {tmps tmps' : Array Value} {w w' : World} {fn : FuncId}
    (h : RegSim P ops (Region.schedule (P.follows .mixedOrders) ops (w.tape w.drawn (.order fn id))) tmps w.drew tmps' w') (ro : Option Nat) :
    CodeSim P (.region id ops true) fn ro tmps w .normal tmps' [] w' := by
  intro b k cs hb ht _ hf
  subst hf
  refine ⟨k, rfl, .head (mk_region_draw hb) ((h b k cs hb ht).trans (.one ?_))⟩
  exact mk_region_end (b := { b with tmps := tmps' }) hb

/-- A loop's rounds. -/
theorem rounds_sound {P : Program} {E : Env} {c : Code} {fn : FuncId} {ro : Option Nat} {N : Nat} {f : Tr AV → AS → Option (Ex × Tr AV × AS)}
    (hf : ∀ {σ : Sg} {s s' : AS} {w : World} {T T' : Tr AV} {tmps : Array Value} {x : Ex}, f T s = some (x, T', s') → EOk E σ → Rel P σ s w → RTmp σ N T tmps → ROk σ ro → CRes P c fn ro N σ s w tmps x T' s') :
    ∀ (n : Nat) {σ : Sg} {s s' : AS} {w : World} {T T' : Tr AV} {tmps : Array Value} {x : Ex}, rounds f n T s = some (x, T', s') → EOk E σ → Rel P σ s w → RTmp σ N T tmps → ROk σ ro →
      (x = .normal → False) ∧ ∃ σ' w' tmps' ds, Rel P σ' s' w' ∧ RTmp σ' N T' tmps' ∧ Ext σ s w σ' s' w' ∧ DOk w.heap.size σ' w' ds ∧
        ∀ (b : Frame) (k : List Item) (cs : List Frame), b.mode = .run → b.tmps = tmps → b.roundOf = ro → b.fn = fn →
          ∃ t, Arr1 k x t ∧ Steps P (lone { b with todo := .code c :: .inLoop c :: k } cs w) (lone { b with tmps := tmps', todo := t, defers := ds ++ b.defers } cs w') := by
  intro n
  induction n with
  | zero => intro σ s s' w T T' tmps x h; simp [rounds] at h
  | succ n ih =>
    intro σ s s' w T T' tmps x h he r rt hro
    simp only [rounds] at h
    split at h
    · rename_i T₁ s₁ h1
      obtain ⟨σ₁, w₁, t₁, ds₁, k1, k2, k3, k4, k5⟩ := hf h1 he r rt hro
      obtain ⟨hx, σ₂, w₂, t₂, ds₂, m1, m2, m3, m4, m5⟩ := ih h (he.le k3.le) k1 k2 (hro.le k3.le)
      refine ⟨hx, σ₂, w₂, t₂, ds₂ ++ ds₁, m1, m2, k3.trans m3, m4.join k4 m3 k3.size, ?_⟩
      intro b k cs hb ht hr hfn
      obtain ⟨t, e1, e2⟩ := k5 b (.inLoop c :: k) cs hb ht hr hfn
      subst e1
      obtain ⟨t', e3, e4⟩ := m5 { b with tmps := t₁, defers := ds₁ ++ b.defers } k cs hb rfl hr hfn
      refine ⟨t', e3, e2.trans (.head (mk_inLoop (b := { b with tmps := t₁, defers := ds₁ ++ b.defers }) hb) ?_)⟩
      simp only [List.append_assoc]
      exact e4
    · rename_i hno
      have hx : x = .normal → False := fun e => hno T' s' (by rw [h, e])
      obtain ⟨σ₁, w₁, t₁, ds₁, k1, k2, k3, k4, k5⟩ := hf h he r rt hro
      refine ⟨hx, σ₁, w₁, t₁, ds₁, k1, k2, k3, k4, ?_⟩
      intro b k cs hb ht hr hfn
      obtain ⟨t, e1, e2⟩ := k5 b (.inLoop c :: k) cs hb ht hr hfn
      exact ⟨t, e1.under hx (fun _ => rfl), e2⟩

theorem cRegion_text {P : Program} {ops : Array Oper} : cRegion P ops false = .reg (ops.toList.map fun o => EStep.one (cOper P ops o) []) := by
  simp [cRegion]

theorem code_sound {P : Program} {E : Env} {cl : Oracle} (hcl : ClOk P E cl) (hmix : P.follows .mixedOrders = true) (lf : Nat) (fn : FuncId) (ro : Option Nat) (N : Nat) :
    ∀ (c : Code) {σ : Sg} {s s' : AS} {w : World} {T T' : Tr AV} {tmps : Array Value} {x : Ex}, evCode E cl lf (cCode P c) T s = some (x, T', s') → dstC N (cCode P c) = true → EOk E σ → Rel P σ s w → RTmp σ N T tmps → ROk σ ro →
      CRes P c fn ro N σ s w tmps x T' s' := by
  intro c
  induction c with
  | skip =>
    intro σ s s' w T T' tmps x h _ _ r rt _
    simp only [cCode, evCode] at h; cases h
    refine ⟨σ, w, tmps, [], r, rt, .refl _ _ _, DOk.nil _ _ _, ?_⟩
    intro b k cs hb ht _ _
    subst ht
    exact ⟨k, rfl, .one (mk_skip hb)⟩
  | region id ops draw =>
    intro σ s s' w T T' tmps x h hd he r rt _
    simp only [cCode] at h hd
    cases draw with
    | false =>
      rw [cRegion_text] at h hd
      simp only [evCode] at h
      split at h
      · rename_i T₁ s₁ hs
        cases h
        obtain ⟨σ', w', t', k1, k2, k3, k4⟩ := text_sound hcl ops.toList 0 (by intro k; simp) hd he r rt hs
        refine ⟨σ', w', t', [], k1, k2, k3, DOk.nil _ _ _, RegSim.region ?_ fn ro⟩
        rw [List.range_eq_range', ← Array.length_toList]; exact k4
      · cases h
    | true =>
      cases hreg : cRegion P ops true with
      | reg st =>
        rw [hreg] at h hd
        simp only [evCode] at h
        split at h
        · rename_i T₁ s₁ hs
          cases h
          obtain ⟨σ', w', t', k1, k2, k3, k4⟩ := draw_sound hcl hreg hd he r.drew rt hs (w.tape w.drawn (.order fn id))
          exact ⟨σ', w', t', [], k1, k2, (Ext.drew σ s w).trans k3, DOk.nil _ _ _, RegSim.region_draw (by rw [hmix]; exact k4) ro⟩
        · cases h
      | _ => exfalso; unfold cRegion at hreg; simp only [if_true] at hreg; (repeat' split at hreg) <;> first | (cases hreg; done) | (rw [hreg] at h; simp [evCode] at h; done) | (subst hreg; done) | skip
             all_goals (first | (simp at hreg; done) | (rw [show cRegion P ops true = ECode.bad from by simp [cRegion, *]] at h; simp [evCode] at h))
  | seq a b iha ihb =>
    intro σ s s' w T T' tmps x h hd he r rt hro
    simp only [cCode, dstC, Bool.and_eq_true] at hd
    simp only [cCode, evCode] at h
    split at h
    · rename_i T₁ s₁ h1
      obtain ⟨σ₁, w₁, t₁, ds₁, k1, k2, k3, k4, k5⟩ := iha h1 hd.1 he r rt hro
      obtain ⟨σ₂, w₂, t₂, ds₂, m1, m2, m3, m4, m5⟩ := ihb h hd.2 (he.le k3.le) k1 k2 (hro.le k3.le)
      exact ⟨σ₂, w₂, t₂, ds₂ ++ ds₁, m1, m2, k3.trans m3, m4.join k4 m3 k3.size, k5.seq m5⟩
    · rename_i hno
      obtain ⟨σ₁, w₁, t₁, ds₁, k1, k2, k3, k4, k5⟩ := iha h hd.1 he r rt hro
      exact ⟨σ₁, w₁, t₁, ds₁, k1, k2, k3, k4, k5.seq_out (fun e => hno T' s' (by rw [h, e]))⟩
  | cond c a b iha ihb =>
    intro σ s s' w T T' tmps x h hd he r rt hro
    simp only [cCode] at h hd
    split at h
    · rename_i c' hc'
      rw [hc'] at hd
      simp only [dstC, Bool.and_eq_true] at hd
      simp only [evCode] at h
      have hev : ∀ fr : Frame, fr.tmps = tmps → fr.eval c = conc σ (c'.ev T) := fun fr hfr => ((RTmp.frame (N := N) (hfr ▸ rt)) _ _ hc').1
      split at h
      · rename_i hv
        obtain ⟨σ₁, w₁, t₁, ds₁, k1, k2, k3, k4, k5⟩ := iha h hd.1 he r rt hro
        refine ⟨σ₁, w₁, t₁, ds₁, k1, k2, k3, k4, ?_⟩
        intro b' k cs hb ht hr hf
        obtain ⟨t, e1, e2⟩ := k5 b' k cs hb ht hr hf
        exact ⟨t, e1, .head (mk_cond hb (t := true) (by rw [hev b' ht, hv]; rfl)) e2⟩
      · rename_i hv
        obtain ⟨σ₁, w₁, t₁, ds₁, k1, k2, k3, k4, k5⟩ := ihb h hd.2 he r rt hro
        refine ⟨σ₁, w₁, t₁, ds₁, k1, k2, k3, k4, ?_⟩
        intro b' k cs hb ht hr hf
        obtain ⟨t, e1, e2⟩ := k5 b' k cs hb ht hr hf
        exact ⟨t, e1, .head (mk_cond hb (t := false) (by rw [hev b' ht, hv]; rfl)) e2⟩
      · cases h
    · simp [evCode] at h
  | block id a iha =>
    intro σ s s' w T T' tmps x h hd he r rt hro
    simp only [cCode, dstC] at hd
    simp only [cCode, evCode] at h
    split at h
    · rename_i e T₁ s₁ h1
      cases h
      obtain ⟨σ₁, w₁, t₁, ds₁, k1, k2, k3, k4, k5⟩ := iha h1 hd he r rt hro
      refine ⟨σ₁, w₁, t₁, ds₁, k1, k2, k3, k4, ?_⟩
      intro b k cs hb ht hr hf
      obtain ⟨t, e1, e2⟩ := k5 b (.inBlock id :: k) cs hb ht hr hf
      have hb' : ({ b with tmps := t₁, defers := ds₁ ++ b.defers } : Frame).mode = .run := hb
      cases e with
      | normal =>
        subst e1
        exact ⟨k, rfl, .head (mk_block hb) (e2.trans (.one (mk_inBlock (b := { b with tmps := t₁, defers := ds₁ ++ b.defers }) hb')))⟩
      | ret => exact ⟨t, e1, .head (mk_block hb) e2⟩
      | exit id' =>
        obtain ⟨k₂, f1, f2⟩ := e1
        subst f1
        simp only [blockEx, beq_eq]
        by_cases hid : id' = id
        · simp only [hid, decide_true]
          refine ⟨k, rfl, .head (mk_block hb) (e2.trans (.one (mk_exit (b := { b with tmps := t₁, defers := ds₁ ++ b.defers }) hb' ?_)))⟩
          rw [f2]; simp [exitTo, hid]
        · simp only [hid, decide_false]
          refine ⟨_, ⟨k₂, rfl, ?_⟩, .head (mk_block hb) e2⟩
          rw [f2]
          have : (id == id') = false := by simp; exact fun e => hid e.symm
          simp [exitTo, this]
    · cases h
  | loop a iha =>
    intro σ s s' w T T' tmps x h hd he r rt hro
    simp only [cCode, dstC] at hd
    simp only [cCode, evCode] at h
    obtain ⟨_, σ₁, w₁, t₁, ds₁, k1, k2, k3, k4, k5⟩ := rounds_sound (P := P) (E := E) (c := a) (fn := fn) (ro := ro) (N := N) (fun hh he' r' rt' hro' => iha hh hd he' r' rt' hro') lf h he r rt hro
    refine ⟨σ₁, w₁, t₁, ds₁, k1, k2, k3, k4, ?_⟩
    intro b k cs hb ht hr hf
    obtain ⟨t, e1, e2⟩ := k5 b k cs hb ht hr hf
    exact ⟨t, e1, .head (mk_loop hb) e2⟩
  | rangeFunc f params asn body iha ihb =>
    intro σ s s' w T T' tmps x h hd he r rt hro
    simp only [cCode] at h hd
    split at h
    · rename_i f' hf'
      rw [hf'] at hd
      simp only [dstC, Bool.and_eq_true] at hd
      simp only [evCode] at h
      split at h
      · rename_i v s₁ hcall
        split at h
        · rename_i L hL
          have hfin : L.state ≠ .busy ∧ x = L.pend ∧ T' = T ∧ s' = { s₁ with loops := s₁.loops.set s.nl { L with state := .exhausted } } := by
            split at h
            · cases h
            · rename_i hb; cases h; exact ⟨fun e => hb e, rfl, rfl, rfl⟩
          obtain ⟨hbusy, rfl, rfl, rfl⟩ := hfin
          -- the loop's block
          obtain ⟨w₀, d, mark, r₀, x₀, hent, hmark⟩ : ∃ w₀ d mark, Rel P σ s w₀ ∧ Ext σ s w σ s w₀ ∧
              (∀ b : Frame, b.tmps = tmps → b.roundOf = ro → b.fn = fn → (Instr.enterLoop b.fn b.tmps params asn body b.roundOf).run P w =
                .ok (w₀.heap.size, mark) (w₀.alloc (.loop { state := .ready, pending := none, fn, tmps, params, assign := asn, body, defers := d }))) ∧ DOk w.heap.size σ w₀ mark := by
            cases ro with
            | none =>
              refine ⟨w.alloc (.deferred (some [])), w.heap.size, [{ target := .collected w.heap.size, args := #[] }], r.garbage _, .garbage _ _ _ _, ?_, ?_⟩
              · intro b ht hr hf
                subst ht hf
                rw [hr]
                simp [Instr.enterLoop]
              · refine ⟨fun q hq => ?_, List.pairwise_singleton _ _⟩
                simp at hq
                refine ⟨w.heap.size, hq, heap_alloc_new w _, fun hi => ?_, Nat.le_refl _⟩
                have := r.blk_lt hi; omega
            | some q =>
              obtain ⟨l₀, hl₀⟩ := hro q rfl
              obtain ⟨L₀, _, hL₀⟩ := r.lop l₀ q hl₀
              obtain ⟨N₀, fn₀, tm₀, asn₀, body₀, d₀, hq, _⟩ := hL₀.ex
              refine ⟨w, d₀, [], r, .refl _ _ _, ?_, DOk.nil _ _ _⟩
              intro b ht hr hf
              subst ht hf
              rw [hr]
              simp [Instr.enterLoop, run_getLoop hq]
          obtain ⟨r₁, x₁, hlp⟩ := r₀.newL (L := ⟨.ready, .normal, T', params.toList, cCode P asn, cCode P body⟩) (N := N) (fn := fn) (tmps := tmps) (asn := asn) (body := body) (d := d) rfl rt rfl rfl hd.2.1 hd.2.2 hd.1
          simp only at r₁ x₁
          have he₁ := he.le x₁.le
          have ev₁ : ∀ fr : Frame, fr.tmps = tmps → fr.eval f = conc (σ.addL s.nl w₀.heap.size) (f'.ev T') ∧ In (σ.addL s.nl w₀.heap.size) (f'.ev T') := fun fr hfr =>
            (RTmp.frame (N := N) (hfr ▸ rt.le x₁.le)) _ _ hf'
          have hin : In (σ.addL s.nl w₀.heap.size) (f'.ev T') := (ev₁ { (default : Frame) with tmps := tmps } rfl).2
          obtain ⟨σ₂, w₂, k1, k2, k3, k4⟩ := hcl _ _ _ _ _ _ _ hcall r₁ he₁ hin ⟨by simp [In, hlp], trivial⟩
          have hlp₂ := k3.le.lp _ _ hlp
          obtain ⟨N', fn', tm', asn', body', d', m1, _, _, _, _, _, _, m2⟩ := k1.setL hlp₂ hL
          obtain ⟨m3, m4⟩ := m2 .exhausted L.pend
          have mk₁ : DOk w.heap.size (σ.addL s.nl w₀.heap.size) _ mark := hmark.ext x₁
          refine ⟨σ₂, _, tmps, mark, m3, rt.le ((x₁.le.trans k3.le)), (x₀.trans x₁).trans (k3.trans m4), (mk₁.ext k3).ext m4, ?_⟩
          intro b k cs hb ht hr hf
          obtain ⟨fr₁, cs₁, wq, q1, q2⟩ := k4 { b with todo := .inRangeFunc w₀.heap.size :: k, defers := mark ++ b.defers } cs hb (by intro a c d e h; cases h)
          have hlast : (Instr.endLoop w₀.heap.size).run P w₂ = .ok (cEx L.pend) (setBlk w₂ w₀.heap.size (.loop { state := .exhausted, pending := cEx L.pend, fn := fn', tmps := tm', params := L.ps.toArray, assign := asn', body := body', defers := d' })) := by
            have hb' : (L.state == LoopState.busy) = false := by
              cases hs : L.state <;> first | rfl | exact absurd hs hbusy
            simp only [Instr.endLoop, Sem.run_bind, run_getLoop m1, Result.andThen_ok, hb', Bool.false_eq_true, if_false, Sem.run_pure, run_setObj m1]
          have hstep : step P (lone { b with todo := .code (.rangeFunc f params asn body) :: k } cs w) = .next (lone fr₁ cs₁ wq) := by
            refine step_lone_go ?_
            rw [mk_rangeFunc hb (hent b ht hr hf), ← q1, (ev₁ b ht).1]
            simp [concL, conc, hlp]
          have hsteps : Steps P (lone { b with todo := .code (.rangeFunc f params asn body) :: k } cs w)
              (lone { b with todo := ((cEx L.pend).map Item.code).toList ++ k, defers := mark ++ b.defers } cs (setBlk w₂ w₀.heap.size (.loop { state := .exhausted, pending := cEx L.pend, fn := fn', tmps := tm', params := L.ps.toArray, assign := asn', body := body', defers := d' }))) :=
            .head hstep (q2.trans (.one (mk_endRangeFunc (b := { b with defers := mark ++ b.defers }) hb hlast)))
          subst ht
          refine ⟨((cEx L.pend).map Item.code).toList ++ k, ?_, hsteps⟩
          cases L.pend with
          | normal => rfl
          | exit id => exact ⟨k, rfl, rfl⟩
          | ret => exact ⟨k, rfl⟩
        · cases h
      · cases h
    · simp [evCode] at h
  | exit id =>
    intro σ s s' w T T' tmps x h _ _ r rt _
    simp only [cCode, evCode] at h; cases h
    refine ⟨σ, w, tmps, [], r, rt, .refl _ _ _, DOk.nil _ _ _, ?_⟩
    intro b k cs hb ht _ _
    subst ht
    exact ⟨_, ⟨k, rfl, rfl⟩, .refl _ _⟩
  | ret =>
    intro σ s s' w T T' tmps x h _ _ r rt _
    simp only [cCode, evCode] at h; cases h
    refine ⟨σ, w, tmps, [], r, rt, .refl _ _ _, DOk.nil _ _ _, ?_⟩
    intro b k cs hb ht _ _
    subst ht
    exact ⟨_, ⟨k, rfl⟩, .refl _ _⟩
  | scope a _ => intro σ s s' w T T' tmps x h; simp [cCode, evCode] at h
  | label l => intro σ s s' w T T' tmps x h; simp [cCode, evCode] at h
  | goto l => intro σ s s' w T T' tmps x h; simp [cCode, evCode] at h
  | refuse y => intro σ s s' w T T' tmps x h; simp [cCode, evCode] at h

end Go.Ab
