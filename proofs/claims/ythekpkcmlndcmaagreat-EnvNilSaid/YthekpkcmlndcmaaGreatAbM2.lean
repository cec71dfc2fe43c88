/- Soundness of the abstract evaluator: an operation in its frame; a region in the order of its text. -/
import Derived.Test.YthekpkcmlndcmaaGreatAbM1
noncomputable section
namespace Go.Ab

theorem callee?_some {o : Op} {f : Operand} {l : List Operand} (h : callee? o = some (f, l)) : ∃ c : Call, o = .call c ∧ c.callee = .value f ∧ c.args.toList = l := by
  unfold callee? at h
  split at h
  · rename_i c
    split at h
    · rename_i f' hf
      simp at h
      exact ⟨c, rfl, by rw [hf, h.1], h.2⟩
    · cases h
  · cases h

theorem cOp_defer {P : Program} {c : Call} {e : EOp} (h : cOp P (.defer c) = some e) : False := by simp [cOp] at h

theorem oper_sound {P : Program} {E : Env} {cl : Oracle} (hcl : ClOk P E cl) {σ : Sg} {s s' : AS} {w : World} {N : Nat} {T : Tr AV} {tmps : Array Value} {ops : Array Oper} {i : Nat} {o : Oper} {v : AV}
    (he : EOk E σ) (r : Rel P σ s w) (rt : RTmp σ N T tmps) (ho : ops[i]? = some o) (h : evOper E cl (cOper P ops o) T s = some (v, s')) :
    ∃ σ' w', Rel P σ' s' w' ∧ In σ' v ∧ Ext σ s w σ' s' w' ∧ OpSim P ops i tmps w (putV tmps o.dst (conc σ' v)) w' := by
  unfold evOper at h
  split at h
  · rename_i hw
    have hw := wanted_eq rt o hw
    simp only [cOper, cOpB] at h
    split at h
    · -- a call
      rename_i f l hcal
      obtain ⟨c, hc1, hc2, hc3⟩ := callee?_some hcal
      split at h
      · rename_i f' hf'
        split at h
        · rename_i l' hl'
          simp only [evOp] at h
          have ev : REv σ T (fun x => match x with | .tmp t => tmps.getD t Go.undef | .const v => v | .global g => .pointer (some ⟨g, 0, none⟩) | .func f => .func (.func f) #[] #[]) :=
            rt.ev (fun _ => rfl) (fun _ => rfl) (fun _ => rfl)
          obtain ⟨hf1, hf2⟩ := ev _ _ hf'
          obtain ⟨hl1, hl2⟩ := cEOs_conc ev hl'
          obtain ⟨σ', w', k1, k2, k3, k4⟩ := hcl _ _ _ _ _ σ w h r he hf2 hl2
          refine ⟨σ', w', k1, k2, k3, ?_⟩
          intro b k cs rest hb ht
          subst ht
          obtain ⟨fr₁, cs₁, w₁, m1, m2⟩ := k4 { b with todo := .inRegion ops (i :: rest) :: k } cs hb (by intro d r s k h; cases h)
          rw [finish_region b ops i rest k _ ho] at m2
          refine .head (step_lone_go ?_) m2
          rw [stepG_oper hb ho hw (by intro d hd; rw [hc1] at hd; cases hd), ← m1]
          have e1 : ({ b with todo := .inRegion ops (i :: rest) :: k } : Frame).eval f = conc σ (f'.ev T) := by rw [← hf1]; cases f <;> rfl
          have e2 : c.args.map ({ b with todo := .inRegion ops (i :: rest) :: k } : Frame).eval = (concL σ (evs T l')).toArray := by
            rw [← hl1, ← hc3]
            apply Array.ext'
            simp only [Array.toList_map]
            apply List.map_congr_left
            intro x _
            cases x <;> rfl
          simp only [execOp, hc1, resolve, hc2, e1, e2]
        · cases h
      · cases h
    · rename_i hcal
      split at h
      · rename_i e hop
        split at h
        · cases h
        · rename_i hn
          have ev : ∀ fr : Frame, fr.tmps = tmps → REv σ T fr.eval := fun fr hfr => RTmp.frame (N := N) (hfr ▸ rt)
          have key : Res P σ s w ((execOp (fun x => match x with | .tmp t => tmps.getD t Go.undef | .const v => v | .global g => .pointer (some ⟨g, 0, none⟩) | .func f => .func (.func f) #[] #[]) o).run P w) v s' :=
            evOp_sound he r (rt.ev (fun _ => rfl) (fun _ => rfl) (fun _ => rfl)) hop h
          obtain ⟨σ', w', k1, k2, k3, k4⟩ := key
          refine ⟨σ', w', k2, k3, k4, ?_⟩
          intro b k cs rest hb ht
          subst ht
          have hd : ∀ c, o.op ≠ .defer c := by intro c hc; rw [hc] at hop; exact cOp_defer hop
          have heq : ({ b with todo := .inRegion ops (i :: rest) :: k } : Frame).eval = (fun x => match x with | .tmp t => b.tmps.getD t Go.undef | .const v => v | .global g => .pointer (some ⟨g, 0, none⟩) | .func f => .func (.func f) #[] #[]) := by
            funext x; cases x <;> rfl
          rw [← finish_region b ops i rest k _ ho]
          refine .one (step_lone_go ?_)
          rw [stepG_oper hb ho hw hd, heq]
          rcases k1 with k1 | ⟨rfl, k1⟩
          · exact apply_value k1
          · exact apply_skip k1
      · cases h
  · rename_i hw
    have hw := wanted_eq rt o hw
    cases h
    refine ⟨σ, w, r, trivial, .refl _ _ _, ?_⟩
    intro b k cs rest hb ht
    subst ht
    have := mk_unwanted (P := P) (b := b) (k := k) (cs := cs) (w := w) hb (ops := ops) (i := i) (rest := rest) (by simp [ho, hw])
    rw [finish_region b ops i rest k _ ho] at this
    exact .one this
  · cases h

/-- A region's operations, one behind the other, as steps. -/
def RegSim (P : Program) (ops : Array Oper) (l : List Nat) (tmps : Array Value) (w : World) (tmps' : Array Value) (w' : World) : Prop :=
  ∀ (b : Frame) (k : List Item) (cs : List Frame), b.mode = .run → b.tmps = tmps →
    Steps P (lone { b with todo := .inRegion ops l :: k } cs w) (lone { b with tmps := tmps', todo := .inRegion ops [] :: k } cs w')

theorem RegSim.nil (P : Program) (ops : Array Oper) (tmps : Array Value) (w : World) : RegSim P ops [] tmps w tmps w := by
  intro b k cs _ ht; subst ht; exact .refl _ _
theorem RegSim.cons {P : Program} {ops : Array Oper} {i : Nat} {l : List Nat} {tmps t₁ t₂ : Array Value} {w w₁ w₂ : World} (h : OpSim P ops i tmps w t₁ w₁) (k : RegSim P ops l t₁ w₁ t₂ w₂) :
    RegSim P ops (i :: l) tmps w t₂ w₂ := by
  intro b q cs hb ht
  exact (h b q cs l hb ht).trans (k { b with tmps := t₁ } q cs hb rfl)

theorem evStep_one {E : Env} {cl : Oracle} {o : EOper} {rc : List EOper} {T T' : Tr AV} {s s' : AS} (h : evStep E cl (.one o rc) T s = some (T', s')) :
    ∃ v, evOper E cl o T s = some (v, s') ∧ T' = putD T o.dst v ∧ recheck E cl T' s' rc = true := by
  simp only [evStep] at h
  split at h
  · rename_i v s₁ hv
    split at h
    · cases h; exact ⟨v, hv, rfl, rfl⟩
    · split at h
      · rename_i hr; cases h; exact ⟨v, hv, rfl, hr⟩
      · cases h
  · cases h

/-- A region in the order of its text. -/
theorem text_sound {P : Program} {E : Env} {cl : Oracle} (hcl : ClOk P E cl) {ops : Array Oper} {N : Nat} : ∀ (l : List Oper) (i₀ : Nat), (∀ k, l[k]? = ops[i₀ + k]?) → (l.map fun o => EStep.one (cOper P ops o) []).all (dstS N) = true →
    ∀ {σ : Sg} {s s' : AS} {w : World} {T T' : Tr AV} {tmps : Array Value}, EOk E σ → Rel P σ s w → RTmp σ N T tmps →
    evSteps E cl (l.map fun o => EStep.one (cOper P ops o) []) T s = some (T', s') →
    ∃ σ' w' tmps', Rel P σ' s' w' ∧ RTmp σ' N T' tmps' ∧ Ext σ s w σ' s' w' ∧ RegSim P ops (List.range' i₀ l.length) tmps w tmps' w' := by
  intro l
  induction l with
  | nil =>
    intro i₀ _ _ σ s s' w T T' tmps he r rt h
    simp [evSteps] at h
    obtain ⟨rfl, rfl⟩ := h
    exact ⟨σ, w, tmps, r, rt, .refl _ _ _, RegSim.nil _ _ _ _⟩
  | cons o l ih =>
    intro i₀ hl hd σ s s' w T T' tmps he r rt h
    simp only [List.map_cons, evSteps] at h
    split at h
    · rename_i T₁ s₁ h1
      obtain ⟨v, h2, h3, _⟩ := evStep_one h1
      have ho : ops[i₀]? = some o := by have := hl 0; simpa using this.symm
      obtain ⟨σ₁, w₁, k1, k2, k3, k4⟩ := oper_sound hcl he r rt ho h2
      simp only [List.map_cons, List.all_cons, Bool.and_eq_true] at hd
      have hdst : ∀ x, o.dst = some x → x < N := by
        intro x hx
        have := hd.1
        simp only [dstS, cOper, hx, ltb_eq, decide_eq_true_eq] at this
        exact this
      have rt₁ : RTmp σ₁ N T₁ (putV tmps o.dst (conc σ₁ v)) := by rw [h3]; exact (rt.le k3.le).put hdst k2
      obtain ⟨σ₂, w₂, t₂, m1, m2, m3, m4⟩ := ih (i₀ + 1) (fun k => by have := hl (k + 1); simp at this; rw [this]; congr 1; omega) hd.2 (he.le k3.le) k1 rt₁ h
      refine ⟨σ₂, w₂, t₂, m1, m2, k3.trans m3, ?_⟩
      rw [List.length_cons, List.range'_succ]
      exact RegSim.cons k4 m4
    · cases h

end Go.Ab
